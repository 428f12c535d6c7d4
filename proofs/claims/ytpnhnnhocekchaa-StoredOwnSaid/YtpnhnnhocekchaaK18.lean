/- Several texts in one: StoOn0, StoRO0, RefNum, RefRd, RefCut, RefN, RefT, RefU. -/
import Derived.Test.YtpnhnnhocekchaaK17
import Derived.Deep.RegionWith
import Derived.StillTailTactics
namespace Go.Proofs.Ytpnhnnhocekchaa
set_option linter.unusedVariables false
set_option linter.unusedSimpArgs false
open Go.RowKit

theorem OwnC.above {S : Nat → Prop} {w w' : World} {base n : Nat} {v : Value} {ps : List ChL} (h : OwnC w base v n ps) (f : Fr S w w') (hS : ∀ k, S k → k < base) : OwnC w' base v n ps :=
  ⟨h.row.above f hS, fun p hp => (h.bs p hp).above f hS, h.ap⟩
theorem StoM.above {S : Nat → Prop} {w w' : World} {base g : Nat} {cs : List ChV} (h : StoM w base g cs) (f : Fr S w w') (hS : ∀ k, S k → k < base) : StoM w' base g cs := by
  obtain ⟨v, m, N, ps, q1, q2, q3, q4, q5, q6⟩ := h
  exact ⟨v, m, N, ps, f.blk q1 (fun hs => by have := hS g hs; omega), q2, q3.above f hS, q4, q5, q6⟩
theorem OwnEs.above {S : Nat → Prop} {w w' : World} {base n : Nat} {v : Value} {ps : List EntL} (h : OwnEs w base v n ps) (f : Fr S w w') (hS : ∀ k, S k → k < base) : OwnEs w' base v n ps :=
  ⟨h.row.above f hS, fun p hp => ⟨(h.ns p hp).1.above f hS, (h.ns p hp).2⟩, h.ap⟩
theorem OwnE.above {S : Nat → Prop} {w w' : World} {base c : Nat} {A : Option Addr} {l : List EntV} (h : OwnE w base A c l) (f : Fr S w w') (hS : ∀ k, S k → k < base) : OwnE w' base A c l := by
  obtain ⟨ps, q1, q2⟩ := h
  exact ⟨ps, q1, q2.above f hS⟩
theorem OwnD.above {S : Nat → Prop} {w w' : World} {base : Nat} {v : Value} {ps : List DocL} (h : OwnD w base v ps) (f : Fr S w w') (hS : ∀ k, S k → k < base) : OwnD w' base v ps :=
  ⟨h.row.above f hS, fun p hp => (h.ds p hp).above f hS⟩
/-- a document of a row of documents. -/
theorem OwnD.at {w : World} {base n c q : Nat} {A : Option Addr} {ps : List DocL} (h : OwnD w base (.slice A n c) ps) (hq : q < ps.length) : ∃ g p, A = some ⟨g, 0, none⟩ ∧ ps[q]? = some p ∧ w.cell? ⟨g, q, none⟩ = some (.slice p.2.1 p.1.length p.2.2) ∧ OwnE w base p.2.1 p.2.2 p.1 := by
  have hn : ps.length = n := by obtain ⟨q1, _⟩ := h.row.le; exact q1.symm
  have hr := h.row
  rw [hn] at hr
  obtain ⟨g, rfl, _, _, _, hc, _⟩ := hr.storeN (k := q) (by omega)
  have k := hc q (by omega)
  refine ⟨g, ps[q], rfl, List.getElem?_eq_getElem hq, ?_, h.ds _ (List.getElem_mem hq)⟩
  rw [k, List.getElem?_map, List.getElem?_eq_getElem hq]
  rfl
set_option maxRecDepth 100000 in
set_option maxHeartbeats 400000 in
theorem chunk_out (p : Option Addr) (i n : Nat) (w : World) (hc : Calls Try.prog 46 #[.pointer p] w (Ret (.int .i64 (n : Nat)) w)) (h : n ≤ i) (hi : i ≤ 9223372036854775807) :
    Calls Try.prog 47 #[.pointer p, .int .i64 (i : Nat)] w (Ret (.tuple #[.int .i64 0, .int .i64 0]) w) := by
  have HC := hide hc
  have hd : decide ((n : Int) ≤ (i : Int)) = true := decide_eq_true (by omega)
  have hd2 : decide (n ≤ i) = true := decide_eq_true h
  have hd3 : decide ((i : Int) < 0) = false := decide_eq_false (by omega)
  clear hc
  go_enter Try.func47, Try.ntmps47
  go_wp2_with (go_at_call 46; refine HC.out.mono ?_; rintro en w1 ⟨rfl, rfl⟩)
  go_ret2
  exact ⟨rfl, rfl⟩
end Go.Proofs.Ytpnhnnhocekchaa
namespace Go.Proofs.Ytpnhnnhocekchaa
set_option linter.unusedVariables false
set_option linter.unusedSimpArgs false
open Go.RowKit

theorem snd0 {p : Nat × Int} (h : p.2 = 0) : p = (p.1, 0) := by
  cases p
  dsimp only at h
  rw [h]
def entsR (bs : List UInt8) : Nat → Nat → Int → List EntV × Nat × Int
  | 0, a, e => ([], a, e)
  | q + 1, a, e => if (entsR bs q a e).2.2 = 0 then ((entsR bs q a e).1 ++ [(entS bs (entsR bs q a e).2.1 0).1], (entS bs (entsR bs q a e).2.1 0).2) else entsR bs q a e
theorem entsR_go {bs : List UInt8} {q a b : Nat} {e : Int} {l : List EntV} (h : entsR bs q a e = (l, b, 0)) : entsR bs (q + 1) a e = (l ++ [(entS bs b 0).1], (entS bs b 0).2) := by
  rw [entsR, h]
  rfl
theorem entsR_stay {bs : List UInt8} {q a : Nat} {e : Int} (h : (entsR bs q a e).2.2 ≠ 0) : ∀ n, q ≤ n → entsR bs n a e = entsR bs q a e := by
  intro n hn
  obtain ⟨d, rfl⟩ : ∃ d, n = q + d := ⟨n - q, by omega⟩
  clear hn
  induction d with
  | zero => rfl
  | succ d ih =>
    show entsR bs (q + d + 1) a e = _
    rw [entsR, ih, if_neg h]
theorem entsR_ok {bs : List UInt8} {a : Nat} {e : Int} : ∀ q, (entsR bs q a e).2.2 = 0 → e = 0 ∧ entsS bs q a = some ((entsR bs q a e).1, (entsR bs q a e).2.1)
  | 0, h => ⟨h, rfl⟩
  | q + 1, h => by
    by_cases h0 : (entsR bs q a e).2.2 = 0
    · obtain ⟨h1, h2⟩ := entsR_ok q h0
      rw [entsR, if_pos h0] at h ⊢
      refine ⟨h1, ?_⟩
      rw [entsS_some h2, if_pos h]
    · rw [entsR, if_neg h0] at h
      exact absurd h h0
theorem entsR_of {bs : List UInt8} {a : Nat} : ∀ (q b : Nat) (l : List EntV), entsS bs q a = some (l, b) → entsR bs q a 0 = (l, b, 0)
  | 0, b, l, h => by
    rw [entsS] at h
    injection h with h
    injection h with h1 h2
    subst h1 h2
    rfl
  | q + 1, b, l, h => by
    cases h1 : entsS bs q a with
    | none => rw [entsS, h1] at h; cases h
    | some x =>
      obtain ⟨l1, b1⟩ := x
      have ih := entsR_of q b1 l1 h1
      rw [entsS_some h1] at h
      split at h
      · rename_i he
        injection h with h
        injection h with h2 h3
        subst h2 h3
        rw [entsR_go ih]
        exact congrArg (Prod.mk _) (snd0 he)
      · cases h
def docR (bs : List UInt8) (a : Nat) (e : Int) : List EntV × Nat × Int := entsR bs (sizeS bs a e 64).1 (sizeS bs a e 64).2.1 (sizeS bs a e 64).2.2
theorem docR_ok {bs : List UInt8} {a : Nat} {e : Int} (h : (docR bs a e).2.2 = 0) : e = 0 ∧ docS bs a = some ((docR bs a e).1, (docR bs a e).2.1) := by
  unfold docR at h ⊢
  obtain ⟨h1, h2⟩ := entsR_ok _ h
  obtain ⟨h3, _⟩ := size_of h1
  subst h3
  refine ⟨rfl, ?_⟩
  unfold docS
  rw [if_pos h1]
  exact h2
theorem docR_of {bs : List UInt8} {a b : Nat} {d : List EntV} (h : docS bs a = some (d, b)) : docR bs a 0 = (d, b, 0) := by
  unfold docS at h
  split at h
  · rename_i hs
    unfold docR
    rw [hs]
    exact entsR_of _ _ _ h
  · cases h
def docsR (bs : List UInt8) : Nat → Nat → Int → List (List EntV) × Nat × Int
  | 0, a, e => ([], a, e)
  | q + 1, a, e => if (docsR bs q a e).2.2 = 0 then ((docsR bs q a e).1 ++ [(docR bs (docsR bs q a e).2.1 0).1], (docR bs (docsR bs q a e).2.1 0).2) else docsR bs q a e
theorem docsR_go {bs : List UInt8} {q a b : Nat} {e : Int} {l : List (List EntV)} (h : docsR bs q a e = (l, b, 0)) : docsR bs (q + 1) a e = (l ++ [(docR bs b 0).1], (docR bs b 0).2) := by
  rw [docsR, h]
  rfl
theorem docsR_stay {bs : List UInt8} {q a : Nat} {e : Int} (h : (docsR bs q a e).2.2 ≠ 0) : ∀ n, q ≤ n → docsR bs n a e = docsR bs q a e := by
  intro n hn
  obtain ⟨d, rfl⟩ : ∃ d, n = q + d := ⟨n - q, by omega⟩
  clear hn
  induction d with
  | zero => rfl
  | succ d ih =>
    show docsR bs (q + d + 1) a e = _
    rw [docsR, ih, if_neg h]
theorem docsR_ok {bs : List UInt8} {a : Nat} {e : Int} : ∀ q, (docsR bs q a e).2.2 = 0 → e = 0 ∧ docsS bs q a = some ((docsR bs q a e).1, (docsR bs q a e).2.1)
  | 0, h => ⟨h, rfl⟩
  | q + 1, h => by
    by_cases h0 : (docsR bs q a e).2.2 = 0
    · obtain ⟨h1, h2⟩ := docsR_ok q h0
      rw [docsR, if_pos h0] at h ⊢
      refine ⟨h1, ?_⟩
      rw [docsS_some h2, (docR_ok h).2]
    · rw [docsR, if_neg h0] at h
      exact absurd h h0
theorem docsR_of {bs : List UInt8} {a : Nat} : ∀ (q b : Nat) (l : List (List EntV)), docsS bs q a = some (l, b) → docsR bs q a 0 = (l, b, 0)
  | 0, b, l, h => by
    rw [docsS] at h
    injection h with h
    injection h with h1 h2
    subst h1 h2
    rfl
  | q + 1, b, l, h => by
    cases h1 : docsS bs q a with
    | none => rw [docsS, h1] at h; cases h
    | some x =>
      obtain ⟨l1, b1⟩ := x
      have ih := docsR_of q b1 l1 h1
      rw [docsS_some h1] at h
      split at h
      · cases h
      · rename_i d c hd
        injection h with h
        injection h with h2 h3
        subst h2 h3
        rw [docsR_go ih, docR_of hd]
/-- the head of the chunks. -/
def headR (bs : List UInt8) (L : Nat) : Nat → Nat → Int → Nat × Int
  | 0, a, e => (a, e)
  | q + 1, a, e => if (headR bs L q a e).2 = 0 then (sizeS bs (sizeS bs (headR bs L q a e).1 0 16384).2.1 (sizeS bs (headR bs L q a e).1 0 16384).2.2 (L : Nat)).2 else headR bs L q a e
theorem headR_go {bs : List UInt8} {L q a b : Nat} {e : Int} (h : headR bs L q a e = (b, 0)) : headR bs L (q + 1) a e = (sizeS bs (sizeS bs b 0 16384).2.1 (sizeS bs b 0 16384).2.2 (L : Nat)).2 := by
  rw [headR, h]
  rfl
theorem headR_stay {bs : List UInt8} {L q a : Nat} {e : Int} (h : (headR bs L q a e).2 ≠ 0) : ∀ n, q ≤ n → headR bs L n a e = headR bs L q a e := by
  intro n hn
  obtain ⟨d, rfl⟩ : ∃ d, n = q + d := ⟨n - q, by omega⟩
  clear hn
  induction d with
  | zero => rfl
  | succ d ih =>
    show headR bs L (q + d + 1) a e = _
    rw [headR, ih, if_neg h]
theorem headR_of {bs : List UInt8} {L N a : Nat} : ∀ (c b t : Nat) (ks : List (Nat × Nat)), hdrS bs L N c a = some (ks, b, t) → headR bs L c a 0 = (b, 0)
  | 0, b, t, ks, h => by
    rw [hdrS] at h
    injection h with h
    injection h with _ h
    injection h with h _
    rw [headR, h]
  | c + 1, b, t, ks, h => by
    cases h1 : hdrS bs L N c a with
    | none => rw [hdrS, h1] at h; cases h
    | some x =>
      obtain ⟨k1, b1, t1⟩ := x
      have ih := headR_of c b1 t1 k1 h1
      rw [hdrS_some h1] at h
      split at h
      · rename_i he
        injection h with h
        injection h with _ h
        injection h with h _
        rw [headR_go ih, ← h]
        exact snd0 he.1
      · cases h
/-- all that is read. -/
def refRd (bs : List UInt8) : List (List EntV) × Nat × Int :=
  docsR bs (sizeS bs 0 0 16384).1
    (headR bs bs.length (sizeS bs (sizeS bs 0 0 16384).2.1 (sizeS bs 0 0 16384).2.2 ((sizeS bs 0 0 16384).1 : Nat)).1 (sizeS bs (sizeS bs 0 0 16384).2.1 (sizeS bs 0 0 16384).2.2 ((sizeS bs 0 0 16384).1 : Nat)).2.1 (sizeS bs (sizeS bs 0 0 16384).2.1 (sizeS bs 0 0 16384).2.2 ((sizeS bs 0 0 16384).1 : Nat)).2.2).1
    (headR bs bs.length (sizeS bs (sizeS bs 0 0 16384).2.1 (sizeS bs 0 0 16384).2.2 ((sizeS bs 0 0 16384).1 : Nat)).1 (sizeS bs (sizeS bs 0 0 16384).2.1 (sizeS bs 0 0 16384).2.2 ((sizeS bs 0 0 16384).1 : Nat)).2.1 (sizeS bs (sizeS bs 0 0 16384).2.1 (sizeS bs 0 0 16384).2.2 ((sizeS bs 0 0 16384).1 : Nat)).2.2).2
theorem refRd_eq {bs : List UInt8} {N a1 C a2 a3 : Nat} {e1 e2 e3 : Int} (h1 : sizeS bs 0 0 16384 = (N, a1, e1)) (h2 : sizeS bs a1 e1 (N : Nat) = (C, a2, e2)) (h3 : headR bs bs.length C a2 e2 = (a3, e3)) : refRd bs = docsR bs N a3 e3 := by
  unfold refRd
  simp only [h1, h2, h3]
theorem bodyF_flat (gs : List (List (List EntV))) : bodyC (gs.map kG) = bodyF gs.flatten := by
  rw [bodyC_groups]
  unfold bodyB bodyF gB
  induction gs with
  | nil => rfl
  | cons g r ih =>
    rw [List.map_cons, List.flatMap_cons, ih, List.flatten_cons, List.flatMap_append]
    rfl
/-- a form is read as its documents. -/
theorem refRd_has {ds : List (List EntV)} {bs : List UInt8} (hm : mayB ds) (hi : DocsI ds) (hb : buildB ds = bs) (hl : bs.length < 18446744073709551616) : refRd bs = (ds, bs.length, 0) := by
  have ho := open_of_build hm hi hb hl
  obtain ⟨a1, a2, a3, C, ks, cs, e1, e2, e3, e4⟩ := build_read hm hi (by rw [hb]; exact List.prefix_refl _) hl
  rw [refRd_eq e1 e2 (headR_of _ _ _ _ e3)]
  obtain ⟨j1, j2, j3, j4⟩ := bod_of _ _ _ (Nat.le_refl _) e4
  have hcs : OpenOk bs ks cs := by
    refine ⟨by rw [e1]; dsimp only; rw [e2], ?_, ?_⟩
    · rw [e1]
      dsimp only
      rw [e2]
      exact ⟨a3, e3, by rw [e4, hb]⟩
    · have := ho.tab
      rw [e1] at this
      dsimp only at this
      rw [e2] at this
      obtain ⟨a, t1, t2⟩ := this
      dsimp only at t1
      rw [e3] at t1
      injection t1 with t1
      injection t1 with t1 t3
      injection t3 with t3 _
      subst t1 t3
      rw [e4] at t2
      injection t2 with t2
      injection t2 with t2 _
      rw [t2]
      exact ho.form
  have hd : docsC cs = ds := (OpenOk.of_build hm hi (by rw [hb]; exact hcs)).1
  have hcut := (hcs.cuts hl).1
  have hbody : bodyC cs = bodyF ds := by
    rw [hcut, bodyF_flat, hd, (groups_flat ds).1]
  rw [hbody] at j3 j4
  have h5 := docs_has (bs := bs) (a := a3) hm.2 hi j3 ds.length (Nat.le_refl _)
  rw [List.take_length, ← j4, hb] at h5
  exact docsR_of _ _ _ h5
/-- what is read without a fault are documents that may be stored. -/
theorem refRd_of {bs : List UInt8} {ds : List (List EntV)} {b : Nat} (h : refRd bs = (ds, b, 0)) : mayB ds ∧ DocsI ds := by
  obtain ⟨N, a1, e1, h1⟩ : ∃ N a1 e1, sizeS bs 0 0 16384 = (N, a1, e1) := ⟨_, _, _, rfl⟩
  obtain ⟨C, a2, e2, h2⟩ : ∃ C a2 e2, sizeS bs a1 e1 (N : Nat) = (C, a2, e2) := ⟨_, _, _, rfl⟩
  obtain ⟨a3, e3, h3⟩ : ∃ a3 e3, headR bs bs.length C a2 e2 = (a3, e3) := ⟨_, _, rfl⟩
  rw [refRd_eq h1 h2 h3] at h
  have hN : (N : Int) ≤ 16384 := by have := sizeS_le (bs := bs) (a := 0) (e := 0) (most := 16384) (by omega); rw [h1] at this; exact this
  obtain ⟨_, k2⟩ := docsR_ok (bs := bs) (a := a3) (e := e3) N (by rw [h])
  rw [h] at k2
  dsimp only at k2
  obtain ⟨i1, i2, i3, _⟩ := docs_of _ _ _ k2
  exact ⟨⟨by omega, i2⟩, i3⟩
end Go.Proofs.Ytpnhnnhocekchaa
namespace Go.Proofs.Ytpnhnnhocekchaa
set_option linter.unusedVariables false
set_option linter.unusedSimpArgs false
open Go.RowKit

def numW : Option (Nat × Nat) → Value
  | none => .tuple #[.int .u64 0, .int .i64 0]
  | some (u, k) => .tuple #[.int .u64 u, .int .i64 k]

theorem gv_lt (bs : List UInt8) (k j : Nat) : gv bs k j < 18446744073709551616 := Nat.mod_lt _ (by omega)

set_option maxRecDepth 100000 in
set_option maxHeartbeats 1600000 in
theorem refNumber_any (A : Option Addr) (n c B : Nat) (bs : List UInt8) (w : World) (hl : bs.length = n) (hn : n ≤ c) (hc : c ≤ maxLen) (hB : B ≤ w.heap.size) (hr : Rd w B A (by8 bs)) :
    Calls Try.prog 107 #[.slice A n c] w (RetF (numW (dec 0 0 bs)) w) := by
  unfold maxLen at hc
  have HR := hide hr
  have HB := hide hB
  have HL := hide hl
  clear hr hB hl
  go_enter Try.func107, Try.ntmps107
  go_wp2
  go_loop [4] (fun i => ∃ k : Nat, k ≤ n ∧ i = .int .i64 k ∧ Hid (lead bs = k + lead (bs.drop k))) (fun i => n - (intOf i).toNat)
  case atStart => exact ⟨0, by omega, rfl, hide (by simp)⟩
  case round =>
    obtain ⟨k, hk, rfl, HD⟩ := hrel
    have stopped : (k < n ∧ 127 < (bs.getD k 0).toNat) ∨ Hid (lead bs = k) ∧ ((k < n ∧ ¬ 127 < (bs.getD k 0).toNat) ∨ ¬ k < n) := by
      by_cases hlt : k < n
      · by_cases hb : 127 < (bs.getD k 0).toNat
        · exact .inl ⟨hlt, hb⟩
        · exact .inr ⟨hide (lead_stop (.inr hb) HD.out), .inl ⟨hlt, hb⟩⟩
      · exact .inr ⟨hide (lead_stop (.inl (by rw [HL.out]; omega)) HD.out), .inr hlt⟩
    rcases stopped with ⟨hlt, hb⟩ | ⟨HK, hst⟩
    · have hkl : k < bs.length := by rw [HL.out]; exact hlt
      obtain ⟨ad, rfl, _, hcell⟩ := HR.out.byte hkl
      have HD' := hide (lead_step hkl hb HD.out)
      clear hkl
      generalize bs.getD k 0 = b at hb hcell
      go_wp2
      go_round
      case rel => exact ⟨k + 1, by omega, by go_num, HD'⟩
      case measure => simp [intOf]; omega
    · clear HD
      by_cases hbad : n ≤ k ∨ 9 < k
      · have HZ := hide (ref_none1 (bs := bs) (by rw [HK.out, HL.out]; omega))
        have hb2 : decide ((n : Int) ≤ k) = true ∨ decide ((n : Int) ≤ k) = false ∧ 9 < k := by
          by_cases h : n ≤ k
          · exact .inl (by simp; omega)
          · exact .inr ⟨by simp; omega, by omega⟩
        rcases hst with ⟨hlt, hb⟩ | hge
        · have hkl : k < bs.length := by rw [HL.out]; exact hlt
          obtain ⟨ad, rfl, _, hcell⟩ := HR.out.byte hkl
          clear hkl
          generalize bs.getD k 0 = b at hb hcell
          have h9 : 9 < k := by omega
          go_wp2
          go_ret2
          exact ⟨by rw [HZ.out]; rfl, Fr.refl _ _⟩
        · go_wp2
          go_ret2
          exact ⟨by rw [HZ.out]; rfl, Fr.refl _ _⟩
      · have hkn : k < n := by omega
        have hk9 : k ≤ 9 := by omega
        have hkl : k < bs.length := by rw [HL.out]; exact hkn
        have hb : ¬ 127 < (bs.getD k 0).toNat := by rcases hst with h | h; exact h.2; omega
        obtain ⟨ad, rfl, _, hcell⟩ := HR.out.byte hkl
        have HKL := hide hkl
        clear hkl hbad hst
        generalize bs.getD k 0 = b at hb hcell
        go_wp2
        clear hcell hb
        go_loop [5, 6] (fun y i => ∃ j : Int, -1 ≤ j ∧ j ≤ k ∧ i = .int .i64 j ∧ y = .int .u64 (gv bs (k + 1) (j + 1).toNat : Nat)) (fun _ i => (intOf i + 1).toNat)
        case atStart => exact ⟨k, by omega, by omega, rfl, by
          have e : ((k : Int) + 1).toNat = k + 1 := by omega
          rw [e, gv_end]; rfl⟩
        case round =>
          obtain ⟨i, hi1, hi2, rfl, rfl⟩ := hrel
          by_cases hge : 0 ≤ i
          · obtain ⟨j, rfl⟩ := Int.eq_ofNat_of_zero_le hge
            have hjl : j < bs.length := by rw [HL.out]; omega
            obtain ⟨ad', had, _, hcell⟩ := HR.out.byte hjl
            obtain rfl : ad = ad' := Option.some.inj had
            have hs := gv_step (bs := bs) (k := k + 1) (j := j) (by omega) (by rw [HL.out]; omega)
            have e1 : ((j : Int) + 1).toNat = j + 1 := by omega
            rw [e1]
            generalize bs.getD j 0 = b at hcell hs
            have hlt := gv_lt bs (k + 1) (j + 1)
            generalize gv bs (k + 1) (j + 1) = y at hs hlt
            obtain ⟨z, HZ⟩ : ∃ z, Hid (gv bs (k + 1) j = z) := ⟨_, hide rfl⟩
            rw [HZ.out] at hs
            clear hjl had e1
            go_wp2
            go_round
            case rel => exact ⟨(j : Int) - 1, by omega, by omega, rfl, by
              have e2 : ((j : Int) - 1 + 1).toNat = j := by omega
              rw [e2, HZ.out]
              rw [← hs, Int.natCast_emod]; rfl⟩
            case measure => simp [intOf]
          · obtain rfl : i = -1 := by omega
            have e1 : ((-1 : Int) + 1).toNat = 0 := by omega
            rw [e1]
            have hlt := gv_lt bs (k + 1) 0
            have HG : Hid (gv bs (k + 1) 0 = gval (bs.take (lead bs + 1)) % 18446744073709551616) := by rw [HK.out]; rfl
            generalize gv bs (k + 1) 0 = u at HG hlt
            have HU := hide (fun W => refUint_any u W hlt)
            have HNo : Hid (enc u ≠ bs.take (k + 1) → dec 0 0 bs = none) := by
              intro h
              apply ref_none2
              rw [← HG.out, HK.out]
              exact h
            have HYes : Hid (enc u = bs.take (k + 1) → dec 0 0 bs = some (u, k + 1)) := fun h => ref_some hlt (by rw [HL.out]; omega) h
            have hel := enc_len u
            obtain ⟨L, HEL⟩ : ∃ L, Hid ((enc u).length = L) := ⟨_, hide rfl⟩
            rw [HEL.out] at hel
            unfold GivesB at HU
            generalize enc u = E at HU HNo HYes HEL
            rw [HEL.out] at HU
            clear e1 HG hi1 hi2 hge
            obtain ⟨he1, he2⟩ := hel
            have HTL : Hid ((bs.take (k + 1)).length = k + 1) := by
              have := HL.out
              show (bs.take (k + 1)).length = k + 1
              rw [List.length_take]; omega
            by_cases hLk : L = k + 1
            · subst hLk
              have hne : (((k + 1 : Nat) : Int) != (k : Int) + 1) = false := by simp
              go_wp2_with (go_at_call 73; refine (HU.out _).mono ?_; rintro en w1 ⟨v1, rfl, hown, hfr⟩; obtain ⟨A1, c1, rfl, hq1, hq2, _, hq3, _⟩ := hown.form; have HQ := hide hq3; have HF := hide hfr; clear hown hfr hq3)
              unfold maxLen at hq2
              go_loopw [8] (fun i wr => ∃ j nq : Nat, j ≤ k + 1 ∧ i = .int .i64 j ∧ wr = w1.drewN nq ∧ Hid (E.take j = bs.take j)) (fun i _ => k + 1 - (intOf i).toNat)
              case atStart => exact ⟨0, 0, by omega, rfl, rfl, hide rfl⟩
              case round =>
                obtain ⟨j, nq, hj, rfl, rfl, HT⟩ := hrel
                by_cases hlt : j < k + 1
                · have h1 : j < E.length := by rw [HEL.out]; exact hlt
                  have h2 : j < bs.length := by rw [HL.out]; omega
                  obtain ⟨a1, rfl, _, hcell⟩ := HQ.out.byte h1
                  obtain ⟨bd, hbd, _, hcell2⟩ := (HR.out.fr0 HF.out).byte h2
                  obtain rfl : ad = bd := Option.some.inj hbd
                  have HE := hide (fun he => take_succ_eq h1 h2 HT.out he)
                  have HN := hide (show E.getD j 0 ≠ bs.getD j 0 → E ≠ bs.take (k + 1) from fun h e => h (by
                    rw [e]
                    have h3 : j < (bs.take (k + 1)).length := by rw [HTL.out]; exact hlt
                    simp only [List.getD_eq_getElem?_getD, List.getElem?_eq_getElem h3, List.getElem?_eq_getElem h2]
                    simp))
                  clear h1 h2 hbd
                  generalize E.getD j 0 = x at hcell HE HN
                  generalize bs.getD j 0 = y at hcell2 HE HN
                  by_cases he : x = y
                  · subst he
                    have HE' := hide (HE.out rfl)
                    clear HE
                    have hb2 : ((x.toNat : Int) != x.toNat) = false := by simp
                    go_wp2
                    go_quiet (fail)
                    go_wp2
                    go_round
                    case rel => exact ⟨j + 1, _, by omega, by go_num, rfl, HE'⟩
                    case measure => simp [intOf]; omega
                  · have hb2 : ((x.toNat : Int) != y.toNat) = true := by
                      simp
                      intro h
                      exact he (UInt8.toNat_inj.1 (by omega))
                    go_wp2
                    go_quiet (fail)
                    go_wp2
                    go_ret2
                    exact ⟨by rw [HNo.out (HN.out he)]; rfl, (HF.out.drewN _).drewN _⟩
                · have HF2 := hide (show E = bs.take (k + 1) by
                    have h := HT.out
                    have ej : j = k + 1 := by omega
                    rw [ej] at h
                    rwa [List.take_of_length_le (by rw [HEL.out]; omega)] at h)
                  go_wp2
                  go_ret2
                  exact ⟨by rw [HYes.out HF2.out]; simp [numW], HF.out.drewN _⟩
            · have hne : ((L : Int) != (k : Int) + 1) = true := by simp; omega
              have HZ := hide (HNo.out (fun e => hLk (by rw [← HEL.out, e, HTL.out])))
              go_wp2_with (go_at_call 73; refine (HU.out _).mono ?_; rintro en w1 ⟨v1, rfl, hown, hfr⟩; obtain ⟨A1, c1, rfl, hq1, hq2, _, hq3, _⟩ := hown.form; have HF := hide hfr; clear hown hfr hq3)
              go_ret2
              exact ⟨by rw [HZ.out]; rfl, HF.out⟩

end Go.Proofs.Ytpnhnnhocekchaa
namespace Go.Proofs.Ytpnhnnhocekchaa
set_option linter.unusedVariables false
set_option linter.unusedSimpArgs false
open Go.RowKit

/-- the document's reader: bytes that came in, the place in them, the error. -/
def RS (w : World) (B g : Nat) (bs : List UInt8) (a : Nat) (e : Int) : Prop :=
  ∃ A c, w.heap[g]? = some (.cells #[.slice A bs.length c, .int .i64 a, .int .i64 e] 99 (0, 0)) ∧ bs.length ≤ c ∧ c ≤ maxLen ∧ a ≤ bs.length ∧ bs.length ≤ 140737488355328 ∧ Rd w B A (by8 bs) ∧ B ≤ g

section
variable {w w' : World} {B g : Nat} {bs : List UInt8} {a : Nat} {e : Int}
theorem RS.parts (h : RS w B g bs a e) :
    ∃ A c, (w.cell? ⟨g, 0, none⟩ = some (.slice A bs.length c) ∧ w.cell? ⟨g, 1, none⟩ = some (.int .i64 a) ∧ w.cell? ⟨g, 2, none⟩ = some (.int .i64 e)) ∧ (∀ i, w.frozen? ⟨g, i, none⟩ = false) ∧
      bs.length ≤ c ∧ c ≤ maxLen ∧ a ≤ bs.length ∧ bs.length ≤ 140737488355328 ∧ Rd w B A (by8 bs) ∧ B ≤ w.heap.size := by
  obtain ⟨A, c, hh, h1, h2, h3, h4, ho, hB⟩ := h
  exact ⟨A, c, ⟨cell_of_row w g 0 _ _ (0, 0) hh, cell_of_row w g 1 _ _ (0, 0) hh, cell_of_row w g 2 _ _ (0, 0) hh⟩, fun i => by simp [World.frozen?, hh], h1, h2, h3, h4, ho, by
    have := (Array.getElem?_eq_some_iff.1 hh).1
    omega⟩
theorem RS.fr {S : Nat → Prop} (h : RS w B g bs a e) (f : Fr S w w') (hg : ¬ S g) (hB : ∀ k, k < B → ¬ S k) : RS w' B g bs a e := by
  obtain ⟨A, c, hh, h1, h2, h3, h4, ho, h5⟩ := h
  exact ⟨A, c, f.blk hh hg, h1, h2, h3, h4, ho.fr f hB, h5⟩
theorem RS.fr0 (h : RS w B g bs a e) (f : Fr No w w') : RS w' B g bs a e := h.fr f (fun h => h) (fun _ _ h => h)
theorem RS.set1 (h : RS w B g bs a e) (k : Nat) (hk : k ≤ bs.length) : RS (w.setCell ⟨g, 1, none⟩ (.int .i64 k)) B g bs k e := by
  obtain ⟨A, c, hh, h1, h2, h3, h4, ho, h5⟩ := h
  refine ⟨A, c, by simp [World.setCell, Array.getElem?_modify, hh], h1, h2, hk, h4, ho.fr ((Fr.refl (Is g) w).setCell (p := ⟨g, 1, none⟩) (fun _ => rfl) _) ?_, h5⟩
  intro k hk e
  have : k = g := e
  omega
theorem RS.set2 (h : RS w B g bs a e) (k : Int) : RS (w.setCell ⟨g, 2, none⟩ (.int .i64 k)) B g bs a k := by
  obtain ⟨A, c, hh, h1, h2, h3, h4, ho, h5⟩ := h
  refine ⟨A, c, by simp [World.setCell, Array.getElem?_modify, hh], h1, h2, h3, h4, ho.fr ((Fr.refl (Is g) w).setCell (p := ⟨g, 2, none⟩) (fun _ => rfl) _) ?_, h5⟩
  intro k hk e
  have : k = g := e
  omega
theorem RS.drewN (h : RS w B g bs a e) (n : Nat) : RS (w.drewN n) B g bs a e := h
theorem RS.lt (h : RS w B g bs a e) : g < w.heap.size := by
  obtain ⟨A, c, hh, _⟩ := h
  exact (Array.getElem?_eq_some_iff.1 hh).1
end

def RSRet (v : Value) (w : World) (B g : Nat) (bs : List UInt8) (a : Nat) (e : Int) (en : Ending) (w' : World) : Prop := en = .returned v ∧ RS w' B g bs a e ∧ Fr (Is g) w w'

set_option maxRecDepth 100000 in
set_option maxHeartbeats 800000 in
theorem refErr_any (B g : Nat) (bs : List UInt8) (a : Nat) (e : Int) (w : World) (h : RS w B g bs a e) :
    Calls Try.prog 108 #[.pointer (some ⟨g, 0, none⟩)] w (Ret (.int .i64 e) w) := by
  obtain ⟨A, c, ⟨c0, c1, c2⟩, hf, h1, h2, h3, h4, hr, hB⟩ := h.parts
  clear h hr
  go_enter Try.func108, Try.ntmps108
  go_wp2
  go_ret
  exact ⟨rfl, rfl⟩

set_option maxRecDepth 100000 in
set_option maxHeartbeats 800000 in
theorem refErr_nil (w : World)  :
    Calls Try.prog 108 #[.pointer none] w (Ret (.int .i64 20) w) := by
  go_enter Try.func108, Try.ntmps108
  go_wp2_with (fail)
  go_ret
  exact ⟨rfl, rfl⟩

set_option maxRecDepth 100000 in
set_option maxHeartbeats 800000 in
theorem refEnd_any (B g : Nat) (bs : List UInt8) (a : Nat) (e : Int) (w : World) (h : RS w B g bs a e) :
    Calls Try.prog 87 #[.pointer (some ⟨g, 0, none⟩)] w (RSRet (.int .i64 (endE bs a e)) w B g bs a (endE bs a e)) := by
  obtain ⟨A, c, ⟨c0, c1, c2⟩, hf, h1, h2, h3, h4, hr, hB⟩ := h.parts
  have H := hide h
  clear h hr
  by_cases he : e = 0
  · subst he
    by_cases hlt : a < bs.length
    · have HE := hide (show endE bs a 0 = 20 from if_pos ⟨rfl, hlt⟩)
      have d1 : decide (a < bs.length) = true := by simpa using hlt
      go_enter Try.func87, Try.ntmps87
      go_wp2
      go_quiet (fail)
      go_wp2_with (go_at_call 108; refine (refErr_any B g bs a 20 _ ((H.out.drewN nq).set2 20)).mono ?_; rintro en w' ⟨rfl, rfl⟩)
      go_ret
      refine ⟨by rw [HE.out]; rfl, ?_, ((Fr.refl _ _).drewN _).put _ _⟩
      rw [HE.out]
      exact (H.out.drewN _).set2 20
    · have HE := hide (show endE bs a 0 = 0 from if_neg (fun h => hlt h.2))
      have d1 : decide (a < bs.length) = false := by simpa using hlt
      go_enter Try.func87, Try.ntmps87
      go_wp2
      go_quiet (fail)
      go_wp2_with (go_at_call 108; refine (refErr_any B g bs a 0 _ (H.out.drewN nq)).mono ?_; rintro en w' ⟨rfl, rfl⟩)
      go_ret
      refine ⟨by rw [HE.out]; rfl, ?_, (Fr.refl _ _).drewN _⟩
      rw [HE.out]
      exact H.out.drewN _
  · have HE := hide (show endE bs a e = e from if_neg (fun h => he h.1))
    have hb : (e == 0) = false := by simpa using he
    go_enter Try.func87, Try.ntmps87
    go_wp2
    go_quiet (fail)
    go_wp2_with (go_at_call 108; refine (refErr_any B g bs a e _ (H.out.drewN nq)).mono ?_; rintro en w' ⟨rfl, rfl⟩)
    go_ret
    refine ⟨by rw [HE.out]; rfl, ?_, (Fr.refl _ _).drewN _⟩
    rw [HE.out]
    exact H.out.drewN _

set_option maxRecDepth 100000 in
set_option maxHeartbeats 800000 in
theorem refEnd_nil (w : World) : Calls Try.prog 87 #[.pointer none] w (RetQ (.int .i64 20) w) := by
  go_enter Try.func87, Try.ntmps87
  go_wp2
  go_quiet (fail)
  go_wp2_with (go_at_call 108; refine (refErr_nil _).mono ?_; rintro en w' ⟨rfl, rfl⟩)
  go_ret
  exact ⟨rfl, _, rfl⟩

end Go.Proofs.Ytpnhnnhocekchaa
namespace Go.Proofs.Ytpnhnnhocekchaa
set_option linter.unusedVariables false
set_option linter.unusedSimpArgs false
open Go.RowKit

theorem refnum_cut {w : World} {B : Nat} {A : Option Addr} {bs : List UInt8} {c a : Nat} {x : Option (Nat × Nat)} (hr : Rd w B A (by8 bs)) (h1 : bs.length ≤ c) (h2 : c ≤ maxLen) (h3 : a ≤ bs.length) (hB : B ≤ w.heap.size) (hd : dec 0 0 (bs.drop a) = x) :
    ∀ w' : World, w'.heap = w.heap → Calls Try.prog 107 #[.slice (if c = a then A else A.map (·.add a)) (bs.length - a) (c - a)] w' (RetF (numW x) w') := by
  intro w' hw
  have hcell : ∀ p, w'.cell? p = w.cell? p := fun p => by simp [World.cell?, hw]
  subst hd
  refine refNumber_any _ _ _ B (bs.drop a) w' (by simp) (by omega) (by omega) (by rw [hw]; exact hB) ?_
  rw [by8_drop]
  refine Rd.cut ?_ (by rw [by8_length]; exact h1)
  intro j u hu
  obtain ⟨ad, e, hb, hcc⟩ := hr j u hu
  exact ⟨ad, e, hb, by rw [hcell]; exact hcc⟩

end Go.Proofs.Ytpnhnnhocekchaa
namespace Go.Proofs.Ytpnhnnhocekchaa
set_option linter.unusedVariables false
set_option linter.unusedSimpArgs false
open Go.RowKit

set_option maxRecDepth 100000 in
set_option maxHeartbeats 800000 in
theorem refN_bad1 (B g : Nat) (bs : List UInt8) (a : Nat) (w : World) (most : Int) (h : RS w B g bs a 0) (hd : dec 0 0 (bs.drop a) = none) :
    Calls Try.prog 85 #[.pointer (some ⟨g, 0, none⟩), .int .i64 most] w (RSRet (.int .i64 0) w B g bs a 20) := by
  obtain ⟨A, c, ⟨c0, c1, c2⟩, hf, h1, h2, h3, h4, hr, hB⟩ := h.parts
  have HN := hide (refnum_cut hr h1 h2 h3 hB hd)
  simp only [numW] at HN
  have H := hide h
  have HA := hide hr
  clear h hr hd
  by_cases hca : c = a
  · have HN1 := HN.out
    rw [if_pos hca, hca, Nat.sub_self] at HN1
    have HN2 := hide HN1
    clear HN HN1
    go_enter Try.func85, Try.ntmps85
    go_wp2_with (fail)
    go_region_with (go_at_call 107; refine (HN2.out w.drew rfl).mono ?_; rintro en w1 ⟨rfl, hfr⟩; have HF : Hid (Fr No w w1) := ⟨hfr.os, hfr.tape, hfr.output, hfr.size, hfr.block⟩; clear hfr; have HR1 := hide (H.out.fr0 HF.out); obtain ⟨A1, k1, ⟨e0, e1, e2⟩, hf1, q1, q2, _, _, _⟩ := HR1.out.parts)
    all_goals (try go_wp2)
    all_goals go_ret
    all_goals exact ⟨rfl, HR1.out.set2 20, (HF.out.any (Is g)).put _ _⟩
  · have HN1 := HN.out
    rw [if_neg hca] at HN1
    have HN2 := hide HN1
    clear HN HN1
    go_enter Try.func85, Try.ntmps85
    go_wp2_with (fail)
    go_region_with (go_at_call 107; refine (HN2.out w.drew rfl).mono ?_; rintro en w1 ⟨rfl, hfr⟩; have HF : Hid (Fr No w w1) := ⟨hfr.os, hfr.tape, hfr.output, hfr.size, hfr.block⟩; clear hfr; have HR1 := hide (H.out.fr0 HF.out); obtain ⟨A1, k1, ⟨e0, e1, e2⟩, hf1, q1, q2, _, _, _⟩ := HR1.out.parts)
    all_goals (try go_wp2)
    all_goals go_ret
    all_goals exact ⟨rfl, HR1.out.set2 20, (HF.out.any (Is g)).put _ _⟩

set_option maxRecDepth 100000 in
set_option maxHeartbeats 800000 in
theorem refN_bad2 (B g : Nat) (bs : List UInt8) (a : Nat) (w : World) (most : Int) (u k : Nat) (h : RS w B g bs a 0) (hd : dec 0 0 (bs.drop a) = some (u, k)) (hneg : most < 0) :
    Calls Try.prog 85 #[.pointer (some ⟨g, 0, none⟩), .int .i64 most] w (RSRet (.int .i64 0) w B g bs a 20) := by
  obtain ⟨A, c, ⟨c0, c1, c2⟩, hf, h1, h2, h3, h4, hr, hB⟩ := h.parts
  have HN := hide (refnum_cut hr h1 h2 h3 hB hd)
  simp only [numW] at HN
  have H := hide h
  have HA := hide hr
  have hk := dec_le _ _ _ _ _ hd
  have hk1 : a + k ≤ bs.length := by have := hk.2; simp at this; omega
  have hk0 : ((k : Int) == 0) = false := by have := hk.1; simp; omega
  have hu := dec_lt _ 0 0 u k (by decide) hd
  clear hk
  clear h hr hd
  by_cases hca : c = a
  · have HN1 := HN.out
    rw [if_pos hca, hca, Nat.sub_self] at HN1
    have HN2 := hide HN1
    clear HN HN1
    go_enter Try.func85, Try.ntmps85
    go_wp2_with (fail)
    go_region_with (go_at_call 107; refine (HN2.out w.drew rfl).mono ?_; rintro en w1 ⟨rfl, hfr⟩; have HF : Hid (Fr No w w1) := ⟨hfr.os, hfr.tape, hfr.output, hfr.size, hfr.block⟩; clear hfr; have HR1 := hide (H.out.fr0 HF.out); obtain ⟨A1, k1, ⟨e0, e1, e2⟩, hf1, q1, q2, _, _, _⟩ := HR1.out.parts)
    all_goals (try go_wp2)
    all_goals go_ret
    all_goals exact ⟨rfl, HR1.out.set2 20, (HF.out.any (Is g)).put _ _⟩
  · have HN1 := HN.out
    rw [if_neg hca] at HN1
    have HN2 := hide HN1
    clear HN HN1
    go_enter Try.func85, Try.ntmps85
    go_wp2_with (fail)
    go_region_with (go_at_call 107; refine (HN2.out w.drew rfl).mono ?_; rintro en w1 ⟨rfl, hfr⟩; have HF : Hid (Fr No w w1) := ⟨hfr.os, hfr.tape, hfr.output, hfr.size, hfr.block⟩; clear hfr; have HR1 := hide (H.out.fr0 HF.out); obtain ⟨A1, k1, ⟨e0, e1, e2⟩, hf1, q1, q2, _, _, _⟩ := HR1.out.parts)
    all_goals (try go_wp2)
    all_goals go_ret
    all_goals exact ⟨rfl, HR1.out.set2 20, (HF.out.any (Is g)).put _ _⟩

set_option maxRecDepth 100000 in
set_option maxHeartbeats 800000 in
theorem refN_bad3 (B g : Nat) (bs : List UInt8) (a : Nat) (w : World) (m : Nat) (u k : Nat) (h : RS w B g bs a 0) (hd : dec 0 0 (bs.drop a) = some (u, k)) (hm2 : (m : Int) ≤ 9223372036854775807) (hbig : m < u) :
    Calls Try.prog 85 #[.pointer (some ⟨g, 0, none⟩), .int .i64 m] w (RSRet (.int .i64 0) w B g bs a 20) := by
  obtain ⟨A, c, ⟨c0, c1, c2⟩, hf, h1, h2, h3, h4, hr, hB⟩ := h.parts
  have HN := hide (refnum_cut hr h1 h2 h3 hB hd)
  simp only [numW] at HN
  have H := hide h
  have HA := hide hr
  have hk := dec_le _ _ _ _ _ hd
  have hk1 : a + k ≤ bs.length := by have := hk.2; simp at this; omega
  have hk0 : ((k : Int) == 0) = false := by have := hk.1; simp; omega
  have hu := dec_lt _ 0 0 u k (by decide) hd
  clear hk
  clear h hr hd
  by_cases hca : c = a
  · have HN1 := HN.out
    rw [if_pos hca, hca, Nat.sub_self] at HN1
    have HN2 := hide HN1
    clear HN HN1
    go_enter Try.func85, Try.ntmps85
    go_wp2_with (fail)
    go_region_with (go_at_call 107; refine (HN2.out w.drew rfl).mono ?_; rintro en w1 ⟨rfl, hfr⟩; have HF : Hid (Fr No w w1) := ⟨hfr.os, hfr.tape, hfr.output, hfr.size, hfr.block⟩; clear hfr; have HR1 := hide (H.out.fr0 HF.out); obtain ⟨A1, k1, ⟨e0, e1, e2⟩, hf1, q1, q2, _, _, _⟩ := HR1.out.parts)
    all_goals (try go_wp2)
    all_goals go_ret
    all_goals exact ⟨rfl, HR1.out.set2 20, (HF.out.any (Is g)).put _ _⟩
  · have HN1 := HN.out
    rw [if_neg hca] at HN1
    have HN2 := hide HN1
    clear HN HN1
    go_enter Try.func85, Try.ntmps85
    go_wp2_with (fail)
    go_region_with (go_at_call 107; refine (HN2.out w.drew rfl).mono ?_; rintro en w1 ⟨rfl, hfr⟩; have HF : Hid (Fr No w w1) := ⟨hfr.os, hfr.tape, hfr.output, hfr.size, hfr.block⟩; clear hfr; have HR1 := hide (H.out.fr0 HF.out); obtain ⟨A1, k1, ⟨e0, e1, e2⟩, hf1, q1, q2, _, _, _⟩ := HR1.out.parts)
    all_goals (try go_wp2)
    all_goals go_ret
    all_goals exact ⟨rfl, HR1.out.set2 20, (HF.out.any (Is g)).put _ _⟩

set_option maxRecDepth 100000 in
set_option maxHeartbeats 800000 in
theorem refN_ok (B g : Nat) (bs : List UInt8) (a : Nat) (w : World) (m : Nat) (u k : Nat) (h : RS w B g bs a 0) (hd : dec 0 0 (bs.drop a) = some (u, k)) (hm2 : (m : Int) ≤ 9223372036854775807) (hfit : u ≤ m) :
    Calls Try.prog 85 #[.pointer (some ⟨g, 0, none⟩), .int .i64 m] w (RSRet (.int .i64 u) w B g bs (a + k) 0) := by
  obtain ⟨A, c, ⟨c0, c1, c2⟩, hf, h1, h2, h3, h4, hr, hB⟩ := h.parts
  have HN := hide (refnum_cut hr h1 h2 h3 hB hd)
  simp only [numW] at HN
  have H := hide h
  have HA := hide hr
  have hk := dec_le _ _ _ _ _ hd
  have hk1 : a + k ≤ bs.length := by have := hk.2; simp at this; omega
  have hk0 : ((k : Int) == 0) = false := by have := hk.1; simp; omega
  have hu := dec_lt _ 0 0 u k (by decide) hd
  clear hk
  clear h hr hd
  by_cases hca : c = a
  · have HN1 := HN.out
    rw [if_pos hca, hca, Nat.sub_self] at HN1
    have HN2 := hide HN1
    clear HN HN1
    go_enter Try.func85, Try.ntmps85
    go_wp2_with (fail)
    go_region_with (go_at_call 107; refine (HN2.out w.drew rfl).mono ?_; rintro en w1 ⟨rfl, hfr⟩; have HF : Hid (Fr No w w1) := ⟨hfr.os, hfr.tape, hfr.output, hfr.size, hfr.block⟩; clear hfr; have HR1 := hide (H.out.fr0 HF.out); obtain ⟨A1, k1, ⟨e0, e1, e2⟩, hf1, q1, q2, _, _, _⟩ := HR1.out.parts)
    all_goals (try go_wp2)
    all_goals go_ret
    all_goals exact ⟨by simp, HR1.out.set1 _ hk1, (HF.out.any (Is g)).put _ _⟩
  · have HN1 := HN.out
    rw [if_neg hca] at HN1
    have HN2 := hide HN1
    clear HN HN1
    go_enter Try.func85, Try.ntmps85
    go_wp2_with (fail)
    go_region_with (go_at_call 107; refine (HN2.out w.drew rfl).mono ?_; rintro en w1 ⟨rfl, hfr⟩; have HF : Hid (Fr No w w1) := ⟨hfr.os, hfr.tape, hfr.output, hfr.size, hfr.block⟩; clear hfr; have HR1 := hide (H.out.fr0 HF.out); obtain ⟨A1, k1, ⟨e0, e1, e2⟩, hf1, q1, q2, _, _, _⟩ := HR1.out.parts)
    all_goals (try go_wp2)
    all_goals go_ret
    all_goals exact ⟨by simp, HR1.out.set1 _ hk1, (HF.out.any (Is g)).put _ _⟩

set_option maxRecDepth 100000 in
set_option maxHeartbeats 800000 in
theorem refN_off (B g : Nat) (bs : List UInt8) (a : Nat) (e : Int) (w : World) (most : Int) (h : RS w B g bs a e) (he : e ≠ 0) :
    Calls Try.prog 85 #[.pointer (some ⟨g, 0, none⟩), .int .i64 most] w (RSRet (.int .i64 0) w B g bs a e) := by
  obtain ⟨A, c, ⟨c0, c1, c2⟩, hf, h1, h2, h3, h4, hr, hB⟩ := h.parts
  have hb : (e != 0) = true := by simpa using he
  have H := hide h
  clear h hr he
  go_enter Try.func85, Try.ntmps85
  go_wp2_with (fail)
  go_ret
  exact ⟨rfl, H.out, Fr.refl _ _⟩

set_option maxRecDepth 100000 in
set_option maxHeartbeats 800000 in
theorem refN_nil (w : World) (most : Int) :
    Calls Try.prog 85 #[.pointer none, .int .i64 most] w (Ret (.int .i64 0) w) := by
  go_enter Try.func85, Try.ntmps85
  go_wp2_with (fail)
  go_ret
  exact ⟨rfl, rfl⟩

theorem refN_any (B g : Nat) (bs : List UInt8) (a : Nat) (e most : Int) (w : World) (h : RS w B g bs a e) (hm2 : most ≤ 9223372036854775807) :
    Calls Try.prog 85 #[.pointer (some ⟨g, 0, none⟩), .int .i64 most] w (RSRet (.int .i64 (sizeS bs a e most).1) w B g bs (sizeS bs a e most).2.1 (sizeS bs a e most).2.2) := by
  unfold sizeS
  by_cases he : e = 0
  · subst he
    rw [if_pos rfl]
    cases hd : dec 0 0 (bs.drop a) with
    | none => rw [sizeR_none hd]; exact refN_bad1 B g bs a w most h hd
    | some x =>
      by_cases hneg : most < 0
      · rw [sizeR_no hd (.inl hneg)]; exact refN_bad2 B g bs a w most x.1 x.2 h hd hneg
      · obtain ⟨m, rfl⟩ := Int.eq_ofNat_of_zero_le (a := most) (by omega)
        by_cases hum : m < x.1
        · rw [sizeR_no hd (.inr (by omega))]; exact refN_bad3 B g bs a w m x.1 x.2 h hd hm2 hum
        · rw [sizeR_ok hd (by omega)]; exact refN_ok B g bs a w m x.1 x.2 h hd hm2 (by omega)
  · rw [if_neg he]
    exact refN_off B g bs a e w most h he

end Go.Proofs.Ytpnhnnhocekchaa
namespace Go.Proofs.Ytpnhnnhocekchaa
set_option linter.unusedVariables false
set_option linter.unusedSimpArgs false
open Go.RowKit

set_option maxRecDepth 100000 in
set_option maxHeartbeats 800000 in
theorem refT_bad1 (B g : Nat) (bs : List UInt8) (a : Nat) (w : World) (most : Int) (h : RS w B g bs a 0) (hd : dec 0 0 (bs.drop a) = none) :
    Calls Try.prog 86 #[.pointer (some ⟨g, 0, none⟩), .int .i64 most] w (RSRet (.string ⟨#[]⟩) w B g bs a 20) := by
  obtain ⟨A, c, ⟨c0, c1, c2⟩, hf, h1, h2, h3, h4, hr, hB⟩ := h.parts
  have HN := hide (refnum_cut hr h1 h2 h3 hB hd)
  simp only [numW] at HN
  have H := hide h
  have HA := hide hr
  clear h hr hd
  by_cases hca : c = a
  · have HN1 := HN.out
    rw [if_pos hca, hca, Nat.sub_self] at HN1
    have HN2 := hide HN1
    clear HN HN1
    go_enter Try.func86, Try.ntmps86
    go_wp2_with (fail)
    go_region_with (go_at_call 107; refine (HN2.out w.drew rfl).mono ?_; rintro en w1 ⟨rfl, hfr⟩; have HF : Hid (Fr No w w1) := ⟨hfr.os, hfr.tape, hfr.output, hfr.size, hfr.block⟩; clear hfr; have HR1 := hide (H.out.fr0 HF.out); obtain ⟨A1, k1, ⟨e0, e1, e2⟩, hf1, q1, q2, _, _, _⟩ := HR1.out.parts)
    all_goals (try go_wp2)
    all_goals
      go_simp
      go_quiet (fail)
      go_wp2
      go_ret
      exact ⟨rfl, (HR1.out.drewN _).set2 20, ((HF.out.any (Is g)).drewN _).put _ _⟩
  · have HN1 := HN.out
    rw [if_neg hca] at HN1
    have HN2 := hide HN1
    clear HN HN1
    go_enter Try.func86, Try.ntmps86
    go_wp2_with (fail)
    go_region_with (go_at_call 107; refine (HN2.out w.drew rfl).mono ?_; rintro en w1 ⟨rfl, hfr⟩; have HF : Hid (Fr No w w1) := ⟨hfr.os, hfr.tape, hfr.output, hfr.size, hfr.block⟩; clear hfr; have HR1 := hide (H.out.fr0 HF.out); obtain ⟨A1, k1, ⟨e0, e1, e2⟩, hf1, q1, q2, _, _, _⟩ := HR1.out.parts)
    all_goals (try go_wp2)
    all_goals
      go_simp
      go_quiet (fail)
      go_wp2
      go_ret
      exact ⟨rfl, (HR1.out.drewN _).set2 20, ((HF.out.any (Is g)).drewN _).put _ _⟩

set_option maxRecDepth 100000 in
set_option maxHeartbeats 800000 in
theorem refT_bad2 (B g : Nat) (bs : List UInt8) (a : Nat) (w : World) (most : Int) (u k : Nat) (h : RS w B g bs a 0) (hd : dec 0 0 (bs.drop a) = some (u, k)) (hneg : most < 0) :
    Calls Try.prog 86 #[.pointer (some ⟨g, 0, none⟩), .int .i64 most] w (RSRet (.string ⟨#[]⟩) w B g bs a 20) := by
  obtain ⟨A, c, ⟨c0, c1, c2⟩, hf, h1, h2, h3, h4, hr, hB⟩ := h.parts
  have HN := hide (refnum_cut hr h1 h2 h3 hB hd)
  simp only [numW] at HN
  have H := hide h
  have HA := hide hr
  have hk := dec_le _ _ _ _ _ hd
  have hk1 : a + k ≤ bs.length := by have := hk.2; simp at this; omega
  have hk0 : ((k : Int) == 0) = false := by have := hk.1; simp; omega
  have hu := dec_lt _ 0 0 u k (by decide) hd
  clear hk
  clear h hr hd
  by_cases hca : c = a
  · have HN1 := HN.out
    rw [if_pos hca, hca, Nat.sub_self] at HN1
    have HN2 := hide HN1
    clear HN HN1
    go_enter Try.func86, Try.ntmps86
    go_wp2_with (fail)
    go_region_with (go_at_call 107; refine (HN2.out w.drew rfl).mono ?_; rintro en w1 ⟨rfl, hfr⟩; have HF : Hid (Fr No w w1) := ⟨hfr.os, hfr.tape, hfr.output, hfr.size, hfr.block⟩; clear hfr; have HR1 := hide (H.out.fr0 HF.out); obtain ⟨A1, k1, ⟨e0, e1, e2⟩, hf1, q1, q2, _, _, _⟩ := HR1.out.parts)
    all_goals (try go_wp2)
    all_goals
      go_simp
      have d1 : decide (most < 0) = true := by simp; omega
      go_quiet (fail)
      clear d1
      go_wp2
      go_ret
      exact ⟨rfl, (HR1.out.drewN _).set2 20, ((HF.out.any (Is g)).drewN _).put _ _⟩
  · have HN1 := HN.out
    rw [if_neg hca] at HN1
    have HN2 := hide HN1
    clear HN HN1
    go_enter Try.func86, Try.ntmps86
    go_wp2_with (fail)
    go_region_with (go_at_call 107; refine (HN2.out w.drew rfl).mono ?_; rintro en w1 ⟨rfl, hfr⟩; have HF : Hid (Fr No w w1) := ⟨hfr.os, hfr.tape, hfr.output, hfr.size, hfr.block⟩; clear hfr; have HR1 := hide (H.out.fr0 HF.out); obtain ⟨A1, k1, ⟨e0, e1, e2⟩, hf1, q1, q2, _, _, _⟩ := HR1.out.parts)
    all_goals (try go_wp2)
    all_goals
      go_simp
      have d1 : decide (most < 0) = true := by simp; omega
      go_quiet (fail)
      clear d1
      go_wp2
      go_ret
      exact ⟨rfl, (HR1.out.drewN _).set2 20, ((HF.out.any (Is g)).drewN _).put _ _⟩

set_option maxRecDepth 100000 in
set_option maxHeartbeats 800000 in
theorem refT_bad3 (B g : Nat) (bs : List UInt8) (a : Nat) (w : World) (m : Nat) (u k : Nat) (h : RS w B g bs a 0) (hd : dec 0 0 (bs.drop a) = some (u, k)) (hm2 : (m : Int) ≤ 9223372036854775807) (hbig : m < u) :
    Calls Try.prog 86 #[.pointer (some ⟨g, 0, none⟩), .int .i64 m] w (RSRet (.string ⟨#[]⟩) w B g bs a 20) := by
  obtain ⟨A, c, ⟨c0, c1, c2⟩, hf, h1, h2, h3, h4, hr, hB⟩ := h.parts
  have HN := hide (refnum_cut hr h1 h2 h3 hB hd)
  simp only [numW] at HN
  have H := hide h
  have HA := hide hr
  have hk := dec_le _ _ _ _ _ hd
  have hk1 : a + k ≤ bs.length := by have := hk.2; simp at this; omega
  have hk0 : ((k : Int) == 0) = false := by have := hk.1; simp; omega
  have hu := dec_lt _ 0 0 u k (by decide) hd
  clear hk
  clear h hr hd
  by_cases hca : c = a
  · have HN1 := HN.out
    rw [if_pos hca, hca, Nat.sub_self] at HN1
    have HN2 := hide HN1
    clear HN HN1
    go_enter Try.func86, Try.ntmps86
    go_wp2_with (fail)
    go_region_with (go_at_call 107; refine (HN2.out w.drew rfl).mono ?_; rintro en w1 ⟨rfl, hfr⟩; have HF : Hid (Fr No w w1) := ⟨hfr.os, hfr.tape, hfr.output, hfr.size, hfr.block⟩; clear hfr; have HR1 := hide (H.out.fr0 HF.out); obtain ⟨A1, k1, ⟨e0, e1, e2⟩, hf1, q1, q2, _, _, _⟩ := HR1.out.parts)
    all_goals (try go_wp2)
    all_goals
      go_simp
      have d1 : decide ((m : Int) < 0) = false := by simp
      have d2 : decide (m < u) = true := by simp; omega
      have i1 : IntKind.u64.wrap (m : Int) = (m : Int) := IntWalk.u64_in _ (by omega)
      go_quiet (fail)
      clear d1 d2 i1
      go_wp2
      go_ret
      exact ⟨rfl, (HR1.out.drewN _).set2 20, ((HF.out.any (Is g)).drewN _).put _ _⟩
  · have HN1 := HN.out
    rw [if_neg hca] at HN1
    have HN2 := hide HN1
    clear HN HN1
    go_enter Try.func86, Try.ntmps86
    go_wp2_with (fail)
    go_region_with (go_at_call 107; refine (HN2.out w.drew rfl).mono ?_; rintro en w1 ⟨rfl, hfr⟩; have HF : Hid (Fr No w w1) := ⟨hfr.os, hfr.tape, hfr.output, hfr.size, hfr.block⟩; clear hfr; have HR1 := hide (H.out.fr0 HF.out); obtain ⟨A1, k1, ⟨e0, e1, e2⟩, hf1, q1, q2, _, _, _⟩ := HR1.out.parts)
    all_goals (try go_wp2)
    all_goals
      go_simp
      have d1 : decide ((m : Int) < 0) = false := by simp
      have d2 : decide (m < u) = true := by simp; omega
      have i1 : IntKind.u64.wrap (m : Int) = (m : Int) := IntWalk.u64_in _ (by omega)
      go_quiet (fail)
      clear d1 d2 i1
      go_wp2
      go_ret
      exact ⟨rfl, (HR1.out.drewN _).set2 20, ((HF.out.any (Is g)).drewN _).put _ _⟩

set_option maxRecDepth 100000 in
set_option maxHeartbeats 800000 in
theorem refT_bad4 (B g : Nat) (bs : List UInt8) (a : Nat) (w : World) (m : Nat) (u k : Nat) (h : RS w B g bs a 0) (hd : dec 0 0 (bs.drop a) = some (u, k)) (hm2 : (m : Int) ≤ 9223372036854775807) (hfit : u ≤ m) (hul : bs.length - a - k < u) :
    Calls Try.prog 86 #[.pointer (some ⟨g, 0, none⟩), .int .i64 m] w (RSRet (.string ⟨#[]⟩) w B g bs a 20) := by
  obtain ⟨A, c, ⟨c0, c1, c2⟩, hf, h1, h2, h3, h4, hr, hB⟩ := h.parts
  have HN := hide (refnum_cut hr h1 h2 h3 hB hd)
  simp only [numW] at HN
  have H := hide h
  have HA := hide hr
  have hk := dec_le _ _ _ _ _ hd
  have hk1 : a + k ≤ bs.length := by have := hk.2; simp at this; omega
  have hk0 : ((k : Int) == 0) = false := by have := hk.1; simp; omega
  have hu := dec_lt _ 0 0 u k (by decide) hd
  clear hk
  clear h hr hd
  by_cases hca : c = a
  · have HN1 := HN.out
    rw [if_pos hca, hca, Nat.sub_self] at HN1
    have HN2 := hide HN1
    clear HN HN1
    go_enter Try.func86, Try.ntmps86
    go_wp2_with (fail)
    go_region_with (go_at_call 107; refine (HN2.out w.drew rfl).mono ?_; rintro en w1 ⟨rfl, hfr⟩; have HF : Hid (Fr No w w1) := ⟨hfr.os, hfr.tape, hfr.output, hfr.size, hfr.block⟩; clear hfr; have HR1 := hide (H.out.fr0 HF.out); obtain ⟨A1, k1, ⟨e0, e1, e2⟩, hf1, q1, q2, _, _, _⟩ := HR1.out.parts)
    all_goals (try go_wp2)
    all_goals
      go_simp
      obtain ⟨x, hx⟩ : ∃ x : Nat, x = bs.length - a := ⟨_, rfl⟩
      obtain ⟨y, hy⟩ : ∃ y : Nat, y = bs.length - a - k := ⟨_, rfl⟩
      have d1 : decide ((m : Int) < 0) = false := by simp
      have d2 : decide (m < u) = false := by simp; omega
      have d3 : decide (y < u) = true := by simp; omega
      have i1 : IntKind.u64.wrap (m : Int) = (m : Int) := IntWalk.u64_in _ (by omega)
      have i2 : IntKind.i64.wrap ((bs.length : Int) - a) = (x : Int) := by rw [IntWalk.i64_in _ (by omega)]; omega
      have i3 : IntKind.i64.wrap ((x : Int) - k) = (y : Int) := by rw [IntWalk.i64_in _ (by omega)]; omega
      have i4 : IntKind.u64.wrap (y : Int) = (y : Int) := IntWalk.u64_in _ (by omega)
      clear hx hy hul
      go_quiet (fail)
      clear i1 i2 i3 i4 d1 d2 d3
      go_wp2
      go_ret
      exact ⟨rfl, (HR1.out.drewN _).set2 20, ((HF.out.any (Is g)).drewN _).put _ _⟩
  · have HN1 := HN.out
    rw [if_neg hca] at HN1
    have HN2 := hide HN1
    clear HN HN1
    go_enter Try.func86, Try.ntmps86
    go_wp2_with (fail)
    go_region_with (go_at_call 107; refine (HN2.out w.drew rfl).mono ?_; rintro en w1 ⟨rfl, hfr⟩; have HF : Hid (Fr No w w1) := ⟨hfr.os, hfr.tape, hfr.output, hfr.size, hfr.block⟩; clear hfr; have HR1 := hide (H.out.fr0 HF.out); obtain ⟨A1, k1, ⟨e0, e1, e2⟩, hf1, q1, q2, _, _, _⟩ := HR1.out.parts)
    all_goals (try go_wp2)
    all_goals
      go_simp
      obtain ⟨x, hx⟩ : ∃ x : Nat, x = bs.length - a := ⟨_, rfl⟩
      obtain ⟨y, hy⟩ : ∃ y : Nat, y = bs.length - a - k := ⟨_, rfl⟩
      have d1 : decide ((m : Int) < 0) = false := by simp
      have d2 : decide (m < u) = false := by simp; omega
      have d3 : decide (y < u) = true := by simp; omega
      have i1 : IntKind.u64.wrap (m : Int) = (m : Int) := IntWalk.u64_in _ (by omega)
      have i2 : IntKind.i64.wrap ((bs.length : Int) - a) = (x : Int) := by rw [IntWalk.i64_in _ (by omega)]; omega
      have i3 : IntKind.i64.wrap ((x : Int) - k) = (y : Int) := by rw [IntWalk.i64_in _ (by omega)]; omega
      have i4 : IntKind.u64.wrap (y : Int) = (y : Int) := IntWalk.u64_in _ (by omega)
      clear hx hy hul
      go_quiet (fail)
      clear i1 i2 i3 i4 d1 d2 d3
      go_wp2
      go_ret
      exact ⟨rfl, (HR1.out.drewN _).set2 20, ((HF.out.any (Is g)).drewN _).put _ _⟩

set_option maxRecDepth 100000 in
set_option maxHeartbeats 800000 in
theorem refT_ok (B g : Nat) (bs : List UInt8) (a : Nat) (w : World) (m u k : Nat) (h : RS w B g bs a 0) (hd : dec 0 0 (bs.drop a) = some (u, k)) (hm2 : (m : Int) ≤ 9223372036854775807) (hfit : u ≤ m) (hul : u ≤ (bs.drop a).length - k) :
    Calls Try.prog 86 #[.pointer (some ⟨g, 0, none⟩), .int .i64 m] w (RSRet (.string ⟨(((bs.drop a).drop k).take u).toArray⟩) w B g bs (a + k + u) 0) := by
  obtain ⟨A, c, ⟨c0, c1, c2⟩, hf, h1, h2, h3, h4, hr, hB⟩ := h.parts
  have HN := hide (refnum_cut hr h1 h2 h3 hB hd)
  simp only [numW] at HN
  have H := hide h
  have hk := dec_le _ _ _ _ _ hd
  have hk2 : a + k + u ≤ bs.length := by have := hk.2; simp at this hul; omega
  have hk0 : ((k : Int) == 0) = false := by have := hk.1; simp; omega
  have hu := dec_lt _ 0 0 u k (by decide) hd
  have HC : Hid (∀ (w' : World) (A : Option Addr) (c : Nat), bs.length ≤ c → Rd w' B A (by8 bs) → (convert 23 9 (.slice (if c = a + k then A else A.map (·.add (a + k))) u (c - (a + k)))).run Try.prog w' = .ok (.string ⟨(((bs.drop a).drop k).take u).toArray⟩) w') := fun w' A c h1 hw => conv_rd w' _ _ _ _ (by simp; omega) (by
    rw [List.drop_drop, by8_take, by8_drop]
    exact (hw.cut (by rw [by8_length]; exact h1)).tk u)
  generalize ((bs.drop a).drop k).take u = t at HC
  clear h hr hd hk hul
  unfold maxLen at h2
  by_cases hca : c = a
  · exfalso
    simp at hk0
    omega
  · have HN1 := HN.out
    rw [if_neg hca] at HN1
    have HN2 := hide HN1
    clear HN HN1
    go_enter Try.func86, Try.ntmps86
    go_wp2_with (fail)
    go_region_with (go_at_call 107; refine (HN2.out w.drew rfl).mono ?_; rintro en w1 ⟨rfl, hfr⟩; have HF : Hid (Fr No w w1) := ⟨hfr.os, hfr.tape, hfr.output, hfr.size, hfr.block⟩; clear hfr; have HR1 := hide (H.out.fr0 HF.out); have hgl := HR1.out.lt; obtain ⟨A1, k1, ⟨e0, e1, e2⟩, hf1, q1, q2, _, _, _⟩ := HR1.out.parts)
    all_goals (try go_wp2)
    all_goals
      go_simp
      obtain ⟨x, hx⟩ : ∃ x : Nat, x = bs.length - a := ⟨_, rfl⟩
      obtain ⟨y, hy⟩ : ∃ y : Nat, y = bs.length - a - k := ⟨_, rfl⟩
      have d1 : decide ((m : Int) < 0) = false := by simp
      have d2 : decide (m < u) = false := by simp; omega
      have d3 : decide (y < u) = false := by simp; omega
      have i1 : IntKind.u64.wrap (m : Int) = (m : Int) := IntWalk.u64_in _ (by omega)
      have i2 : IntKind.i64.wrap ((bs.length : Int) - a) = (x : Int) := by rw [IntWalk.i64_in _ (by omega)]; omega
      have i3 : IntKind.i64.wrap ((x : Int) - k) = (y : Int) := by rw [IntWalk.i64_in _ (by omega)]; omega
      have i4 : IntKind.u64.wrap (y : Int) = (y : Int) := IntWalk.u64_in _ (by omega)
      clear hx hy
      go_quiet (fail)
      clear i1 i2 i3 i4 d1 d2 d3
      go_wp2
      have H2 := hide ((HR1.out.drewN nq).set1 (a + k + u) hk2)
      have F2 := hide (((HF.out.any (Is g)).drewN nq).put 1 (.int .i64 ((a + k + u : Nat) : Int)))
      rw [show ((a + k + u : Nat) : Int) = (a : Int) + k + u by omega] at H2 F2
      generalize (w1.drewN nq).setCell ⟨g, 1, none⟩ (.int .i64 ((a : Int) + k + u)) = w2 at H2 F2 ⊢
      clear e0 e1 e2 hf1 q1 q2 HR1 HF hgl
      obtain ⟨A2, k2, ⟨e0, e1, e2⟩, hf1, q1, q2, _, _, hr2, _⟩ := H2.out.parts
      have hcv := fun nq => HC.out (w2.drewN nq) A2 k2 q1 hr2
      have t0 : 0 ≤ (a : Int) + k := by omega
      have t1 : ((a : Int) + k).toNat = a + k := by omega
      have t2 : (a : Int) + k ≤ ((a + k + u : Nat) : Int) := by omega
      have t3 : a + k + u ≤ k2 := by omega
      have t4 : a + k + u - (a + k) = u := by omega
      clear hr2
      go_quiet (fail)
      go_wp2
      all_goals go_ret
      all_goals exact ⟨rfl, H2.out.drewN _, F2.out.drewN _⟩

set_option maxRecDepth 100000 in
set_option maxHeartbeats 800000 in
theorem refT_off (B g : Nat) (bs : List UInt8) (a : Nat) (e : Int) (w : World) (most : Int) (h : RS w B g bs a e) (he : e ≠ 0) :
    Calls Try.prog 86 #[.pointer (some ⟨g, 0, none⟩), .int .i64 most] w (RSRet (.string ⟨#[]⟩) w B g bs a e) := by
  obtain ⟨A, c, ⟨c0, c1, c2⟩, hf, h1, h2, h3, h4, hr, hB⟩ := h.parts
  have hb : (e != 0) = true := by simpa using he
  have H := hide h
  clear h hr he
  go_enter Try.func86, Try.ntmps86
  go_wp2_with (fail)
  go_ret
  exact ⟨rfl, H.out, Fr.refl _ _⟩

set_option maxRecDepth 100000 in
set_option maxHeartbeats 800000 in
theorem refT_nil (w : World) (most : Int) :
    Calls Try.prog 86 #[.pointer none, .int .i64 most] w (Ret (.string ⟨#[]⟩) w) := by
  go_enter Try.func86, Try.ntmps86
  go_wp2_with (fail)
  go_ret
  exact ⟨rfl, rfl⟩

theorem refT_any (B g : Nat) (bs : List UInt8) (a : Nat) (e most : Int) (w : World) (h : RS w B g bs a e) (hm2 : most ≤ 9223372036854775807) :
    Calls Try.prog 86 #[.pointer (some ⟨g, 0, none⟩), .int .i64 most] w (RSRet (.string ⟨(textS bs a e most).1.toArray⟩) w B g bs (textS bs a e most).2.1 (textS bs a e most).2.2) := by
  unfold textS
  by_cases he : e = 0
  · subst he
    rw [if_pos rfl]
    cases hd : dec 0 0 (bs.drop a) with
    | none => rw [textR_none hd]; exact refT_bad1 B g bs a w most h hd
    | some x =>
      by_cases hneg : most < 0
      · rw [textR_no hd (.inl hneg)]; exact refT_bad2 B g bs a w most x.1 x.2 h hd hneg
      · obtain ⟨m, rfl⟩ := Int.eq_ofNat_of_zero_le (a := most) (by omega)
        by_cases hum : m < x.1
        · rw [textR_no hd (.inr (.inl (by omega)))]; exact refT_bad3 B g bs a w m x.1 x.2 h hd hm2 hum
        · by_cases hul : (bs.drop a).length - x.2 < x.1
          · rw [textR_no hd (.inr (.inr hul))]; exact refT_bad4 B g bs a w m x.1 x.2 h hd hm2 (by omega) (by simpa using hul)
          · rw [textR_ok hd (by omega)]
            have h1 := refT_ok B g bs a w m x.1 x.2 h hd hm2 (by omega) (by omega)
            rw [Nat.add_assoc] at h1
            exact h1
  · rw [if_neg he]
    exact refT_off B g bs a e w most h he

end Go.Proofs.Ytpnhnnhocekchaa
namespace Go.Proofs.Ytpnhnnhocekchaa
set_option linter.unusedVariables false
set_option linter.unusedSimpArgs false
open Go.RowKit

set_option maxRecDepth 100000 in
set_option maxHeartbeats 800000 in
theorem refU_bad (B g : Nat) (bs : List UInt8) (a : Nat) (w : World)  (h : RS w B g bs a 0) (hd : dec 0 0 (bs.drop a) = none) :
    Calls Try.prog 97 #[.pointer (some ⟨g, 0, none⟩)] w (RSRet (.int .u64 0) w B g bs a 20) := by
  obtain ⟨A, c, ⟨c0, c1, c2⟩, hf, h1, h2, h3, h4, hr, hB⟩ := h.parts
  have HN := hide (refnum_cut hr h1 h2 h3 hB hd)
  simp only [numW] at HN
  have H := hide h
  have HA := hide hr
  clear h hr hd
  by_cases hca : c = a
  · have HN1 := HN.out
    rw [if_pos hca, hca, Nat.sub_self] at HN1
    have HN2 := hide HN1
    clear HN HN1
    go_enter Try.func97, Try.ntmps97
    go_wp2_with (fail)
    go_region_with (go_at_call 107; refine (HN2.out w.drew rfl).mono ?_; rintro en w1 ⟨rfl, hfr⟩; have HF : Hid (Fr No w w1) := ⟨hfr.os, hfr.tape, hfr.output, hfr.size, hfr.block⟩; clear hfr; have HR1 := hide (H.out.fr0 HF.out); obtain ⟨A1, k1, ⟨e0, e1, e2⟩, hf1, q1, q2, _, _, _⟩ := HR1.out.parts)
    all_goals (try go_wp2)
    all_goals go_ret
    all_goals exact ⟨rfl, HR1.out.set2 20, (HF.out.any (Is g)).put _ _⟩
  · have HN1 := HN.out
    rw [if_neg hca] at HN1
    have HN2 := hide HN1
    clear HN HN1
    go_enter Try.func97, Try.ntmps97
    go_wp2_with (fail)
    go_region_with (go_at_call 107; refine (HN2.out w.drew rfl).mono ?_; rintro en w1 ⟨rfl, hfr⟩; have HF : Hid (Fr No w w1) := ⟨hfr.os, hfr.tape, hfr.output, hfr.size, hfr.block⟩; clear hfr; have HR1 := hide (H.out.fr0 HF.out); obtain ⟨A1, k1, ⟨e0, e1, e2⟩, hf1, q1, q2, _, _, _⟩ := HR1.out.parts)
    all_goals (try go_wp2)
    all_goals go_ret
    all_goals exact ⟨rfl, HR1.out.set2 20, (HF.out.any (Is g)).put _ _⟩

set_option maxRecDepth 100000 in
set_option maxHeartbeats 800000 in
theorem refU_ok (B g : Nat) (bs : List UInt8) (a : Nat) (w : World) (u k : Nat) (h : RS w B g bs a 0) (hd : dec 0 0 (bs.drop a) = some (u, k)) :
    Calls Try.prog 97 #[.pointer (some ⟨g, 0, none⟩)] w (RSRet (.int .u64 u) w B g bs (a + k) 0) := by
  obtain ⟨A, c, ⟨c0, c1, c2⟩, hf, h1, h2, h3, h4, hr, hB⟩ := h.parts
  have HN := hide (refnum_cut hr h1 h2 h3 hB hd)
  simp only [numW] at HN
  have H := hide h
  have HA := hide hr
  have hk := dec_le _ _ _ _ _ hd
  have hk1 : a + k ≤ bs.length := by have := hk.2; simp at this; omega
  have hk0 : ((k : Int) == 0) = false := by have := hk.1; simp; omega
  have hu := dec_lt _ 0 0 u k (by decide) hd
  clear hk
  clear h hr hd
  by_cases hca : c = a
  · have HN1 := HN.out
    rw [if_pos hca, hca, Nat.sub_self] at HN1
    have HN2 := hide HN1
    clear HN HN1
    go_enter Try.func97, Try.ntmps97
    go_wp2_with (fail)
    go_region_with (go_at_call 107; refine (HN2.out w.drew rfl).mono ?_; rintro en w1 ⟨rfl, hfr⟩; have HF : Hid (Fr No w w1) := ⟨hfr.os, hfr.tape, hfr.output, hfr.size, hfr.block⟩; clear hfr; have HR1 := hide (H.out.fr0 HF.out); obtain ⟨A1, k1, ⟨e0, e1, e2⟩, hf1, q1, q2, _, _, _⟩ := HR1.out.parts)
    all_goals (try go_wp2)
    all_goals go_ret
    all_goals exact ⟨by rfl, HR1.out.set1 _ hk1, (HF.out.any (Is g)).put _ _⟩
  · have HN1 := HN.out
    rw [if_neg hca] at HN1
    have HN2 := hide HN1
    clear HN HN1
    go_enter Try.func97, Try.ntmps97
    go_wp2_with (fail)
    go_region_with (go_at_call 107; refine (HN2.out w.drew rfl).mono ?_; rintro en w1 ⟨rfl, hfr⟩; have HF : Hid (Fr No w w1) := ⟨hfr.os, hfr.tape, hfr.output, hfr.size, hfr.block⟩; clear hfr; have HR1 := hide (H.out.fr0 HF.out); obtain ⟨A1, k1, ⟨e0, e1, e2⟩, hf1, q1, q2, _, _, _⟩ := HR1.out.parts)
    all_goals (try go_wp2)
    all_goals go_ret
    all_goals exact ⟨by rfl, HR1.out.set1 _ hk1, (HF.out.any (Is g)).put _ _⟩

set_option maxRecDepth 100000 in
set_option maxHeartbeats 800000 in
theorem refU_off (B g : Nat) (bs : List UInt8) (a : Nat) (e : Int) (w : World)  (h : RS w B g bs a e) (he : e ≠ 0) :
    Calls Try.prog 97 #[.pointer (some ⟨g, 0, none⟩)] w (RSRet (.int .u64 0) w B g bs a e) := by
  obtain ⟨A, c, ⟨c0, c1, c2⟩, hf, h1, h2, h3, h4, hr, hB⟩ := h.parts
  have hb : (e != 0) = true := by simpa using he
  have H := hide h
  clear h hr he
  go_enter Try.func97, Try.ntmps97
  go_wp2_with (fail)
  go_ret
  exact ⟨rfl, H.out, Fr.refl _ _⟩

set_option maxRecDepth 100000 in
set_option maxHeartbeats 800000 in
theorem refU_nil (w : World)  :
    Calls Try.prog 97 #[.pointer none] w (Ret (.int .u64 0) w) := by
  go_enter Try.func97, Try.ntmps97
  go_wp2_with (fail)
  go_ret
  exact ⟨rfl, rfl⟩

theorem refU_any (B g : Nat) (bs : List UInt8) (a : Nat) (e : Int) (w : World) (h : RS w B g bs a e) :
    Calls Try.prog 97 #[.pointer (some ⟨g, 0, none⟩)] w (RSRet (.int .u64 (uintR bs a e).1) w B g bs (uintR bs a e).2.1 (uintR bs a e).2.2) := by
  unfold uintR
  by_cases he : e = 0
  · subst he
    rw [if_pos rfl]
    cases hd : dec 0 0 (bs.drop a) with
    | none => exact refU_bad B g bs a w h hd
    | some x => exact refU_ok B g bs a w x.1 x.2 h hd
  · rw [if_neg he]
    exact refU_off B g bs a e w h he

set_option maxRecDepth 100000 in
set_option maxHeartbeats 800000 in
theorem back_any (u : Nat) (w : World) (hu : u < 18446744073709551616) :
    Calls Try.prog 98 #[.int .u64 u] w (Ret (.int .i64 (unzz u)) w) := by
  by_cases h0 : u % 2 = 0
  · have HU := hide (show unzz u = ((u / 2 : Nat) : Int) from if_pos h0)
    have hb : (((u : Int) % 2) == 0) = true := by simp; omega
    clear h0
    go_enter Try.func98, Try.ntmps98
    go_wp2
    go_ret
    exact ⟨by rw [HU.out]; simp [wrap64], rfl⟩
  · have HU := hide (show unzz u = -((u / 2 : Nat) : Int) - 1 from if_neg h0)
    have hb : (((u : Int) % 2) == 0) = false := by simp; omega
    clear h0
    go_enter Try.func98, Try.ntmps98
    go_wp2
    go_ret
    exact ⟨by rw [HU.out]; simp [wrap64], rfl⟩

set_option maxRecDepth 100000 in
set_option maxHeartbeats 800000 in
theorem refI_any (B g : Nat) (bs : List UInt8) (a : Nat) (e : Int) (w : World) (h : RS w B g bs a e) :
    Calls Try.prog 68 #[.pointer (some ⟨g, 0, none⟩)] w (RSRet (.int .i64 (unzz (uintR bs a e).1)) w B g bs (uintR bs a e).2.1 (uintR bs a e).2.2) := by
  have H := hide (refU_any B g bs a e w h)
  have HX := hide (fun W => back_any _ W (uintR_lt bs a e))
  clear h
  generalize uintR bs a e = x at H HX
  go_enter Try.func68, Try.ntmps68
  go_wp2_with (first | (go_at_call 97; refine H.out.mono ?_; rintro en w' ⟨rfl, hq⟩; have HQ := hide hq; clear hq) | (go_at_call 98; refine (HX.out _).mono ?_; rintro en w2 ⟨rfl, rfl⟩))
  go_ret
  exact ⟨rfl, HQ.out⟩

set_option maxRecDepth 100000 in
set_option maxHeartbeats 800000 in
theorem refI_nil (w : World) :
    Calls Try.prog 68 #[.pointer none] w (Ret (.int .i64 0) w) := by
  have HX := hide (back_any 0 w (by omega))
  go_enter Try.func68, Try.ntmps68
  go_wp2_with (first | (go_at_call 97; refine (refU_nil _).mono ?_; rintro en w' ⟨rfl, rfl⟩) | (go_at_call 98; refine HX.out.mono ?_; rintro en w2 ⟨rfl, rfl⟩))
  go_ret
  exact ⟨rfl, rfl⟩

end Go.Proofs.Ytpnhnnhocekchaa
