/- Several texts in one: Vals, OffT, BkM, TakeN, TakeB, BkNm, KitI64, WpN, StepA, BkLe, BkLf. -/
import Derived.Test.YtpopbkcbplmcaaaGreatK3
import Derived.Laws.MakeOwn
import Derived.Deep.RegionWith
import Derived.TacticsInMore
import Derived.RegionTactic
import Derived.BigRegion
import Derived.Deep.RegionLaw
import Derived.Deep.DeepCutAuto
import Derived.BigQuiet
namespace Go.Proofs.YtpopbkcbplmcaaaGreat
set_option linter.unusedVariables false
set_option linter.unusedSimpArgs false
open Go.RowKit

theorem Own.apart {w : World} {b1 b2 e1 e2 s1 s2 n1 n2 : Nat} {v1 v2 : Value} {xs1 xs2 : List Value} (h1 : Own w b1 e1 s1 v1 n1 xs1) (h2 : Own w b2 e2 s2 v2 n2 xs2) (hne : e1 ≠ e2) : ∀ k, v1.ownBlock = some k → v2.ownBlock ≠ some k := by
  intro k hk hk2
  obtain ⟨_, A, c, rfl, _, _, hA⟩ := h2
  rcases hA with ⟨rfl, _⟩ | ⟨g, cur, rfl, _, hh, _⟩
  · simp [Value.ownBlock] at hk2
  · have e : g = k := Option.some.inj hk2
    subst e
    exact h1.ne_blk hk hh hne
theorem Own.above {S : Nat → Prop} {w w' : World} {base e size n : Nat} {v : Value} {xs : List Value} (h : Own w base e size v n xs) (f : Fr S w w') (hS : ∀ k, S k → k < base) : Own w' base e size v n xs :=
  h.fr f (fun k hk e => by have := (h.lt k hk).1; have := hS k e; omega)
theorem made_own (w : World) (k : Nat) (e : TypeId) (v : Value) (z : Array Value) (hz : z = #[v]) (hk : k ≤ maxLen) : Own (w.alloc (.cells (madeCells z k) e)) w.heap.size e 1 (.slice (some ⟨w.heap.size, 0, none⟩) k k) k (List.replicate k v) := by
  subst hz
  refine ⟨by simp, _, _, rfl, Nat.le_refl _, hk, .inr ⟨w.heap.size, _, rfl, Nat.le_refl _, heap_alloc_new w _, by rw [size_madeCells]; omega, ?_⟩⟩
  rw [Nat.mul_one, List.take_of_length_le (by rw [Array.length_toList, size_madeCells]; omega)]
  apply List.ext_getElem
  · simp [madeCells]
  · intro i h1 h2
    simp [madeCells, Nat.mod_one]

theorem Fr.putO (w : World) (G j n c : Nat) (v : Value) : Fr (fun k => (Value.slice (some ⟨G, 0, none⟩) n c).ownBlock = some k) w (w.setCell ⟨G, j, none⟩ v) :=
  (Fr.refl (fun k => (Value.slice (some ⟨G, 0, none⟩) n c).ownBlock = some k) w).setCell (p := ⟨G, j, none⟩) (fun _ => (rfl : some G = some G)) v
theorem Own.some_at {w : World} {base e n : Nat} {v : Value} {xs : List Value} (h : Own w base e 1 v n xs) {k : Nat} (hk : k < n) : ∃ u, xs[k]? = some u :=
  ⟨_, List.getElem?_eq_getElem (by have := h.1; omega)⟩
/-- integers as cells. -/
def ints (l : List Nat) : List Value := l.map fun (n : Nat) => .int .i64 n
end Go.Proofs.YtpopbkcbplmcaaaGreat
namespace Go.Proofs.YtpopbkcbplmcaaaGreat
set_option linter.unusedVariables false
set_option linter.unusedSimpArgs false
open Go.RowKit

theorem Own.cellsT {w : World} {base e size n : Nat} {v : Value} {xs : List Value} (h : Own w base e size v n xs) {k : Nat} (hk : v.ownBlock = some k) : base ≤ k ∧ ∃ cs fz, w.heap[k]? = some (.cells cs e fz) := by
  refine ⟨(h.lt k hk).1, ?_⟩
  obtain ⟨_, A, c, rfl, _, _, hA⟩ := h
  rcases hA with ⟨rfl, _⟩ | ⟨g, cur, rfl, _, hh, _⟩
  · cases hk
  · have e : g = k := Option.some.inj hk
    subst e
    exact ⟨_, _, hh⟩
/-- a frame that writes no block of one type. -/
def Off (S : Nat → Prop) (w : World) (t : TypeId) : Prop := ∀ k cs fz, w.heap[k]? = some (.cells cs t fz) → ¬ S k
theorem Own.off {S : Nat → Prop} {w w' : World} {base e size n : Nat} {v : Value} {xs : List Value} (h : Own w base e size v n xs) (f : Fr S w w') (hS : Off S w e) : Own w' base e size v n xs :=
  h.fr f (fun k hk => by
    obtain ⟨_, cs, fz, hh⟩ := h.cellsT hk
    exact hS k cs fz hh)
theorem RD.offT {S : Nat → Prop} {w w' : World} {g : Nat} {bs : List UInt8} {a : Nat} {e : Int} (h : RD w g bs a e) (f : Fr S w w') (h1 : Off S w 76) (h2 : Off S w 5) : RD w' g bs a e := by
  obtain ⟨A, c, hh, q1, q2, q3, q4, ho⟩ := h
  exact ⟨A, c, f.blk hh (h1 _ _ _ hh), q1, q2, q3, q4, ho.off f h2⟩
theorem off_is {w : World} {g : Nat} {cs : Array Value} {t t' : TypeId} {fz : Nat × Nat} (h : w.heap[g]? = some (.cells cs t fz)) (hne : t' ≠ t) : Off (Is g) w t' := by
  intro k cs' fz' hk e
  have e : k = g := e
  subst e
  rw [h] at hk
  injection hk with hk
  injection hk with _ hk _
  exact hne hk.symm
theorem off_own {w : World} {base e size n : Nat} {v : Value} {xs : List Value} (h : Own w base e size v n xs) {t : TypeId} (hne : t ≠ e) : Off (fun k => v.ownBlock = some k) w t := by
  intro k cs fz hk hv
  obtain ⟨_, cs', fz', hh⟩ := h.cellsT hv
  rw [hh] at hk
  injection hk with hk
  injection hk with _ hk _
  exact hne hk.symm


end Go.Proofs.YtpopbkcbplmcaaaGreat
namespace Go.Proofs.YtpopbkcbplmcaaaGreat
set_option linter.unusedVariables false
set_option linter.unusedSimpArgs false
open Go.RowKit

abbrev Po := Pt
def InI (l : List Int) : Prop := ∀ x ∈ l, -9223372036854775808 ≤ x ∧ x ≤ 9223372036854775807
def noPo : Po := noPt
theorem take_snocP {l : List Po} {i : Nat} (h : i < l.length) : l.take (i + 1) = l.take i ++ [l.getD i noPo] := by
  rw [List.take_succ_eq_append_getElem h]
  congr 2
  simp [List.getElem?_eq_getElem h]
theorem getP_mem {b : List Po} {i : Nat} (h : i < b.length) : b.getD i noPo ∈ b := by
  rw [List.getD, List.getElem?_eq_getElem h]; exact List.getElem_mem _
/-- a post, where its positions lie, their slice's capacity. -/
abbrev PoL := Po × Option Addr × Nat
def pRow (p : PoL) : List Value := [.int .i64 p.1.1, .slice p.2.1 p.1.2.length p.2.2]
def pFlat (l : List PoL) : List Value := l.flatMap pRow
theorem pFlat_snoc (l : List PoL) (p : PoL) : pFlat (l ++ [p]) = pFlat l ++ pRow p := by simp [pFlat, List.flatMap_append]
theorem pFlat_len (l : List PoL) : (pFlat l).length = l.length * 2 := by
  induction l with
  | nil => rfl
  | cons p r ih => simp only [pFlat, List.flatMap_cons, List.length_append, List.length_cons] at ih ⊢; simp only [pRow, List.length_cons, List.length_nil]; omega
theorem pFlat_at : ∀ {l : List PoL} {k : Nat} {p : PoL}, l[k]? = some p → (pFlat l)[k * 2]? = some (.int .i64 p.1.1) ∧ (pFlat l)[k * 2 + 1]? = some (.slice p.2.1 p.1.2.length p.2.2)
  | [], k, p, h => by simp at h
  | q :: r, 0, p, h => by simp at h; subst h; exact ⟨rfl, rfl⟩
  | q :: r, k + 1, p, h => by
    have h2 := pFlat_at (l := r) (k := k) (p := p) (by simpa using h)
    have e : pFlat (q :: r) = pRow q ++ pFlat r := rfl
    rw [e, show (k + 1) * 2 = (pRow q).length + k * 2 by simp [pRow]; omega, List.getElem?_append_right (by omega), Nat.add_sub_cancel_left, Nat.add_assoc, List.getElem?_append_right (by omega), Nat.add_sub_cancel_left]
    exact h2
def InI2 (l : List Po) : Prop := ∀ x ∈ l, InI x.2 ∧ -9223372036854775808 ≤ x.1 ∧ x.1 ≤ 9223372036854775807
/-- a row of posts that is read. -/
structure RdPo (w : World) (B : Nat) (A : Option Addr) (l : List Po) : Prop where
  ex : ∃ ps : List PoL, ps.map (·.1) = l ∧ Rd w B A (pFlat ps) ∧ ∀ p ∈ ps, p.1.2.length ≤ p.2.2 ∧ p.2.2 ≤ maxLen ∧ Rd w B p.2.1 (iz .i64 p.1.2)
theorem RdPo.fr {S : Nat → Prop} {w w' : World} {B : Nat} {A : Option Addr} {l : List Po} (h : RdPo w B A l) (f : Fr S w w') (hS : ∀ k, k < B → ¬ S k) : RdPo w' B A l := by
  obtain ⟨ps, h1, h2, h3⟩ := h.ex
  exact ⟨ps, h1, h2.fr f hS, fun p hp => ⟨(h3 p hp).1, (h3 p hp).2.1, (h3 p hp).2.2.fr f hS⟩⟩
theorem RdPo.fr0 {w w' : World} {B : Nat} {A : Option Addr} {l : List Po} (h : RdPo w B A l) (f : Fr No w w') : RdPo w' B A l := h.fr f (fun _ _ h => h)
theorem RdPo.nil (w : World) (B : Nat) : RdPo w B none [] := ⟨[], rfl, Rd.nil _ _ _, fun p hp => nomatch hp⟩
theorem lit_add (a : Addr) (i j : Nat) (hj : j ≠ 0) : (a.add i).add j = ⟨(a.add i).block, (a.add i).off + j, none⟩ := by
  unfold Addr.add
  split <;> split <;> simp_all
/-- a post's two cells. -/
theorem RdPo.at {w : World} {B : Nat} {A : Option Addr} {l : List Po} (h : RdPo w B A l) {k : Nat} (hk : k < l.length) :
    ∃ (ad : Addr) (Ak : Option Addr) (c : Nat), A = some ad ∧ ad.block < B ∧ w.cell? (ad.add (k * 2)) = some (.int .i64 (l.getD k noPo).1) ∧
      w.cell? ⟨(ad.add (k * 2)).block, (ad.add (k * 2)).off + 1, none⟩ = some (.slice Ak (l.getD k noPo).2.length c) ∧ (l.getD k noPo).2.length ≤ c ∧ c ≤ maxLen ∧ Rd w B Ak (iz .i64 (l.getD k noPo).2) := by
  obtain ⟨ps, rfl, h2, h3⟩ := h.ex
  rw [List.length_map] at hk
  obtain ⟨p, hp⟩ : ∃ p, ps[k]? = some p := ⟨_, List.getElem?_eq_getElem hk⟩
  have e : (ps.map (·.1)).getD k noPo = p.1 := by simp [hp]
  rw [e]
  obtain ⟨a1, a2⟩ := pFlat_at hp
  obtain ⟨ad, h4, h5, h6⟩ := h2 _ _ a1
  obtain ⟨ad', h7, h8, h9⟩ := h2 _ _ a2
  rw [h4] at h7
  injection h7 with h7
  subst h7
  have h10 := h3 p (List.mem_of_getElem? hp)
  refine ⟨ad, p.2.1, p.2.2, h4, h5, h6, ?_, h10.1, h10.2.1, h10.2.2⟩
  rw [← lit_add ad (k * 2) 1 (by omega)]
  rw [show (ad.add (k * 2)).add 1 = ad.add (k * 2 + 1) from ?_]
  · exact h9
  · unfold Addr.add
    split <;> split <;> simp_all <;> omega

theorem getZ_mem {p : List Int} {k : Nat} (h : k < p.length) : p.getD k 0 ∈ p := by
  rw [List.getD, List.getElem?_eq_getElem h]
  exact List.getElem_mem _
theorem iz_get {p : List Int} {k : Nat} (h : k < p.length) : (iz .i64 p)[k]? = some (.int .i64 (p.getD k 0)) := by
  simp [iz, List.getElem?_map, List.getElem?_eq_getElem h]
/-- a position that is read. -/
theorem cellInt {w : World} {B : Nat} {A : Option Addr} {p : List Int} (h : Rd w B A (iz .i64 p)) {k : Nat} (hk : k < p.length) : ∃ ad, A = some ad ∧ ad.block < B ∧ w.cell? (ad.add k) = some (.int .i64 (p.getD k 0)) := h k _ (iz_get hk)

theorem add_litP (ad : Addr) (k : Nat) : ad.add (k * 2 + 1) = ⟨(ad.add (k * 2)).block, (ad.add (k * 2)).off + 1, none⟩ := by
  rw [← lit_add ad (k * 2) 1 (by omega)]
  rw [show (ad.add (k * 2)).add 1 = ad.add (k * 2 + 1) from ?_]
  unfold Addr.add
  split <;> split <;> simp_all <;> omega
theorem Tryz.infoBP : (Tryz.prog.info? 46).map (fun i => (i.zero, i.size, i.bytes)) = some (some (.agg #[.int .i64 0, .slice none 0 0]), 2, 32) := by kernel_rfl
theorem Tryz.infoRP : (Tryz.prog.info? 86).map (fun i => (i.zero, i.size, i.bytes)) = some (some (.agg #[.int .i64 0, .slice none 0 0]), 2, 32) := by kernel_rfl
theorem pRow_one (p : PoL) : ∀ u ∈ pRow p, u.oneCell' = true := by
  intro u hu
  simp only [pRow, List.mem_cons, List.not_mem_nil, or_false] at hu
  rcases hu with rfl | rfl <;> rfl
theorem pFlat_one (l : List PoL) : ∀ u ∈ pFlat l, u.oneCell' = true := by
  intro u hu
  obtain ⟨p, _, hp⟩ := List.mem_flatMap.1 hu
  exact pRow_one p u hp
end Go.Proofs.YtpopbkcbplmcaaaGreat
namespace Go.Proofs.YtpopbkcbplmcaaaGreat
set_option linter.unusedVariables false
set_option linter.unusedSimpArgs false
open Go.RowKit

set_option maxRecDepth 100000 in
set_option maxHeartbeats 800000 in
theorem size1_any (r : Value) (b1 b2 : Nat) (most : Int) (A : Option Addr) (n c B : Nat) (bs : List UInt8) (W : World) (hl : bs.length = n) (hn : n ≤ c) (hc : c ≤ maxLen) (hm1 : -9223372036854775808 ≤ most) (hm2 : most ≤ 9223372036854775807) (hr : Rd W B A (by8 bs)) (c1 : W.cell? ⟨b1, 0, none⟩ = some r) (c2 : W.cell? ⟨b2, 0, none⟩ = some (.int .i64 most)) :
    Calls Tryz.prog 37 #[.slice A n c, .pointer (some ⟨b1, 0, none⟩), .pointer (some ⟨b2, 0, none⟩)] W (Ret (sizeV (sizeR bs most)) W) := by
  have HN := hide (number_any r A n c B bs W hl hn hc hr)
  cases hd : dec 0 0 bs with
  | none =>
    have HT := hide (sizeR_none (most := most) hd)
    rw [hd] at HN
    simp only [numV] at HN
    clear hr hl hd
    go_enter Tryz.func37, Tryz.ntmps37
    go_wp2_with (go_at_call 38; refine HN.out.mono ?_; rintro en w' ⟨rfl, rfl⟩)
    go_ret2
    exact ⟨by rw [HT.out]; rfl, rfl⟩
  | some x =>
    obtain ⟨u, k⟩ := x
    rw [hd] at HN
    simp only [numV] at HN
    have hk := dec_le _ _ _ _ _ hd
    have hu := dec_lt _ 0 0 u k (by decide) hd
    by_cases hneg : most < 0
    · have HT := hide (sizeR_no (most := most) hd (.inl hneg))
      clear hr hl hd hk
      go_enter Tryz.func37, Tryz.ntmps37
      go_wp2_with (go_at_call 38; refine HN.out.mono ?_; rintro en w' ⟨rfl, rfl⟩)
      go_ret2
      exact ⟨by rw [HT.out]; rfl, rfl⟩
    · obtain ⟨m, rfl⟩ := Int.eq_ofNat_of_zero_le (a := most) (by omega)
      clear hm1 hneg
      by_cases hum : m < u
      · have HT := hide (sizeR_no (most := m) hd (.inr (by omega)))
        clear hr hl hd hk
        go_enter Tryz.func37, Tryz.ntmps37
        go_wp2_with (go_at_call 38; refine HN.out.mono ?_; rintro en w' ⟨rfl, rfl⟩)
        go_ret2
        exact ⟨by rw [HT.out]; rfl, rfl⟩
      · have HT := hide (sizeR_ok (most := m) hd (by omega))
        have hu2 : u ≤ m := by omega
        clear hr hl hd hk hum hu
        go_enter Tryz.func37, Tryz.ntmps37
        go_wp2_with (go_at_call 38; refine HN.out.mono ?_; rintro en w' ⟨rfl, rfl⟩)
        go_ret2
        exact ⟨by rw [HT.out]; simp [sizeV], rfl⟩

theorem size_cut {w : World} {B : Nat} {A : Option Addr} {bs : List UInt8} {c at_ b1 b2 : Nat} {most : Int} (r : Value) (hm1 : -9223372036854775808 ≤ most) (hm2 : most ≤ 9223372036854775807) (hr : Rd w B A (by8 bs)) (h1 : bs.length ≤ c) (h2 : c ≤ maxLen) (h3 : at_ ≤ bs.length) (c1 : w.cell? ⟨b1, 0, none⟩ = some r) (c2 : w.cell? ⟨b2, 0, none⟩ = some (.int .i64 most)) (nq : Nat) :
    Calls Tryz.prog 37 #[.slice (if c = at_ then A else A.map (·.add at_)) (bs.length - at_) (c - at_), .pointer (some ⟨b1, 0, none⟩), .pointer (some ⟨b2, 0, none⟩)] (w.drewN nq) fun e w' => e = .returned (sizeV (sizeR (bs.drop at_) most)) ∧ w' = w.drewN nq :=
  (size1_any r b1 b2 most _ _ _ B (bs.drop at_) (w.drewN nq) (by simp) (by omega) (by omega) hm1 hm2 (by rw [by8_drop]; exact Rd.cut (w := w) hr (by rw [by8_length]; exact h1)) c1 c2).mono fun _ _ ⟨a, b⟩ => ⟨a, b.symm⟩

section
variable (g : Nat) (bs : List UInt8) (at_ : Nat) (w : World) (b1 b2 : Nat) (most : Int) (hm1 : -9223372036854775808 ≤ most) (hm2 : most ≤ 9223372036854775807) (c1 : w.cell? ⟨b1, 0, none⟩ = some (.pointer (some ⟨g, 0, none⟩))) (c2 : w.cell? ⟨b2, 0, none⟩ = some (.int .i64 most))
include hm1 hm2 c1 c2
set_option maxRecDepth 100000 in
set_option maxHeartbeats 400000 in
theorem takeN_bad (h : RD w g bs at_ 0) (hd : sizeR (bs.drop at_) most = none) :
    Calls Tryz.prog 36 #[.pointer (some ⟨g, 0, none⟩), .func (.func 37) #[] #[.pointer (some ⟨b1, 0, none⟩), .pointer (some ⟨b2, 0, none⟩)]] w (RDRet (.int .i64 0) w g bs at_ 20) := by
  obtain ⟨A, c, ⟨d0, d1, d2⟩, hf, h1, h2, h3, h4, hr⟩ := h.parts
  have HN := hide (size_cut (.pointer (some ⟨g, 0, none⟩)) hm1 hm2 hr h1 h2 h3 c1 c2)
  rw [hd] at HN
  simp only [sizeV] at HN
  have H := hide h
  clear h hr hd c1 c2
  go_enter Tryz.func36, Tryz.ntmps36
  go_wp2_with (fail)
  go_quiet ((go_at_call 37; exact Calls.quiet_of_same (HN.out _)))
  go_wp2
  all_goals
    go_ret
    exact ⟨rfl, (H.out.drewN _).set2 20, ((Fr.refl _ _).drewN _).put _ _⟩

set_option maxRecDepth 100000 in
set_option maxHeartbeats 400000 in
theorem takeN_ok (u k : Nat) (h : RD w g bs at_ 0) (hd : sizeR (bs.drop at_) most = some (u, k)) (hk1 : at_ + k ≤ bs.length) :
    Calls Tryz.prog 36 #[.pointer (some ⟨g, 0, none⟩), .func (.func 37) #[] #[.pointer (some ⟨b1, 0, none⟩), .pointer (some ⟨b2, 0, none⟩)]] w (RDRet (.int .i64 u) w g bs (at_ + k) 0) := by
  obtain ⟨A, c, ⟨d0, d1, d2⟩, hf, h1, h2, h3, h4, hr⟩ := h.parts
  have HN := hide (size_cut (.pointer (some ⟨g, 0, none⟩)) hm1 hm2 hr h1 h2 h3 c1 c2)
  rw [hd] at HN
  simp only [sizeV] at HN
  have H := hide h
  clear h hr hd c1 c2
  go_enter Tryz.func36, Tryz.ntmps36
  go_wp2_with (fail)
  go_quiet ((go_at_call 37; exact Calls.quiet_of_same (HN.out _)))
  go_wp2
  all_goals
    go_ret
    exact ⟨rfl, (H.out.drewN _).set1 _ hk1, ((Fr.refl _ _).drewN _).put _ _⟩
end

set_option maxRecDepth 100000 in
set_option maxHeartbeats 400000 in
theorem takeN_off (g : Nat) (bs : List UInt8) (at_ : Nat) (e : Int) (w : World) (f : Value) (h : RD w g bs at_ e) (he : e ≠ 0) :
    Calls Tryz.prog 36 #[.pointer (some ⟨g, 0, none⟩), f] w (RDRet (.int .i64 0) w g bs at_ e) := by
  obtain ⟨A, c, ⟨c0, c1, c2⟩, hf, h1, h2, h3, h4, hr⟩ := h.parts
  have hb : (e != 0) = true := by simpa using he
  have H := hide h
  clear h hr he
  go_enter Tryz.func36, Tryz.ntmps36
  go_wp2_with (fail)
  go_ret
  exact ⟨rfl, H.out, Fr.refl _ _⟩

set_option maxRecDepth 100000 in
set_option maxHeartbeats 400000 in
theorem takeN_nil (w : World) (f : Value) :
    Calls Tryz.prog 36 #[.pointer none, f] w (Ret (.int .i64 0) w) := by
  go_enter Tryz.func36, Tryz.ntmps36
  go_wp2_with (fail)
  go_ret
  exact ⟨rfl, rfl⟩

theorem takeN_all (g : Nat) (bs : List UInt8) (a : Nat) (e : Int) (w : World) (b1 b2 : Nat) (most : Int) (hm1 : -9223372036854775808 ≤ most) (hm2 : most ≤ 9223372036854775807) (c1 : w.cell? ⟨b1, 0, none⟩ = some (.pointer (some ⟨g, 0, none⟩))) (c2 : w.cell? ⟨b2, 0, none⟩ = some (.int .i64 most)) (h : RD w g bs a e) :
    Calls Tryz.prog 36 #[.pointer (some ⟨g, 0, none⟩), .func (.func 37) #[] #[.pointer (some ⟨b1, 0, none⟩), .pointer (some ⟨b2, 0, none⟩)]] w (RDRet (.int .i64 (sizeS bs a e most).1) w g bs (sizeS bs a e most).2.1 (sizeS bs a e most).2.2) := by
  unfold sizeS
  by_cases he : e = 0
  · subst he
    rw [if_pos rfl]
    cases hd : sizeR (bs.drop a) most with
    | none => exact takeN_bad g bs a w b1 b2 most hm1 hm2 c1 c2 h hd
    | some x => exact takeN_ok g bs a w b1 b2 most hm1 hm2 c1 c2 x.1 x.2 h hd (by
        have h1 := sizeR_le (u := x.1) (k := x.2) hd
        obtain ⟨_, _, _, _, _, h3, _⟩ := h
        simp at h1
        omega)
  · rw [if_neg he]
    exact takeN_off g bs a e w _ h he

set_option maxRecDepth 100000 in
set_option maxHeartbeats 400000 in
theorem sizeN_any (g : Nat) (bs : List UInt8) (a : Nat) (e most : Int) (w : World) (h : RD w g bs a e) (hm1 : -9223372036854775808 ≤ most) (hm2 : most ≤ 9223372036854775807) :
    Calls Tryz.prog 21 #[.pointer (some ⟨g, 0, none⟩), .int .i64 most] w (RDRet (.int .i64 (sizeS bs a e most).1) w g bs (sizeS bs a e most).2.1 (sizeS bs a e most).2.2) := by
  have H := hide (fun t1 t2 => takeN_all g bs a e _ w.heap.size (w.heap.size + 1) most hm1 hm2 (box1 w (.pointer (some ⟨g, 0, none⟩)) (.int .i64 most) t1 t2) (box2 w (.pointer (some ⟨g, 0, none⟩)) (.int .i64 most) t1 t2) (h.fr0 (((Fr.refl No w).alloc _).alloc _)))
  clear h
  generalize sizeS bs a e most = x at H
  go_enter Tryz.func21, Tryz.ntmps21
  go_wp2_with (go_at_call 36; refine (H.out _ _).mono ?_; rintro en w' ⟨rfl, hq⟩; have HQ := hide hq; clear hq)
  go_ret
  exact ⟨rfl, HQ.out.1, (((Fr.refl (Is g) w).alloc _).alloc _).ts HQ.out.2⟩

set_option maxRecDepth 100000 in
set_option maxHeartbeats 400000 in
theorem size_nil (most : Int) (w : World) :
    Calls Tryz.prog 21 #[.pointer none, .int .i64 most] w (fun en w' => en = .returned (.int .i64 0) ∧ Fr No w w') := by
  go_enter Tryz.func21, Tryz.ntmps21
  go_wp2_with (go_at_call 36; refine (takeN_nil _ _).mono ?_; rintro en w' ⟨rfl, rfl⟩)
  go_ret
  exact ⟨rfl, ((Fr.refl No w).alloc _).alloc _⟩

end Go.Proofs.YtpopbkcbplmcaaaGreat
namespace Go.Proofs.YtpopbkcbplmcaaaGreat
set_option linter.unusedVariables false
set_option linter.unusedSimpArgs false
open Go.RowKit

set_option maxRecDepth 100000 in
set_option maxHeartbeats 800000 in
theorem bytes1_bad (b2 : Nat) (x : Int) (A : Option Addr) (n c : Nat) (W : World) (hn : n ≤ c) (hc : c ≤ maxLen) (hx : x < 0 ∨ (n : Int) < x) (c2 : W.cell? ⟨b2, 0, none⟩ = some (.int .i64 x)) :
    Calls Tryz.prog 63 #[.slice A n c, .pointer (some ⟨b2, 0, none⟩)] W (Ret (.tuple #[.slice none 0 0, .int .i64 (-1)]) W) := by
  unfold maxLen at hc
  by_cases h0 : x < 0
  all_goals
    go_enter Tryz.func63, Tryz.ntmps63
    go_wp2
    go_ret2
    exact ⟨rfl, rfl⟩

set_option maxRecDepth 100000 in
set_option maxHeartbeats 800000 in
theorem bytes1_ok (b2 k : Nat) (A : Option Addr) (n c B : Nat) (t : List UInt8) (W : World) (hk : k ≤ n) (hn : n ≤ c) (hc : c ≤ maxLen) (hb : n ≤ 140737488355328) (hB : B ≤ W.heap.size) (ht : t.length = k) (hr : Rd W B A (by8 t)) (c2 : W.cell? ⟨b2, 0, none⟩ = some (.int .i64 k)) :
    Calls Tryz.prog 63 #[.slice A n c, .pointer (some ⟨b2, 0, none⟩)] W (fun en w' => ∃ v, en = .returned (.tuple #[v, .int .i64 k]) ∧ Own w' W.heap.size 5 1 v k (by8 t) ∧ Fr No W w') := by
  have HC := hide hc
  unfold maxLen at hc
  have HR := hide hr
  have HB := hide hB
  have HT := hide ht
  have hkc : k ≤ c := by omega
  have hkb : k ≤ 140737488355328 := by omega
  clear hr hB ht
  go_enter Tryz.func63, Tryz.ntmps63
  go_wp2
  go_region_with (first
    | (go_at_call 35; refine (clone_any A k c B t _ HT.out hkc HC.out hkb ?_ ?_).mono ?_; exact HB.out; exact HR.out; rintro en w1 ⟨v1, rfl, hown, hfr⟩; obtain ⟨A1, c1, rfl, hq1, hq2, _⟩ := hown.form; have c2' : w1.cell? ⟨b2, 0, none⟩ = some (.int .i64 k) := hfr.cell (p := ⟨b2, 0, none⟩) c2 (fun h => h); have HO : Hid (Own w1 W.heap.size 5 1 (.slice A1 t.length c1) t.length (by8 t)) := hown; have HF : Hid (Fr No W w1) := ⟨hfr.os, hfr.tape, hfr.output, hfr.size, hfr.block⟩; clear hown hfr)
    | (go_at_call 64; refine (clip_any A1 t.length c1 _ hq1 hq2).mono ?_; rintro en w2 ⟨rfl, rfl⟩))
  all_goals (try go_wp2)
  all_goals go_ret2
  all_goals
    refine ⟨_, rfl, ?_, ?_⟩
    · have h := HO.out.clip
      rw [HT.out] at h
      rw [HT.out]
      exact h
    · exact HF.out

/-- bytes of a reader: new ones. -/
def GivesRB (s : List UInt8) (w : World) (g : Nat) (bs : List UInt8) (a : Nat) (e : Int) (en : Ending) (w' : World) : Prop :=
  ∃ v, en = .returned v ∧ Own w' w.heap.size 5 1 v s.length (by8 s) ∧ RD w' g bs a e ∧ Fr (Is g) w w'

/-- .., and the reader's bytes lie where they lay. -/
def Same0 (w : World) (g : Nat) (w' : World) : Prop := w'.cell? ⟨g, 0, none⟩ = w.cell? ⟨g, 0, none⟩

def RDRetC (v : Value) (w : World) (g : Nat) (bs : List UInt8) (a : Nat) (e : Int) (en : Ending) (w' : World) : Prop := RDRet v w g bs a e en w' ∧ Same0 w g w'

def GivesRC (s : List UInt8) (w : World) (g : Nat) (bs : List UInt8) (a : Nat) (e : Int) (en : Ending) (w' : World) : Prop := GivesRB s w g bs a e en w' ∧ Same0 w g w'

theorem Same0.put {w w' : World} {g : Nat} (h : Same0 w g w') (i : Nat) (hi : i ≠ 0) (v : Value) : Same0 w g (w'.setCell ⟨g, i, none⟩ v) :=
  (World.cell?_setCell_other w' ⟨g, i, none⟩ ⟨g, 0, none⟩ v (by intro h; injection h; exact hi (by assumption))).trans h

theorem Same0.fr {w w' : World} {g : Nat} {v : Value} (h : w.cell? ⟨g, 0, none⟩ = some v) (f : Fr No w w') : Same0 w g w' := (f.cell (p := ⟨g, 0, none⟩) h (fun h => h)).trans h.symm

theorem Same0.drewN (w : World) (g n : Nat) : Same0 w g (w.drewN n) := rfl

set_option maxRecDepth 100000 in
set_option maxHeartbeats 400000 in
theorem takeB_bad (g : Nat) (bs : List UInt8) (a b2 : Nat) (x : Int) (w : World) (h : RD w g bs a 0) (c2 : w.cell? ⟨b2, 0, none⟩ = some (.int .i64 x)) (hx : x < 0 ∨ ((bs.length - a : Nat) : Int) < x) :
    Calls Tryz.prog 62 #[.pointer (some ⟨g, 0, none⟩), .func (.func 63) #[] #[.pointer (some ⟨b2, 0, none⟩)]] w (RDRetC (.slice none 0 0) w g bs a 20) := by
  obtain ⟨A, c, ⟨d0, d1, d2⟩, hf, h1, h2, h3, h4, hr⟩ := h.parts
  have HN : Hid (∀ nq, Calls Tryz.prog 63 #[.slice (if c = a then A else A.map (·.add a)) (bs.length - a) (c - a), .pointer (some ⟨b2, 0, none⟩)] (w.drewN nq) fun e w' => e = .returned (.tuple #[.slice none 0 0, .int .i64 (-1)]) ∧ w' = w.drewN nq) := fun nq =>
    (bytes1_bad b2 x _ _ _ (w.drewN nq) (by omega) (by omega) hx c2).mono fun _ _ ⟨p, q⟩ => ⟨p, q.symm⟩
  have H := hide h
  clear h hr hx c2
  go_enter Tryz.func62, Tryz.ntmps62
  go_wp2_with (fail)
  go_quiet ((go_at_call 63; exact Calls.quiet_of_same (HN.out _)))
  go_wp2
  all_goals
    go_ret
    exact ⟨⟨rfl, (H.out.drewN _).set2 20, ((Fr.refl _ _).drewN _).put _ _⟩, (Same0.drewN _ _ _).put 2 (by omega) _⟩

set_option maxRecDepth 100000 in
set_option maxHeartbeats 800000 in
theorem takeB_ok (g : Nat) (bs : List UInt8) (a b2 k : Nat) (w : World) (h : RD w g bs a 0) (c2 : w.cell? ⟨b2, 0, none⟩ = some (.int .i64 k)) (hk : a + k ≤ bs.length) :
    Calls Tryz.prog 62 #[.pointer (some ⟨g, 0, none⟩), .func (.func 63) #[] #[.pointer (some ⟨b2, 0, none⟩)]] w (GivesRC ((bs.drop a).take k) w g bs (a + k) 0) := by
  obtain ⟨A, c, ⟨d0, d1, d2⟩, hf, h1, h2, h3, h4, hr⟩ := h.parts
  have htl : ((bs.drop a).take k).length = k := by simp; omega
  have hrt : Rd w w.heap.size (if c = a then A else A.map (·.add a)) (by8 ((bs.drop a).take k)) := by
    rw [by8_take, by8_drop]
    exact (hr.cut (by rw [by8_length]; exact h1)).tk k
  have HN : Hid (∀ w', w'.heap = w.heap → Calls Tryz.prog 63 #[.slice (if c = a then A else A.map (·.add a)) (bs.length - a) (c - a), .pointer (some ⟨b2, 0, none⟩)] w' (fun en w2 => ∃ v, en = .returned (.tuple #[v, .int .i64 k]) ∧ Own w2 w'.heap.size 5 1 v k (by8 ((bs.drop a).take k)) ∧ Fr No w' w2)) := by
    intro w' hw
    have hcell : ∀ p, w'.cell? p = w.cell? p := fun p => by simp [World.cell?, hw]
    refine bytes1_ok b2 k _ _ _ w'.heap.size _ w' (by omega) (by omega) (by omega) (by omega) (Nat.le_refl _) htl ?_ (by rw [hcell]; exact c2)
    intro j u hu
    obtain ⟨ad, e, hb, hcc⟩ := hrt j u hu
    exact ⟨ad, e, by rw [hw]; exact hb, by rw [hcell]; exact hcc⟩
  have H := hide h
  have HTL := hide htl
  generalize (bs.drop a).take k = t at HN HTL
  clear h hr hrt c2 htl
  by_cases hca : c = a
  · have HN1 := HN.out
    rw [if_pos hca, hca, Nat.sub_self] at HN1
    have HN2 := hide HN1
    clear HN HN1
    go_enter Tryz.func62, Tryz.ntmps62
    go_wp2_with (fail)
    go_region_with (go_at_call 63; refine (HN2.out w.drew rfl).mono ?_; rintro en w1 ⟨v1, rfl, hown, hfr⟩; have HO : Hid (Own w1 w.heap.size 5 1 v1 k (by8 t)) := hown; have HF : Hid (Fr No w w1) := ⟨hfr.os, hfr.tape, hfr.output, hfr.size, hfr.block⟩; clear hown hfr; have HR1 := hide (H.out.fr0 HF.out); obtain ⟨A1, k1, ⟨e0, e1, e2⟩, hf1, _⟩ := HR1.out.parts)
    all_goals (try go_wp2)
    all_goals go_ret
    all_goals
      refine ⟨⟨_, rfl, ?_, HR1.out.set1 _ hk, (HF.out.any (Is g)).put _ _⟩, (Same0.fr d0 HF.out).put 1 (by omega) _⟩
      rw [HTL.out]
      refine HO.out.fr ((Fr.refl (Is g) w1).put 1 _) ?_
      rintro g' hg' rfl
      obtain ⟨_, _, hh, _⟩ := HR1.out
      exact HO.out.ne_blk hg' hh (by decide)
  · have HN1 := HN.out
    rw [if_neg hca] at HN1
    have HN2 := hide HN1
    clear HN HN1
    go_enter Tryz.func62, Tryz.ntmps62
    go_wp2_with (fail)
    go_region_with (go_at_call 63; refine (HN2.out w.drew rfl).mono ?_; rintro en w1 ⟨v1, rfl, hown, hfr⟩; have HO : Hid (Own w1 w.heap.size 5 1 v1 k (by8 t)) := hown; have HF : Hid (Fr No w w1) := ⟨hfr.os, hfr.tape, hfr.output, hfr.size, hfr.block⟩; clear hown hfr; have HR1 := hide (H.out.fr0 HF.out); obtain ⟨A1, k1, ⟨e0, e1, e2⟩, hf1, _⟩ := HR1.out.parts)
    all_goals (try go_wp2)
    all_goals go_ret
    all_goals
      refine ⟨⟨_, rfl, ?_, HR1.out.set1 _ hk, (HF.out.any (Is g)).put _ _⟩, (Same0.fr d0 HF.out).put 1 (by omega) _⟩
      rw [HTL.out]
      refine HO.out.fr ((Fr.refl (Is g) w1).put 1 _) ?_
      rintro g' hg' rfl
      obtain ⟨_, _, hh, _⟩ := HR1.out
      exact HO.out.ne_blk hg' hh (by decide)

set_option maxRecDepth 100000 in
set_option maxHeartbeats 400000 in
theorem takeB_off (g : Nat) (bs : List UInt8) (at_ : Nat) (e : Int) (w : World) (f : Value) (h : RD w g bs at_ e) (he : e ≠ 0) :
    Calls Tryz.prog 62 #[.pointer (some ⟨g, 0, none⟩), f] w (RDRetC (.slice none 0 0) w g bs at_ e) := by
  obtain ⟨A, c, ⟨c0, c1, c2⟩, hf, h1, h2, h3, h4, hr⟩ := h.parts
  have hb : (e != 0) = true := by simpa using he
  have H := hide h
  clear h hr he
  go_enter Tryz.func62, Tryz.ntmps62
  go_wp2_with (fail)
  go_ret
  exact ⟨⟨rfl, H.out, Fr.refl _ _⟩, rfl⟩

set_option maxRecDepth 100000 in
set_option maxHeartbeats 400000 in
theorem takeB_nil (w : World) (f : Value) :
    Calls Tryz.prog 62 #[.pointer none, f] w (Ret (.slice none 0 0) w) := by
  go_enter Tryz.func62, Tryz.ntmps62
  go_wp2_with (fail)
  go_ret
  exact ⟨rfl, rfl⟩

theorem GivesRB.nil {w : World} {g : Nat} {bs : List UInt8} {a : Nat} {e : Int} {en : Ending} {w' : World} (h : RDRet (.slice none 0 0) w g bs a e en w') : GivesRB [] w g bs a e en w' :=
  ⟨_, h.1, Own.nil _ _ _ _, h.2.1, h.2.2⟩

theorem GivesRC.nil {w : World} {g : Nat} {bs : List UInt8} {a : Nat} {e : Int} {en : Ending} {w' : World} (h : RDRetC (.slice none 0 0) w g bs a e en w') : GivesRC [] w g bs a e en w' := ⟨GivesRB.nil h.1, h.2⟩

theorem takeB_all (g : Nat) (bs : List UInt8) (a b2 : Nat) (e x : Int) (w : World) (h : RD w g bs a e) (c2 : w.cell? ⟨b2, 0, none⟩ = some (.int .i64 x)) :
    Calls Tryz.prog 62 #[.pointer (some ⟨g, 0, none⟩), .func (.func 63) #[] #[.pointer (some ⟨b2, 0, none⟩)]] w (GivesRC (bytesS bs a e x).1 w g bs (bytesS bs a e x).2.1 (bytesS bs a e x).2.2) := by
  unfold bytesS
  by_cases he : e = 0
  · subst he
    rw [if_pos rfl]
    unfold bytesR
    by_cases hx : x < 0 ∨ ((bs.drop a).length : Int) < x
    · rw [if_pos hx]
      exact (takeB_bad g bs a b2 x w h c2 (by simpa using hx)).mono fun _ _ h => GivesRC.nil h
    · rw [if_neg hx]
      obtain ⟨k, rfl⟩ := Int.eq_ofNat_of_zero_le (a := x) (by omega)
      exact takeB_ok g bs a b2 k w h c2 (by
        obtain ⟨_, _, _, _, _, h3, _⟩ := h
        simp at hx
        omega)
  · rw [if_neg he]
    exact (takeB_off g bs a e w _ h he).mono fun _ _ h => GivesRC.nil h

set_option maxRecDepth 100000 in
set_option maxHeartbeats 400000 in
theorem bytes_anyC (g : Nat) (bs : List UInt8) (a : Nat) (e x : Int) (w : World) (h : RD w g bs a e) :
    Calls Tryz.prog 39 #[.pointer (some ⟨g, 0, none⟩), .int .i64 x] w (GivesRC (bytesS bs a e x).1 w g bs (bytesS bs a e x).2.1 (bytesS bs a e x).2.2) := by
  have H := hide (fun t => takeB_all g bs a w.heap.size e x _ (h.fr0 ((Fr.refl No w).alloc _)) (box0 w (.int .i64 x) t))
  have H00 : Hid (∀ t, (w.alloc (.cells #[.int .i64 x] t)).cell? ⟨g, 0, none⟩ = w.cell? ⟨g, 0, none⟩) := fun t => by
    obtain ⟨_, _, ⟨q, _⟩, _⟩ := h.parts
    exact Same0.fr q ((Fr.refl No w).alloc _)
  clear h
  generalize bytesS bs a e x = y at H
  go_enter Tryz.func39, Tryz.ntmps39
  go_wp2_with (go_at_call 62; refine (H.out _).mono ?_; rintro en w' ⟨⟨v, rfl, hq⟩, h0⟩; have HQ := hide hq; have H0 : Hid (Same0 w g w') := hide (h0.trans (H00.out _)); clear hq h0)
  go_ret
  exact ⟨⟨_, rfl, HQ.out.1.lower (by simp), HQ.out.2.1, ((Fr.refl (Is g) w).alloc _).ts HQ.out.2.2⟩, H0.out⟩

theorem bytes_any (g : Nat) (bs : List UInt8) (a : Nat) (e x : Int) (w : World) (h : RD w g bs a e) :
    Calls Tryz.prog 39 #[.pointer (some ⟨g, 0, none⟩), .int .i64 x] w (GivesRB (bytesS bs a e x).1 w g bs (bytesS bs a e x).2.1 (bytesS bs a e x).2.2) := (bytes_anyC g bs a e x w h).mono fun _ _ h => h.1

set_option maxRecDepth 100000 in
set_option maxHeartbeats 400000 in
theorem bytes_nil (x : Int) (w : World) :
    Calls Tryz.prog 39 #[.pointer none, .int .i64 x] w (fun en w' => en = .returned (.slice none 0 0) ∧ Fr No w w') := by
  go_enter Tryz.func39, Tryz.ntmps39
  go_wp2_with (go_at_call 62; refine (takeB_nil _ _).mono ?_; rintro en w' ⟨rfl, rfl⟩)
  go_ret
  exact ⟨rfl, (Fr.refl No w).alloc _⟩

/-- where a reader's bytes lie: below M. -/
def At0 (w : World) (g M : Nat) : Prop := ∀ A n c, w.cell? ⟨g, 0, none⟩ = some (.slice A n c) → ∀ k, (Value.slice A n c).ownBlock = some k → k < M

theorem At0.of {w : World} {g : Nat} {bs : List UInt8} {a : Nat} {e : Int} (h : RD w g bs a e) : At0 w g w.heap.size := by
  obtain ⟨A, c, hh, h1, h2, h3, h4, ho⟩ := h
  intro A' n' c' hc k hk
  rw [cell_of_row w g 0 _ _ (0, 0) hh] at hc
  have : Value.slice A bs.length c = .slice A' n' c' := by simpa using hc
  rw [← this] at hk
  exact (ho.lt k hk).2

theorem At0.same {w w' : World} {g M : Nat} (h : At0 w g M) (f : Same0 w g w') : At0 w' g M := by
  intro A n c hc k hk
  exact h A n c (f.symm.trans hc) k hk

/-- stores into blocks from M on leave a reader alone, if it and its bytes lie below M. -/
theorem RD.above {S : Nat → Prop} {w w' : World} {g M : Nat} {bs : List UInt8} {a : Nat} {e : Int} (h : RD w g bs a e) (h0 : At0 w g M) (hg : g < M) (f : Fr S w w') (hS : ∀ k, k < M → ¬ S k) : RD w' g bs a e := by
  obtain ⟨A, c, hh, h1, h2', h3, h4, ho⟩ := h
  refine ⟨A, c, f.blk hh (hS g hg), h1, h2', h3, h4, ho.fr f ?_⟩
  intro k hk
  exact hS k (h0 A bs.length c (by rw [cell_of_row w g 0 _ _ (0, 0) hh]; rfl) k hk)

end Go.Proofs.YtpopbkcbplmcaaaGreat
namespace Go.Proofs.YtpopbkcbplmcaaaGreat
set_option linter.unusedVariables false
set_option linter.unusedSimpArgs false
open Go.RowKit

set_option maxRecDepth 100000 in
set_option maxHeartbeats 400000 in
theorem bgood_ok (w : World) : Calls Tryz.prog 22 #[.bool true] w (fun en w' => (∃ r, en = .returned r) ∧ w = w') := by
  go_enter Tryz.func22, Tryz.ntmps22
  go_wp2
  go_end0
  exact ⟨⟨_, rfl⟩, rfl⟩
set_option maxRecDepth 100000 in
set_option maxHeartbeats 400000 in
theorem bgood_bad (w : World) : Calls Tryz.prog 22 #[.bool false] w (fun en w' => en = .panicked [{ v := .iface 51 (.agg #[]), recovered := false }] ∧ w = w') := by
  go_enter Tryz.func22, Tryz.ntmps22
  go_wp2
  first | exact ⟨rfl, rfl⟩ | (unfold bodyPost; exact ⟨rfl, rfl⟩) | (simp [bodyPost])
def chainB : List PanicEntry := [{ v := .iface 51 (.agg #[]), recovered := false }]

/-- cells that are read, in blocks of a set. -/
def RdN (w : World) (N : Nat → Prop) (A : Option Addr) (l : List Value) : Prop := ∀ (j : Nat) u, l[j]? = some u → ∃ ad, A = some ad ∧ N ad.block ∧ w.cell? (ad.add j) = some u
theorem RdN.fr {S N : Nat → Prop} {w w' : World} {A : Option Addr} {l : List Value} (h : RdN w N A l) (f : Fr S w w') (hS : ∀ k, N k → ¬ S k) : RdN w' N A l := fun j u hu => by
  obtain ⟨ad, h1, h2, h3⟩ := h j u hu
  exact ⟨ad, h1, h2, f.cell h3 (by rw [block_of_add]; exact hS _ h2)⟩
theorem RdN.mono {N N' : Nat → Prop} {w : World} {A : Option Addr} {l : List Value} (h : RdN w N A l) (hN : ∀ k, N k → N' k) : RdN w N' A l := fun j u hu => by
  obtain ⟨ad, h1, h2, h3⟩ := h j u hu
  exact ⟨ad, h1, hN _ h2, h3⟩
theorem RdN.rd {N : Nat → Prop} {w : World} {B : Nat} {A : Option Addr} {l : List Value} (h : RdN w N A l) (hN : ∀ k, N k → k < B) : Rd w B A l := h.mono hN
/-- blocks of numbers in a part of the memory. -/
def InT (w : World) (lo hi k : Nat) : Prop := lo ≤ k ∧ k < hi ∧ ∃ cs fz, w.heap[k]? = some (.cells cs 2 fz)
theorem InT.fr {S : Nat → Prop} {w w' : World} {lo hi k : Nat} (h : InT w lo hi k) (f : Fr S w w') (hS : ¬ S k) : InT w' lo hi k := by
  obtain ⟨h1, h2, cs, fz, h3⟩ := h
  exact ⟨h1, h2, cs, fz, f.blk h3 hS⟩
/-- a point's numbers are read. -/
def PtN (w : World) (N : Nat → Prop) (p : PoL) : Prop := p.1.2.length ≤ p.2.2 ∧ p.2.2 ≤ maxLen ∧ RdN w N p.2.1 (iz .i64 p.1.2)
theorem PtN.fr {S N : Nat → Prop} {w w' : World} {p : PoL} (h : PtN w N p) (f : Fr S w w') (hS : ∀ k, N k → ¬ S k) : PtN w' N p := ⟨h.1, h.2.1, h.2.2.fr f hS⟩
theorem PtN.mono {N N' : Nat → Prop} {w : World} {p : PoL} (h : PtN w N p) (hN : ∀ k, N k → N' k) : PtN w N' p := ⟨h.1, h.2.1, h.2.2.mono hN⟩
theorem PtN.off {S : Nat → Prop} {w w' : World} {lo hi : Nat} {p : PoL} (h : PtN w (InT w lo hi) p) (f : Fr S w w') (ho : Off S w 2) : PtN w' (InT w' lo hi) p := by
  have hS : ∀ k, InT w lo hi k → ¬ S k := fun k ⟨_, _, cs, fz, hk⟩ => ho k cs fz hk
  exact (h.fr f hS).mono fun k hk => hk.fr f (hS k hk)
theorem PtN.fr0 {w w' : World} {lo hi : Nat} {p : PoL} (h : PtN w (InT w lo hi) p) (f : Fr No w w') : PtN w' (InT w' lo hi) p := h.off f (fun _ _ _ _ h => h)
theorem PtN.up {w : World} {lo hi hi' : Nat} {p : PoL} (h : PtN w (InT w lo hi) p) (hh : hi ≤ hi') : PtN w (InT w lo hi') p := h.mono fun k ⟨h1, h2, h3⟩ => ⟨h1, by omega, h3⟩
/-- .. and a row of numbers is written that lies above. -/
theorem PtN.above {S : Nat → Prop} {w w' : World} {lo hi : Nat} {p : PoL} (h : PtN w (InT w lo hi) p) (f : Fr S w w') (hS : ∀ k, S k → hi ≤ k) : PtN w' (InT w' lo hi) p := by
  have hS' : ∀ k, InT w lo hi k → ¬ S k := fun k ⟨_, h2, _⟩ hs => by have := hS k hs; omega
  exact (h.fr f hS').mono fun k hk => hk.fr f (hS' k hk)
/-- a point whose numbers are the call's own. -/
theorem PtN.own {w : World} {b lo n c : Nat} {A : Option Addr} {p : Pt} (h : Own w b 2 1 (.slice A n c) n (iz .i64 p.2)) (hl : lo ≤ b) : PtN w (InT w lo w.heap.size) (p, A, c) := by
  have h1 := h.le
  have hn : p.2.length = n := by have := h.1; simp [iz] at this; omega
  refine ⟨by rw [hn]; exact h1.2.1, h1.2.2, fun j u hu => ?_⟩
  obtain ⟨ad, e, h2, h3⟩ := h.rd j u hu
  refine ⟨ad, e, ?_, h3⟩
  subst e
  obtain ⟨h4, cs, fz, h5⟩ := h.cellsT (k := ad.block) rfl
  exact ⟨by omega, h2, cs, fz, h5⟩
/-- blocks that are left alone while nodes are read. -/
def Done (w : World) (g gr : Nat) (v : Value) (k : Nat) : Prop := k < w.heap.size ∧ k ≠ g ∧ k ≠ gr ∧ v.ownBlock ≠ some k
/-- blocks that are written. -/
def S3 (g gr : Nat) (v : Value) (k : Nat) : Prop := k = g ∨ k = gr ∨ v.ownBlock = some k
theorem Done.no {w : World} {g gr k : Nat} {v : Value} (h : Done w g gr v k) : ¬ S3 g gr v k := by
  rintro (e | e | e)
  · exact h.2.1 e
  · exact h.2.2.1 e
  · exact h.2.2.2 e
theorem Done.next {w w' : World} {g gr k : Nat} {v v' : Value} (h : Done w g gr v k) (hz : w.heap.size ≤ w'.heap.size) (hv : ∀ j, v'.ownBlock = some j → v.ownBlock = some j ∨ w.heap.size ≤ j) : Done w' g gr v' k :=
  ⟨by have := h.1; omega, h.2.1, h.2.2.1, fun e => by
    rcases hv k e with h1 | h1
    · exact h.2.2.2 h1
    · have := h.1; omega⟩
/-- a tree in memory. -/
def TreeM (w : World) (N : Nat → Prop) : TreeT → Nat → Prop
  | .leaf l, g => N g ∧ ∃ A c ps, w.heap[g]? = some (.cells #[.slice A l.length c, .int .i64 0, .int .i64 0, .pointer none, .pointer none] 71 (0, 0)) ∧ l.length ≤ c ∧ c ≤ maxLen ∧ ps.map (·.1) = l ∧ RdN w N A (pFlat ps) ∧ ∀ p ∈ ps, PtN w N p
  | .cut d c a b, g => N g ∧ ∃ ga gb, w.heap[g]? = some (.cells #[.slice none 0 0, .int .i64 (d : Nat), .int .i64 c, .pointer (some ⟨ga, 0, none⟩), .pointer (some ⟨gb, 0, none⟩)] 71 (0, 0)) ∧ TreeM w N a ga ∧ TreeM w N b gb
theorem TreeM.fr {S N : Nat → Prop} {w w' : World} (f : Fr S w w') (hS : ∀ k, N k → ¬ S k) : ∀ {t : TreeT} {g : Nat}, TreeM w N t g → TreeM w' N t g
  | .leaf l, g, ⟨h1, A, c, ps, h2, h3, h4, h5, h6, h7⟩ => ⟨h1, A, c, ps, f.blk h2 (hS g h1), h3, h4, h5, h6.fr f hS, fun p hp => (h7 p hp).fr f hS⟩
  | .cut d c a b, g, ⟨h1, ga, gb, h2, h3, h4⟩ => ⟨h1, ga, gb, f.blk h2 (hS g h1), TreeM.fr f hS h3, TreeM.fr f hS h4⟩
theorem TreeM.mono {N N' : Nat → Prop} {w : World} (hN : ∀ k, N k → N' k) : ∀ {t : TreeT} {g : Nat}, TreeM w N t g → TreeM w N' t g
  | .leaf l, g, ⟨h1, A, c, ps, h2, h3, h4, h5, h6, h7⟩ => ⟨hN g h1, A, c, ps, h2, h3, h4, h5, h6.mono hN, fun p hp => (h7 p hp).mono hN⟩
  | .cut d c a b, g, ⟨h1, ga, gb, h2, h3, h4⟩ => ⟨hN g h1, ga, gb, h2, TreeM.mono hN h3, TreeM.mono hN h4⟩
/-- the reader of nodes: its bytes, its points. -/
structure ND (w : World) (base g gr dims : Nat) (bs : List UInt8) (a : Nat) (e : Int) (v : Value) (ps : List PoL) : Prop where
  rd : RD w g bs a e
  row : w.heap[gr]? = some (.cells #[.pointer (some ⟨g, 0, none⟩), .int .i64 (dims : Nat), v] 58 (0, 0))
  own : Own w base 46 2 v ps.length (pFlat ps)
  pts : ∀ p ∈ ps, PtN w (InT w 0 w.heap.size) p
section
variable {w w' : World} {base g gr dims a : Nat} {bs : List UInt8} {e : Int} {v : Value} {ps : List PoL}
theorem RD.blkB (h : RD w g bs a e) : ∃ cs fz, w.heap[g]? = some (.cells cs 76 fz) := by
  obtain ⟨A, c, hh, _⟩ := h
  exact ⟨_, _, hh⟩
theorem ND.ne (h : ND w base g gr dims bs a e v ps) : g ≠ gr := by
  rintro rfl
  obtain ⟨cs, fz, h1⟩ := h.rd.blkB
  rw [h.row] at h1
  injection h1 with h1
  injection h1 with _ h1 _
  exact absurd h1 (by decide)
theorem ND.vg (h : ND w base g gr dims bs a e v ps) : v.ownBlock ≠ some g := by
  obtain ⟨cs, fz, h1⟩ := h.rd.blkB
  exact fun hk => h.own.ne_blk hk h1 (by decide)
theorem ND.vgr (h : ND w base g gr dims bs a e v ps) : v.ownBlock ≠ some gr := fun hk => h.own.ne_blk hk h.row (by decide)
theorem ND.lt (h : ND w base g gr dims bs a e v ps) : g < w.heap.size ∧ gr < w.heap.size := ⟨h.rd.lt, (Array.getElem?_eq_some_iff.1 h.row).1⟩
theorem ND.fr0 (h : ND w base g gr dims bs a e v ps) (f : Fr No w w') : ND w' base g gr dims bs a e v ps :=
  ⟨h.rd.fr0 f, f.blk h.row (fun h => h), h.own.fr0 f, fun p hp => ((h.pts p hp).fr0 f).up f.size⟩
/-- the reader has gone on. -/
theorem ND.read {a' : Nat} {e' : Int} (h : ND w base g gr dims bs a e v ps) (f : Fr (Is g) w w') (hr : RD w' g bs a' e') : ND w' base g gr dims bs a' e' v ps := by
  obtain ⟨cs, fz, hh⟩ := h.rd.blkB
  exact ⟨hr, f.blk h.row (off_is hh (by decide) _ _ _ h.row), h.own.off f (off_is hh (by decide)), fun p hp => ((h.pts p hp).off f (off_is hh (by decide))).up f.size⟩
/-- something else is written. -/
theorem ND.off {S : Nat → Prop} (h : ND w base g gr dims bs a e v ps) (f : Fr S w w') (h1 : Off S w 76) (h2 : Off S w 5) (h3 : Off S w 58) (h4 : Off S w 46) (h5 : Off S w 2) : ND w' base g gr dims bs a e v ps :=
  ⟨h.rd.offT f h1 h2, f.blk h.row (h3 _ _ _ h.row), h.own.off f h4, fun p hp => ((h.pts p hp).off f h5).up f.size⟩
end
end Go.Proofs.YtpopbkcbplmcaaaGreat
namespace Go.Proofs.YtpopbkcbplmcaaaGreat
set_option linter.unusedVariables false
set_option linter.unusedSimpArgs false
open Go.RowKit

theorem Tryz.infoKI64 : (Tryz.prog.info? 2).map (fun i => (i.zero, i.size, i.bytes)) = some (some (.int .i64 0), 1, 8) := by kernel_rfl
end Go.Proofs.YtpopbkcbplmcaaaGreat
namespace Go.Proofs.YtpopbkcbplmcaaaGreat
set_option linter.unusedVariables false
set_option linter.unusedSimpArgs false
open Go.RowKit

theorem wp_named {P : Program} {s : Code} {Q : Exit → Act → World → Prop} {a : Act} {w : World} (h : ∀ K : Act → World → Prop, (∀ a' w', Q .normal a' w' → K a' w') → s.wp P (Exit.then K Q) a w) : s.wp P Q a w := by
  refine wp_mono (h (Q .normal) (fun _ _ h => h)) ?_
  intro e a' w' hq
  cases e <;> exact hq
theorem wp_act {P : Program} {s : Code} {Q : Exit → Act → World → Prop} {a : Act} {w : World} (h : ∀ a', a' = a → s.wp P Q a' w) : s.wp P Q a w := h a rfl
/-- a question, answered. -/
theorem said (p : Prop) : ∃ b : Bool, (b = true ↔ p) := by
  by_cases h : p
  · exact ⟨true, by simp [h]⟩
  · exact ⟨false, by simp [h]⟩
end Go.Proofs.YtpopbkcbplmcaaaGreat
namespace Go.Proofs.YtpopbkcbplmcaaaGreat
set_option linter.unusedVariables false
set_option linter.unusedSimpArgs false
open Go.RowKit

/-- append inside a region that draws its order. -/
theorem step_append_any {P : Program} {ops : Array Oper} {o : Oper} {a : Act} {w : World} {K : Act → World → Prop} {Q : Exit → Act → World → Prop} {E : Prop} (hgd : o.guard = none) (s x : Operand) (t tx : TypeId)
    (ho : o.op = .call { callee := .builtin .append, args := #[s, x], argTypes := #[t, tx] })
    (base : Nat) (e : TypeId) (i : TypeInfo) (z : Value) (size bytes : Nat) (ht : P.underlying t = some (.slice e)) (hi : P.info? e = some i) (hz : i.zero = some z)
    (hsize : i.size = size) (hby : i.bytes = bytes) (hzs : z.cells.size = size)
    (v : Value) (n : Nat) (xs : List Value) (hs : a.eval s = v) (hown : Own w base e size v n xs)
    (y : Value) (m : Nat) (news : List Value) (hx : a.eval x = y) (hsrc : Src P size tx y m news w)
    (hbytes : (n + m) * bytes ≤ 140737488355328) (h63 : n + m ≤ maxLen) (hbase : base ≤ w.heap.size)
    (h : ∀ v' w', Own w' base e size v' (n + m) (xs ++ news) → Fr (fun k => v.ownBlock = some k) w w' → K (a.put o.dst v') w') :
    if Region.wanted o (yielded ops a.tmps) = true then Oper.wp P o a w K Q else E := by
  have hw : Region.wanted o (yielded ops a.tmps) = true := by simp [Region.wanted, hgd]
  rw [if_pos hw]
  exact wp_append_gen w s x t tx ho base e i z size bytes ht hi hz hsize hby hzs v n xs hs hown y m news hx hsrc hbytes h63 hbase fun v' w' h2 h3 _ => h v' w' h2 h3

end Go.Proofs.YtpopbkcbplmcaaaGreat
namespace Go.Proofs.YtpopbkcbplmcaaaGreat
set_option linter.unusedVariables false
set_option linter.unusedSimpArgs false
open Go.RowKit

theorem src_bp (w : World) (d : Int) (A : Option Addr) (m c : Nat) : Src Tryz.prog 2 56 (.slice (some ⟨w.heap.size, 0, none⟩) 1 1) 1 [.int .i64 d, .slice A m c] (w.alloc (.cells #[.int .i64 d, .slice A m c] 46)) :=
  Src.ofRd (P := Tryz.prog) (size := 2) _ Tryz.underlying56 (some ⟨w.heap.size, 0, none⟩) 1 1 [.int .i64 d, .slice A m c] rfl (by omega) (Rd.block (heap_alloc_new w (.cells #[.int .i64 d, .slice A m c] 46))) (by simp [Value.oneCell'])
theorem src_rp (w : World) (d : Int) (A : Option Addr) (m c : Nat) : Src Tryz.prog 2 35 (.slice (some ⟨w.heap.size, 0, none⟩) 1 1) 1 [.int .i64 d, .slice A m c] (w.alloc (.cells #[.int .i64 d, .slice A m c] 86)) :=
  Src.ofRd (P := Tryz.prog) (size := 2) _ Tryz.underlying35 (some ⟨w.heap.size, 0, none⟩) 1 1 [.int .i64 d, .slice A m c] rfl (by omega) (Rd.block (heap_alloc_new w (.cells #[.int .i64 d, .slice A m c] 86))) (by simp [Value.oneCell'])
end Go.Proofs.YtpopbkcbplmcaaaGreat
namespace Go.Proofs.YtpopbkcbplmcaaaGreat
set_option linter.unusedVariables false
set_option linter.unusedSimpArgs false
open Go.RowKit

/-- what a node that is read is answered with. -/
def NodeQ (w : World) (base g gr dims : Nat) (bs : List UInt8) (n a : Nat) (v : Value) (ps : List PoL) (en : Ending) (w' : World) : Prop :=
  (∃ t b gx v' qs, en = .returned (.pointer (some ⟨gx, 0, none⟩)) ∧ nodeR bs dims n a = some (t, b) ∧ qs.map (·.1) = flatT t ∧ ND w' base g gr dims bs b 0 v' (ps ++ qs) ∧ TreeM w' (fun k => w.heap.size ≤ k ∧ Done w' g gr v' k) t gx ∧ (∀ j, v'.ownBlock = some j → v.ownBlock = some j ∨ w.heap.size ≤ j) ∧ Fr (S3 g gr v) w w') ∨
  (nodeR bs dims n a = none ∧ en = .panicked chainB ∧ Fr (S3 g gr v) w w')
theorem bytes_one {bs : List UInt8} {a : Nat} {x : UInt8} (h : bs[a]? = some x) : bytesS bs a 0 1 = ([x], a + 1, 0) := by
  refine bytes_has (bs := bs) (s := [x]) (a := a) ⟨bs.drop (a + 1), ?_⟩
  obtain ⟨ha, hx⟩ := List.getElem?_eq_some_iff.1 h
  rw [← hx]
  exact (List.drop_eq_getElem_cons ha).symm
/-- a leaf that is being read. -/
structure LfS (w0 W : World) (base g gr dims gx : Nat) (bs : List UInt8) (a0 b : Nat) (e : Int) (v : Value) (ps : List PoL) (vx : Value) (qs : List PoL) : Prop where
  nd0 : ND w0 base g gr dims bs a0 0 v ps
  rd : RD W g bs b e
  fr : Fr (Is g) w0 W
  x : W.heap[gx]? = some (.cells #[vx, .int .i64 0, .int .i64 0, .pointer none, .pointer none] 71 (0, 0))
  hx : w0.heap.size ≤ gx
  own : Own W w0.heap.size 46 2 vx qs.length (pFlat qs)
  pts : ∀ q ∈ qs, PtN W (InT W w0.heap.size W.heap.size) q
section
variable {w0 W W' : World} {base g gr dims gx a0 b : Nat} {bs : List UInt8} {e : Int} {v vx : Value} {ps qs : List PoL}
theorem LfS.nd (h : LfS w0 W base g gr dims gx bs a0 b e v ps vx qs) : ND W base g gr dims bs b e v ps := h.nd0.read h.fr h.rd
theorem LfS.fr0 (h : LfS w0 W base g gr dims gx bs a0 b e v ps vx qs) (f : Fr No W W') : LfS w0 W' base g gr dims gx bs a0 b e v ps vx qs :=
  ⟨h.nd0, h.rd.fr0 f, h.fr.trans f (fun _ _ h => h.elim), f.blk h.x (fun h => h), h.hx, h.own.fr0 f, fun q hq => ((h.pts q hq).fr0 f).up f.size⟩
theorem LfS.read {b' : Nat} {e' : Int} (h : LfS w0 W base g gr dims gx bs a0 b e v ps vx qs) (f : Fr (Is g) W W') (hr : RD W' g bs b' e') : LfS w0 W' base g gr dims gx bs a0 b' e' v ps vx qs := by
  obtain ⟨cs, fz, hh⟩ := h.rd.blkB
  exact ⟨h.nd0, hr, h.fr.trans f (fun _ _ h => h), f.blk h.x (fun e => by have e : gx = g := e; have := h.nd0.lt.1; have := h.hx; omega), h.hx, h.own.off f (off_is hh (by decide)), fun q hq => ((h.pts q hq).off f (off_is hh (by decide))).up f.size⟩
end
/-- a point that is being read. -/
structure PuS (w0 W : World) (base g gr dims gx gp : Nat) (bs : List UInt8) (a0 b : Nat) (e : Int) (v : Value) (ps : List PoL) (vx : Value) (qs : List PoL) (d : Int) (va : Value) (xs : List Int) : Prop where
  lf : LfS w0 W base g gr dims gx bs a0 b e v ps vx qs
  p : W.heap[gp]? = some (.cells #[.int .i64 d, va] 46 (0, 0))
  hp : w0.heap.size ≤ gp
  np : vx.ownBlock ≠ some gp
  own : Own W gp 2 1 va xs.length (iz .i64 xs)
  pts : ∀ q ∈ qs, PtN W (InT W w0.heap.size gp) q
section
variable {w0 W W' : World} {base g gr dims gx gp a0 b : Nat} {bs : List UInt8} {e d : Int} {v vx va : Value} {ps qs : List PoL} {xs : List Int}
theorem PuS.fr0 (h : PuS w0 W base g gr dims gx gp bs a0 b e v ps vx qs d va xs) (f : Fr No W W') : PuS w0 W' base g gr dims gx gp bs a0 b e v ps vx qs d va xs :=
  ⟨h.lf.fr0 f, f.blk h.p (fun h => h), h.hp, h.np, h.own.fr0 f, fun q hq => (h.pts q hq).fr0 f⟩
theorem PuS.read {b' : Nat} {e' : Int} (h : PuS w0 W base g gr dims gx gp bs a0 b e v ps vx qs d va xs) (f : Fr (Is g) W W') (hr : RD W' g bs b' e') : PuS w0 W' base g gr dims gx gp bs a0 b' e' v ps vx qs d va xs := by
  obtain ⟨cs, fz, hh⟩ := h.lf.rd.blkB
  exact ⟨h.lf.read f hr, f.blk h.p (fun e => by have e : gp = g := e; have := h.lf.nd0.lt.1; have := h.hp; omega), h.hp, h.np, h.own.off f (off_is hh (by decide)), fun q hq => (h.pts q hq).off f (off_is hh (by decide))⟩
/-- a number more. -/
theorem PuS.add {x : Int} {v' : Value} (h : PuS w0 W base g gr dims gx gp bs a0 b e v ps vx qs d va xs) (f : Fr (fun k => va.ownBlock = some k) W W') (o : Own W' gp 2 1 v' (xs.length + 1) (iz .i64 xs ++ [.int .i64 x])) :
    PuS w0 (W'.setCell ⟨gp, 1, none⟩ v') base g gr dims gx gp bs a0 b e v ps vx qs d v' (xs ++ [x]) := by
  have ov : ∀ t, t ≠ 2 → Off (fun k => va.ownBlock = some k) W t := fun t ht => off_own h.own ht
  have hp' : W'.heap[gp]? = some (.cells #[.int .i64 d, va] 46 (0, 0)) := f.blk h.p (fun e => ov _ (by decide) _ _ _ h.p e)
  have f2 : Fr (Is gp) W' (W'.setCell ⟨gp, 1, none⟩ v') := (Fr.refl (Is gp) W').setCell (p := ⟨gp, 1, none⟩) (fun _ => rfl) v'
  have o2 : ∀ t, t ≠ 46 → Off (Is gp) W' t := fun t ht => off_is hp' ht
  have hlt : ∀ k, va.ownBlock = some k → gp ≤ k := fun k hk => (h.own.lt k hk).1
  have hx' : W'.heap[gx]? = some (.cells #[vx, .int .i64 0, .int .i64 0, .pointer none, .pointer none] 71 (0, 0)) := f.blk h.lf.x (fun e => ov _ (by decide) _ _ _ h.lf.x e)
  have f01 : Fr (Is g) w0 W' := h.lf.fr.own f (fun k hk => .inl (by have := hlt k hk; have := h.hp; omega))
  refine ⟨⟨h.lf.nd0, (h.lf.rd.offT f (ov _ (by decide)) (ov _ (by decide))).offT f2 (o2 _ (by decide)) (o2 _ (by decide)), f01.trans f2 (fun i hi e => by have e : i = gp := e; have := h.hp; omega), f2.blk hx' (fun e => o2 _ (by decide) _ _ _ hx' e), h.lf.hx, ?_, ?_⟩, ?_, h.hp, h.np, ?_, ?_⟩
  · exact (h.lf.own.off f (ov _ (by decide))).fr f2 (fun k hk e => by have e : k = gp := e; rw [e] at hk; exact h.np hk)
  · intro q hq
    exact ((((h.pts q hq).above f hlt).off f2 (o2 _ (by decide)))).up (by
      have h1 := (Array.getElem?_eq_some_iff.1 h.p).1
      have := f.size; have := f2.size; omega)
  · simp [World.setCell, Array.getElem?_modify, hp', Array.set!]
  · have := o.off f2 (o2 _ (by decide))
    rw [List.length_append, List.length_singleton]
    simpa [iz] using this
  · intro q hq
    exact ((h.pts q hq).above f hlt).off f2 (o2 _ (by decide))
end
end Go.Proofs.YtpopbkcbplmcaaaGreat
