/- Several texts in one: TakeB, StoOpS, StoRC, StoRW. -/
import Derived.Test.YtpnhnnhocekchaaK11
import Derived.Deep.RegionWith
import Derived.Deep.DeepCutAuto
import Derived.Deep.RegionLaw
namespace Go.Proofs.Ytpnhnnhocekchaa
set_option linter.unusedVariables false
set_option linter.unusedSimpArgs false
open Go.RowKit

set_option maxRecDepth 100000 in
set_option maxHeartbeats 800000 in
theorem bytes1_bad (b2 : Nat) (x : Int) (A : Option Addr) (n c : Nat) (W : World) (hn : n ≤ c) (hc : c ≤ maxLen) (hx : x < 0 ∨ (n : Int) < x) (c2 : W.cell? ⟨b2, 0, none⟩ = some (.int .i64 x)) :
    Calls Try.prog 96 #[.slice A n c, .pointer (some ⟨b2, 0, none⟩)] W (Ret (.tuple #[.slice none 0 0, .int .i64 (-1)]) W) := by
  unfold maxLen at hc
  by_cases h0 : x < 0
  all_goals
    go_enter Try.func96, Try.ntmps96
    go_wp2
    go_ret2
    exact ⟨rfl, rfl⟩

set_option maxRecDepth 100000 in
set_option maxHeartbeats 800000 in
theorem bytes1_ok (b2 k : Nat) (A : Option Addr) (n c B : Nat) (t : List UInt8) (W : World) (hk : k ≤ n) (hn : n ≤ c) (hc : c ≤ maxLen) (hb : n ≤ 140737488355328) (hB : B ≤ W.heap.size) (ht : t.length = k) (hr : Rd W B A (by8 t)) (c2 : W.cell? ⟨b2, 0, none⟩ = some (.int .i64 k)) :
    Calls Try.prog 96 #[.slice A n c, .pointer (some ⟨b2, 0, none⟩)] W (fun en w' => ∃ v, en = .returned (.tuple #[v, .int .i64 k]) ∧ Own w' W.heap.size 5 1 v k (by8 t) ∧ Fr No W w') := by
  have HC := hide hc
  unfold maxLen at hc
  have HR := hide hr
  have HB := hide hB
  have HT := hide ht
  have hkc : k ≤ c := by omega
  have hkb : k ≤ 140737488355328 := by omega
  clear hr hB ht
  go_enter Try.func96, Try.ntmps96
  go_wp2
  go_region_with (first
    | (go_at_call 92; refine (clone_any A k c B t _ HT.out hkc HC.out hkb ?_ ?_).mono ?_; exact HB.out; exact HR.out; rintro en w1 ⟨v1, rfl, hown, hfr⟩; obtain ⟨A1, c1, rfl, hq1, hq2, _⟩ := hown.form; have c2' : w1.cell? ⟨b2, 0, none⟩ = some (.int .i64 k) := hfr.cell (p := ⟨b2, 0, none⟩) c2 (fun h => h); have HO : Hid (Own w1 W.heap.size 5 1 (.slice A1 t.length c1) t.length (by8 t)) := hown; have HF : Hid (Fr No W w1) := ⟨hfr.os, hfr.tape, hfr.output, hfr.size, hfr.block⟩; clear hown hfr)
    | (go_at_call 59; refine (clip_any A1 t.length c1 _ hq1 hq2).mono ?_; rintro en w2 ⟨rfl, rfl⟩))
  all_goals (try go_wp2)
  all_goals go_ret2
  all_goals
    refine ⟨_, rfl, ?_, ?_⟩
    · have h := HO.out.clip
      rw [HT.out] at h
      rw [HT.out]
      exact h
    · exact HF.out

/-- bytes of a reader: new ones. -/
def GivesRB (s : List UInt8) (w : World) (g : Nat) (bs : List UInt8) (a : Nat) (e : Int) (en : Ending) (w' : World) : Prop :=
  ∃ v, en = .returned v ∧ Own w' w.heap.size 5 1 v s.length (by8 s) ∧ RD w' g bs a e ∧ Fr (Is g) w w'

/-- .., and the reader's bytes lie where they lay. -/
def Same0 (w : World) (g : Nat) (w' : World) : Prop := w'.cell? ⟨g, 0, none⟩ = w.cell? ⟨g, 0, none⟩

def RDRetC (v : Value) (w : World) (g : Nat) (bs : List UInt8) (a : Nat) (e : Int) (en : Ending) (w' : World) : Prop := RDRet v w g bs a e en w' ∧ Same0 w g w'

def GivesRC (s : List UInt8) (w : World) (g : Nat) (bs : List UInt8) (a : Nat) (e : Int) (en : Ending) (w' : World) : Prop := GivesRB s w g bs a e en w' ∧ Same0 w g w'

theorem Same0.put {w w' : World} {g : Nat} (h : Same0 w g w') (i : Nat) (hi : i ≠ 0) (v : Value) : Same0 w g (w'.setCell ⟨g, i, none⟩ v) :=
  (World.cell?_setCell_other w' ⟨g, i, none⟩ ⟨g, 0, none⟩ v (by intro h; injection h; exact hi (by assumption))).trans h

theorem Same0.fr {w w' : World} {g : Nat} {v : Value} (h : w.cell? ⟨g, 0, none⟩ = some v) (f : Fr No w w') : Same0 w g w' := (f.cell (p := ⟨g, 0, none⟩) h (fun h => h)).trans h.symm

theorem Same0.drewN (w : World) (g n : Nat) : Same0 w g (w.drewN n) := rfl

set_option maxRecDepth 100000 in
set_option maxHeartbeats 400000 in
theorem takeB_bad (g : Nat) (bs : List UInt8) (a b2 : Nat) (x : Int) (w : World) (h : RD w g bs a 0) (c2 : w.cell? ⟨b2, 0, none⟩ = some (.int .i64 x)) (hx : x < 0 ∨ ((bs.length - a : Nat) : Int) < x) :
    Calls Try.prog 95 #[.pointer (some ⟨g, 0, none⟩), .func (.func 96) #[] #[.pointer (some ⟨b2, 0, none⟩)]] w (RDRetC (.slice none 0 0) w g bs a 20) := by
  obtain ⟨A, c, ⟨d0, d1, d2⟩, hf, h1, h2, h3, h4, hr⟩ := h.parts
  have HN : Hid (∀ nq, Calls Try.prog 96 #[.slice (if c = a then A else A.map (·.add a)) (bs.length - a) (c - a), .pointer (some ⟨b2, 0, none⟩)] (w.drewN nq) fun e w' => e = .returned (.tuple #[.slice none 0 0, .int .i64 (-1)]) ∧ w' = w.drewN nq) := fun nq =>
    (bytes1_bad b2 x _ _ _ (w.drewN nq) (by omega) (by omega) hx c2).mono fun _ _ ⟨p, q⟩ => ⟨p, q.symm⟩
  have H := hide h
  clear h hr hx c2
  go_enter Try.func95, Try.ntmps95
  go_wp2_with (fail)
  go_quiet ((go_at_call 96; exact Calls.quiet_of_same (HN.out _)))
  go_wp2
  all_goals
    go_ret
    exact ⟨⟨rfl, (H.out.drewN _).set2 20, ((Fr.refl _ _).drewN _).put _ _⟩, (Same0.drewN _ _ _).put 2 (by omega) _⟩

set_option maxRecDepth 100000 in
set_option maxHeartbeats 800000 in
theorem takeB_ok (g : Nat) (bs : List UInt8) (a b2 k : Nat) (w : World) (h : RD w g bs a 0) (c2 : w.cell? ⟨b2, 0, none⟩ = some (.int .i64 k)) (hk : a + k ≤ bs.length) :
    Calls Try.prog 95 #[.pointer (some ⟨g, 0, none⟩), .func (.func 96) #[] #[.pointer (some ⟨b2, 0, none⟩)]] w (GivesRC ((bs.drop a).take k) w g bs (a + k) 0) := by
  obtain ⟨A, c, ⟨d0, d1, d2⟩, hf, h1, h2, h3, h4, hr⟩ := h.parts
  have htl : ((bs.drop a).take k).length = k := by simp; omega
  have hrt : Rd w w.heap.size (if c = a then A else A.map (·.add a)) (by8 ((bs.drop a).take k)) := by
    rw [by8_take, by8_drop]
    exact (hr.cut (by rw [by8_length]; exact h1)).tk k
  have HN : Hid (∀ w', w'.heap = w.heap → Calls Try.prog 96 #[.slice (if c = a then A else A.map (·.add a)) (bs.length - a) (c - a), .pointer (some ⟨b2, 0, none⟩)] w' (fun en w2 => ∃ v, en = .returned (.tuple #[v, .int .i64 k]) ∧ Own w2 w'.heap.size 5 1 v k (by8 ((bs.drop a).take k)) ∧ Fr No w' w2)) := by
    intro w' hw
    have hcell : ∀ p, w'.cell? p = w.cell? p := fun p => by simp [World.cell?, hw]
    refine bytes1_ok b2 k _ _ _ w'.heap.size _ w' (by omega) (by omega) (by omega) (by omega) (Nat.le_refl _) htl ?_ (by rw [hcell]; exact c2)
    intro j u hu
    obtain ⟨ad, e, hb, hcc⟩ := hrt j u hu
    exact ⟨ad, e, by rw [hw]; exact hb, by rw [hcell]; exact hcc⟩
  have H := hide h
  have HTL := hide htl
  generalize (bs.drop a).take k = t at HN HTL
  clear h hr hrt c2 htl
  by_cases hca : c = a
  · have HN1 := HN.out
    rw [if_pos hca, hca, Nat.sub_self] at HN1
    have HN2 := hide HN1
    clear HN HN1
    go_enter Try.func95, Try.ntmps95
    go_wp2_with (fail)
    go_region_with (go_at_call 96; refine (HN2.out w.drew rfl).mono ?_; rintro en w1 ⟨v1, rfl, hown, hfr⟩; have HO : Hid (Own w1 w.heap.size 5 1 v1 k (by8 t)) := hown; have HF : Hid (Fr No w w1) := ⟨hfr.os, hfr.tape, hfr.output, hfr.size, hfr.block⟩; clear hown hfr; have HR1 := hide (H.out.fr0 HF.out); obtain ⟨A1, k1, ⟨e0, e1, e2⟩, hf1, _⟩ := HR1.out.parts)
    all_goals (try go_wp2)
    all_goals go_ret
    all_goals
      refine ⟨⟨_, rfl, ?_, HR1.out.set1 _ hk, (HF.out.any (Is g)).put _ _⟩, (Same0.fr d0 HF.out).put 1 (by omega) _⟩
      rw [HTL.out]
      refine HO.out.fr ((Fr.refl (Is g) w1).put 1 _) ?_
      rintro g' hg' rfl
      obtain ⟨_, _, hh, _⟩ := HR1.out
      exact HO.out.ne_blk hg' hh (by decide)
  · have HN1 := HN.out
    rw [if_neg hca] at HN1
    have HN2 := hide HN1
    clear HN HN1
    go_enter Try.func95, Try.ntmps95
    go_wp2_with (fail)
    go_region_with (go_at_call 96; refine (HN2.out w.drew rfl).mono ?_; rintro en w1 ⟨v1, rfl, hown, hfr⟩; have HO : Hid (Own w1 w.heap.size 5 1 v1 k (by8 t)) := hown; have HF : Hid (Fr No w w1) := ⟨hfr.os, hfr.tape, hfr.output, hfr.size, hfr.block⟩; clear hown hfr; have HR1 := hide (H.out.fr0 HF.out); obtain ⟨A1, k1, ⟨e0, e1, e2⟩, hf1, _⟩ := HR1.out.parts)
    all_goals (try go_wp2)
    all_goals go_ret
    all_goals
      refine ⟨⟨_, rfl, ?_, HR1.out.set1 _ hk, (HF.out.any (Is g)).put _ _⟩, (Same0.fr d0 HF.out).put 1 (by omega) _⟩
      rw [HTL.out]
      refine HO.out.fr ((Fr.refl (Is g) w1).put 1 _) ?_
      rintro g' hg' rfl
      obtain ⟨_, _, hh, _⟩ := HR1.out
      exact HO.out.ne_blk hg' hh (by decide)

set_option maxRecDepth 100000 in
set_option maxHeartbeats 400000 in
theorem takeB_off (g : Nat) (bs : List UInt8) (at_ : Nat) (e : Int) (w : World) (f : Value) (h : RD w g bs at_ e) (he : e ≠ 0) :
    Calls Try.prog 95 #[.pointer (some ⟨g, 0, none⟩), f] w (RDRetC (.slice none 0 0) w g bs at_ e) := by
  obtain ⟨A, c, ⟨c0, c1, c2⟩, hf, h1, h2, h3, h4, hr⟩ := h.parts
  have hb : (e != 0) = true := by simpa using he
  have H := hide h
  clear h hr he
  go_enter Try.func95, Try.ntmps95
  go_wp2_with (fail)
  go_ret
  exact ⟨⟨rfl, H.out, Fr.refl _ _⟩, rfl⟩

set_option maxRecDepth 100000 in
set_option maxHeartbeats 400000 in
theorem takeB_nil (w : World) (f : Value) :
    Calls Try.prog 95 #[.pointer none, f] w (Ret (.slice none 0 0) w) := by
  go_enter Try.func95, Try.ntmps95
  go_wp2_with (fail)
  go_ret
  exact ⟨rfl, rfl⟩

theorem GivesRB.nil {w : World} {g : Nat} {bs : List UInt8} {a : Nat} {e : Int} {en : Ending} {w' : World} (h : RDRet (.slice none 0 0) w g bs a e en w') : GivesRB [] w g bs a e en w' :=
  ⟨_, h.1, Own.nil _ _ _ _, h.2.1, h.2.2⟩

theorem GivesRC.nil {w : World} {g : Nat} {bs : List UInt8} {a : Nat} {e : Int} {en : Ending} {w' : World} (h : RDRetC (.slice none 0 0) w g bs a e en w') : GivesRC [] w g bs a e en w' := ⟨GivesRB.nil h.1, h.2⟩

theorem takeB_all (g : Nat) (bs : List UInt8) (a b2 : Nat) (e x : Int) (w : World) (h : RD w g bs a e) (c2 : w.cell? ⟨b2, 0, none⟩ = some (.int .i64 x)) :
    Calls Try.prog 95 #[.pointer (some ⟨g, 0, none⟩), .func (.func 96) #[] #[.pointer (some ⟨b2, 0, none⟩)]] w (GivesRC (bytesS bs a e x).1 w g bs (bytesS bs a e x).2.1 (bytesS bs a e x).2.2) := by
  unfold bytesS
  by_cases he : e = 0
  · subst he
    rw [if_pos rfl]
    unfold bytesR
    by_cases hx : x < 0 ∨ ((bs.drop a).length : Int) < x
    · rw [if_pos hx]
      exact (takeB_bad g bs a b2 x w h c2 (by simpa using hx)).mono fun _ _ h => GivesRC.nil h
    · rw [if_neg hx]
      obtain ⟨k, rfl⟩ := Int.eq_ofNat_of_zero_le (a := x) (by omega)
      exact takeB_ok g bs a b2 k w h c2 (by
        obtain ⟨_, _, _, _, _, h3, _⟩ := h
        simp at hx
        omega)
  · rw [if_neg he]
    exact (takeB_off g bs a e w _ h he).mono fun _ _ h => GivesRC.nil h

set_option maxRecDepth 100000 in
set_option maxHeartbeats 400000 in
theorem bytes_anyC (g : Nat) (bs : List UInt8) (a : Nat) (e x : Int) (w : World) (h : RD w g bs a e) :
    Calls Try.prog 63 #[.pointer (some ⟨g, 0, none⟩), .int .i64 x] w (GivesRC (bytesS bs a e x).1 w g bs (bytesS bs a e x).2.1 (bytesS bs a e x).2.2) := by
  have H := hide (fun t => takeB_all g bs a w.heap.size e x _ (h.fr0 ((Fr.refl No w).alloc _)) (box0 w (.int .i64 x) t))
  have H00 : Hid (∀ t, (w.alloc (.cells #[.int .i64 x] t)).cell? ⟨g, 0, none⟩ = w.cell? ⟨g, 0, none⟩) := fun t => by
    obtain ⟨_, _, ⟨q, _⟩, _⟩ := h.parts
    exact Same0.fr q ((Fr.refl No w).alloc _)
  clear h
  generalize bytesS bs a e x = y at H
  go_enter Try.func63, Try.ntmps63
  go_wp2_with (go_at_call 95; refine (H.out _).mono ?_; rintro en w' ⟨⟨v, rfl, hq⟩, h0⟩; have HQ := hide hq; have H0 : Hid (Same0 w g w') := hide (h0.trans (H00.out _)); clear hq h0)
  go_ret
  exact ⟨⟨_, rfl, HQ.out.1.lower (by simp), HQ.out.2.1, ((Fr.refl (Is g) w).alloc _).ts HQ.out.2.2⟩, H0.out⟩

theorem bytes_any (g : Nat) (bs : List UInt8) (a : Nat) (e x : Int) (w : World) (h : RD w g bs a e) :
    Calls Try.prog 63 #[.pointer (some ⟨g, 0, none⟩), .int .i64 x] w (GivesRB (bytesS bs a e x).1 w g bs (bytesS bs a e x).2.1 (bytesS bs a e x).2.2) := (bytes_anyC g bs a e x w h).mono fun _ _ h => h.1

set_option maxRecDepth 100000 in
set_option maxHeartbeats 400000 in
theorem bytes_nil (x : Int) (w : World) :
    Calls Try.prog 63 #[.pointer none, .int .i64 x] w (fun en w' => en = .returned (.slice none 0 0) ∧ Fr No w w') := by
  go_enter Try.func63, Try.ntmps63
  go_wp2_with (go_at_call 95; refine (takeB_nil _ _).mono ?_; rintro en w' ⟨rfl, rfl⟩)
  go_ret
  exact ⟨rfl, (Fr.refl No w).alloc _⟩

/-- where a reader's bytes lie: below M. -/
def At0 (w : World) (g M : Nat) : Prop := ∀ A n c, w.cell? ⟨g, 0, none⟩ = some (.slice A n c) → ∀ k, (Value.slice A n c).ownBlock = some k → k < M

theorem At0.of {w : World} {g : Nat} {bs : List UInt8} {a : Nat} {e : Int} (h : RD w g bs a e) : At0 w g w.heap.size := by
  obtain ⟨A, c, hh, h1, h2, h3, h4, ho⟩ := h
  intro A' n' c' hc k hk
  rw [cell_of_row w g 0 _ _ (0, 0) hh] at hc
  have : Value.slice A bs.length c = .slice A' n' c' := by simpa using hc
  rw [← this] at hk
  exact (ho.lt k hk).2

theorem At0.same {w w' : World} {g M : Nat} (h : At0 w g M) (f : Same0 w g w') : At0 w' g M := by
  intro A n c hc k hk
  exact h A n c (f.symm.trans hc) k hk

/-- stores into blocks from M on leave a reader alone, if it and its bytes lie below M. -/
theorem RD.above {S : Nat → Prop} {w w' : World} {g M : Nat} {bs : List UInt8} {a : Nat} {e : Int} (h : RD w g bs a e) (h0 : At0 w g M) (hg : g < M) (f : Fr S w w') (hS : ∀ k, k < M → ¬ S k) : RD w' g bs a e := by
  obtain ⟨A, c, hh, h1, h2', h3, h4, ho⟩ := h
  refine ⟨A, c, f.blk hh (hS g hg), h1, h2', h3, h4, ho.fr f ?_⟩
  intro k hk
  exact hS k (h0 A bs.length c (by rw [cell_of_row w g 0 _ _ (0, 0) hh]; rfl) k hk)

end Go.Proofs.Ytpnhnnhocekchaa
namespace Go.Proofs.Ytpnhnnhocekchaa
set_option linter.unusedVariables false
set_option linter.unusedSimpArgs false
open Go.RowKit

/-- a statement that goes on, and in no other way ends. -/
theorem wp_calm {P : Program} {s : Code} {Q : Exit → Act → World → Prop} {a : Act} {w : World} (h : ∀ K : Act → World → Prop, (∀ a' w', Q .normal a' w' → K a' w') → s.wp P (Exit.then K (fun _ _ _ => False)) a w) : s.wp P Q a w := by
  refine wp_mono (h (Q .normal) (fun _ _ h => h)) ?_
  intro e a' w' hq
  cases e with
  | normal => exact hq
  | _ => exact hq.elim
/-- a statement that goes on, or panics with the frame's two result cells as they were. -/
def QP (K : Act → World → Prop) (B : List PanicEntry → World → Prop) (p1 p2 : Value) (ds : List Deferred) : Exit → Act → World → Prop
  | .normal, a, w => K a w
  | .panic ch, a, w => a.tmps[2]? = some p1 ∧ a.tmps[3]? = some p2 ∧ a.defers = ds ∧ B ch w
  | _, _, _ => False
theorem QP.put {K : Act → World → Prop} {B : List PanicEntry → World → Prop} {p1 p2 : Value} {ds : List Deferred} {c : List PanicEntry} {a : Act} {w : World} {d : Option Tmp} {v : Value} (h2 : d ≠ some 2) (h3 : d ≠ some 3) (h : QP K B p1 p2 ds (.panic c) (a.put d v) w) : QP K B p1 p2 ds (.panic c) a w := by
  cases d with
  | none => exact h
  | some i =>
    obtain ⟨q1, q2, q3, q4⟩ := h
    have e2 : i ≠ 2 := fun e => h2 (by rw [e])
    have e3 : i ≠ 3 := fun e => h3 (by rw [e])
    refine ⟨?_, ?_, q3, q4⟩
    · rw [← q1]
      show a.tmps[2]? = (a.tmps.setIfInBounds i v)[2]?
      rw [Array.getElem?_setIfInBounds_ne (by omega)]
    · rw [← q2]
      show a.tmps[3]? = (a.tmps.setIfInBounds i v)[3]?
      rw [Array.getElem?_setIfInBounds_ne (by omega)]
structure OpS (w W : World) (g gS : Nat) (bs : List UInt8) (b : Nat) (e : Int) (N : Nat) (v : Value) (m : Nat) (L : List (Nat × List UInt8)) : Prop where
  fr : Fr No w W
  b1 : W.heap[w.heap.size]? = some (.cells #[.pointer (some ⟨gS, 0, none⟩)] 62 (0, 0))
  b2 : W.heap[w.heap.size + 1]? = some (.cells #[.int .i64 0] 28 (0, 0))
  st : W.heap[gS]? = some (.cells #[v, .int .i64 (N : Nat)] 115 (0, 0))
  rd : RD W g bs b e
  ch : ∃ ps, OwnC W w.heap.size v m ps ∧ ps.map tri = chs 0 L
  hS : w.heap.size + 2 ≤ gS
  hg : w.heap.size + 2 ≤ g
section
variable {w W W' : World} {g gS b N m : Nat} {e : Int} {bs : List UInt8} {v : Value} {L : List (Nat × List UInt8)}
def OffO (S : Nat → Prop) (W : World) : Prop := Off S W 62 ∧ Off S W 28 ∧ Off S W 115 ∧ Off S W 131 ∧ Off S W 5 ∧ Off S W 106
theorem OpS.off {S : Nat → Prop} (h : OpS w W g gS bs b e N v m L) (f : Fr S W W') (ho : OffO S W) (hw : ∀ i, i < w.heap.size → ¬ S i) : OpS w W' g gS bs b e N v m L := by
  obtain ⟨o1, o2, o3, o4, o5, o6⟩ := ho
  refine ⟨h.fr.trans f (fun i hi hs => hw i hi hs), f.blk h.b1 (o1 _ _ _ h.b1), f.blk h.b2 (o2 _ _ _ h.b2), f.blk h.st (o3 _ _ _ h.st), h.rd.offT f o4 o5, ?_, h.hS, h.hg⟩
  obtain ⟨ps, q1, q2⟩ := h.ch
  exact ⟨ps, q1.off f o6 o5, q2⟩
theorem OpS.fr0 (h : OpS w W g gS bs b e N v m L) (f : Fr No W W') : OpS w W' g gS bs b e N v m L := h.off f ⟨(fun _ _ _ _ h => h), (fun _ _ _ _ h => h), (fun _ _ _ _ h => h), (fun _ _ _ _ h => h), (fun _ _ _ _ h => h), (fun _ _ _ _ h => h)⟩ (fun _ _ h => h)
/-- the reader has gone on. -/
theorem OpS.read {b' : Nat} {e' : Int} (h : OpS w W g gS bs b e N v m L) (f : Fr (Is g) W W') (hr : RD W' g bs b' e') : OpS w W' g gS bs b' e' N v m L := by
  obtain ⟨A, c, hh, _⟩ := h.rd
  have o : ∀ t, t ≠ 131 → Off (Is g) W t := fun t ht => off_is hh ht
  refine ⟨h.fr.trans f (fun i hi e => by have e : i = g := e; have := h.hg; omega), f.blk h.b1 (o _ (by decide) _ _ _ h.b1), f.blk h.b2 (o _ (by decide) _ _ _ h.b2), f.blk h.st (o _ (by decide) _ _ _ h.st), hr, ?_, h.hS, h.hg⟩
  obtain ⟨ps, q1, q2⟩ := h.ch
  exact ⟨ps, q1.off f (o _ (by decide)) (o _ (by decide)), q2⟩
theorem OpS.bad {n : Nat} {tmps : Array Value} {Ds : List Nat} (h : OpS w W g gS bs b e N v m L) (ht2 : tmps[2]? = some (.pointer (some ⟨w.heap.size, 0, none⟩))) (ht3 : tmps[3]? = some (.pointer (some ⟨w.heap.size + 1, 0, none⟩))) (hM : Marks w W Ds) (hno : ∀ ks cs, ¬ OpenOk bs ks cs) :
    LeavesInM Fence.wide n Try.prog Try.f43 tmps (OpenPost w bs) (Ds.map mkD ++ [clD w.heap.size (w.heap.size + 1)]) (.panicking chainC) W :=
  leave_bad ht2 ht3 (by omega) (Nat.le_refl _) (by omega) h.b1 h.b2 h.fr hM hno
end
theorem hdr_step {bs : List UInt8} {L N q a b t k1 x1 k2 x2 : Nat} {ε1 ε2 : Int} {ks : List (Nat × Nat)} (h : hdrS bs L N q a = some (ks, b, t)) (h1 : sizeS bs b 0 16384 = (k1, x1, ε1)) (h2 : sizeS bs x1 ε1 (L : Nat) = (k2, x2, ε2)) :
    hdrS bs L N (q + 1) a = if ε2 = 0 ∧ 0 < k1 ∧ t + k1 ≤ N then some (ks ++ [(k1, k2)], x2, t + k1) else none := by
  rw [hdrS_some h, h1]
  dsimp only
  rw [h2]
def noB (ks : List (Nat × Nat)) : List (Nat × List UInt8) := ks.map fun k => (k.1, [])
theorem noB_snoc (ks : List (Nat × Nat)) (x : Nat × Nat) : noB (ks ++ [x]) = noB ks ++ [(x.1, [])] := by simp [noB]
theorem noB_cnt (ks : List (Nat × Nat)) : cntB (noB ks) = sumK ks := by
  unfold cntB noB sumK
  rw [List.map_map]
  rfl
/-- a chunk more, without its bytes. -/
theorem OpS.add {w W W1 W2 : World} {g gS b N q : Nat} {e : Int} {bs : List UInt8} {v v2 : Value} {ks : List (Nat × Nat)} {ps : List ChL} {k1 k2 t : Nat} (h : OpS w W g gS bs b e N v q (noB ks)) (hps : OwnC W w.heap.size v q ps) (htr : ps.map tri = chs 0 (noB ks)) (ht : sumK ks = t)
    (f1 : Fr No W W1) (f2 : Fr (fun k => v.ownBlock = some k) W1 W2) (ho : Own W2 w.heap.size 106 3 v2 (q + 1) (cFlat ps ++ [.int .i64 (t : Nat), .int .i64 ((t + k1 : Nat) : Int), .slice none 0 0])) :
    OpS w (W2.setCell ⟨gS, 0, none⟩ v2) g gS bs b e N v2 (q + 1) (noB (ks ++ [(k1, k2)])) := by
  have hc1 := hps.fr0 f1
  have h1 := h.fr0 f1
  have hnew : OwnC W2 w.heap.size v2 (q + 1) (ps ++ [⟨t, t + k1, [], none, 0⟩]) := hc1.snoc (p := ⟨t, t + k1, [], none, 0⟩) (Own.nil _ _ _ _) (fun _ _ _ _ h => by cases h) f2 ho
  have o : ∀ T, T ≠ 106 → Off (fun k => v.ownBlock = some k) W1 T := fun T hT => off_own hc1.row hT
  have hst := f2.blk h1.st (o _ (by decide) _ _ _ h1.st)
  have f3 : Fr (Is gS) W2 (W2.setCell ⟨gS, 0, none⟩ v2) := (Fr.refl (Is gS) W2).put 0 _
  have o3 : ∀ T, T ≠ 115 → Off (Is gS) W2 T := fun T hT => off_is hst hT
  have k1' := f2.blk h1.b1 (o _ (by decide) _ _ _ h1.b1)
  have k2' := f2.blk h1.b2 (o _ (by decide) _ _ _ h1.b2)
  refine ⟨?_, f3.blk k1' (o3 _ (by decide) _ _ _ k1'), f3.blk k2' (o3 _ (by decide) _ _ _ k2'), ?_, (h1.rd.offT f2 (o _ (by decide)) (o _ (by decide))).offT f3 (o3 _ (by decide)) (o3 _ (by decide)), ⟨_, hnew.off f3 (o3 _ (by decide)) (o3 _ (by decide)), ?_⟩, h.hS, h.hg⟩
  · exact (h1.fr.own f2 (fun k hk => .inl (hc1.row.lt k hk).1)).trans f3 (fun i hi e => by have e : i = gS := e; have := h.hS; omega)
  · have := heap_setCell_same W2 gS 0 #[v, .int .i64 (N : Nat)] 115 v2 hst
    simpa using this
  · rw [noB_snoc, chs_snoc, noB_cnt, ht, List.map_append, htr]
    show _ ++ [(t, t + k1, [])] = _
    simp
theorem ints_setO {l : List Nat} {j k y : Nat} (hj : j < k) (hl : l.length = j) : (ints l ++ List.replicate (k - j) (Value.int .i64 0)).set j (.int .i64 (y : Nat)) = ints (l ++ [y]) ++ List.replicate (k - (j + 1)) (Value.int .i64 0) := by
  have hi : (ints l).length = j := by unfold ints; rw [List.length_map]; exact hl
  rw [List.set_append_right _ _ (by omega), hi, Nat.sub_self, show k - j = (k - (j + 1)) + 1 by omega, List.replicate_succ, List.set_cons_zero]
  unfold ints
  rw [List.map_append, List.append_assoc]
  rfl
theorem Try.infoIntO : (Try.prog.info? 3).map (fun i => (i.zero, i.size, i.bytes)) = some (some (.int .i64 0), 1, 8) := by kernel_rfl
theorem make_intO (k : Nat) (hk : k ≤ 1048576) (W : World) : (Instr.makeSlice 65 (.int .i64 (k : Nat)) (.int .i64 (k : Nat))).run Try.prog W = .ok (.slice (some ⟨W.heap.size, 0, none⟩) k k) (W.alloc (.cells (madeCells #[.int .i64 0] k) 3)) := by
  obtain ⟨i0, hi, hz, hsz, hby⟩ := info_parts Try.infoIntO
  have h := run_make (P := Try.prog) W 65 3 i0 (.int .i64 0) Try.underlying65 hi hz .i64 .i64 (k : Int) (k : Int) (by omega) (by omega) (by rw [hby]; omega) (by omega)
  rw [Int.toNat_natCast, hsz, Nat.mul_one] at h
  exact h
/-- what is read, and cannot be a store. -/
theorem no_head {bs : List UInt8} {N a1 C a2 : Nat} {e1 e2 : Int} (h1 : sizeS bs 0 0 16384 = (N, a1, e1)) (h2 : sizeS bs a1 e1 (N : Nat) = (C, a2, e2)) (he : e2 ≠ 0) : ∀ ks cs, ¬ OpenOk bs ks cs := by
  intro ks cs h
  have := h.head
  rw [h1] at this
  dsimp only at this
  rw [h2] at this
  exact he this
theorem no_tab {bs : List UInt8} {N a1 C a2 : Nat} {e1 e2 : Int} (h1 : sizeS bs 0 0 16384 = (N, a1, e1)) (h2 : sizeS bs a1 e1 (N : Nat) = (C, a2, e2)) (hn : ∀ ks a, hdrS bs bs.length N C a2 ≠ some (ks, a, N)) : ∀ ks cs, ¬ OpenOk bs ks cs := by
  intro ks cs h
  obtain ⟨a, h3, _⟩ := h.tab
  rw [h1] at h3
  dsimp only at h3
  rw [h2] at h3
  exact hn _ _ h3
theorem no_bod {bs : List UInt8} {N a1 C a2 a : Nat} {e1 e2 : Int} {ks : List (Nat × Nat)} (h1 : sizeS bs 0 0 16384 = (N, a1, e1)) (h2 : sizeS bs a1 e1 (N : Nat) = (C, a2, e2)) (h3 : hdrS bs bs.length N C a2 = some (ks, a, N)) (hn : ∀ cs, bodS bs ks ks.length a ≠ some (cs, bs.length)) : ∀ ks cs, ¬ OpenOk bs ks cs := by
  intro ks' cs h
  obtain ⟨a', h4, h5⟩ := h.tab
  rw [h1] at h4
  dsimp only at h4
  rw [h2] at h4
  dsimp only at h4
  rw [h3] at h4
  injection h4 with h4
  injection h4 with q1 q2
  injection q2 with q2 _
  subst q1 q2
  exact hn _ h5
theorem no_form {bs : List UInt8} {N a1 C a2 a : Nat} {e1 e2 : Int} {ks : List (Nat × Nat)} {cs : List ChV} (h1 : sizeS bs 0 0 16384 = (N, a1, e1)) (h2 : sizeS bs a1 e1 (N : Nat) = (C, a2, e2)) (h3 : hdrS bs bs.length N C a2 = some (ks, a, N)) (h4 : bodS bs ks ks.length a = some (cs, bs.length)) (hn : buildB (docsC cs) ≠ bs) : ∀ ks cs, ¬ OpenOk bs ks cs := by
  intro ks' cs' h
  obtain ⟨a', h5, h6⟩ := h.tab
  rw [h1] at h5
  dsimp only at h5
  rw [h2] at h5
  dsimp only at h5
  rw [h3] at h5
  injection h5 with h5
  injection h5 with q1 q2
  injection q2 with q2 _
  subst q1 q2
  rw [h4] at h6
  injection h6 with h6
  injection h6 with h6 _
  subst h6
  exact hn h.form
theorem yes_open {bs : List UInt8} {N a1 C a2 a : Nat} {e1 e2 : Int} {ks : List (Nat × Nat)} {cs : List ChV} (h1 : sizeS bs 0 0 16384 = (N, a1, e1)) (h2 : sizeS bs a1 e1 (N : Nat) = (C, a2, e2)) (he : e2 = 0) (h3 : hdrS bs bs.length N C a2 = some (ks, a, N)) (h4 : bodS bs ks ks.length a = some (cs, bs.length)) (hn : buildB (docsC cs) = bs) : OpenOk bs ks cs := by
  refine ⟨?_, ⟨a, ?_, h4⟩, hn⟩
  · rw [h1]; dsimp only; rw [h2]; exact he
  · rw [h1]; dsimp only; rw [h2]; exact h3
end Go.Proofs.Ytpnhnnhocekchaa
namespace Go.Proofs.Ytpnhnnhocekchaa
set_option linter.unusedVariables false
set_option linter.unusedSimpArgs false
open Go.RowKit

theorem step_append_hat {P : Program} {ops : Array Oper} {o : Oper} {a : Act} {w : World} {K : Act → World → Prop} {Q : Exit → Act → World → Prop} {E : Prop} (hgd : o.guard = none) (s x : Operand) (t tx : TypeId)
    (ho : o.op = .call { callee := .builtin .append, args := #[s, x], argTypes := #[t, tx] })
    (base : Nat) (e : TypeId) (i : TypeInfo) (z : Value) (size bytes : Nat) (ht : P.underlying t = some (.slice e)) (hi : P.info? e = some i) (hz : i.zero = some z)
    (hsize : i.size = size) (hby : i.bytes = bytes) (hzs : z.cells.size = size)
    (v : Value) (n : Nat) (xs : List Value) (hs : a.eval s = v) (hown : Own w base e size v n xs)
    (y : Value) (m : Nat) (news : List Value) (hx : a.eval x = y) (hsrc : Src P size tx y m news w)
    (hbytes : (n + m) * bytes ≤ 140737488355328) (h63 : n + m ≤ maxLen) (hbase : base ≤ w.heap.size)
    (h : ∀ v' w', Own w' base e size v' (n + m) (xs ++ news) → Fr (fun k => v.ownBlock = some k) w w' → (v'.ownBlock = v.ownBlock ∨ v'.ownBlock = some w.heap.size) → K (a.put o.dst v') w') :
    if Region.wanted o (yielded ops a.tmps) = true then Oper.wp P o a w K Q else E := by
  have hw : Region.wanted o (yielded ops a.tmps) = true := by simp [Region.wanted, hgd]
  rw [if_pos hw]
  exact wp_append_gen w s x t tx ho base e i z size bytes ht hi hz hsize hby hzs v n xs hs hown y m news hx hsrc hbytes h63 hbase h

theorem Vals.off {S : Nat → Prop} {w w' : World} {base : Nat} {vals : List Value} {bss : List (List UInt8)} (h : Vals w base vals bss) (f : Fr S w w') (hS : Off S w 5) : Vals w' base vals bss :=
  ⟨h.len, fun j v bs hv hb => (h.own j v bs hv hb).off f hS, h.dis⟩
/-- the last one gone on with. -/
theorem Vals.last {w w1 : World} {base : Nat} {vals : List Value} {bss : List (List UInt8)} {v v' : Value} {b b' : List UInt8} (h : Vals w base (vals ++ [v]) (bss ++ [b])) (f : Fr (fun k => v.ownBlock = some k) w w1)
    (ho : Own w1 base 5 1 v' b'.length (by8 b')) (hat : v'.ownBlock = v.ownBlock ∨ v'.ownBlock = some w.heap.size) : Vals w1 base (vals ++ [v']) (bss ++ [b']) := by
  have hl : vals.length = bss.length := by have := h.len; simp at this; exact this
  have hlast : (vals ++ [v])[vals.length]? = some v := by simp
  refine ⟨by simp [hl], ?_, ?_⟩
  · intro j u bs hv hb
    by_cases hj : j < vals.length
    · rw [List.getElem?_append_left hj] at hv
      rw [List.getElem?_append_left (by omega)] at hb
      have hv2 : (vals ++ [v])[j]? = some u := by rw [List.getElem?_append_left hj]; exact hv
      exact (h.own j u bs hv2 (by rw [List.getElem?_append_left (by omega)]; exact hb)).fr f (fun k hk hk2 => h.dis j vals.length u v hj hv2 hlast k hk hk2)
    · have hj1 := (List.getElem?_eq_some_iff.1 hv).1
      have e1 : j = vals.length := by simp at hj1; omega
      subst e1
      rw [List.getElem?_append_right (Nat.le_refl _), Nat.sub_self] at hv
      rw [hl, List.getElem?_append_right (Nat.le_refl _), Nat.sub_self] at hb
      simp at hv hb
      subst hv; subst hb
      exact ho
  · intro i j vi vj hij hi hj k hk
    have hj1 := (List.getElem?_eq_some_iff.1 hj).1
    by_cases hjl : j < vals.length
    · rw [List.getElem?_append_left (by omega)] at hi
      rw [List.getElem?_append_left hjl] at hj
      exact h.dis i j vi vj hij (by rw [List.getElem?_append_left (by omega)]; exact hi) (by rw [List.getElem?_append_left hjl]; exact hj) k hk
    · have e1 : j = vals.length := by simp at hj1; omega
      subst e1
      rw [List.getElem?_append_left hij] at hi
      rw [List.getElem?_append_right (Nat.le_refl _), Nat.sub_self] at hj
      simp at hj
      subst hj
      have hi2 : (vals ++ [v])[i]? = some vi := by rw [List.getElem?_append_left hij]; exact hi
      intro hk2
      rcases hat with e | e
      · rw [e] at hk2
        exact h.dis i vals.length vi v hij hi2 hlast k hk hk2
      · rw [e] at hk2
        have e : w.heap.size = k := Option.some.inj hk2
        obtain ⟨bs, _, hw⟩ := h.get hi2
        have := (hw.lt k hk).2
        omega
/-- two rows: how many documents each chunk has, and its bytes. -/
structure TwoC (w : World) (base : Nat) (vM vB : Value) (m : Nat) (vals : List Value) (cs : List (Nat × List UInt8)) : Prop where
  mo : Own w base 3 1 vM m (ints (cs.map (·.1)))
  bo : Own w base 23 1 vB m vals
  va : Vals w base vals (cs.map (·.2))
section
variable {S : Nat → Prop} {w w' : World} {base m : Nat} {vM vB : Value} {vals : List Value} {cs : List (Nat × List UInt8)}
theorem TwoC.len (h : TwoC w base vM vB m vals cs) : cs.length = m := by
  have := h.mo.1
  simpa [ints] using this
theorem TwoC.vlen (h : TwoC w base vM vB m vals cs) : vals.length = m := by
  have := h.bo.1
  simpa using this
theorem TwoC.off (h : TwoC w base vM vB m vals cs) (f : Fr S w w') (h1 : Off S w 3) (h2 : Off S w 23) (h3 : Off S w 5) : TwoC w' base vM vB m vals cs := ⟨h.mo.off f h1, h.bo.off f h2, h.va.off f h3⟩
theorem TwoC.fr0 (h : TwoC w base vM vB m vals cs) (f : Fr No w w') : TwoC w' base vM vB m vals cs := h.off f (fun _ _ _ _ h => h) (fun _ _ _ _ h => h) (fun _ _ _ _ h => h)
theorem TwoC.nil (w : World) (base : Nat) : TwoC w base (.slice none 0 0) (.slice none 0 0) 0 [] [] := ⟨Own.nil _ _ _ _, Own.nil _ _ _ _, Vals.nil _ _⟩
/-- the last chunk. -/
theorem TwoC.last {n : Nat} (h : TwoC w base vM vB (n + 1) vals cs) : ∃ cs0 x vals0 gM cM gB cB A c, cs = cs0 ++ [x] ∧ cs0.length = n ∧ vals = vals0 ++ [.slice A x.2.length c] ∧ vals0.length = n ∧ vM = .slice (some ⟨gM, 0, none⟩) (n + 1) cM ∧ vB = .slice (some ⟨gB, 0, none⟩) (n + 1) cB ∧ n + 1 ≤ cM ∧ cM ≤ maxLen ∧ n + 1 ≤ cB ∧ cB ≤ maxLen ∧
    base ≤ gM ∧ base ≤ gB ∧ w.cell? ⟨gM, n, none⟩ = some (.int .i64 (x.1 : Nat)) ∧ (∀ j, w.frozen? ⟨gM, j, none⟩ = false) ∧ w.cell? ⟨gB, n, none⟩ = some (.slice A x.2.length c) ∧ (∀ j, w.frozen? ⟨gB, j, none⟩ = false) ∧ x.2.length ≤ c ∧ c ≤ maxLen ∧ Own w base 5 1 (.slice A x.2.length c) x.2.length (by8 x.2) ∧
    (Value.slice (some ⟨gM, 0, none⟩) (n + 1) cM).ownBlock = some gM ∧ (Value.slice (some ⟨gB, 0, none⟩) (n + 1) cB).ownBlock = some gB := by
  have hl := h.len
  have hv := h.vlen
  obtain ⟨cs0, x, rfl⟩ : ∃ cs0 x, cs = cs0 ++ [x] := ⟨cs.dropLast, cs.getLast (by intro e; rw [e] at hl; cases hl), (List.dropLast_concat_getLast _).symm⟩
  obtain ⟨vals0, v, rfl⟩ : ∃ vals0 v, vals = vals0 ++ [v] := ⟨vals.dropLast, vals.getLast (by intro e; rw [e] at hv; cases hv), (List.dropLast_concat_getLast _).symm⟩
  have hl0 : cs0.length = n := by simpa using hl
  have hv0 : vals0.length = n := by simpa using hv
  have ho := h.va.own n v x.2 (by rw [← hv0]; simp) (by rw [← hl0]; simp)
  obtain ⟨A, c, rfl, y1, y2, _⟩ := ho.form
  obtain ⟨AM, cM, rfl, m1, m2, _⟩ := h.mo.form
  obtain ⟨AB, cB, rfl, b1, b2, _⟩ := h.bo.form
  obtain ⟨gM, rfl, mb, _, mo, mc, mf, _⟩ := h.mo.storeN (k := n) (by omega)
  obtain ⟨gB, rfl, bb, _, bo, bc, bf, _⟩ := h.bo.storeN (k := n) (by omega)
  refine ⟨cs0, x, vals0, gM, cM, gB, cB, A, c, rfl, hl0, rfl, hv0, rfl, rfl, m1, m2, b1, b2, mb, bb, ?_, mf, ?_, bf, y1, y2, ho, mo, bo⟩
  · rw [mc n (by omega)]
    simp [ints, ← hl0]
  · rw [bc n (by omega)]
    simp [← hv0]
end
def CutsPost (w : World) (ds : List (List EntV)) (en : Ending) (w' : World) : Prop := ∃ vM vB m vals, en = .returned (.tuple #[vM, vB]) ∧ Fr No w w' ∧ TwoC w' w.heap.size vM vB m vals (cutsB ds)
theorem TwoC.incr {w : World} {base n gM cM : Nat} {vB : Value} {vals : List Value} {cs0 : List (Nat × List UInt8)} {x : Nat × List UInt8} (h : TwoC w base (.slice (some ⟨gM, 0, none⟩) (n + 1) cM) vB (n + 1) vals (cs0 ++ [x])) (hl : cs0.length = n) (y : Nat) :
    TwoC (w.setCell ⟨gM, n, none⟩ (.int .i64 (y : Nat))) base (.slice (some ⟨gM, 0, none⟩) (n + 1) cM) vB (n + 1) vals (cs0 ++ [(y, x.2)]) := by
  obtain ⟨g', e1, _, _, hown, _, _, s1⟩ := h.mo.storeN (k := n) (by omega)
  have e1 : gM = g' := by injection e1 with e1; injection e1
  subst e1
  have r1 := s1 (.int .i64 (y : Nat))
  obtain ⟨cs, fz, hg⟩ := (h.mo.cellsT hown).2
  have f1 : Fr (Is gM) w (w.setCell ⟨gM, n, none⟩ (.int .i64 (y : Nat))) := (Fr.refl (Is gM) w).put _ _
  have e : (ints ((cs0 ++ [x]).map (·.1))).set n (.int .i64 (y : Nat)) = ints ((cs0 ++ [(y, x.2)]).map (·.1)) := by
    have hl2 : (ints (cs0.map (·.1))).length = n := by unfold ints; rw [List.length_map, List.length_map]; exact hl
    have e2 : ∀ z : Nat × List UInt8, ints ((cs0 ++ [z]).map (·.1)) = ints (cs0.map (·.1)) ++ [.int .i64 (z.1 : Nat)] := fun z => by unfold ints; simp
    rw [e2, e2, List.set_append_right _ _ (by omega), hl2, Nat.sub_self]
    rfl
  rw [e] at r1
  refine ⟨r1, h.bo.off f1 (off_is hg (by decide)), ?_⟩
  have := h.va.off f1 (off_is hg (by decide))
  simpa using this
theorem TwoC.goOn {w w1 : World} {base n gB cB : Nat} {vM v v' : Value} {vals0 : List Value} {cs0 : List (Nat × List UInt8)} {x : Nat × List UInt8} {b : List UInt8} (h : TwoC w base vM (.slice (some ⟨gB, 0, none⟩) (n + 1) cB) (n + 1) (vals0 ++ [v]) (cs0 ++ [x])) (hl : vals0.length = n)
    (hv : Own w base 5 1 v x.2.length (by8 x.2)) (f : Fr (fun k => v.ownBlock = some k) w w1) (ho : Own w1 base 5 1 v' (x.2 ++ b).length (by8 (x.2 ++ b))) (hat : v'.ownBlock = v.ownBlock ∨ v'.ownBlock = some w.heap.size) :
    TwoC (w1.setCell ⟨gB, n, none⟩ v') base vM (.slice (some ⟨gB, 0, none⟩) (n + 1) cB) (n + 1) (vals0 ++ [v']) (cs0 ++ [(x.1, x.2 ++ b)]) := by
  have hb1 := h.bo.off f (off_own hv (by decide))
  obtain ⟨g', e1, _, _, hown, _, _, s1⟩ := hb1.storeN (k := n) (by omega)
  have e1 : gB = g' := by injection e1 with e1; injection e1
  subst e1
  have r1 := s1 v'
  obtain ⟨cs, fz, hg⟩ := (hb1.cellsT hown).2
  have f1 : Fr (Is gB) w1 (w1.setCell ⟨gB, n, none⟩ v') := (Fr.refl (Is gB) w1).put _ _
  have e : (vals0 ++ [v]).set n v' = vals0 ++ [v'] := by
    rw [List.set_append_right _ _ (by omega), hl, Nat.sub_self]
    rfl
  rw [e] at r1
  have hm := (h.mo.off f (off_own hv (by decide))).off f1 (off_is hg (by decide))
  refine ⟨by simpa using hm, r1, ?_⟩
  have hva := h.va
  rw [List.map_append] at hva ⊢
  exact (hva.last f ho hat).off f1 (off_is hg (by decide))
theorem TwoC.snoc {w wa w1 wb w2 : World} {base m : Nat} {vM vB vM' vB' : Value} {vals : List Value} {cs : List (Nat × List UInt8)} (h : TwoC w base vM vB m vals cs)
    (fa : Fr No w wa) (f1 : Fr (fun k => vM.ownBlock = some k) wa w1) (o1 : Own w1 base 3 1 vM' (m + 1) (ints (cs.map (·.1)) ++ [.int .i64 0])) (fb : Fr No w1 wb) (f2 : Fr (fun k => vB.ownBlock = some k) wb w2)
    (o2 : Own w2 base 23 1 vB' (m + 1) (vals ++ [.slice none 0 0])) (hb : base ≤ wa.heap.size) : TwoC w2 base vM' vB' (m + 1) (vals ++ [.slice none 0 0]) (cs ++ [(0, [])]) := by
  have hM := h.mo.fr0 fa
  have hB := (h.bo.fr0 fa).off f1 (off_own hM (by decide))
  have hBb := hB.fr0 fb
  have hV := ((h.va.fr0 fa).off f1 (off_own hM (by decide))).fr0 fb
  have hV2 := hV.off f2 (off_own hBb (by decide))
  refine ⟨?_, o2, ?_⟩
  · have e : ints ((cs ++ [((0 : Nat), ([] : List UInt8))]).map (·.1)) = ints (cs.map (·.1)) ++ [.int .i64 0] := by unfold ints; simp
    rw [e]
    exact (o1.fr0 fb).off f2 (off_own hBb (by decide))
  · have := hV.snoc hV2 (v := .slice none 0 0) (bs := []) (Own.nil _ _ _ _) (Nat.le_trans hb (Nat.le_trans f1.size fb.size))
    simpa using this
end Go.Proofs.Ytpnhnnhocekchaa
namespace Go.Proofs.Ytpnhnnhocekchaa
set_option linter.unusedVariables false
set_option linter.unusedSimpArgs false
open Go.RowKit

set_option maxRecDepth 100000 in
set_option maxHeartbeats 4000000 in
theorem refCuts_any (A : Option Addr) (n c B : Nat) (ds : List (List EntV)) (w : World) (hl : ds.length = n) (hn : n ≤ c) (hc : c ≤ maxLen) (hm : mayB ds) (hB : B ≤ w.heap.size) (hr : RdD w B A ds) :
    Calls Try.prog 44 #[.slice A n c] w (CutsPost w ds) := by
  obtain ⟨i5, hi5, hz5, hsz5, hby5⟩ := info_parts Try.info5
  obtain ⟨i1, hi1, hz1, hsz1, hby1⟩ := info_parts Try.infoIntO
  obtain ⟨i2, hi2, hz2, hsz2, hby2⟩ := info_parts Try.infoB
  have hn16 : n ≤ 16384 := by rw [← hl]; exact hm.1
  have HL := hide hl
  have HR := hide hr
  have HM := hide hm
  have HForm := hide (fun (R : Option Addr) (dn dc : Nat) (D : List EntV) (W : World) => refForm_any R dn dc B D W)
  have HSm := hide (cuts_small hm.2)
  clear hl hr hm
  go_enter Try.func44, Try.ntmps44
  go_wp2_with (fail)
  go_loopw [4, 5, 6] (fun v4 v5 ix wr => ∃ (j m : Nat) (vals : List Value), j ≤ n ∧ ix = .int .i64 j ∧ m ≤ j ∧ Hid (TwoC wr w.heap.size v4 v5 m vals (cutsB (ds.take j))) ∧ Hid (Fr No w wr)) (fun _ _ ix _ => n - (intOf ix).toNat)
  case atStart => exact ⟨0, 0, [], by omega, rfl, by omega, hide (TwoC.nil _ _), hide (Fr.refl _ _)⟩
  case round =>
    obtain ⟨wo, rfl⟩ : ∃ wo : World, wo = wr := ⟨_, rfl⟩
    obtain ⟨j, m, vals, hj, rfl, hmj, HT, HFr⟩ := hrel
    by_cases hlt : j < n
    · obtain ⟨ad, rfl, e0, R, dn, dc, e1, e2, e3, e4, e5⟩ := HR.out j (by rw [HL.out]; exact hlt)
      have HTk := hide (take_getD (l := ds) (d := []) (q := j) (by rw [HL.out]; exact hlt))
      have hmem := getD_mem2 (l := ds) (d := []) (q := j) (by rw [HL.out]; exact hlt)
      have hok := HM.out.2 _ hmem
      generalize ds.getD j [] = D at *
      have HE1 := hide e1
      have HF := hide (fun (W : World) (hW : Fr No w W) => HForm.out R dn dc D W e2 e3 e4 hok (Nat.le_trans hB hW.size) (e5.fr0 hW))
      have hfl := formB_le hok
      obtain ⟨bs, hbs⟩ : ∃ bs, bs = formB D := ⟨_, rfl⟩
      have HBs := hide hbs
      rw [← hbs] at HF hfl
      obtain ⟨bn, hbn⟩ : ∃ bn, bn = bs.length := ⟨_, rfl⟩
      have HBn := hide hbn
      rw [← hbn] at hfl
      obtain ⟨cs, hcs⟩ : ∃ cs, cs = cutsB (ds.take j) := ⟨_, rfl⟩
      rw [← hcs] at HT
      have HCs := hide hcs
      have hcl := HT.out.len
      clear e0 e1 e2 e3 e4 e5 hmem hok hbs hbn hcs
      obtain ⟨AM, cM, rfl, _⟩ := HT.out.mo.form
      obtain ⟨AB, cB, rfl, _⟩ := HT.out.bo.form
      go_upto_region 7 with (fail)
      obtain ⟨k7, hk7⟩ : ∃ k : Int, k = (m : Int) - 1 := ⟨_, rfl⟩
      rw [← hk7]
      refine wp_named fun K hK => ?_
      go_cut [26] from 17 to 26 (fun v wx => v = .bool (fullB cs) ∧ wx = wo)
      case first =>
        rcases Nat.eq_zero_or_pos m with h0 | h0
        · have e : cs = [] := List.eq_nil_of_length_eq_zero (by omega)
          have HFu : Hid (fullB cs = true) := hide (by rw [e]; rfl)
          have hd1 : decide (k7 < 0) = true := decide_eq_true (by omega)
          clear e hcl hk7 h0
          go_wp2
          go_meet
          exact ⟨by rw [HFu.out], rfl⟩
        · obtain ⟨k, hk⟩ : ∃ k, m = k + 1 := ⟨m - 1, by omega⟩
          rw [hk] at HT
          obtain ⟨cs0, x, vals0, gM, cM', gB, cB', A1, c1, e1, q1, q2, q3, eM, eB, q4, q5, q6, q7, q8, q9, k0, k1, k2, k3, q10, q11, q12, q13, q14⟩ := HT.out.last
          injection eM with eM1 eM2 eM3
          injection eB with eB1 eB2 eB3
          subst eM1 eM3 eB1 eB3
          obtain ⟨xl, hxl⟩ : ∃ xl, xl = x.2.length := ⟨_, rfl⟩
          have HFu : Hid (fullB cs = decide (256 ≤ (xl : Int))) := hide (by rw [e1, fullB_snoc, hxl]; exact decide_eq_decide.2 (by omega))
          rw [← hxl] at k2
          have hd1 : decide (k7 < 0) = false := decide_eq_false (by omega)
          have hd2 : 0 ≤ k7 := by omega
          have hd3 : k7 < (m : Int) := by omega
          have hd4 : k7.toNat = k := by omega
          clear e1 q1 q2 q3 q10 q11 q12 q13 q14 hxl k0 k1 k3 hk hk7 h0
          go_wp2
          go_meet
          exact ⟨by rw [HFu.out], rfl⟩
      case rest =>
        obtain ⟨rfl, rfl⟩ := hcut
        refine hK _ _ ?_
        clear hK K
        have HFc := HFr
        go_upto_if 26 with (fail)
        refine wp_named fun K2 hK2 => ?_
        go_cut [4, 5, 7, 26] from 27 to 34 (fun v4 v5 v7 _ wx => ∃ (k : Nat) (vals2 : List Value), v7 = .int .i64 k ∧ k ≤ j ∧ Hid (TwoC wx w.heap.size v4 v5 (k + 1) vals2 ((openB cs).1 ++ [(openB cs).2])) ∧ Hid (Fr No w wx))
        case first =>
          by_cases hfu : fullB cs = true
          · rw [hfu]
            have HFu := hide hfu
            obtain ⟨wa, hwa⟩ : ∃ wa, wa = wc.alloc (.cells #[.int .i64 0] 3) := ⟨_, rfl⟩
            have HFa : Hid (Fr No wc wa) := hide (by rw [hwa]; exact (Fr.refl No wc).alloc _)
            have HS1 : Hid (Src Try.prog 1 65 (.slice (some ⟨wc.heap.size, 0, none⟩) 1 1) 1 [.int .i64 0] (wc.alloc (.cells #[.int .i64 0] 3))) := hide (Src.one (P := Try.prog) wc (e := 3) Try.underlying65 (.int .i64 0) rfl)
            have HO1 := hide (HT.out.mo.fr0 ((Fr.refl No wc).alloc (.cells #[.int .i64 0] 3)))
            have b1 : (m + 1) * 8 ≤ 140737488355328 := by omega
            have b2 : m + 1 ≤ maxLen := by unfold maxLen; omega
            have b3 : w.heap.size ≤ (wc.alloc (.cells #[.int .i64 0] 3)).heap.size := by have := HFr.out.size; simp; omega
            have b4 : (m + 1) * 24 ≤ 140737488355328 := by omega
            have hs : k7 + 1 = (m : Int) := by omega
            clear hfu hwa hk7 hcl
            go_wp2_with (first
              | (at_builtin; refine wpList_append_gen _ rfl (.tmp 27) (.tmp 28) 65 65 rfl w.heap.size 3 i1 (.int .i64 0) 1 8 Try.underlying65 hi1 hz1 hsz1 hby1 rfl (.slice AM m cM) m (ints (cs.map (·.1))) rfl HO1.out _ 1 [.int .i64 0] rfl HS1.out b1 b2 b3 ?_; intro v2 w2 hown hfr hat; have HO2 := hide hown; have HF2 := hide hfr; have HS2 := hide (Src.one (P := Try.prog) w2 (e := 23) Try.underlying37 (.slice none 0 0) rfl); have HO3 := hide (((HT.out.bo.fr0 ((Fr.refl No wc).alloc (.cells #[.int .i64 0] 3))).off hfr (off_own HO1.out (by decide))).fr0 ((Fr.refl No w2).alloc (.cells #[.slice none 0 0] 23))); have b5 : w.heap.size ≤ (w2.alloc (.cells #[.slice none 0 0] 23)).heap.size := (by have := hfr.size; simp; omega); clear hown hfr hat)
              | (at_builtin; refine wpList_append_gen _ rfl (.tmp 30) (.tmp 31) 37 37 rfl w.heap.size 23 i2 (.slice none 0 0) 1 24 Try.underlying37 hi2 hz2 hsz2 hby2 rfl (.slice AB m cB) m vals rfl HO3.out _ 1 [.slice none 0 0] rfl HS2.out b4 b2 b5 ?_; intro v4 w4 hown hfr hat; have HO4 := hide hown; have HF4 := hide hfr; clear hown hfr hat) | fail)
            go_meet
            refine ⟨m, vals ++ [.slice none 0 0], rfl, hmj, hide ?_, hide ?_⟩
            · rw [openB_full HFu.out]
              exact HT.out.snoc ((Fr.refl No wc).alloc _) HF2.out HO2.out ((Fr.refl No w2).alloc _) HF4.out HO4.out b3
            · exact (((HFr.out.alloc _).own HF2.out (fun k hk => .inl (HO1.out.lt k hk).1)).alloc _).own HF4.out (fun k hk => .inl (HO3.out.lt k hk).1)
          · have hfu : fullB cs = false := by simpa using hfu
            obtain ⟨x, hx1, hx2, hx3⟩ := openB_part hfu
            rw [hfu]
            have hx4 : m ≠ 0 := by
              intro h
              rw [hx1, List.length_append, List.length_singleton] at hcl
              omega
            obtain ⟨k, hk⟩ : ∃ k, m = k + 1 := ⟨m - 1, by omega⟩
            have HX : Hid (cs = (openB cs).1 ++ [(openB cs).2]) := hide (by rw [hx2]; exact hx1)
            have HK : Hid (k7 = (k : Int) ∧ m = k + 1) := hide ⟨by omega, hk⟩
            have hkj : k ≤ j := by omega
            clear hx1 hx2 hx3 hfu hx4 hk hk7 hcl
            go_wp2
            go_meet
            refine ⟨k, vals, by rw [HK.out.1], hkj, hide ?_, HFr⟩
            rw [← HX.out, ← HK.out.2]
            exact HT.out
        case rest =>
          obtain ⟨k, vals2, rfl, hkj, HT2, HF2⟩ := hcut
          have hsm := openB_small cs
          obtain ⟨cs0, x, vals0, gM, cM', gB, cB', A1, c1, q0, q1, rfl, q3, rfl, rfl, q4, q5, q6, q7, q8, q9, k0, k1, k2, k3, q10, q11, q12, q13, q14⟩ := HT2.out.last
          obtain ⟨q15, rfl⟩ : (openB cs).1 = cs0 ∧ (openB cs).2 = x := by
            have := List.append_inj' q0 rfl
            exact ⟨this.1, by simpa using this.2⟩
          rw [← q15] at q1
          have HT3 := HT2.out.incr q1 ((openB cs).2.1 + 1)
          obtain ⟨xn, hxn⟩ : ∃ xn, xn = (openB cs).2.1 := ⟨_, rfl⟩
          rw [← hxn] at k0 HT3
          obtain ⟨xl, hxl⟩ : ∃ xl, xl = (openB cs).2.2.length := ⟨_, rfl⟩
          rw [← hxl] at k2 q10 q12 hsm HT3
          have hxj : xn ≤ j := by
            have h1 := openB_cnt cs
            have h2 := cutsB_cnt (ds.take j)
            rw [← HCs.out, List.length_take, HL.out] at h2
            omega
          have HXn := hide hxn
          have HXl := hide hxl
          have HQ3 := hide q3
          have HQ1 := hide q1
          have k4 : wc.cell? ⟨gM, k, none⟩ = some (.int .i64 (xn : Nat)) := k0
          have k5 : wc.frozen? ⟨gM, k, none⟩ = false := k1 k
          have hne : gM ≠ gB := by
            intro e
            subst e
            exact HT2.out.mo.apart HT2.out.bo (by decide) gM q13 q14
          have hki : (k : Int) < (k : Int) + 1 := by omega
          have hkm : decide (k < k + 1) = true := decide_eq_true (by omega)
          rw [show (Value.int .i64 ((xn + 1 : Nat) : Int)) = .int .i64 ((xn : Int) + 1) by go_num] at HT3
          obtain ⟨wy, hwy⟩ : ∃ wy, wy = wc.setCell ⟨gM, k, none⟩ (.int .i64 ((xn : Int) + 1)) := ⟨_, rfl⟩
          rw [← hwy] at HT3
          have FW : Hid (Fr No w wy) := hide (by rw [hwy]; exact HF2.out.setCell (p := ⟨gM, k, none⟩) (fun h => by have h : gM < w.heap.size := h; omega) _)
          have hcy : wy.cell? ⟨gB, k, none⟩ = some (.slice A1 xl c1) := by
            rw [hwy]
            exact (World.cell?_setCell_other wc ⟨gM, k, none⟩ ⟨gB, k, none⟩ _ (by intro h; injection h with h; exact hne h)).trans k2
          have hdy := FW.out.cell HE1.out (fun h => h)
          have fM : Fr (Is gM) wc wy := by rw [hwy]; exact (Fr.refl (Is gM) wc).put _ _
          have HOy : Hid (Own wy w.heap.size 5 1 (.slice A1 xl c1) xl (by8 (openB cs).2.2)) := hide (by
            obtain ⟨_, cs', fz', hh⟩ := HT2.out.mo.cellsT q13
            exact q12.off fM (off_is hh (by decide)))
          have HT4 := hide HT3
          have HCy := hide hcy
          have b1 : (xl + bn) * 1 ≤ 140737488355328 := by omega
          have b2 : xl + bn ≤ maxLen := by unfold maxLen; omega
          have hng : ¬ (Value.slice A1 xl c1).ownBlock = some gB := fun e => HOy.out.apart HT3.bo (by decide) gB e q14
          have HNg := hide hng
          have HQ14 := hide q14
          clear q3 hxn hxl k0 k1 hk7 hcl q0 q1 q10 q11 q12 q13 k2 k3 hne fM HT3 hng q14
          go_upto_region 12 with (fail)
          rw [← hwy]
          clear hwy
          refine wp_named fun K' hK' => ?_
          go_cut [] from 41 to 53 (fun wz => ∃ vals3, Hid (TwoC wz w.heap.size (.slice (some ⟨gM, 0, none⟩) (k + 1) cM') (.slice (some ⟨gB, 0, none⟩) (k + 1) cB') (k + 1) vals3 ((openB cs).1 ++ [(xn + 1, (openB cs).2.2 ++ bs)])) ∧ Hid (Fr No w wz))
          case first =>
            go_region_law (first
              | (go_simp; go_at_call 80; refine (HF.out _ (Fr.drew FW.out)).mono ?_; rintro en w6 ⟨v6, rfl, hown, hfr0⟩; rw [← HBn.out] at hown; obtain ⟨A6, c6, rfl, x1, x2, _⟩ := hown.form; have hfr : Fr No wy w6 := ((Fr.refl No wy).drew).tr hfr0; have FW6 := hide (FW.out.tr hfr); have HT6 := hide (HT4.out.fr0 hfr); have k6 := hfr.cell HCy.out (fun h => h); have K6 := hide k6; have HO6 := hide (HOy.out.fr0 hfr); have HS6 := hide (Src.ofRd (P := Try.prog) (size := 1) w6 Try.underlying23 A6 bn c6 (by8 bs) (by rw [by8_length, HBn.out]; omega) (by omega) hown.rd (by8_one _)); have b3 := FW6.out.size; clear hown hfr hfr0)
              | (refine step_append_hat rfl (.tmp 46) (.tmp 51) 23 23 rfl w.heap.size 5 i5 (.int .u8 0) 1 1 Try.underlying23 hi5 hz5 hsz5 hby5 rfl (.slice A1 xl c1) xl (by8 (openB cs).2.2) rfl HO6.out _ bn (by8 bs) rfl HS6.out b1 b2 b3 ?_; intro v8 w8 hown hfr hat; obtain ⟨A8, c8, rfl, _⟩ := hown.form; have HO8 := hide hown; have HF8 := hide hfr; have HA8 := hide hat; have k8 := hfr.cell K6.out HNg.out; have fz8 : w8.frozen? ⟨gB, k, none⟩ = false := (by obtain ⟨_, e, _, _, _, _, hf, _⟩ := (HT6.out.bo.off hfr (off_own HO6.out (by decide))).storeN (k := k) (by omega); injection e with e; injection e with e; subst e; exact hf k); clear hown hfr hat))
            all_goals (go_wp2; go_meet)
            all_goals
              refine ⟨vals0 ++ [.slice A8 (xl + bn) c8], hide ?_, hide ?_⟩
              · have hlen : ((openB cs).2.2 ++ bs).length = xl + bn := by rw [List.length_append, ← HXl.out, ← HBn.out]
                exact HT6.out.goOn (x := (xn + 1, (openB cs).2.2)) HQ3.out (by show Own _ _ _ _ _ (openB cs).2.2.length _; rw [← HXl.out]; exact HO6.out) HF8.out (by show Own _ _ _ _ _ ((openB cs).2.2 ++ bs).length _; rw [hlen, by8_append]; exact HO8.out) HA8.out
              · exact (FW6.out.own HF8.out (fun g hg => .inl (HO6.out.lt g hg).1)).setCell (p := ⟨gB, k, none⟩) (fun h => by have h : gB < w.heap.size := h; omega) _
          case rest =>
            obtain ⟨vals3, HT9, HF9⟩ := hcut
            refine hK' _ _ ?_
            clear hK' K'
            go_wp2
            go_roundw
            case rel =>
              refine ⟨j + 1, k + 1, vals3, by omega, by go_num, by omega, hide ?_, HF9⟩
              rw [HTk.out, cutsB_snoc, ← HCs.out, ← HBs.out, addD_open, ← HXn.out]
              exact HT9.out
            case measure => simp [intOf]; omega
    · obtain rfl : j = n := by omega
      have htk : ds.take j = ds := List.take_of_length_le (by rw [HL.out]; exact Nat.le_refl _)
      rw [htk] at HT
      clear hlt htk
      obtain ⟨AM, cM, rfl, _⟩ := HT.out.mo.form
      obtain ⟨AB, cB, rfl, _⟩ := HT.out.bo.form
      go_wp2
      go_ret2
      exact ⟨_, _, m, vals, rfl, HFr.out, HT.out⟩
end Go.Proofs.Ytpnhnnhocekchaa
