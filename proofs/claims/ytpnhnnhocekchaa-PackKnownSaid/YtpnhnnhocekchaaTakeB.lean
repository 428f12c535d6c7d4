/- Bytes: its walk. -/
import Derived.Test.YtpnhnnhocekchaaBytesP
import Derived.Deep.RegionWith
namespace Go.Proofs.Ytpnhnnhocekchaa
set_option linter.unusedVariables false
set_option linter.unusedSimpArgs false
open Go.RowKit

set_option maxRecDepth 100000 in
set_option maxHeartbeats 800000 in
theorem bytes1_bad (b2 : Nat) (x : Int) (A : Option Addr) (n c : Nat) (W : World) (hn : n ≤ c) (hc : c ≤ maxLen) (hx : x < 0 ∨ (n : Int) < x) (c2 : W.cell? ⟨b2, 0, none⟩ = some (.int .i64 x)) :
    Calls Try.prog 96 #[.slice A n c, .pointer (some ⟨b2, 0, none⟩)] W (Ret (.tuple #[.slice none 0 0, .int .i64 (-1)]) W) := by
  unfold maxLen at hc
  by_cases h0 : x < 0
  all_goals
    go_enter Try.func96, Try.ntmps96
    go_wp2
    go_ret2
    exact ⟨rfl, rfl⟩

set_option maxRecDepth 100000 in
set_option maxHeartbeats 800000 in
theorem bytes1_ok (b2 k : Nat) (A : Option Addr) (n c B : Nat) (t : List UInt8) (W : World) (hk : k ≤ n) (hn : n ≤ c) (hc : c ≤ maxLen) (hb : n ≤ 140737488355328) (hB : B ≤ W.heap.size) (ht : t.length = k) (hr : Rd W B A (by8 t)) (c2 : W.cell? ⟨b2, 0, none⟩ = some (.int .i64 k)) :
    Calls Try.prog 96 #[.slice A n c, .pointer (some ⟨b2, 0, none⟩)] W (fun en w' => ∃ v, en = .returned (.tuple #[v, .int .i64 k]) ∧ Own w' W.heap.size 5 1 v k (by8 t) ∧ Fr No W w') := by
  have HC := hide hc
  unfold maxLen at hc
  have HR := hide hr
  have HB := hide hB
  have HT := hide ht
  have hkc : k ≤ c := by omega
  have hkb : k ≤ 140737488355328 := by omega
  clear hr hB ht
  go_enter Try.func96, Try.ntmps96
  go_wp2
  go_region_with (first
    | (go_at_call 92; refine (clone_any A k c B t _ HT.out hkc HC.out hkb ?_ ?_).mono ?_; exact HB.out; exact HR.out; rintro en w1 ⟨v1, rfl, hown, hfr⟩; obtain ⟨A1, c1, rfl, hq1, hq2, _⟩ := hown.form; have c2' : w1.cell? ⟨b2, 0, none⟩ = some (.int .i64 k) := hfr.cell (p := ⟨b2, 0, none⟩) c2 (fun h => h); have HO : Hid (Own w1 W.heap.size 5 1 (.slice A1 t.length c1) t.length (by8 t)) := hown; have HF : Hid (Fr No W w1) := ⟨hfr.os, hfr.tape, hfr.output, hfr.size, hfr.block⟩; clear hown hfr)
    | (go_at_call 59; refine (clip_any A1 t.length c1 _ hq1 hq2).mono ?_; rintro en w2 ⟨rfl, rfl⟩))
  all_goals (try go_wp2)
  all_goals go_ret2
  all_goals
    refine ⟨_, rfl, ?_, ?_⟩
    · have h := HO.out.clip
      rw [HT.out] at h
      rw [HT.out]
      exact h
    · exact HF.out

/-- bytes of a reader: new ones. -/
def GivesRB (s : List UInt8) (w : World) (g : Nat) (bs : List UInt8) (a : Nat) (e : Int) (en : Ending) (w' : World) : Prop :=
  ∃ v, en = .returned v ∧ Own w' w.heap.size 5 1 v s.length (by8 s) ∧ RD w' g bs a e ∧ Fr (Is g) w w'

/-- .., and the reader's bytes lie where they lay. -/
def Same0 (w : World) (g : Nat) (w' : World) : Prop := w'.cell? ⟨g, 0, none⟩ = w.cell? ⟨g, 0, none⟩

def RDRetC (v : Value) (w : World) (g : Nat) (bs : List UInt8) (a : Nat) (e : Int) (en : Ending) (w' : World) : Prop := RDRet v w g bs a e en w' ∧ Same0 w g w'

def GivesRC (s : List UInt8) (w : World) (g : Nat) (bs : List UInt8) (a : Nat) (e : Int) (en : Ending) (w' : World) : Prop := GivesRB s w g bs a e en w' ∧ Same0 w g w'

theorem Same0.put {w w' : World} {g : Nat} (h : Same0 w g w') (i : Nat) (hi : i ≠ 0) (v : Value) : Same0 w g (w'.setCell ⟨g, i, none⟩ v) :=
  (World.cell?_setCell_other w' ⟨g, i, none⟩ ⟨g, 0, none⟩ v (by intro h; injection h; exact hi (by assumption))).trans h

theorem Same0.fr {w w' : World} {g : Nat} {v : Value} (h : w.cell? ⟨g, 0, none⟩ = some v) (f : Fr No w w') : Same0 w g w' := (f.cell (p := ⟨g, 0, none⟩) h (fun h => h)).trans h.symm

theorem Same0.drewN (w : World) (g n : Nat) : Same0 w g (w.drewN n) := rfl

set_option maxRecDepth 100000 in
set_option maxHeartbeats 400000 in
theorem takeB_bad (g : Nat) (bs : List UInt8) (a b2 : Nat) (x : Int) (w : World) (h : RD w g bs a 0) (c2 : w.cell? ⟨b2, 0, none⟩ = some (.int .i64 x)) (hx : x < 0 ∨ ((bs.length - a : Nat) : Int) < x) :
    Calls Try.prog 95 #[.pointer (some ⟨g, 0, none⟩), .func (.func 96) #[] #[.pointer (some ⟨b2, 0, none⟩)]] w (RDRetC (.slice none 0 0) w g bs a 20) := by
  obtain ⟨A, c, ⟨d0, d1, d2⟩, hf, h1, h2, h3, h4, hr⟩ := h.parts
  have HN : Hid (∀ nq, Calls Try.prog 96 #[.slice (if c = a then A else A.map (·.add a)) (bs.length - a) (c - a), .pointer (some ⟨b2, 0, none⟩)] (w.drewN nq) fun e w' => e = .returned (.tuple #[.slice none 0 0, .int .i64 (-1)]) ∧ w' = w.drewN nq) := fun nq =>
    (bytes1_bad b2 x _ _ _ (w.drewN nq) (by omega) (by omega) hx c2).mono fun _ _ ⟨p, q⟩ => ⟨p, q.symm⟩
  have H := hide h
  clear h hr hx c2
  go_enter Try.func95, Try.ntmps95
  go_wp2_with (fail)
  go_quiet ((go_at_call 96; exact Calls.quiet_of_same (HN.out _)))
  go_wp2
  all_goals
    go_ret
    exact ⟨⟨rfl, (H.out.drewN _).set2 20, ((Fr.refl _ _).drewN _).put _ _⟩, (Same0.drewN _ _ _).put 2 (by omega) _⟩

set_option maxRecDepth 100000 in
set_option maxHeartbeats 800000 in
theorem takeB_ok (g : Nat) (bs : List UInt8) (a b2 k : Nat) (w : World) (h : RD w g bs a 0) (c2 : w.cell? ⟨b2, 0, none⟩ = some (.int .i64 k)) (hk : a + k ≤ bs.length) :
    Calls Try.prog 95 #[.pointer (some ⟨g, 0, none⟩), .func (.func 96) #[] #[.pointer (some ⟨b2, 0, none⟩)]] w (GivesRC ((bs.drop a).take k) w g bs (a + k) 0) := by
  obtain ⟨A, c, ⟨d0, d1, d2⟩, hf, h1, h2, h3, h4, hr⟩ := h.parts
  have htl : ((bs.drop a).take k).length = k := by simp; omega
  have hrt : Rd w w.heap.size (if c = a then A else A.map (·.add a)) (by8 ((bs.drop a).take k)) := by
    rw [by8_take, by8_drop]
    exact (hr.cut (by rw [by8_length]; exact h1)).tk k
  have HN : Hid (∀ w', w'.heap = w.heap → Calls Try.prog 96 #[.slice (if c = a then A else A.map (·.add a)) (bs.length - a) (c - a), .pointer (some ⟨b2, 0, none⟩)] w' (fun en w2 => ∃ v, en = .returned (.tuple #[v, .int .i64 k]) ∧ Own w2 w'.heap.size 5 1 v k (by8 ((bs.drop a).take k)) ∧ Fr No w' w2)) := by
    intro w' hw
    have hcell : ∀ p, w'.cell? p = w.cell? p := fun p => by simp [World.cell?, hw]
    refine bytes1_ok b2 k _ _ _ w'.heap.size _ w' (by omega) (by omega) (by omega) (by omega) (Nat.le_refl _) htl ?_ (by rw [hcell]; exact c2)
    intro j u hu
    obtain ⟨ad, e, hb, hcc⟩ := hrt j u hu
    exact ⟨ad, e, by rw [hw]; exact hb, by rw [hcell]; exact hcc⟩
  have H := hide h
  have HTL := hide htl
  generalize (bs.drop a).take k = t at HN HTL
  clear h hr hrt c2 htl
  by_cases hca : c = a
  · have HN1 := HN.out
    rw [if_pos hca, hca, Nat.sub_self] at HN1
    have HN2 := hide HN1
    clear HN HN1
    go_enter Try.func95, Try.ntmps95
    go_wp2_with (fail)
    go_region_with (go_at_call 96; refine (HN2.out w.drew rfl).mono ?_; rintro en w1 ⟨v1, rfl, hown, hfr⟩; have HO : Hid (Own w1 w.heap.size 5 1 v1 k (by8 t)) := hown; have HF : Hid (Fr No w w1) := ⟨hfr.os, hfr.tape, hfr.output, hfr.size, hfr.block⟩; clear hown hfr; have HR1 := hide (H.out.fr0 HF.out); obtain ⟨A1, k1, ⟨e0, e1, e2⟩, hf1, _⟩ := HR1.out.parts)
    all_goals (try go_wp2)
    all_goals go_ret
    all_goals
      refine ⟨⟨_, rfl, ?_, HR1.out.set1 _ hk, (HF.out.any (Is g)).put _ _⟩, (Same0.fr d0 HF.out).put 1 (by omega) _⟩
      rw [HTL.out]
      refine HO.out.fr ((Fr.refl (Is g) w1).put 1 _) ?_
      rintro g' hg' rfl
      obtain ⟨_, _, hh, _⟩ := HR1.out
      exact HO.out.ne_blk hg' hh (by decide)
  · have HN1 := HN.out
    rw [if_neg hca] at HN1
    have HN2 := hide HN1
    clear HN HN1
    go_enter Try.func95, Try.ntmps95
    go_wp2_with (fail)
    go_region_with (go_at_call 96; refine (HN2.out w.drew rfl).mono ?_; rintro en w1 ⟨v1, rfl, hown, hfr⟩; have HO : Hid (Own w1 w.heap.size 5 1 v1 k (by8 t)) := hown; have HF : Hid (Fr No w w1) := ⟨hfr.os, hfr.tape, hfr.output, hfr.size, hfr.block⟩; clear hown hfr; have HR1 := hide (H.out.fr0 HF.out); obtain ⟨A1, k1, ⟨e0, e1, e2⟩, hf1, _⟩ := HR1.out.parts)
    all_goals (try go_wp2)
    all_goals go_ret
    all_goals
      refine ⟨⟨_, rfl, ?_, HR1.out.set1 _ hk, (HF.out.any (Is g)).put _ _⟩, (Same0.fr d0 HF.out).put 1 (by omega) _⟩
      rw [HTL.out]
      refine HO.out.fr ((Fr.refl (Is g) w1).put 1 _) ?_
      rintro g' hg' rfl
      obtain ⟨_, _, hh, _⟩ := HR1.out
      exact HO.out.ne_blk hg' hh (by decide)

set_option maxRecDepth 100000 in
set_option maxHeartbeats 400000 in
theorem takeB_off (g : Nat) (bs : List UInt8) (at_ : Nat) (e : Int) (w : World) (f : Value) (h : RD w g bs at_ e) (he : e ≠ 0) :
    Calls Try.prog 95 #[.pointer (some ⟨g, 0, none⟩), f] w (RDRetC (.slice none 0 0) w g bs at_ e) := by
  obtain ⟨A, c, ⟨c0, c1, c2⟩, hf, h1, h2, h3, h4, hr⟩ := h.parts
  have hb : (e != 0) = true := by simpa using he
  have H := hide h
  clear h hr he
  go_enter Try.func95, Try.ntmps95
  go_wp2_with (fail)
  go_ret
  exact ⟨⟨rfl, H.out, Fr.refl _ _⟩, rfl⟩

set_option maxRecDepth 100000 in
set_option maxHeartbeats 400000 in
theorem takeB_nil (w : World) (f : Value) :
    Calls Try.prog 95 #[.pointer none, f] w (Ret (.slice none 0 0) w) := by
  go_enter Try.func95, Try.ntmps95
  go_wp2_with (fail)
  go_ret
  exact ⟨rfl, rfl⟩

theorem GivesRB.nil {w : World} {g : Nat} {bs : List UInt8} {a : Nat} {e : Int} {en : Ending} {w' : World} (h : RDRet (.slice none 0 0) w g bs a e en w') : GivesRB [] w g bs a e en w' :=
  ⟨_, h.1, Own.nil _ _ _ _, h.2.1, h.2.2⟩

theorem GivesRC.nil {w : World} {g : Nat} {bs : List UInt8} {a : Nat} {e : Int} {en : Ending} {w' : World} (h : RDRetC (.slice none 0 0) w g bs a e en w') : GivesRC [] w g bs a e en w' := ⟨GivesRB.nil h.1, h.2⟩

theorem takeB_all (g : Nat) (bs : List UInt8) (a b2 : Nat) (e x : Int) (w : World) (h : RD w g bs a e) (c2 : w.cell? ⟨b2, 0, none⟩ = some (.int .i64 x)) :
    Calls Try.prog 95 #[.pointer (some ⟨g, 0, none⟩), .func (.func 96) #[] #[.pointer (some ⟨b2, 0, none⟩)]] w (GivesRC (bytesS bs a e x).1 w g bs (bytesS bs a e x).2.1 (bytesS bs a e x).2.2) := by
  unfold bytesS
  by_cases he : e = 0
  · subst he
    rw [if_pos rfl]
    unfold bytesR
    by_cases hx : x < 0 ∨ ((bs.drop a).length : Int) < x
    · rw [if_pos hx]
      exact (takeB_bad g bs a b2 x w h c2 (by simpa using hx)).mono fun _ _ h => GivesRC.nil h
    · rw [if_neg hx]
      obtain ⟨k, rfl⟩ := Int.eq_ofNat_of_zero_le (a := x) (by omega)
      exact takeB_ok g bs a b2 k w h c2 (by
        obtain ⟨_, _, _, _, _, h3, _⟩ := h
        simp at hx
        omega)
  · rw [if_neg he]
    exact (takeB_off g bs a e w _ h he).mono fun _ _ h => GivesRC.nil h

set_option maxRecDepth 100000 in
set_option maxHeartbeats 400000 in
theorem bytes_anyC (g : Nat) (bs : List UInt8) (a : Nat) (e x : Int) (w : World) (h : RD w g bs a e) :
    Calls Try.prog 63 #[.pointer (some ⟨g, 0, none⟩), .int .i64 x] w (GivesRC (bytesS bs a e x).1 w g bs (bytesS bs a e x).2.1 (bytesS bs a e x).2.2) := by
  have H := hide (fun t => takeB_all g bs a w.heap.size e x _ (h.fr0 ((Fr.refl No w).alloc _)) (box0 w (.int .i64 x) t))
  have H00 : Hid (∀ t, (w.alloc (.cells #[.int .i64 x] t)).cell? ⟨g, 0, none⟩ = w.cell? ⟨g, 0, none⟩) := fun t => by
    obtain ⟨_, _, ⟨q, _⟩, _⟩ := h.parts
    exact Same0.fr q ((Fr.refl No w).alloc _)
  clear h
  generalize bytesS bs a e x = y at H
  go_enter Try.func63, Try.ntmps63
  go_wp2_with (go_at_call 95; refine (H.out _).mono ?_; rintro en w' ⟨⟨v, rfl, hq⟩, h0⟩; have HQ := hide hq; have H0 : Hid (Same0 w g w') := hide (h0.trans (H00.out _)); clear hq h0)
  go_ret
  exact ⟨⟨_, rfl, HQ.out.1.lower (by simp), HQ.out.2.1, ((Fr.refl (Is g) w).alloc _).ts HQ.out.2.2⟩, H0.out⟩

theorem bytes_any (g : Nat) (bs : List UInt8) (a : Nat) (e x : Int) (w : World) (h : RD w g bs a e) :
    Calls Try.prog 63 #[.pointer (some ⟨g, 0, none⟩), .int .i64 x] w (GivesRB (bytesS bs a e x).1 w g bs (bytesS bs a e x).2.1 (bytesS bs a e x).2.2) := (bytes_anyC g bs a e x w h).mono fun _ _ h => h.1

set_option maxRecDepth 100000 in
set_option maxHeartbeats 400000 in
theorem bytes_nil (x : Int) (w : World) :
    Calls Try.prog 63 #[.pointer none, .int .i64 x] w (fun en w' => en = .returned (.slice none 0 0) ∧ Fr No w w') := by
  go_enter Try.func63, Try.ntmps63
  go_wp2_with (go_at_call 95; refine (takeB_nil _ _).mono ?_; rintro en w' ⟨rfl, rfl⟩)
  go_ret
  exact ⟨rfl, (Fr.refl No w).alloc _⟩

/-- where a reader's bytes lie: below M. -/
def At0 (w : World) (g M : Nat) : Prop := ∀ A n c, w.cell? ⟨g, 0, none⟩ = some (.slice A n c) → ∀ k, (Value.slice A n c).ownBlock = some k → k < M

theorem At0.of {w : World} {g : Nat} {bs : List UInt8} {a : Nat} {e : Int} (h : RD w g bs a e) : At0 w g w.heap.size := by
  obtain ⟨A, c, hh, h1, h2, h3, h4, ho⟩ := h
  intro A' n' c' hc k hk
  rw [cell_of_row w g 0 _ _ (0, 0) hh] at hc
  have : Value.slice A bs.length c = .slice A' n' c' := by simpa using hc
  rw [← this] at hk
  exact (ho.lt k hk).2

theorem At0.same {w w' : World} {g M : Nat} (h : At0 w g M) (f : Same0 w g w') : At0 w' g M := by
  intro A n c hc k hk
  exact h A n c (f.symm.trans hc) k hk

/-- stores into blocks from M on leave a reader alone, if it and its bytes lie below M. -/
theorem RD.above {S : Nat → Prop} {w w' : World} {g M : Nat} {bs : List UInt8} {a : Nat} {e : Int} (h : RD w g bs a e) (h0 : At0 w g M) (hg : g < M) (f : Fr S w w') (hS : ∀ k, k < M → ¬ S k) : RD w' g bs a e := by
  obtain ⟨A, c, hh, h1, h2', h3, h4, ho⟩ := h
  refine ⟨A, c, f.blk hh (hS g hg), h1, h2', h3, h4, ho.fr f ?_⟩
  intro k hk
  exact hS k (h0 A bs.length c (by rw [cell_of_row w g 0 _ _ (0, 0) hh]; rfl) k hk)

end Go.Proofs.Ytpnhnnhocekchaa
