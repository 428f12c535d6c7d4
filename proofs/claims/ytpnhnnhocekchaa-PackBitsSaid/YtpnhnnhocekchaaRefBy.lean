/- The document's reader: Bytes. -/
import Derived.Test.YtpnhnnhocekchaaRefRd
import Derived.Test.YtpnhnnhocekchaaBytesP
import Derived.StillTailTactics
namespace Go.Proofs.Ytpnhnnhocekchaa
set_option linter.unusedVariables false
set_option linter.unusedSimpArgs false
open Go.RowKit

set_option maxRecDepth 100000 in
set_option maxHeartbeats 800000 in
theorem refB_bad (B g : Nat) (bs : List UInt8) (a : Nat) (w : World) (x : Int) (h : RS w B g bs a 0) (hx : x < 0 ∨ ((bs.length - a : Nat) : Int) < x) :
    Calls Try.prog 69 #[.pointer (some ⟨g, 0, none⟩), .int .i64 x] w (RSRet (.slice none 0 0) w B g bs a 20) := by
  obtain ⟨A, c, ⟨c0, c1, c2⟩, hf, h1, h2, h3, h4, hr, hB⟩ := h.parts
  have H := hide h
  clear h
  clear hr
  obtain ⟨y, hy⟩ : ∃ y : Nat, y = bs.length - a := ⟨_, rfl⟩
  have i2 : IntKind.i64.wrap ((bs.length : Int) - a) = (y : Int) := by rw [IntWalk.i64_in _ (by omega)]; omega
  rw [← hy] at hx
  clear hy
  by_cases h0 : x < 0
  · have d1 : decide (x < 0) = true := by simp; omega
    go_enter Try.func69, Try.ntmps69
    go_wp2
    go_quiet (fail)
    clear d1 i2
    go_wp2
    go_ret
    exact ⟨rfl, (H.out.drewN _).set2 20, ((Fr.refl _ _).drewN _).put _ _⟩
  · have d1 : decide (x < 0) = false := by simp; omega
    have d2 : decide ((y : Int) < x) = true := by simp; omega
    go_enter Try.func69, Try.ntmps69
    go_wp2
    go_quiet (fail)
    clear d1 d2 i2
    go_wp2
    go_ret
    exact ⟨rfl, (H.out.drewN _).set2 20, ((Fr.refl _ _).drewN _).put _ _⟩

def GivesRSB (s : List UInt8) (w : World) (B g : Nat) (bs : List UInt8) (a : Nat) (e : Int) (en : Ending) (w' : World) : Prop :=
  ∃ v, en = .returned v ∧ Own w' w.heap.size 5 1 v s.length (by8 s) ∧ RS w' B g bs a e ∧ Fr (Is g) w w'

set_option maxRecDepth 100000 in
set_option maxHeartbeats 800000 in
theorem refB_ok (B g : Nat) (bs : List UInt8) (a : Nat) (w : World) (k : Nat) (h : RS w B g bs a 0) (hk : a + k ≤ bs.length) :
    Calls Try.prog 69 #[.pointer (some ⟨g, 0, none⟩), .int .i64 k] w (GivesRSB ((bs.drop a).take k) w B g bs (a + k) 0) := by
  obtain ⟨A, c, ⟨c0, c1, c2⟩, hf, h1, h2, h3, h4, hr, hB⟩ := h.parts
  have H := hide h
  clear h
  obtain ⟨i0, hi, hz, hsz, hby⟩ := info_parts Try.info5
  have htl : ((bs.drop a).take k).length = k := by simp; omega
  have HS : Hid (∀ (w' : World) (A : Option Addr) (c : Nat), bs.length ≤ c → Rd w' B A (by8 bs) → Src Try.prog 1 23 (.slice (if c = a then A else A.map (·.add a)) k (c - a)) k (by8 ((bs.drop a).take k)) w') := fun w' A c h1 hw => Src.ofRd (P := Try.prog) (size := 1) (B := B) w' Try.underlying23 _ k _ _ (by rw [by8_length, htl]; omega) (by omega) (by
    rw [by8_take, by8_drop]
    exact (hw.cut (by rw [by8_length]; exact h1)).tk k) (by8_one _)
  have HTL := hide htl
  generalize (bs.drop a).take k = t at HS HTL
  clear htl hr
  obtain ⟨y, hy⟩ : ∃ y : Nat, y = bs.length - a := ⟨_, rfl⟩
  obtain ⟨z, hz'⟩ : ∃ z : Nat, z = a + k := ⟨_, rfl⟩
  have i2 : IntKind.i64.wrap ((bs.length : Int) - a) = (y : Int) := by rw [IntWalk.i64_in _ (by omega)]; omega
  have i3 : IntKind.i64.wrap ((a : Int) + k) = (z : Int) := by rw [IntWalk.i64_in _ (by omega)]; omega
  have d1 : decide ((k : Int) < 0) = false := by simp
  have d2 : decide (y < k) = false := by simp; omega
  have t3 : z ≤ c := by omega
  have t4 : z - a = k := by omega
  have t5 : a ≤ z := by omega
  have t7 : z ≤ bs.length := by omega
  have HZ := hide hz'
  have b1 : (0 + k) * 1 ≤ 140737488355328 := by omega
  have b2 : 0 + k ≤ maxLen := by unfold maxLen; omega
  clear hy hz'
  go_enter Try.func69, Try.ntmps69
  go_wp2
  go_quiet (fail)
  clear i2 d1 d2
  go_wp2
  have H3 := hide (H.out.drewN nq)
  have F3 := hide ((Fr.refl No w).drewN nq)
  generalize w.drewN nq = w3 at H3 F3 ⊢
  clear c0 c1 c2 hf H
  obtain ⟨A3, k3, ⟨e0, e1, e2⟩, hf1, q1, q2, _, _, hr3, _⟩ := H3.out.parts
  have t6 : z ≤ k3 := by omega
  have HS3 := hide (HS.out w3.drew A3 k3 q1 hr3)
  have HO0 := hide (Own.nil w3.drew w.heap.size 5 1)
  have b3 : w.heap.size ≤ w3.drew.heap.size := F3.out.size
  clear HS hr3
  unfold maxLen at q2
  go_still_tail 16, (by kernel_rfl)
  change wpList _ _ _ _ _ w3.drew
  go_wp2_with (at_builtin; refine wpList_append_gen _ rfl (.tmp 34) (.tmp 49) 23 23 rfl w.heap.size 5 i0 (.int .u8 0) 1 1 Try.underlying23 hi hz hsz hby rfl (.slice none 0 0) 0 [] rfl HO0.out _ k (by8 t) rfl HS3.out b1 b2 b3 ?_; intro v' w4 hown hfr hat; have HO4 := hide hown; have HF4 : Hid (Fr No w w4) := hide (((F3.out.drewN 1)).own hfr (fun g h => by cases h)); have HFa : Hid (Fr No w3 w4) := hide (((Fr.refl No w3).drew).own hfr (fun g h => by cases h)); clear hown hfr hat; have H4 := hide (H3.out.fr0 HFa.out); obtain ⟨A4, k4, ⟨f0, f1, f2⟩, hf4, _⟩ := H4.out.parts)
  all_goals go_ret
  all_goals
    refine ⟨_, rfl, ?_, ?_, ?_⟩
    · rw [HTL.out]
      have h := HO4.out
      rw [Nat.zero_add, List.nil_append] at h
      refine h.fr ((Fr.refl (Is g) w4).put 1 _) ?_
      rintro g' hg' rfl
      obtain ⟨_, _, hh, _⟩ := H4.out
      exact h.ne_blk hg' hh (by decide)
    · have h := H4.out.set1 z t7
      rw [← HZ.out]
      exact h
    · exact (HF4.out.any (Is g)).put _ _

set_option maxRecDepth 100000 in
set_option maxHeartbeats 800000 in
theorem refB_off (B g : Nat) (bs : List UInt8) (a : Nat) (e : Int) (w : World) (x : Int) (h : RS w B g bs a e) (he : e ≠ 0) :
    Calls Try.prog 69 #[.pointer (some ⟨g, 0, none⟩), .int .i64 x] w (RSRet (.slice none 0 0) w B g bs a e) := by
  obtain ⟨A, c, ⟨c0, c1, c2⟩, hf, h1, h2, h3, h4, hr, hB⟩ := h.parts
  have hb : (e != 0) = true := by simpa using he
  have H := hide h
  clear h hr he
  go_enter Try.func69, Try.ntmps69
  go_wp2_with (fail)
  go_ret
  exact ⟨rfl, H.out, Fr.refl _ _⟩

set_option maxRecDepth 100000 in
set_option maxHeartbeats 800000 in
theorem refB_nil (w : World) (x : Int) :
    Calls Try.prog 69 #[.pointer none, .int .i64 x] w (Ret (.slice none 0 0) w) := by
  go_enter Try.func69, Try.ntmps69
  go_wp2_with (fail)
  go_ret
  exact ⟨rfl, rfl⟩

theorem GivesRSB.nil {w : World} {B g : Nat} {bs : List UInt8} {a : Nat} {e : Int} {en : Ending} {w' : World} (h : RSRet (.slice none 0 0) w B g bs a e en w') : GivesRSB [] w B g bs a e en w' :=
  ⟨_, h.1, Own.nil _ _ _ _, h.2.1, h.2.2⟩

theorem refB_any (B g : Nat) (bs : List UInt8) (a : Nat) (e x : Int) (w : World) (h : RS w B g bs a e) :
    Calls Try.prog 69 #[.pointer (some ⟨g, 0, none⟩), .int .i64 x] w (GivesRSB (bytesS bs a e x).1 w B g bs (bytesS bs a e x).2.1 (bytesS bs a e x).2.2) := by
  unfold bytesS
  by_cases he : e = 0
  · subst he
    rw [if_pos rfl]
    unfold bytesR
    by_cases hx : x < 0 ∨ ((bs.drop a).length : Int) < x
    · rw [if_pos hx]
      exact (refB_bad B g bs a w x h (by simpa using hx)).mono fun _ _ h => GivesRSB.nil h
    · rw [if_neg hx]
      obtain ⟨k, rfl⟩ := Int.eq_ofNat_of_zero_le (a := x) (by omega)
      exact refB_ok B g bs a w k h (by
        obtain ⟨_, _, _, _, _, h3, _⟩ := h
        simp at hx
        omega)
  · rw [if_neg he]
    exact (refB_off B g bs a e w x h he).mono fun _ _ h => GivesRSB.nil h

end Go.Proofs.Ytpnhnnhocekchaa
