/- Is there a name that is none? A call is counted. -/
import Derived.Test.YthbgcmffpnmbeaaVfG
namespace Go.Proofs.Ythbgcmffpnmbeaa
set_option linter.unusedVariables false
set_option linter.unusedSimpArgs false
open Go.RowKit Go.Maps

set_option maxRecDepth 100000 in
theorem bad_any (t : Tx) (w : World) : Calls Try.prog 76 #[sv t] w (RetB (!goodP t) w) := by
  have H := hide (good_any t w)
  generalize sv t = v at H
  go_enter Try.func76, Try.ntmps76
  go_wp2_with (go_at_call 47; refine H.out.mono ?_; rintro e w1 ⟨rfl, hf⟩; have HF := hide hf; clear hf)
  go_ret
  exact ⟨rfl, HF.out⟩

set_option maxRecDepth 100000 in
set_option maxHeartbeats 800000 in
theorem idx_any (A : Option Addr) (n c B : Nat) (xs : List Tx) (w : World) (hx : xs.length = n) (hn : n ≤ c) (hc : c ≤ maxLen) (hB : B ≤ w.heap.size) (hr : Rd w B A (svs xs)) :
    Calls Try.prog 86 #[.slice A n c, .func (.func 76) #[] #[]] w
      (fun en w' => ∃ z : Int, en = .returned (.int .i64 z) ∧ decide (0 ≤ z) = !xs.all goodP ∧ Fr No w w') := by
  unfold maxLen at hc
  have HX := hide hx
  have HR := hide hr
  clear hx hr
  go_enter Try.func86, Try.ntmps86
  go_wp2
  go_loopw [8] (fun i wr => ∃ k : Nat, k ≤ n ∧ i = .int .i64 k ∧ Hid (Fr No w wr) ∧ Hid ((xs.take k).all goodP = true)) (fun i _ => n - (intOf i).toNat)
  case atStart => exact ⟨0, by omega, rfl, hide (Fr.refl _ _), hide rfl⟩
  case round =>
    obtain ⟨k, hk, rfl, HW, HT⟩ := hrel
    by_cases hlt : k < n
    · have h1 : k < xs.length := by rw [HX.out]; exact hlt
      obtain ⟨ad, X, rfl, _, hcell, hX, _, _⟩ := cellStr (HR.out.fr0 HW.out) h1
      have ev : Value.string X = sv (xs.getD k []) := by unfold sv; rw [← hX]
      have HC := hide (fun W => bad_any (xs.getD k []) W)
      rw [← ev] at HC
      have hm : (xs.take (k + 1)).all goodP = goodP (xs.getD k []) := by
        rw [take_getD [] h1, List.all_append, HT.out]; simp
      have HM := hide hm
      have HB : Hid (goodP (xs.getD k []) = false → xs.all goodP = false) := hide fun h => by
        rw [List.all_eq_false]
        exact ⟨_, getD_mem h1, by rw [h]; simp⟩
      clear hm ev hX
      generalize goodP (xs.getD k []) = g at HM HB HC
      cases g with
      | true =>
        go_wp2_with (go_at_call 76; refine (HC.out _).mono ?_; rintro e w1 ⟨rfl, hf⟩; have HF := hide hf; clear hf)
        go_round
        case rel => exact ⟨k + 1, by omega, by go_num, hide (HW.out.tr HF.out), HM⟩
        case measure => simp [intOf]; omega
      | false =>
        have HB2 := hide (HB.out rfl)
        clear HB
        go_wp2_with (go_at_call 76; refine (HC.out _).mono ?_; rintro e w1 ⟨rfl, hf⟩; have HF := hide hf; clear hf)
        go_ret
        exact ⟨_, rfl, by rw [HB2.out]; simp, HW.out.tr HF.out⟩
    · have HF := hide (show xs.all goodP = true by
        have h := HT.out
        rwa [List.take_of_length_le (by rw [HX.out]; omega)] at h)
      go_wp2
      go_ret
      exact ⟨-1, rfl, by rw [HF.out]; simp, HW.out⟩
set_option maxRecDepth 100000 in
theorem anybad_any (A : Option Addr) (n c B : Nat) (xs : List Tx) (w : World) (hx : xs.length = n) (hn : n ≤ c) (hc : c ≤ maxLen) (hB : B ≤ w.heap.size) (hr : Rd w B A (svs xs)) :
    Calls Try.prog 75 #[.slice A n c, .func (.func 76) #[] #[]] w (RetB (!xs.all goodP) w) := by
  have H := hide (idx_any A n c B xs w hx hn hc hB hr)
  generalize xs.all goodP = g at H
  clear hx hr
  go_enter Try.func75, Try.ntmps75
  go_wp2_with (go_at_call 86; refine H.out.mono ?_; rintro e w1 ⟨z, rfl, hz, hf⟩; have HF := hide hf; have HZ := hide hz; clear hf hz)
  go_ret
  exact ⟨by rw [← HZ.out]; rfl, HF.out⟩

theorem rd_fr2 {w w' : World} {B : Nat} {A : Option Addr} {xs : List Value} {S : Nat → Prop} (h : Rd w B A xs) (f : Fr S w w') (hS : ∀ ad, A = some ad → ¬ S ad.block) : Rd w' B A xs := fun j u hu => by
  obtain ⟨ad, e, hb, hc⟩ := h j u hu
  exact ⟨ad, e, hb, f.cell hc (by rw [block_of_add]; exact hS ad e)⟩
theorem rd_fr3 {w w' : World} {B : Nat} {A : Option Addr} {xs : List Value} {S : Nat → Prop} (h : Rd w B A xs) (f : Fr S w w') (hS : ∀ ad, A = some ad → xs = [] ∨ ¬ S ad.block) : Rd w' B A xs := fun j u hu => by
  obtain ⟨ad, e, hb, hc⟩ := h j u hu
  refine ⟨ad, e, hb, f.cell hc ?_⟩
  rcases hS ad e with h0 | h0
  · rw [h0] at hu; simp at hu
  · rw [block_of_add]; exact h0
/-- What a counted call answers. -/
def RetC (w : World) (Z : Nat → Prop) (d N : Nat) (p : Ph) (r : Int × Bool × Di) (en : Ending) (w' : World) : Prop :=
  en = .returned (.tuple #[.int .i64 r.1, .bool r.2.1]) ∧ DirP w' Z d r.2.2 (N + 1) p ∧ Fr (Is d) w w'
set_option maxRecDepth 100000 in
set_option maxHeartbeats 800000 in
theorem call_any (w : World) (Z : Nat → Prop) (d N : Nat) (S : Di) (p : Ph) (A : Option Addr) (n c B : Nat) (xs : List Tx) (h : DirP w Z d S N p) (hN : N < 1125899906842624)
    (hx : xs.length = n) (hn : n ≤ c) (hc : c ≤ maxLen) (hB : B ≤ w.heap.size) (hA : ∀ ad, A = some ad → ad.block ≠ d) (hr : Rd w B A (svs xs)) :
    Calls Try.prog 43 #[.pointer (some ⟨d, 0, none⟩), .slice A n c] w (RetC w Z d N p (cal S xs)) := by
  have c3 : w.cell? ⟨d, 3, none⟩ = some (.int .i64 (S.calls : Nat)) := h.cell rfl
  have f3 : w.frozen? ⟨d, 3, none⟩ = false := h.open_ 3
  have hcl := h.calls
  obtain ⟨h1, hf1⟩ := (h.mono (Nat.le_succ N)).num (S' := S.tick) (i := 3) (u := .int .i64 ((S.calls : Int) + 1)) (by simp [dirC, Di.tick]) rfl rfl rfl rfl (by show S.calls + 1 ≤ N + 1; omega)
  have HR := hide (rd_fr2 hr hf1 (fun ad h => hA ad h))
  have HQ := hide (halted_any (S := S.tick) (h1.cell (i := 3) rfl) (h1.cell (i := 4) rfl))
  have k3 : (w.setCell ⟨d, 3, none⟩ (.int .i64 ((S.calls : Int) + 1))).cell? ⟨d, 3, none⟩ = some (.int .i64 ((S.calls : Int) + 1)) := h1.cell (i := 3) rfl
  have k5 : (w.setCell ⟨d, 3, none⟩ (.int .i64 ((S.calls : Int) + 1))).cell? ⟨d, 5, none⟩ = some (.int .i64 S.at_) := h1.cell (i := 5) rfl
  have k6 : (w.setCell ⟨d, 3, none⟩ (.int .i64 ((S.calls : Int) + 1))).cell? ⟨d, 6, none⟩ = some (.int .i64 S.e) := h1.cell (i := 6) rfl
  have g5 := h1.open_ 5
  have H1 := hide h1
  have HF1 := hide hf1
  have HX := hide hx
  have hsz := hf1.size
  clear h1 hf1 h hr hx
  unfold cal
  cases ho : S.tick.over with
  | true =>
    rw [ho] at HQ
    rw [if_pos rfl]
    go_enter Try.func43, Try.ntmps43
    go_wp2_with (go_at_call 74; refine HQ.out.mono ?_; rintro e w2 ⟨rfl, q, rfl⟩; generalize w.setCell ⟨d, 3, none⟩ (.int .i64 ((S.calls : Int) + 1)) = w1 at *)
    go_ret2
    exact ⟨rfl, H1.out.fr0 ((Fr.refl _ _).drewN _), HF1.out.drewN _⟩
  | false =>
    rw [ho] at HQ
    rw [if_neg (by simp)]
    by_cases ha : S.at_ = ((S.calls + 1 : Nat) : Int)
    · have ha' : (S.at_ == (S.calls : Int) + 1) = true := by simp [ha]
      rw [if_pos ha]
      clear ha
      go_enter Try.func43, Try.ntmps43
      go_wp2_with (go_at_call 74; refine HQ.out.mono ?_; rintro e w2 ⟨rfl, q, rfl⟩; generalize w.setCell ⟨d, 3, none⟩ (.int .i64 ((S.calls : Int) + 1)) = w1 at *)
      go_quiet (fail)
      go_wp2
      go_ret2
      obtain ⟨h2, f2⟩ := (H1.out.fr0 ((Fr.refl No _).drewN (q + nq))).num (S' := S.tick.cut) (i := 5) (u := .int .i64 0) (by simp [dirC, Di.tick, Di.cut]) rfl rfl rfl rfl (by show S.calls + 1 ≤ N + 1; omega)
      exact ⟨rfl, h2, (HF1.out.drewN _).ts f2⟩
    · have ha' : (S.at_ == (S.calls : Int) + 1) = false := by simp; intro h; exact ha (by omega)
      rw [if_neg ha]
      clear ha
      have HG := hide fun W (f : Fr No (w.setCell ⟨d, 3, none⟩ (.int .i64 ((S.calls : Int) + 1))) W) => anybad_any A n c B xs W HX.out hn hc (Nat.le_trans hB (Nat.le_trans hsz f.size)) (HR.out.fr0 f)
      cases hg : xs.all goodP with
      | true =>
        rw [hg] at HG
        rw [if_pos rfl]
        go_enter Try.func43, Try.ntmps43
        go_wp2_with (go_at_call 74; refine HQ.out.mono ?_; rintro e w2 ⟨rfl, q, rfl⟩; generalize w.setCell ⟨d, 3, none⟩ (.int .i64 ((S.calls : Int) + 1)) = w1 at *)
        go_quiet (fail)
        go_wp2_with (go_at_call 75; refine (HG.out _ ((Fr.refl _ _).drewN _)).mono ?_; rintro e w2 ⟨rfl, hf⟩; have HF := hide hf; clear hf)
        go_ret2
        exact ⟨rfl, H1.out.fr0 (((Fr.refl _ _).drewN _).tr HF.out), (HF1.out.drewN _).tr HF.out⟩
      | false =>
        rw [hg] at HG
        rw [if_neg (by simp)]
        go_enter Try.func43, Try.ntmps43
        go_wp2_with (go_at_call 74; refine HQ.out.mono ?_; rintro e w2 ⟨rfl, q, rfl⟩; generalize w.setCell ⟨d, 3, none⟩ (.int .i64 ((S.calls : Int) + 1)) = w1 at *)
        go_quiet (fail)
        go_wp2_with (go_at_call 75; refine (HG.out _ ((Fr.refl _ _).drewN _)).mono ?_; rintro e w2 ⟨rfl, hf⟩; have HF := hide hf; clear hf)
        go_ret2
        exact ⟨rfl, H1.out.fr0 (((Fr.refl _ _).drewN _).tr HF.out), (HF1.out.drewN _).tr HF.out⟩
end Go.Proofs.Ythbgcmffpnmbeaa
