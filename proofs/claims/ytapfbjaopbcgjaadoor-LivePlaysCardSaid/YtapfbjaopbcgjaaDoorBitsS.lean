/- Set and Clear. -/
import Derived.Test.YtapfbjaopbcgjaaDoorBitsM
import Derived.RegionTactic
import Derived.BigRegion
import Derived.ChangeAlike
namespace Go.Proofs.YtapfbjaopbcgjaaDoor
set_option linter.unusedVariables false
set_option linter.unusedSimpArgs false
open Go.RowKit

/-- a number on or off. -/
def setI (l : List Bool) (i : Int) (b : Bool) : List Bool := if 0 ≤ i ∧ i < (l.length : Int) then l.set i.toNat b else l
theorem setI_len (l : List Bool) (i : Int) (b : Bool) : (setI l i b).length = l.length := by unfold setI; split <;> simp
theorem BT.frozen {w : World} {base g gw : Nat} {l : List Bool} (h : BT w base g gw l) (i : Nat) : w.frozen? ⟨gw, i, none⟩ = false := by
  obtain ⟨_, A, c, hv, _, _, hA⟩ := h.own
  injection hv with hv _ _
  subst hv
  rcases hA with ⟨e, _⟩ | ⟨g', cur, e, _, hh, _⟩
  · cases e
  · injection e with e
    injection e with e _ _
    subst e
    exact frozen_of_row _ _ _ _ _ hh
theorem BT.store {w : World} {base g gw : Nat} {l : List Bool} (h : BT w base g gw l) {k : Nat} (hk : k < l.length) {b : Bool} {v : Nat} (hv : v = wd (l.set k b) (k / 64)) :
    BT (w.setCell ⟨gw, k / 64, none⟩ (.int .u64 (v : Nat))) base g gw (l.set k b) := by
  have hk2 : k / 64 < wcount l.length := by unfold wcount; omega
  obtain ⟨g', e, _, _, _, _, hs⟩ := h.own.store hk2
  have e1 : gw = g' := by injection e with e; injection e
  subst e1
  have hl : (l.set k b).length = l.length := List.length_set
  have hne := h.ne
  refine ⟨?_, h.low, by rw [hl]; exact h.most, ?_⟩
  · rw [hl]
    exact ((Fr.refl (Is gw) w).setCell (p := ⟨gw, k / 64, none⟩) (fun _ => rfl) _).blk h.blk hne
  · rw [hl, ← wds_set hk hv]
    exact hs _

def GivesSet (B g gw : Nat) (l : List Bool) (w : World) (en : Ending) (w' : World) : Prop := (∃ v, en = .returned v) ∧ BT w' B g gw l ∧ Fr (Is gw) w w'
theorem shl_one (k : Nat) : IntKind.u64.wrap (2 ^ (k % 64)) = ((2 ^ (k % 64) : Nat) : Int) := by
  have h : 2 ^ (k % 64) < 18446744073709551616 := Nat.pow_lt_pow_right (a := 2) (n := 64) (by omega) (by omega)
  have e : ((2 : Int) ^ (k % 64)) = ((2 ^ (k % 64) : Nat) : Int) := by simp
  rw [e]
  generalize 2 ^ (k % 64) = p at h ⊢
  rw [IntKind.wrap_u64]
  omega
theorem on_val (x k : Nat) (hx : x < 18446744073709551616) : bits .or .u64 (x : Int) (IntKind.u64.wrap (2 ^ (k % 64))) = ((x ||| 2 ^ (k % 64) : Nat) : Int) := by
  rw [shl_one]
  exact u64_or_nat _ _ hx (Nat.pow_lt_pow_right (a := 2) (n := 64) (by omega) (by omega))
theorem off_val (x k : Nat) (hx : x < 18446744073709551616) : bits .andNot .u64 (x : Int) (IntKind.u64.wrap (2 ^ (k % 64))) = ((x &&& (18446744073709551615 - 2 ^ (k % 64)) : Nat) : Int) := by
  rw [shl_one]
  exact u64_andNot_nat _ _ hx (Nat.pow_lt_pow_right (a := 2) (n := 64) (by omega) (by omega))
set_option maxRecDepth 100000 in
set_option maxHeartbeats 400000 in
theorem set_in (B g gw : Nat) (l : List Bool) (k : Nat) (w : World) (h : BT w B g gw l) (hk : k < l.length) :
    Calls Tryd.prog 20 #[.pointer (some ⟨g, 0, none⟩), .int .i64 (k : Nat)] w (GivesSet B g gw (l.set k true) w) := by
  have HI := hide (in_any B _ l (k : Nat) w (.inr ⟨g, gw, rfl, h⟩))
  rw [show inB l.length (k : Nat) = true from decide_eq_true (by omega)] at HI
  have hc0 := h.cell0
  have hk2 : k / 64 < wcount l.length := by unfold wcount; omega
  have hw := h.word hk2
  have hf := h.frozen (k / 64)
  have hm := h.most
  have hkm : k < 16384 := by omega
  have hkc : ((k : Int) / 64) < ((wcount l.length : Nat) : Int) := by omega
  have hlt := wd_lt l (k / 64)
  have HV := hide (on_val (wd l (k / 64)) k hlt)
  have HS := hide (fun v hv => h.store hk (b := true) (v := v) hv)
  have HE := hide (wd_on hk)
  clear h hk
  generalize wcount l.length = m at hc0 hk2 hkc
  generalize wd l (k / 64) = x at hw hlt HV HE
  go_enter Tryd.func20, Tryd.ntmps20
  go_wp2_with (go_at_call 44; refine HI.out.mono ?_; rintro en w' ⟨rfl, rfl⟩)
  go_region
  go_wp2
  go_end0
  refine ⟨⟨_, rfl⟩, ?_, ?_⟩
  · rw [HV.out]
    exact (HS.out _ HE.out).fr0 ((Fr.refl No _).drew)
  · exact ((Fr.refl (Is gw) w).setCell (p := ⟨gw, k / 64, none⟩) (fun _ => rfl) _).drew
set_option maxRecDepth 100000 in
set_option maxHeartbeats 400000 in
theorem set_out (B : Nat) (v : Value) (l : List Bool) (i : Int) (w : World) (h : BV w B v l) (hi : ¬ (0 ≤ i ∧ i < (l.length : Int))) :
    Calls Tryd.prog 20 #[v, .int .i64 i] w (fun en w' => (∃ v, en = .returned v) ∧ w = w') := by
  have HI := hide (in_any B v l i w h)
  rw [show inB l.length i = false from decide_eq_false hi] at HI
  clear h hi
  go_enter Tryd.func20, Tryd.ntmps20
  go_wp2_with (go_at_call 44; refine HI.out.mono ?_; rintro en w' ⟨rfl, rfl⟩)
  go_end0
  exact ⟨⟨_, rfl⟩, rfl⟩
theorem set_any (B g gw : Nat) (l : List Bool) (i : Int) (w : World) (h : BT w B g gw l) :
    Calls Tryd.prog 20 #[.pointer (some ⟨g, 0, none⟩), .int .i64 i] w (GivesSet B g gw (setI l i true) w) := by
  unfold setI
  by_cases hi : 0 ≤ i ∧ i < (l.length : Int)
  · rw [if_pos hi]
    obtain ⟨k, rfl⟩ : ∃ k : Nat, i = k := ⟨i.toNat, by omega⟩
    rw [Int.toNat_natCast]
    exact set_in B g gw l k w h (by omega)
  · rw [if_neg hi]
    exact (set_out B _ l i w (.inr ⟨g, gw, rfl, h⟩) hi).mono fun en w' ⟨he, hw⟩ => by subst hw; exact ⟨he, h, Fr.refl _ _⟩
set_option maxRecDepth 100000 in
set_option maxHeartbeats 400000 in
theorem clr_in (B g gw : Nat) (l : List Bool) (k : Nat) (w : World) (h : BT w B g gw l) (hk : k < l.length) :
    Calls Tryd.prog 21 #[.pointer (some ⟨g, 0, none⟩), .int .i64 (k : Nat)] w (GivesSet B g gw (l.set k false) w) := by
  have HI := hide (in_any B _ l (k : Nat) w (.inr ⟨g, gw, rfl, h⟩))
  rw [show inB l.length (k : Nat) = true from decide_eq_true (by omega)] at HI
  have hc0 := h.cell0
  have hk2 : k / 64 < wcount l.length := by unfold wcount; omega
  have hw := h.word hk2
  have hf := h.frozen (k / 64)
  have hm := h.most
  have hkm : k < 16384 := by omega
  have hkc : ((k : Int) / 64) < ((wcount l.length : Nat) : Int) := by omega
  have hlt := wd_lt l (k / 64)
  have HV := hide (off_val (wd l (k / 64)) k hlt)
  have HS := hide (fun v hv => h.store hk (b := false) (v := v) hv)
  have HE := hide (wd_off hk)
  clear h hk
  generalize wcount l.length = m at hc0 hk2 hkc
  generalize wd l (k / 64) = x at hw hlt HV HE
  go_enter Tryd.func21, Tryd.ntmps21
  go_wp2_with (go_at_call 44; refine HI.out.mono ?_; rintro en w' ⟨rfl, rfl⟩)
  go_region
  go_wp2
  go_end0
  refine ⟨⟨_, rfl⟩, ?_, ?_⟩
  · rw [HV.out]
    exact (HS.out _ HE.out).fr0 ((Fr.refl No _).drew)
  · exact ((Fr.refl (Is gw) w).setCell (p := ⟨gw, k / 64, none⟩) (fun _ => rfl) _).drew
set_option maxRecDepth 100000 in
set_option maxHeartbeats 400000 in
theorem clr_out (B : Nat) (v : Value) (l : List Bool) (i : Int) (w : World) (h : BV w B v l) (hi : ¬ (0 ≤ i ∧ i < (l.length : Int))) :
    Calls Tryd.prog 21 #[v, .int .i64 i] w (fun en w' => (∃ v, en = .returned v) ∧ w = w') := by
  have HI := hide (in_any B v l i w h)
  rw [show inB l.length i = false from decide_eq_false hi] at HI
  clear h hi
  go_enter Tryd.func21, Tryd.ntmps21
  go_wp2_with (go_at_call 44; refine HI.out.mono ?_; rintro en w' ⟨rfl, rfl⟩)
  go_end0
  exact ⟨⟨_, rfl⟩, rfl⟩
theorem clr_any (B g gw : Nat) (l : List Bool) (i : Int) (w : World) (h : BT w B g gw l) :
    Calls Tryd.prog 21 #[.pointer (some ⟨g, 0, none⟩), .int .i64 i] w (GivesSet B g gw (setI l i false) w) := by
  unfold setI
  by_cases hi : 0 ≤ i ∧ i < (l.length : Int)
  · rw [if_pos hi]
    obtain ⟨k, rfl⟩ : ∃ k : Nat, i = k := ⟨i.toNat, by omega⟩
    rw [Int.toNat_natCast]
    exact clr_in B g gw l k w h (by omega)
  · rw [if_neg hi]
    exact (clr_out B _ l i w (.inr ⟨g, gw, rfl, h⟩) hi).mono fun en w' ⟨he, hw⟩ => by subst hw; exact ⟨he, h, Fr.refl _ _⟩
end Go.Proofs.YtapfbjaopbcgjaaDoor
