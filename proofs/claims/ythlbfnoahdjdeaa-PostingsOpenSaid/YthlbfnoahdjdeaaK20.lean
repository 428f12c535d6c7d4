/- Several texts in one: PoGoP. -/
import Derived.Test.YthlbfnoahdjdeaaK19
namespace Go.Proofs.Ythlbfnoahdjdeaa
set_option linter.unusedVariables false
set_option linter.unusedSimpArgs false
open Go.RowKit

structure TwoM (w W : World) (b1 b2 B X Y : Nat) (lv : Value) (l : List Po) (s t : ItS) : Prop where
  x : ItM W b1 X lv l s
  y : ItM W b2 Y lv l t
  lv : LvM W B lv l
  fr : Fr No w W
  lx : w.heap.size ≤ X
  ly : w.heap.size ≤ Y
  ne : X ≠ Y
section
variable {w W W' : World} {b1 b2 B X Y : Nat} {lv : Value} {l : List Po} {s t s' t' : ItS}
theorem TwoM.fr0 (h : TwoM w W b1 b2 B X Y lv l s t) (f : Fr No W W') : TwoM w W' b1 b2 B X Y lv l s t := ⟨h.x.fr0 f, h.y.fr0 f, h.lv.fr0 f, h.fr.tr f, h.lx, h.ly, h.ne⟩
theorem TwoM.q (h : TwoM w W b1 b2 B X Y lv l s t) (hq : ∃ q, W' = W.drewN q) : TwoM w W' b1 b2 B X Y lv l s t := by
  obtain ⟨q, rfl⟩ := hq
  exact h.fr0 ((Fr.refl No W).drewN q)
theorem TwoM.goX (h : TwoM w W b1 b2 B X Y lv l s t) (f : Fr (Is X) W W') (hi : ItM W' b1 X lv l s') : TwoM w W' b1 b2 B X Y lv l s' t :=
  ⟨hi, h.y.off f (fun e => h.ne (by have e : Y = X := e; exact e.symm)) (h.x.offIs (by decide)) (h.x.offIs (by decide)), h.lv.off f (h.x.offIs (by decide)) (h.x.offIs (by decide)) (h.x.offIs (by decide)), h.fr.trans f (fun i hi e => by have e : i = X := e; have := h.lx; omega), h.lx, h.ly, h.ne⟩
theorem TwoM.goY (h : TwoM w W b1 b2 B X Y lv l s t) (f : Fr (Is Y) W W') (hi : ItM W' b2 Y lv l t') : TwoM w W' b1 b2 B X Y lv l s t' :=
  ⟨h.x.off f (fun e => h.ne (by have e : X = Y := e; exact e)) (h.y.offIs (by decide)) (h.y.offIs (by decide)), hi, h.lv.off f (h.y.offIs (by decide)) (h.y.offIs (by decide)) (h.y.offIs (by decide)), h.fr.trans f (fun i hi e => by have e : i = Y := e; have := h.ly; omega), h.lx, h.ly, h.ne⟩
end
/-- how far a walk is from its end. -/
def mIt (W : World) (X : Nat) (l : List Po) : Nat := if cellI W X 3 = 0 then l.length + 2 else l.length + 1 - (8 * (cellI W X 3 - 1) + cellI W X 1)
def mS (l : List Po) : ItS → Nat
  | .start => l.length + 2
  | .here i => l.length + 1 - i
  | .done => 0
theorem mIt_of {W : World} {b X : Nat} {lv : Value} {l : List Po} {s : ItS} (h : ItM W b X lv l s) (hl : l.length ≤ 16384) : mIt W X l = mS l s := by
  obtain ⟨A, n, c, ⟨c0, c1, c2, c3⟩, _⟩ := h.parts
  unfold mIt
  cases s with
  | start =>
    have e3 : cellI W X 3 = 0 := cellI_of (k := 0) c3
    rw [e3, if_pos rfl]
    rfl
  | done =>
    have e3 : cellI W X 3 = 1073741824 := cellI_of (k := 1073741824) c3
    rw [e3, if_neg (by decide)]
    simp only [mS]
    omega
  | here i =>
    have e3 : cellI W X 3 = i / 8 + 1 := cellI_of (k := i / 8 + 1) c3
    have e1 : cellI W X 1 = i % 8 := cellI_of (k := i % 8) c1
    rw [e3, e1, if_neg (by omega)]
    simp only [mS]
    omega
theorem st_of {l : List Po} {s : ItS} (hok : ∀ i, s = .here i → i < l.length) (h : s ≠ .start) : s = stS l (posS l s) ∧ posS l s ≤ l.length := by
  cases s with
  | start => exact absurd rfl h
  | here i => exact ⟨(stS_in (hok i rfl)).symm, Nat.le_of_lt (hok i rfl)⟩
  | done => exact ⟨(stS_past (Nat.le_refl _)).symm, Nat.le_refl _⟩
theorem nx_st {l : List Po} {q : Nat} : nxS l (stS l q) = stS l (q + 1) := by
  unfold stS
  split
  · rfl
  · rename_i h
    rw [if_neg (by omega)]
    rfl
/-- between the second walk's steps. -/
def MidG (l : List Po) (d : Int) (s t : ItS) : Prop := (s = .start ∧ t = .start) ∨ ∃ q, t = stS l q ∧ q ≤ l.length ∧ posS l s ≤ q ∧ BelowD l d (posS l s) q
theorem mid_start {l : List Po} {d : Int} {s : ItS} (hok : ∀ i, s = .here i → i < l.length) : MidG l d s s := by
  by_cases h : s = .start
  · exact .inl ⟨h, h⟩
  · obtain ⟨h1, h2⟩ := st_of hok h
    exact .inr ⟨_, h1, h2, Nat.le_refl _, fun t h1 h2 => by omega⟩
def goOn (l : List Po) (d : Int) (t : ItS) : Bool := decide (docS l t < d) || decide (docS l t < 0)
theorem docS_st {l : List Po} (hR : rightP l) (q : Nat) : 0 ≤ docS l (stS l q) ∧ docS l (stS l q) ≤ 16384 ∧ (docS l (stS l q) < 16384 ↔ q < l.length) := by
  by_cases h : q < l.length
  · rw [stS_in h]
    have := right_doc hR h
    simp only [docS]
    exact ⟨this.1, by omega, fun _ => h, fun _ => this.2⟩
  · rw [stS_past (by omega)]
    simp only [docS]
    exact ⟨by omega, by omega, fun h2 => by omega, fun h2 => absurd h2 h⟩
theorem mid_stop {l : List Po} (hR : rightP l) {d : Int} {s t : ItS} {k : Nat} (h : MidG l d s t) (hk : IsF l d (posS l s) k) (hg : goOn l d t = false) : t = stS l k := by
  unfold goOn at hg
  rw [Bool.or_eq_false_iff] at hg
  have g1 := of_decide_eq_false hg.1
  have g2 := of_decide_eq_false hg.2
  rcases h with ⟨_, rfl⟩ | ⟨q, rfl, h2, h3, h4⟩
  · simp only [docS] at g2; omega
  · have : IsF l d (posS l s) q := ⟨h3, h2, fun t h5 h6 => h4 t h5 h6 (by omega), fun h5 => by
      rw [stS_in h5] at g1
      simp only [docS] at g1
      omega⟩
    rw [this.uniq hk]
theorem mid_step {l : List Po} (hR : rightP l) {d : Int} {s t : ItS} {k : Nat} (h : MidG l d s t) (hk : IsF l d (posS l s) k) (hg : goOn l d t = true) :
    (itOn (nxS l t) = true → MidG l d s (nxS l t) ∧ mS l (nxS l t) < mS l t) ∧ (itOn (nxS l t) = false → nxS l t = stS l k) := by
  unfold goOn at hg
  rw [Bool.or_eq_true] at hg
  rcases h with ⟨rfl, rfl⟩ | ⟨q, rfl, h2, h3, h4⟩
  · have e : nxS l .start = stS l 0 := rfl
    rw [e, itOn_st]
    refine ⟨fun h => ⟨.inr ⟨0, rfl, Nat.zero_le _, Nat.le_refl _, fun t h1 h2 => by omega⟩, ?_⟩, fun h => ?_⟩
    · rw [stS_in (of_decide_eq_true h)]
      simp only [mS]
      omega
    · have := of_decide_eq_false h
      have := hk.hi
      rw [show k = 0 by omega]
  · rw [nx_st, itOn_st]
    by_cases hq : q < l.length
    · have hd : (l.getD q noPo).1 < d := by
        rw [stS_in hq] at hg
        simp only [docS] at hg
        have := (right_doc hR hq).1
        rcases hg with hg | hg
        · exact of_decide_eq_true hg
        · have := of_decide_eq_true hg; omega
      have hb : BelowD l d (posS l s) (q + 1) := fun t h1 h2 h5 => by
        by_cases e : t = q
        · rw [e]; exact hd
        · exact h4 t h1 (by omega) h5
      refine ⟨fun h => ⟨.inr ⟨q + 1, rfl, by omega, by omega, hb⟩, ?_⟩, fun h => ?_⟩
      · rw [stS_in (of_decide_eq_true h), stS_in hq]
        simp only [mS]
        omega
      · have h6 := of_decide_eq_false h
        have : IsF l d (posS l s) (q + 1) := ⟨by omega, by omega, fun t h5 h6 => hb t h5 h6 (by omega), fun h5 => absurd h5 h6⟩
        rw [this.uniq hk]
    · refine ⟨fun h => absurd (of_decide_eq_true h) (by omega), fun h => ?_⟩
      have : IsF l d (posS l s) q := ⟨h3, h2, fun t h5 h6 => h4 t h5 h6 (by omega), fun h5 => absurd h5 hq⟩
      rw [← this.uniq hk, stS_past (by omega), stS_past (by omega)]
theorem doc_mono {l : List Po} (hR : rightP l) {d : Int} {s : ItS} {k : Nat} (hok : ∀ i, s = .here i → i < l.length) (hk : IsF l d (posS l s) k) : ¬ docS l (stS l k) < docS l s := by
  have h1 := docS_st hR k
  cases s with
  | start =>
    show ¬ docS l (stS l k) < -1
    omega
  | done =>
    show ¬ docS l (stS l k) < 16384
    have := hk.lo
    simp only [posS] at this
    rw [stS_past this]
    show ¬ (16384 : Int) < 16384
    omega
  | here i =>
    have hi := hok i rfl
    have := hk.lo
    simp only [posS] at this
    by_cases e : k < l.length
    · rw [stS_in e]
      simp only [docS]
      by_cases e2 : i = k
      · rw [e2]; omega
      · have := right_up hR (i := i) (j := k) (by omega) e
        omega
    · rw [stS_past (by omega)]
      have := right_doc hR hi
      simp only [docS]
      omega
/-- the third walk's place. -/
def sN : Nat → ItS
  | 0 => .start
  | n + 1 => .here n
theorem nx_sN (l : List Po) (n : Nat) : nxS l (sN n) = stS l n := by cases n <;> rfl
end Go.Proofs.Ythlbfnoahdjdeaa
