/- Several texts in one: PoRi, PoWkP. -/
import Derived.Test.YthlbfnoahdjdeaaK20
namespace Go.Proofs.Ythlbfnoahdjdeaa
set_option linter.unusedVariables false
set_option linter.unusedSimpArgs false
open Go.RowKit

def atR (l : List Po) : ItS → Int
  | .start => -1
  | .here i => (i : Nat)
  | .done => (l.length : Nat)
structure RIt (w : World) (Y : Nat) (A : Option Addr) (n c B : Nat) (l : List Po) (s : ItS) : Prop where
  q : w.heap[Y]? = some (.cells #[.slice A n c, .int .i64 (atR l s)] 47 (0, 0))
  len : l.length = n
  rd : RdPo w B A l
  lo : B ≤ Y
  ok : ∀ i, s = .here i → i < n
theorem RIt.fr0 {w w' : World} {Y n c B : Nat} {A : Option Addr} {l : List Po} {s : ItS} (h : RIt w Y A n c B l s) (f : Fr No w w') : RIt w' Y A n c B l s := ⟨f.blk h.q (fun h => h), h.len, h.rd.fr0 f, h.lo, h.ok⟩
theorem RIt.fr {S : Nat → Prop} {w w' : World} {Y n c B : Nat} {A : Option Addr} {l : List Po} {s : ItS} (h : RIt w Y A n c B l s) (f : Fr S w w') (hY : ¬ S Y) (hB : ∀ k, k < B → ¬ S k) : RIt w' Y A n c B l s := ⟨f.blk h.q hY, h.len, h.rd.fr f hB, h.lo, h.ok⟩
theorem ri_put {w : World} {Y : Nat} {a b : Value} (h : w.heap[Y]? = some (.cells #[a, b] 47 (0, 0))) (v : Value) : (w.setCell ⟨Y, 1, none⟩ v).heap[Y]? = some (.cells #[a, v] 47 (0, 0)) := by
  have := heap_setCell_same w Y 1 _ _ v h
  simpa using this
/-- the place is moved. -/
theorem RIt.put {w : World} {Y n c B : Nat} {A : Option Addr} {l : List Po} {s s' : ItS} (h : RIt w Y A n c B l s) (hok : ∀ i, s' = .here i → i < n) : Fr (Is Y) w (w.setCell ⟨Y, 1, none⟩ (.int .i64 (atR l s'))) ∧ RIt (w.setCell ⟨Y, 1, none⟩ (.int .i64 (atR l s'))) Y A n c B l s' := by
  have f : Fr (Is Y) w (w.setCell ⟨Y, 1, none⟩ (.int .i64 (atR l s'))) := (Fr.refl (Is Y) w).put 1 _
  exact ⟨f, ri_put h.q _, h.len, h.rd.fr f (fun k hk e => by have e : k = Y := e; have := h.lo; omega), h.lo, hok⟩
theorem atR_b (l : List Po) (s : ItS) (hok : ∀ i, s = .here i → i < l.length) : -1 ≤ atR l s ∧ atR l s ≤ (l.length : Nat) := by
  cases s with
  | start => simp only [atR]; omega
  | done => simp only [atR]; omega
  | here i => have := hok i rfl; simp only [atR]; omega
theorem atR_st (l : List Po) {k : Nat} (h : k ≤ l.length) : atR l (stS l k) = (k : Nat) := by
  by_cases e : k < l.length
  · rw [stS_in e]; rfl
  · rw [stS_past (by omega)]
    have : k = l.length := by omega
    rw [this]; rfl
theorem atR_nx {l : List Po} {s : ItS} (hok : ∀ i, s = .here i → i < l.length) : (atR l s < (l.length : Nat) → atR l (nxS l s) = atR l s + 1 ∧ itOn (nxS l s) = decide (atR l s + 1 < (l.length : Nat))) ∧ (¬ atR l s < (l.length : Nat) → nxS l s = s ∧ itOn s = false) := by
  cases s with
  | start =>
    refine ⟨fun h => ⟨atR_st l (Nat.zero_le _), ?_⟩, fun h => absurd (show (-1 : Int) < (l.length : Nat) by omega) h⟩
    rw [show nxS l .start = stS l 0 from rfl, itOn_st]
    exact decide_eq_decide.2 (by simp only [atR]; omega)
  | done => exact ⟨fun h => absurd h (by simp only [atR]; omega), fun _ => ⟨rfl, rfl⟩⟩
  | here i =>
    have hi := hok i rfl
    refine ⟨fun h => ⟨atR_st l hi, ?_⟩, fun h => absurd (show ((i : Nat) : Int) < (l.length : Nat) by omega) h⟩
    rw [show nxS l (.here i) = stS l (i + 1) from rfl, itOn_st]
    exact decide_eq_decide.2 (by simp only [atR]; omega)
theorem nx_ok {l : List Po} {s : ItS} (hok : ∀ i, s = .here i → i < l.length) : ∀ i, nxS l s = .here i → i < l.length := by
  cases s with
  | start => exact stS_ok
  | here i => exact stS_ok
  | done => exact fun i h => by cases h
def RNextQ (w : World) (Y : Nat) (A : Option Addr) (n c B : Nat) (l : List Po) (s : ItS) (en : Ending) (w' : World) : Prop :=
  Fr (Is Y) w w' ∧ en = .returned (.bool (itOn s)) ∧ RIt w' Y A n c B l s

set_option maxRecDepth 100000 in
set_option maxHeartbeats 1600000 in
theorem rnext_any (Y : Nat) (A : Option Addr) (n c B : Nat) (l : List Po) (s : ItS) (w : World) (h : RIt w Y A n c B l s) (hn : n ≤ 1099511627776) :
    Calls Try.prog 20 #[.pointer (some ⟨Y, 0, none⟩)] w (RNextQ w Y A n c B l (nxS l s)) := by
  have hok : ∀ i, s = .here i → i < l.length := fun i hi => by rw [h.len]; exact h.ok i hi
  obtain ⟨hb1, hb2⟩ := atR_b l s hok
  have hnx := atR_nx hok
  have hq := h.q
  have HQ := hide h
  have HO := hide (nx_ok hok)
  rw [h.len] at hb2 hnx
  obtain ⟨a, ha⟩ : ∃ a, atR l s = a := ⟨_, rfl⟩
  rw [ha] at hb1 hb2 hnx hq
  have HL := hide h.len
  by_cases hlt : a < (n : Int)
  · obtain ⟨n1, n2⟩ := hnx.1 hlt
    obtain ⟨gb, hgb⟩ : ∃ gb, decide (a + 1 < (n : Int)) = gb := ⟨_, rfl⟩
    rw [hgb] at n2
    have c0 : w.cell? ⟨Y, 0, none⟩ = some (.slice A n c) := cell_of_row _ _ 0 _ _ _ hq
    have c1 : w.cell? ⟨Y, 1, none⟩ = some (.int .i64 a) := cell_of_row _ _ 1 _ _ _ hq
    have z1 : w.frozen? ⟨Y, 1, none⟩ = false := frozen_of_row _ _ _ _ _ hq
    have d1 : decide (a < (n : Int)) = true := decide_eq_true hlt
    have hw : IntKind.i64.wrap (a + 1) = a + 1 := IntWalk.i64_in _ (by omega)
    have HN := hide (And.intro n1 n2)
    clear h hok hnx ha n1 n2 hlt
    go_enter Try.func20, Try.ntmps20
    go_wp2
    go_quiet (fail)
    go_upto_region 3 with (fail)
    have hp := (HQ.out.fr0 ((Fr.refl No w).drewN nq)).put (s' := nxS l s) (fun i hi => by rw [← HL.out]; exact HO.out i hi)
    rw [HN.out.1] at hp
    obtain ⟨w2, hw2⟩ : ∃ W, W = (w.drewN nq).setCell ⟨Y, 1, none⟩ (.int .i64 (a + 1)) := ⟨_, rfl⟩
    rw [← hw2] at hp ⊢
    have HP := hide (And.intro (Fr.of_drewN hp.1) hp.2)
    have hq2 := hp.2.q
    rw [HN.out.1] at hq2
    have c0 : w2.cell? ⟨Y, 0, none⟩ = some (.slice A n c) := cell_of_row _ _ 0 _ _ _ hq2
    have c1 : w2.cell? ⟨Y, 1, none⟩ = some (.int .i64 (a + 1)) := cell_of_row _ _ 1 _ _ _ hq2
    clear hp hw2 hq hq2 z1
    go_quiet (fail)
    go_wp2
    go_ret
    exact ⟨HP.out.1.drewN _, by rw [HN.out.2, ← hgb]; rfl, HP.out.2.fr0 ((Fr.refl No w2).drewN _)⟩
  · obtain ⟨n1, n2⟩ := hnx.2 hlt
    have c0 : w.cell? ⟨Y, 0, none⟩ = some (.slice A n c) := cell_of_row _ _ 0 _ _ _ hq
    have c1 : w.cell? ⟨Y, 1, none⟩ = some (.int .i64 a) := cell_of_row _ _ 1 _ _ _ hq
    have d1 : decide (a < (n : Int)) = false := decide_eq_false hlt
    have HN := hide (And.intro n1 n2)
    clear h hok hnx ha n1 n2 hlt hq
    go_enter Try.func20, Try.ntmps20
    go_wp2
    go_quiet (fail)
    go_upto_region 3 with (fail)
    obtain ⟨w2, hw2⟩ : ∃ W, W = w.drewN nq := ⟨_, rfl⟩
    have HP : Hid (Fr (Is Y) w w2 ∧ RIt w2 Y A n c B l s) := hide (by rw [hw2]; exact ⟨(Fr.refl (Is Y) w).drewN nq, HQ.out.fr0 ((Fr.refl No w).drewN nq)⟩)
    have c0' : w2.cell? ⟨Y, 0, none⟩ = some (.slice A n c) := by rw [hw2]; exact c0
    have c1' : w2.cell? ⟨Y, 1, none⟩ = some (.int .i64 a) := by rw [hw2]; exact c1
    rw [← hw2]
    clear hw2 c0 c1
    go_quiet (fail)
    go_wp2
    go_ret
    exact ⟨HP.out.1.drewN _, by rw [HN.out.1, HN.out.2]; rfl, by rw [HN.out.1]; exact HP.out.2.fr0 ((Fr.refl No w2).drewN _)⟩

set_option maxRecDepth 100000 in
set_option maxHeartbeats 1600000 in
theorem rdoc_any (Y : Nat) (A : Option Addr) (n c B : Nat) (l : List Po) (s : ItS) (w : World) (h : RIt w Y A n c B l s) :
    Calls Try.prog 26 #[.pointer (some ⟨Y, 0, none⟩)] w (RetQ (.int .i64 (docS l s)) w) := by
  have hq := h.q
  have hl := h.len
  cases s with
  | start =>
    simp only [atR] at hq
    have c1 : w.cell? ⟨Y, 1, none⟩ = some (.int .i64 (-1)) := cell_of_row _ _ 1 _ _ _ hq
    clear hq h hl
    go_enter Try.func26, Try.ntmps26
    go_wp2
    go_ret
    exact ⟨rfl, 0, rfl⟩
  | done =>
    simp only [atR] at hq
    rw [hl] at hq
    have c0 : w.cell? ⟨Y, 0, none⟩ = some (.slice A n c) := cell_of_row _ _ 0 _ _ _ hq
    have c1 : w.cell? ⟨Y, 1, none⟩ = some (.int .i64 (n : Nat)) := cell_of_row _ _ 1 _ _ _ hq
    have e1 : decide ((n : Int) < 0) = false := decide_eq_false (by omega)
    clear hq h hl
    go_enter Try.func26, Try.ntmps26
    go_wp2
    go_quiet (fail)
    go_wp2
    go_ret
    exact ⟨rfl, _, rfl⟩
  | here i =>
    have hi := h.ok i rfl
    simp only [atR] at hq
    obtain ⟨ad, Ak, ck, hA, -, k0, -⟩ := h.rd.at (k := i) (by rw [hl]; exact hi)
    subst hA
    have c0 : w.cell? ⟨Y, 0, none⟩ = some (.slice (some ad) n c) := cell_of_row _ _ 0 _ _ _ hq
    have c1 : w.cell? ⟨Y, 1, none⟩ = some (.int .i64 (i : Nat)) := cell_of_row _ _ 1 _ _ _ hq
    have e1 : decide ((i : Int) < 0) = false := decide_eq_false (by omega)
    have e2 : decide ((n : Int) ≤ (i : Int)) = false := decide_eq_false (by omega)
    have e2b : decide (n ≤ i) = false := decide_eq_false (by omega)
    have j0 : (0 : Int) ≤ (i : Int) := by omega
    have j1 : (i : Int) < (n : Int) := by omega
    obtain ⟨x, hx⟩ : ∃ x, (l.getD i noPo).1 = x := ⟨_, rfl⟩
    rw [hx] at k0
    have HX := hide hx
    clear hq h hl hi hx
    go_enter Try.func26, Try.ntmps26
    go_wp2
    go_quiet (fail)
    go_upto_region 5 with (fail)
    obtain ⟨w2, hw2⟩ : ∃ W, W = w.drewN nq := ⟨_, rfl⟩
    have c0' : w2.cell? ⟨Y, 0, none⟩ = some (.slice (some ad) n c) := by rw [hw2]; exact c0
    have c1' : w2.cell? ⟨Y, 1, none⟩ = some (.int .i64 (i : Nat)) := by rw [hw2]; exact c1
    have k0' : w2.cell? (ad.add (i * 2)) = some (.int .i64 x) := by rw [hw2]; exact k0
    have HW := hide hw2
    rw [← hw2]
    clear hw2 c0 c1 k0
    go_quiet (fail)
    go_wp2
    go_ret
    exact ⟨by simp only [docS]; rw [HX.out]; rfl, _, by rw [HW.out]; exact World.drewN_drewN _ _ _⟩
def RPosQ (w : World) (B : Nat) (xs : List Int) (en : Ending) (w' : World) : Prop := ∃ A m c, en = .returned (.slice A m c) ∧ xs.length = m ∧ m ≤ c ∧ c ≤ maxLen ∧ Rd w' B A (iz .i64 xs) ∧ ∃ q, w' = w.drewN q

set_option maxRecDepth 100000 in
set_option maxHeartbeats 1600000 in
theorem rpos_any (Y : Nat) (A : Option Addr) (n c B : Nat) (l : List Po) (s : ItS) (w : World) (h : RIt w Y A n c B l s) :
    Calls Try.prog 24 #[.pointer (some ⟨Y, 0, none⟩)] w (RPosQ w B (posnS l s)) := by
  have hq := h.q
  have hl := h.len
  cases s with
  | start =>
    simp only [atR] at hq
    have c1 : w.cell? ⟨Y, 1, none⟩ = some (.int .i64 (-1)) := cell_of_row _ _ 1 _ _ _ hq
    clear hq h hl
    go_enter Try.func24, Try.ntmps24
    go_wp2
    go_quiet (fail)
    go_wp2
    go_ret
    exact ⟨_, _, _, rfl, rfl, Nat.le_refl _, Nat.zero_le _, Rd.nil _ _ _, _, rfl⟩
  | done =>
    simp only [atR] at hq
    rw [hl] at hq
    have c0 : w.cell? ⟨Y, 0, none⟩ = some (.slice A n c) := cell_of_row _ _ 0 _ _ _ hq
    have c1 : w.cell? ⟨Y, 1, none⟩ = some (.int .i64 (n : Nat)) := cell_of_row _ _ 1 _ _ _ hq
    have e1 : decide ((n : Int) < 0) = false := decide_eq_false (by omega)
    clear hq h hl
    go_enter Try.func24, Try.ntmps24
    go_wp2
    go_quiet (fail)
    go_wp2
    go_ret
    exact ⟨_, _, _, rfl, rfl, Nat.le_refl _, Nat.zero_le _, Rd.nil _ _ _, _, rfl⟩
  | here i =>
    have hi := h.ok i rfl
    simp only [atR] at hq
    obtain ⟨ad, Ak, ck, hA, -, -, k0, p1, p2, p3⟩ := h.rd.at (k := i) (by rw [hl]; exact hi)
    subst hA
    have c0 : w.cell? ⟨Y, 0, none⟩ = some (.slice (some ad) n c) := cell_of_row _ _ 0 _ _ _ hq
    have c1 : w.cell? ⟨Y, 1, none⟩ = some (.int .i64 (i : Nat)) := cell_of_row _ _ 1 _ _ _ hq
    have e1 : decide ((i : Int) < 0) = false := decide_eq_false (by omega)
    have e2 : decide ((n : Int) ≤ (i : Int)) = false := decide_eq_false (by omega)
    have e2b : decide (n ≤ i) = false := decide_eq_false (by omega)
    have j0 : (0 : Int) ≤ (i : Int) := by omega
    have j1 : (i : Int) < (n : Int) := by omega
    obtain ⟨m, hm⟩ : ∃ x, (l.getD i noPo).2.length = x := ⟨_, rfl⟩
    rw [hm] at k0 p1
    have HP := hide (And.intro hm (And.intro p1 (And.intro p2 p3)))
    clear hq h hl hi hm p1 p2 p3
    go_enter Try.func24, Try.ntmps24
    go_wp2
    go_quiet (fail)
    go_upto_region 3 with (fail)
    obtain ⟨w2, hw2⟩ : ∃ W, W = w.drewN nq := ⟨_, rfl⟩
    have c0' : w2.cell? ⟨Y, 0, none⟩ = some (.slice (some ad) n c) := by rw [hw2]; exact c0
    have c1' : w2.cell? ⟨Y, 1, none⟩ = some (.int .i64 (i : Nat)) := by rw [hw2]; exact c1
    have k0' : w2.cell? ⟨(ad.add (i * 2)).block, (ad.add (i * 2)).off + 1, none⟩ = some (.slice Ak m ck) := by rw [hw2]; exact k0
    have HW := hide hw2
    rw [← hw2]
    clear hw2 c0 c1 k0
    go_quiet (fail)
    go_wp2
    go_ret
    exact ⟨Ak, m, ck, rfl, HP.out.1, HP.out.2.1, HP.out.2.2.1, by rw [HW.out]; exact HP.out.2.2.2.fr0 (((Fr.refl No w).drewN _).drewN _), _, by rw [HW.out]; exact World.drewN_drewN _ _ _⟩

def isSt : ItS → Bool
  | .start => true
  | _ => false
def RAdvQ (w : World) (Y : Nat) (A : Option Addr) (n c B : Nat) (l : List Po) (d : Int) (s : ItS) (en : Ending) (w' : World) : Prop :=
  Fr (Is Y) w w' ∧ ∃ k, IsF l d (posS l s) k ∧ en = .returned (.bool (decide (k < n))) ∧ RIt w' Y A n c B l (stS l k)
theorem posS_le {l : List Po} {s : ItS} (hok : ∀ i, s = .here i → i < l.length) : posS l s ≤ l.length := by
  cases s with
  | start => exact Nat.zero_le _
  | done => exact Nat.le_refl _
  | here i => exact Nat.le_of_lt (hok i rfl)

set_option maxRecDepth 100000 in
set_option maxHeartbeats 1600000 in
theorem radv_any (Y : Nat) (A : Option Addr) (n c B : Nat) (l : List Po) (s : ItS) (d : Int) (w : World) (h : RIt w Y A n c B l s) (hn : n ≤ 1099511627776) :
    Calls Try.prog 22 #[.pointer (some ⟨Y, 0, none⟩), .int .i64 d] w (RAdvQ w Y A n c B l d s) := by
  have hok : ∀ i, s = .here i → i < l.length := fun i hi => by rw [h.len]; exact h.ok i hi
  have hpl := posS_le hok
  have HQ := hide h
  have HL := hide h.len
  have hq := h.q
  rw [h.len] at hpl
  obtain ⟨p, hp⟩ : ∃ p, posS l s = p := ⟨_, rfl⟩
  have HP := hide hp
  have hat : s ≠ .start → atR l s = (p : Nat) := fun hs => by
    rw [← hp]
    cases s with
    | start => exact absurd rfl hs
    | here i => rfl
    | done => rfl
  rw [hp] at hpl
  have hst : ∀ k, ∀ i, stS l k = .here i → i < n := fun k i hi => by rw [← HL.out]; exact stS_ok i hi
  have HSt := hide hst
  go_enter Try.func22, Try.ntmps22
  go_upto_region 1 with (fail)
  refine wp_named fun K hK => ?_
  go_cut [9] from 5 to 9 (fun v wx => v = .bool (isSt s) ∧ wx = w)
  case first =>
    cases s with
    | start =>
      simp only [atR] at hq
      have c1 : w.cell? ⟨Y, 1, none⟩ = some (.int .i64 (-1)) := cell_of_row _ _ 1 _ _ _ hq
      clear h hat hst hok hp hq
      go_wp2_with (fail)
      go_meet
      exact ⟨rfl, rfl⟩
    | here i =>
      have h3 := hat (by intro h; cases h)
      rw [h3] at hq
      have c1 : w.cell? ⟨Y, 1, none⟩ = some (.int .i64 (p : Nat)) := cell_of_row _ _ 1 _ _ _ hq
      have e1 : decide ((p : Int) < 0) = false := decide_eq_false (by omega)
      clear h hat hst hok hp h3 hq
      go_wp2_with (fail)
      go_meet
      exact ⟨rfl, rfl⟩
    | done =>
      have h3 := hat (by intro h; cases h)
      rw [h3] at hq
      have c1 : w.cell? ⟨Y, 1, none⟩ = some (.int .i64 (p : Nat)) := cell_of_row _ _ 1 _ _ _ hq
      have e1 : decide ((p : Int) < 0) = false := decide_eq_false (by omega)
      clear h hat hst hok hp h3 hq
      go_wp2_with (fail)
      go_meet
      exact ⟨rfl, rfl⟩
  case rest =>
  obtain ⟨rfl, rfl⟩ := hcut
  obtain ⟨w, rfl⟩ : ∃ W : World, W = wc := ⟨_, rfl⟩
  refine hK _ _ ?_
  clear hK K
  go_upto_if 9 with (fail)
  refine wp_named fun K hK => ?_
  go_cut [] from 10 to 12 (fun wx => Hid (Fr (Is Y) w wx ∧ RIt wx Y A n c B l (stS l p)))
  case first =>
    cases s with
    | start =>
      simp only [atR] at hq
      have c1 : w.cell? ⟨Y, 1, none⟩ = some (.int .i64 (-1)) := cell_of_row _ _ 1 _ _ _ hq
      have z1 : w.frozen? ⟨Y, 1, none⟩ = false := frozen_of_row _ _ _ _ _ hq
      have hp0 : p = 0 := by rw [← hp]; rfl
      have h2 := h.put (s' := stS l 0) (hst 0)
      rw [atR_st l (Nat.zero_le _)] at h2
      have H2 := hide h2
      clear h h2 hat hst hok hp hq
      subst hp0
      simp only [isSt]
      go_wp2_with (fail)
      go_meet
      exact H2
    | here i =>
      have hs : stS l p = .here i := by rw [← hp]; exact stS_in (hok i rfl)
      have HS := hide hs
      clear h hat hst hok hp hs hq
      simp only [isSt]
      go_wp2_with (fail)
      go_meet
      exact hide ⟨Fr.refl _ _, by rw [HS.out]; exact HQ.out⟩
    | done =>
      have hs : stS l p = .done := by rw [← hp]; exact stS_past (Nat.le_refl _)
      have HS := hide hs
      clear h hat hst hok hp hs hq
      simp only [isSt]
      go_wp2_with (fail)
      go_meet
      exact hide ⟨Fr.refl _ _, by rw [HS.out]; exact HQ.out⟩
  case rest =>
  obtain ⟨w1, rfl⟩ : ∃ W : World, W = wc := ⟨_, rfl⟩
  have H1 : Hid (Fr (Is Y) w w1 ∧ RIt w1 Y A n c B l (stS l p)) := hcut
  have HB0 : Hid (BelowD l d p p) := hide (fun t h1 h2 => by omega)
  refine hK _ _ ?_
  clear hK K hcut h hat hst hok hq hp
  go_wp2_with (fail)
  go_loopw [] (fun wr => ∃ k : Nat, p ≤ k ∧ k ≤ n ∧ Hid (BelowD l d p k) ∧ Hid (Fr (Is Y) w wr ∧ RIt wr Y A n c B l (stS l k))) (fun wr => n - cellI wr Y 1)
  case atStart => exact ⟨p, Nat.le_refl _, hpl, HB0, H1⟩
  case round =>
    obtain ⟨wo, rfl⟩ : ∃ wo : World, wo = wr := ⟨_, rfl⟩
    obtain ⟨k, hpk, hkn, HB, HI⟩ := hrel
    clear HB0 H1
    have hq := HI.out.2.q
    rw [atR_st l (by rw [HL.out]; exact hkn)] at hq
    have c1 : wo.cell? ⟨Y, 1, none⟩ = some (.int .i64 (k : Nat)) := cell_of_row _ _ 1 _ _ _ hq
    have z1 : wo.frozen? ⟨Y, 1, none⟩ = false := frozen_of_row _ _ _ _ _ hq
    obtain ⟨g, hg⟩ : ∃ g, decide (k < n ∧ (l.getD k noPo).1 < d) = g := ⟨_, rfl⟩
    have HG := hide hg
    go_upto_region 3 with (fail)
    refine wp_named fun K hK => ?_
    go_cut [37] from 13 to 37 (fun v wx => v = .bool g ∧ Hid (∃ q, wx = wo.drewN q))
    case first =>
      by_cases hlt : k < n
      · obtain ⟨ad, Ak, ck, hA, -, k0, -⟩ := HI.out.2.rd.at (k := k) (by rw [HL.out]; exact hlt)
        subst hA
        have c0 : wo.cell? ⟨Y, 0, none⟩ = some (.slice (some ad) n c) := cell_of_row _ _ 0 _ _ _ hq
        obtain ⟨x, hx⟩ : ∃ x, (l.getD k noPo).1 = x := ⟨_, rfl⟩
        rw [hx] at k0 hg
        have e1 : decide ((k : Int) < (n : Int)) = true := decide_eq_true (by omega)
        have e1b : decide (k < n) = true := decide_eq_true hlt
        have e2 : decide (x < d) = g := by rw [← hg]; simp [hlt]
        have j0 : (0 : Int) ≤ (k : Int) := by omega
        have j1 : (k : Int) < (n : Int) := by omega
        clear hx hg hlt hq
        go_quiet (fail)
        go_wp2_with (fail)
        go_meet
        exact ⟨by simp [e2], hide ⟨_, rfl⟩⟩
      · obtain rfl : false = g := by rw [← hg]; simp [hlt]
        have c0 : wo.cell? ⟨Y, 0, none⟩ = some (.slice A n c) := cell_of_row _ _ 0 _ _ _ hq
        have e1 : decide ((k : Int) < (n : Int)) = false := decide_eq_false (by omega)
        have e1b : decide (k < n) = false := decide_eq_false hlt
        clear hg hlt hq
        go_quiet (fail)
        go_wp2_with (fail)
        go_meet
        exact ⟨rfl, hide ⟨_, rfl⟩⟩
    case rest =>
    obtain ⟨rfl, HWq⟩ := hcut
    obtain ⟨wq, rfl⟩ : ∃ W : World, W = wc := ⟨_, rfl⟩
    refine hK _ _ ?_
    have HIq : Hid (Fr (Is Y) w wq ∧ RIt wq Y A n c B l (stS l k)) := hide (by obtain ⟨q, rfl⟩ := HWq.out; exact ⟨HI.out.1.drewN q, HI.out.2.fr0 ((Fr.refl No wo).drewN q)⟩)
    have hq2 := HIq.out.2.q
    rw [atR_st l (by rw [HL.out]; exact hkn)] at hq2
    clear hK K hg
    cases g with
    | true =>
      obtain ⟨hk1, hk2⟩ := of_decide_eq_true HG.out
      have c1' : wq.cell? ⟨Y, 1, none⟩ = some (.int .i64 (k : Nat)) := cell_of_row _ _ 1 _ _ _ hq2
      have z1' : wq.frozen? ⟨Y, 1, none⟩ = false := frozen_of_row _ _ _ _ _ hq2
      have h2 := HIq.out.2.put (s' := stS l (k + 1)) (HSt.out (k + 1))
      rw [atR_st l (by rw [HL.out]; exact hk1)] at h2
      have H2 := hide h2
      have HB2 : Hid (BelowD l d p (k + 1)) := hide (fun t h1 h2 h3 => by
        by_cases e : t = k
        · rw [e]; exact hk2
        · exact HB.out t h1 (by omega) h3)
      have HQ2 := hide hq2
      have HC1 := hide c1
      clear h2 hk2 hq hq2 c1 z1
      go_wp2_with (fail)
      go_roundw
      case rel => exact ⟨k + 1, by omega, by omega, HB2, hide ⟨HIq.out.1.ts H2.out.1, H2.out.2⟩⟩
      case measure =>
        have e1 := cellI_of HC1.out
        have e2 := cellI_of (k := k + 1) (cell_of_row _ _ 1 _ _ _ (ri_put HQ2.out (.int .i64 ((k : Int) + 1))))
        rw [e1, e2]
        omega
    | false =>
      have hx := of_decide_eq_false HG.out
      have HF : Hid (IsF l d (posS l s) k) := hide (by
        rw [HP.out]
        refine ⟨hpk, by rw [HL.out]; exact hkn, fun t h1 h2 => HB.out t h1 h2 (by rw [HL.out]; omega), fun h3 => ?_⟩
        rw [HL.out] at h3
        by_cases h4 : (l.getD k noPo).1 < d
        · exact absurd ⟨h3, h4⟩ hx
        · omega)
      obtain ⟨gk, hgk⟩ : ∃ gk, decide (k < n) = gk := ⟨_, rfl⟩
      have hgk2 : decide ((k : Int) < (n : Int)) = gk := by rw [← hgk]; exact decide_eq_decide.2 (by omega)
      have HGk := hide hgk
      have c0' : wq.cell? ⟨Y, 0, none⟩ = some (.slice A n c) := cell_of_row _ _ 0 _ _ _ hq2
      have c1' : wq.cell? ⟨Y, 1, none⟩ = some (.int .i64 (k : Nat)) := cell_of_row _ _ 1 _ _ _ hq2
      clear hx hq hq2 c1 z1 hpk hkn
      go_wp2_with (fail)
      go_quiet (fail)
      go_wp2_with (fail)
      go_ret
      refine ⟨HIq.out.1.drewN _, k, HF.out, ?_, HIq.out.2.fr0 ((Fr.refl No wq).drewN _)⟩
      rw [HGk.out]
      first | rfl | simp [hgk, hgk2]
end Go.Proofs.Ythlbfnoahdjdeaa
namespace Go.Proofs.Ythlbfnoahdjdeaa
set_option linter.unusedVariables false
set_option linter.unusedSimpArgs false
open Go.ChangeShapes Go.WideShapes Go.ChangeAt Go.RowKit

/-- a move: who, kind, document. -/
abbrev Mv := Int × Int × Int
def noMv : Mv := (0, 0, 0)
def MvM (W : World) (B : Nat) (A : Option Addr) (l : List Mv) : Prop := ∀ j, j < l.length → ∃ a, A = some a ∧ a.block < B ∧ W.cell? (a.add (j * 3)) = some (.int .i64 (l.getD j noMv).1) ∧ W.cell? ⟨(a.add (j * 3)).block, (a.add (j * 3)).off + 1, none⟩ = some (.int .i64 (l.getD j noMv).2.1) ∧ W.cell? ⟨(a.add (j * 3)).block, (a.add (j * 3)).off + 2, none⟩ = some (.int .i64 (l.getD j noMv).2.2)
theorem MvM.fr0 {w w' : World} {B : Nat} {A : Option Addr} {l : List Mv} (h : MvM w B A l) (f : Fr No w w') : MvM w' B A l := fun j hj => by
  obtain ⟨a, h1, h2, h3, h4, h5⟩ := h j hj
  exact ⟨a, h1, h2, f.cell h3 (fun h => h), f.cell h4 (fun h => h), f.cell h5 (fun h => h)⟩
noncomputable def mvFs : Array Field := fsOf (Try.prog.underlying 50)
theorem mv_desc : Try.prog.underlying 50 = some (.struct mvFs) := by kernel_rfl
theorem mv_one : Go.Deep.oneCellFields Try.prog mvFs = true := by kernel_rfl
theorem mv_cells : Try.prog.cellsOf 50 = 3 := by kernel_rfl
theorem mv_types : mvFs.toList.map (·.type) = [3, 3, 3] := by kernel_rfl
theorem mv_field {j : Nat} {t : TypeId} (h : [3, 3, 3][j]? = some t) : ∃ f, mvFs[j]? = some f ∧ f.type = t := by
  rw [← mv_types, List.getElem?_map] at h
  obtain ⟨f, hf, rfl⟩ := Option.map_eq_some_iff.1 h
  exact ⟨f, by simpa using hf, rfl⟩
theorem open_mv {H : Type} {enc : TypeId × Value → H} {W : World} {a : Addr} {i n : Nat} {cs' : List Value} {y : DataW H × List MemPlace}
    (hc : W.cells? 0 (a.add (i * 3)) 3 = some cs') (h : DataW.trod enc Try.prog W 0 (fun _ => true) true n 50 cs' = some y) :
    ∃ s : Mv, W.cell? (a.add (i * 3)) = some (.int .i64 s.1) ∧ W.cell? ⟨(a.add (i * 3)).block, (a.add (i * 3)).off + 1, none⟩ = some (.int .i64 s.2.1) ∧ W.cell? ⟨(a.add (i * 3)).block, (a.add (i * 3)).off + 2, none⟩ = some (.int .i64 s.2.2) := by
  obtain ⟨_, hcl, hat⟩ := World.cells?_some hc
  obtain ⟨xs, m, _, _, _, hlen, hf⟩ := DataW.trod_struct mv_desc h
  have one : ∀ (j : Nat) (t : TypeId), [3, 3, 3][j]? = some t → j < 3 → ∃ v z, W.cell? ((a.add (i * 3)).add j) = some v ∧ DataW.trod enc Try.prog W 0 (fun _ => true) true m t [v] = some z := by
    intro j t ht hj
    obtain ⟨f, hfj, rfl⟩ := mv_field ht
    obtain ⟨ho, hk⟩ := Go.Deep.hone_of mv_one j f hfj
    have h1 := hf j f hfj
    rw [ho, hk] at h1
    have hd : (cs'.drop j).take 1 = [cs'[j]'(by omega)] := by
      rw [List.drop_eq_getElem_cons (by omega)]
      rfl
    rw [hd] at h1
    have hjs : j < mvFs.size := (Array.getElem?_eq_some_iff.1 hfj).1
    have hx : xs[j]? = some (xs[j]'(by omega)) := List.getElem?_eq_getElem (by omega)
    exact ⟨_, _, (hat j hj).trans (List.getElem?_eq_getElem (by omega)), h1.trans hx⟩
  obtain ⟨v0, z0, c0, t0⟩ := one 0 _ rfl (by omega)
  obtain ⟨v1, z1, c1, t1⟩ := one 1 _ rfl (by omega)
  obtain ⟨v2, z2, c2, t2⟩ := one 2 _ rfl (by omega)
  obtain ⟨n0, rfl, _⟩ := int_of_trod t0
  obtain ⟨n1, rfl, _⟩ := int_of_trod t1
  obtain ⟨n2, rfl, _⟩ := int_of_trod t2
  have e0 : (a.add (i * 3)).add 0 = a.add (i * 3) := by rw [add_of_add]; rfl
  rw [e0] at c0
  rw [lit_add _ _ _ (by omega)] at c1 c2
  exact ⟨(n0, n1, n2), c0, c1, c2⟩
theorem openMoves {H : Type} {enc : TypeId × Value → H} {W : World} {a : Option Addr} {len cap : Nat} {d : DataW H} {p : List MemPlace}
    (h : DataW.Trod enc Try.prog W 0 (fun _ => true) true 38 (.slice a len cap) d p) :
    ∃ l : List Mv, l.length = len ∧ len ≤ cap ∧ cap ≤ maxLen ∧ MvM W W.heap.size a l := by
  obtain ⟨fuel, hf⟩ := h
  rcases Go.Deep.open_slice Try.underlying38 hf with ⟨hcs, _⟩ | ⟨x, l, c, m, n, D, Pl, hcs, _, hl, hm, hmm, _, hel⟩
  · simp [Value.cells] at hcs
    obtain ⟨rfl, rfl, rfl⟩ := hcs
    exact ⟨[], rfl, Nat.le_refl _, Nat.zero_le _, fun j hj => by simp at hj⟩
  · simp [Value.cells] at hcs
    obtain ⟨rfl, rfl, rfl⟩ := hcs
    have hmc : m = cap := hmm
    rw [mv_cells] at hel
    have hall : ∀ i, i < len → ∃ s : Mv, W.cell? (x.add (i * 3)) = some (.int .i64 s.1) ∧ W.cell? ⟨(x.add (i * 3)).block, (x.add (i * 3)).off + 1, none⟩ = some (.int .i64 s.2.1) ∧ W.cell? ⟨(x.add (i * 3)).block, (x.add (i * 3)).off + 2, none⟩ = some (.int .i64 s.2.2) := by
      intro i hi
      obtain ⟨cs', h1, h2⟩ := hel i (by omega)
      exact open_mv h1 h2
    obtain ⟨g, hg⟩ := Go.Deep.choose_lt hall
    refine ⟨(List.range len).map g, by simp, hl, hm, ?_⟩
    intro j hj
    have hj : j < len := by simpa using hj
    have e : ((List.range len).map g).getD j noMv = g j := by
      rw [List.getD_eq_getElem?_getD, List.getElem?_map, List.getElem?_range hj]
      rfl
    rw [e]
    obtain ⟨c0, c1, c2⟩ := hg j hj
    refine ⟨x, rfl, ?_, c0, c1, c2⟩
    have := World.block_lt_of_cell? W _ c0
    rwa [block_of_add] at this
/-- two walks, the document's two, the rows that hold them. -/
structure FourM (w W : World) (bX Bl B2 : Nat) (X Y : Nat → Nat) (P R : Nat) (A : Option Addr) (n c : Nat) (lv : Value) (l : List Po) (s t : Nat → ItS) : Prop where
  x : ∀ i, i < 2 → ItM W bX (X i) lv l (s i)
  y : ∀ i, i < 2 → RIt W (Y i) A n c B2 l (t i)
  lv : LvM W Bl lv l
  fr : Fr No w W
  lx : ∀ i, i < 2 → w.heap.size ≤ X i
  ly : ∀ i, i < 2 → w.heap.size ≤ Y i
  nx : X 0 ≠ X 1
  ny : Y 0 ≠ Y 1
  bx : ∀ i, i < 2 → B2 ≤ X i
  p : W.heap[P]? = some (.cells #[.pointer (some ⟨X 0, 0, none⟩), .pointer (some ⟨X 1, 0, none⟩)] 42 (0, 0))
  r : W.heap[R]? = some (.cells #[.pointer (some ⟨Y 0, 0, none⟩), .pointer (some ⟨Y 1, 0, none⟩)] 45 (0, 0))
def updS (s : Nat → ItS) (g : Nat) (v : ItS) : Nat → ItS := fun i => if i = g then v else s i
section
variable {w W W' : World} {bX Bl B2 : Nat} {X Y : Nat → Nat} {P R : Nat} {A : Option Addr} {n c : Nat} {lv : Value} {l : List Po} {s t : Nat → ItS}
theorem FourM.fr0 (h : FourM w W bX Bl B2 X Y P R A n c lv l s t) (f : Fr No W W') : FourM w W' bX Bl B2 X Y P R A n c lv l s t :=
  ⟨fun i hi => (h.x i hi).fr0 f, fun i hi => (h.y i hi).fr0 f, h.lv.fr0 f, h.fr.tr f, h.lx, h.ly, h.nx, h.ny, h.bx, f.blk h.p (fun h => h), f.blk h.r (fun h => h)⟩
theorem ne_of {X : Nat → Nat} (h : X 0 ≠ X 1) {i g : Nat} (hi : i < 2) (hg : g < 2) (e : i ≠ g) : X i ≠ X g := by
  rcases i with _ | _ | i <;> rcases g with _ | _ | g
  · exact absurd rfl e
  · exact h
  · omega
  · exact fun h2 => h h2.symm
  · exact absurd rfl e
  · omega
  · omega
  · omega
  · omega
theorem FourM.goX (h : FourM w W bX Bl B2 X Y P R A n c lv l s t) {g : Nat} (hg : g < 2) {v : ItS} (f : Fr (Is (X g)) W W') (hi : ItM W' bX (X g) lv l v) : FourM w W' bX Bl B2 X Y P R A n c lv l (updS s g v) t := by
  have ho := fun T hT => (h.x g hg).offIs (T := T) hT
  refine ⟨fun i hi2 => ?_, fun i hi2 => ?_, h.lv.off f (ho _ (by decide)) (ho _ (by decide)) (ho _ (by decide)), h.fr.trans f (fun i hi e => by have e : i = X g := e; have := h.lx g hg; omega), h.lx, h.ly, h.nx, h.ny, h.bx, f.blk h.p (ho _ (by decide) _ _ _ h.p), f.blk h.r (ho _ (by decide) _ _ _ h.r)⟩
  · unfold updS
    split
    · rename_i e; rw [e]; exact hi
    · rename_i e
      exact (h.x i hi2).off f (fun e2 => ne_of h.nx hi2 hg e e2) (ho _ (by decide)) (ho _ (by decide))
  · exact (h.y i hi2).fr f (ho _ (by decide) _ _ _ (h.y i hi2).q) (fun k hk e => by have e : k = X g := e; have := h.bx g hg; omega)
theorem FourM.goY (h : FourM w W bX Bl B2 X Y P R A n c lv l s t) {g : Nat} (hg : g < 2) {v : ItS} (f : Fr (Is (Y g)) W W') (hi : RIt W' (Y g) A n c B2 l v) : FourM w W' bX Bl B2 X Y P R A n c lv l s (updS t g v) := by
  have ho : ∀ T : TypeId, T ≠ 47 → Off (Is (Y g)) W T := fun T hT => off_is (h.y g hg).q hT
  refine ⟨fun i hi2 => ?_, fun i hi2 => ?_, h.lv.off f (ho _ (by decide)) (ho _ (by decide)) (ho _ (by decide)), h.fr.trans f (fun i hi e => by have e : i = Y g := e; have := h.ly g hg; omega), h.lx, h.ly, h.nx, h.ny, h.bx, f.blk h.p (ho _ (by decide) _ _ _ h.p), f.blk h.r (ho _ (by decide) _ _ _ h.r)⟩
  · obtain ⟨cs, hq⟩ := (h.x i hi2).row
    exact (h.x i hi2).off f (ho _ (by decide) _ _ _ hq) (ho _ (by decide)) (ho _ (by decide))
  · unfold updS
    split
    · rename_i e; rw [e]; exact hi
    · rename_i e
      exact (h.y i hi2).fr f (fun e2 => ne_of h.ny hi2 hg e e2) (fun k hk e2 => by have e2 : k = Y g := e2; have := (h.y g hg).lo; omega)
theorem FourM.cellP (h : FourM w W bX Bl B2 X Y P R A n c lv l s t) {g : Nat} (hg : g < 2) : W.cell? ⟨P, g, none⟩ = some (.pointer (some ⟨X g, 0, none⟩)) := by
  rcases g with _ | _ | g
  · exact cell_of_row _ _ 0 _ _ _ h.p
  · exact cell_of_row _ _ 1 _ _ _ h.p
  · omega
theorem FourM.cellR (h : FourM w W bX Bl B2 X Y P R A n c lv l s t) {g : Nat} (hg : g < 2) : W.cell? ⟨R, g, none⟩ = some (.pointer (some ⟨Y g, 0, none⟩)) := by
  rcases g with _ | _ | g
  · exact cell_of_row _ _ 0 _ _ _ h.r
  · exact cell_of_row _ _ 1 _ _ _ h.r
  · omega
end
theorem and_one (x : Int) : ∃ g : Nat, bits .and .i64 x 1 = (g : Int) ∧ g < 2 := by
  have h : bits .and .i64 x ((1 : Nat) : Int) = IntKind.i64.wrap (((BitVec.ofInt 64 x &&& BitVec.ofInt 64 ((1 : Nat) : Int)).toNat : Nat) : Int) := rfl
  have h2 : (BitVec.ofInt 64 x &&& BitVec.ofInt 64 ((1 : Nat) : Int)).toNat ≤ 1 := by
    rw [BitVec.toNat_and, BitVec.ofInt_natCast]
    refine Nat.le_trans Nat.and_le_right ?_
    rw [BitVec.toNat_ofNat]
    exact Nat.mod_le _ _
  refine ⟨(BitVec.ofInt 64 x &&& BitVec.ofInt 64 ((1 : Nat) : Int)).toNat, ?_, by omega⟩
  rw [show (1 : Int) = ((1 : Nat) : Int) from rfl, h, IntKind.wrap_i64]
  omega
end Go.Proofs.Ythlbfnoahdjdeaa
