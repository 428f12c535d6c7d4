/- Several texts in one: BkC, BkR, BkT. -/
import Derived.Test.YtpopbkcbplmcaaaGreatK6
import Derived.Deep.RegionHeld3
import Derived.BigQuiet
namespace Go.Proofs.YtpopbkcbplmcaaaGreat
set_option linter.unusedVariables false
set_option linter.unusedSimpArgs false

def cmpI (x y : Int) : Int := if x < y then -1 else if y < x then 1 else 0
theorem cmpI_neg {x y : Int} : cmpI x y < 0 ↔ x < y := by unfold cmpI; split <;> (try split) <;> omega
theorem cmpI_zero {x y : Int} : cmpI x y = 0 ↔ x = y := by unfold cmpI; split <;> (try split) <;> omega
theorem cmpI_in (x y : Int) : cmpI x y = -1 ∨ cmpI x y = 0 ∨ cmpI x y = 1 := by unfold cmpI; split <;> (try split) <;> simp
/-- slices.Compare. -/
def cmpL : List Int → List Int → Int
  | [], [] => 0
  | [], _ :: _ => -1
  | _ :: _, [] => 1
  | x :: r, y :: s => if cmpI x y = 0 then cmpL r s else cmpI x y
theorem cmpL_in : ∀ r s : List Int, cmpL r s = -1 ∨ cmpL r s = 0 ∨ cmpL r s = 1
  | [], [] => by simp [cmpL]
  | [], _ :: _ => by simp [cmpL]
  | _ :: _, [] => by simp [cmpL]
  | x :: r, y :: s => by
    rw [cmpL]
    split
    · exact cmpL_in r s
    · exact cmpI_in x y
theorem cons_lt {x y : Int} {r s : List Int} : x :: r < y :: s ↔ x < y ∨ x = y ∧ r < s := List.cons_lt_cons_iff
theorem cmpL_snoc {m n : Int} : ∀ {r s : List Int}, r.length = s.length → ((r ++ [m] < s ++ [n]) ↔ (cmpL r s < 0 ∨ cmpL r s = 0 ∧ m < n))
  | [], [], _ => by
    rw [List.nil_append, List.nil_append, cons_lt]
    simp [cmpL]
  | x :: r, y :: s, h => by
    have h' : r.length = s.length := by simpa using h
    rw [List.cons_append, List.cons_append, cons_lt, cmpL_snoc h', cmpL]
    by_cases e : cmpI x y = 0
    · rw [if_pos e]
      have := cmpI_zero.1 e
      subst this
      have : ¬ x < x := Int.lt_irrefl x
      simp [this]
    · rw [if_neg e]
      have h1 : ¬ x = y := fun h => e (cmpI_zero.2 h)
      have h2 := cmpI_neg (x := x) (y := y)
      constructor
      · rintro (h3 | ⟨h3, _⟩)
        · exact .inl (h2.2 h3)
        · exact absurd h3 h1
      · rintro (h3 | ⟨h3, _⟩)
        · exact .inl (h2.1 h3)
        · exact absurd h3 e
  | [], _ :: _, h => by simp at h
  | _ :: _, [], h => by simp at h
/-- what the comparison answers. -/
def cmpP (d : Nat) (a b : Pt) : Int := if cmpI (a.2.getD d 0) (b.2.getD d 0) ≠ 0 then cmpI (a.2.getD d 0) (b.2.getD d 0) else if cmpL a.2 b.2 ≠ 0 then cmpL a.2 b.2 else cmpI a.1 b.1
theorem cmpP_lt {d : Nat} {a b : Pt} (h : a.2.length = b.2.length) : cmpP d a b < 0 ↔ ltP d a b := by
  unfold ltP keyP
  rw [cons_lt, cmpL_snoc h, cmpP]
  generalize a.2.getD d 0 = X
  generalize b.2.getD d 0 = Y
  generalize cmpL a.2 b.2 = L
  generalize a.1 = m
  generalize b.1 = n
  have h1 := cmpI_zero (x := X) (y := Y)
  have h2 := cmpI_neg (x := X) (y := Y)
  have h3 := cmpI_neg (x := m) (y := n)
  by_cases e : X = Y
  · rw [if_neg (fun h => h (h1.2 e))]
    by_cases e4 : L = 0
    · rw [if_neg (fun h => h e4)]
      constructor
      · intro h; exact .inr ⟨e, .inr ⟨e4, h3.1 h⟩⟩
      · rintro (h | ⟨_, h | ⟨_, h⟩⟩)
        · omega
        · omega
        · exact h3.2 h
    · rw [if_pos e4]
      constructor
      · intro h; exact .inr ⟨e, .inl h⟩
      · rintro (h | ⟨_, h | ⟨h, _⟩⟩)
        · omega
        · exact h
        · exact absurd h e4
  · rw [if_pos (fun h => e (h1.1 h))]
    constructor
    · intro h; exact .inl (h2.1 h)
    · rintro (h | ⟨h, _⟩)
      · exact h2.2 h
      · exact absurd h e
/-- below, the document's. -/
def belP (d : Nat) (a b : Pt) : Bool := decide (ltP d a b)
theorem belP_eq {d : Nat} {a b : Pt} (h : a.2.length = b.2.length) : belP d a b = (if a.2.getD d 0 ≠ b.2.getD d 0 then decide (a.2.getD d 0 < b.2.getD d 0) else if cmpL a.2 b.2 ≠ 0 then decide (cmpL a.2 b.2 < 0) else decide (a.1 < b.1)) := by
  unfold belP
  have h1 := cmpP_lt (d := d) h
  rw [show decide (ltP d a b) = decide (cmpP d a b < 0) from decide_eq_decide.2 h1.symm, cmpP]
  generalize a.2.getD d 0 = X
  generalize b.2.getD d 0 = Y
  generalize cmpL a.2 b.2 = L
  generalize a.1 = m
  generalize b.1 = n
  have h1 := cmpI_zero (x := X) (y := Y)
  have h2 := cmpI_neg (x := X) (y := Y)
  have h3 := cmpI_neg (x := m) (y := n)
  by_cases e : X = Y
  · have e1 : ¬ (cmpI X Y ≠ 0) := fun h => h (h1.2 e)
    have e2 : ¬ (X ≠ Y) := fun h => h e
    rw [if_neg e1, if_neg e2]
    by_cases e4 : L = 0
    · have e5 : ¬ (L ≠ 0) := fun h => h e4
      rw [if_neg e5, if_neg e5]
      exact decide_eq_decide.2 h3
    · rw [if_pos e4, if_pos e4]
  · rw [if_pos e, if_pos (fun h => e (h1.1 h))]
    exact decide_eq_decide.2 h2
theorem cmpL_drop {r s : List Int} {k : Nat} (h1 : k < r.length) (h2 : k < s.length) : cmpL (r.drop k) (s.drop k) = if cmpI (r.getD k 0) (s.getD k 0) = 0 then cmpL (r.drop (k + 1)) (s.drop (k + 1)) else cmpI (r.getD k 0) (s.getD k 0) := by
  rw [List.drop_eq_getElem_cons h1, List.drop_eq_getElem_cons h2, cmpL, List.getD, List.getElem?_eq_getElem h1, List.getD, List.getElem?_eq_getElem h2]
  rfl
theorem cmpL_done {r s : List Int} (h : r.length = s.length) : cmpL (r.drop r.length) (s.drop r.length) = 0 := by
  rw [List.drop_length, h, List.drop_length]
  rfl
/-- two halves in order, put together. -/
theorem sort_merge (d k : Nat) (l : List Pt) : (sortP d (l.take k)).merge (sortP d (l.drop k)) (leP d) = sortP d l := by
  refine sortP_uniq ?_ ?_
  · refine (List.merge_perm_append _).trans ?_
    refine ((sortP_perm d _).append (sortP_perm d _)).trans ?_
    rw [List.take_append_drop]
  · exact List.pairwise_merge (leP_trans d) (fun a b => by simpa using leP_total d a b) _ _ (sortP_up d _) (sortP_up d _)
theorem sort_short {d : Nat} {l : List Pt} (h : l.length < 2) : sortP d l = l := by
  match l, h with
  | [], _ => simp [sortP]
  | [x], _ => simp [sortP]
  | _ :: _ :: _, h => simp at h; omega
theorem merge_b {d : Nat} {y : Pt} {r s : List Pt} (h : r = [] ∨ ∃ x t, r = x :: t ∧ leP d x y = false) : r.merge (y :: s) (leP d) = y :: r.merge s (leP d) := by
  rcases h with rfl | ⟨x, t, rfl, h⟩
  · simp [List.merge]
  · rw [List.cons_merge_cons, if_neg (by rw [h]; exact Bool.false_ne_true)]
theorem merge_a {d : Nat} {x : Pt} {t s : List Pt} (h : s = [] ∨ ∃ y r, s = y :: r ∧ leP d x y = true) : (x :: t).merge s (leP d) = x :: t.merge s (leP d) := by
  rcases h with rfl | ⟨y, r, rfl, h⟩
  · simp [List.merge]
  · rw [List.cons_merge_cons, if_pos h]
theorem leP_bel {d : Nat} {x y : Pt} : leP d x y = !belP d y x := by
  unfold leP belP
  by_cases h : ltP d y x <;> simp [h]
end Go.Proofs.YtpopbkcbplmcaaaGreat
namespace Go.Proofs.YtpopbkcbplmcaaaGreat
set_option linter.unusedVariables false
set_option linter.unusedSimpArgs false
open Go.RowKit

set_option maxRecDepth 100000 in
set_option maxHeartbeats 4000000 in
theorem below_any (d n ca cb B : Nat) (da db : Int) (ra rb : List Int) (Aa Ab : Option Addr) (w : World) (hd : d < n) (hra : ra.length = n) (hrb : rb.length = n) (h1 : n ≤ ca) (h2 : ca ≤ maxLen) (h3 : n ≤ cb) (h4 : cb ≤ maxLen)
    (hA : Rd w B Aa (iz .i64 ra)) (hB : Rd w B Ab (iz .i64 rb)) :
    Calls Tryz.prog 91 #[.agg #[.int .i64 da, .slice Aa n ca], .agg #[.int .i64 db, .slice Ab n cb], .int .i64 (d : Nat)] w (fun en w' => en = .returned (.bool (belP d (da, ra) (db, rb))) ∧ Fr No w w') := by
  have HE := hide (belP_eq (d := d) (a := (da, ra)) (b := (db, rb)) (by dsimp only; rw [hra, hrb]))
  obtain ⟨r, hr⟩ : ∃ x, x = belP d (da, ra) (db, rb) := ⟨_, rfl⟩
  rw [← hr] at HE ⊢
  dsimp only at HE
  obtain ⟨W2, hW2⟩ : ∃ x, x = (w.alloc (.cells #[.int .i64 da, .slice Aa n ca] 86)).alloc (.cells #[.int .i64 db, .slice Ab n cb] 86) := ⟨_, rfl⟩
  have f2 : Fr No w W2 := by rw [hW2]; exact ((Fr.refl No w).alloc _).alloc _
  obtain ⟨ada, rfl, _, xa⟩ := (hA.fr0 f2).intAt (j := d) (by rw [hra]; exact hd)
  obtain ⟨adb, rfl, _, xb⟩ := (hB.fr0 f2).intAt (j := d) (by rw [hrb]; exact hd)
  obtain ⟨g0, hg0⟩ : ∃ x, x = w.heap.size := ⟨_, rfl⟩
  obtain ⟨g1, hg1⟩ : ∃ x, x = w.heap.size + 1 := ⟨_, rfl⟩
  have ba : W2.heap[g0]? = some (.cells #[.int .i64 da, .slice (some ada) n ca] 86 (0, 0)) := by
    rw [hW2, hg0, heap_alloc_old _ _ (by simp)]; exact heap_alloc_new w _
  have bb : W2.heap[g1]? = some (.cells #[.int .i64 db, .slice (some adb) n cb] 86 (0, 0)) := by
    have := heap_alloc_new (w.alloc (.cells #[.int .i64 da, .slice (some ada) n ca] 86)) (.cells #[.int .i64 db, .slice (some adb) n cb] 86)
    rw [hW2, hg1]; simpa using this
  have ka0 := cell_of_row _ _ 0 _ _ _ ba
  have ka1 := cell_of_row _ _ 1 _ _ _ ba
  have kb0 := cell_of_row _ _ 0 _ _ _ bb
  have kb1 := cell_of_row _ _ 1 _ _ _ bb
  have hdn : (d : Int) < (n : Int) := by omega
  have hd0 : (0 : Int) ≤ (d : Int) := by omega
  have HW2 := hide hW2
  have HF2 := hide f2
  have HA2 := hide (hA.fr0 f2)
  have HB2 := hide (hB.fr0 f2)
  have HRa := hide hra
  have HRb := hide hrb
  have HG0 := hide hg0
  have HG1 := hide hg1
  generalize ra.getD d 0 = ya at xa HE
  generalize rb.getD d 0 = yb at xb HE
  unfold maxLen at h2 h4
  clear ba bb hA hB f2 hra hrb hr hW2 hg0 hg1
  go_enter Tryz.func91, Tryz.ntmps91
  go_wp2_with (fail)
  have hz1 : (w.alloc (.cells #[.int .i64 da, .slice (some ada) n ca] 86)).heap.size = g1 := by rw [HG1.out]; simp
  rw [← HW2.out]
  try rw [hz1]
  try rw [← HG1.out]
  rw [← HG0.out]
  clear hz1
  by_cases hy : ya = yb
  · subst hy
    have e1 : (ya != ya) = false := by simp
    have HE' : Hid (r = if cmpL ra rb ≠ 0 then decide (cmpL ra rb < 0) else decide (da < db)) := hide (by rw [HE.out, if_neg (fun h => h rfl)])
    clear HE
    go_quiet (fail)
    have HF3 := hide (HF2.out.drewN nq)
    obtain ⟨W3, hW3⟩ : ∃ x, x = W2.drewN nq := ⟨_, rfl⟩
    have f3 : Fr No W2 W3 := by rw [hW3]; exact (Fr.refl No W2).drewN nq
    have q0 := hide (f3.cell ka0 (fun h => h))
    have q1 := hide (f3.cell ka1 (fun h => h))
    have q2 := hide (f3.cell kb0 (fun h => h))
    have q3 := hide (f3.cell kb1 (fun h => h))
    have HA3 := hide (HA2.out.fr0 f3)
    have HB3 := hide (HB2.out.fr0 f3)
    rw [← hW3]
    rw [← hW3] at HF3
    clear hW3 f3 ka0 ka1 kb0 kb1 xa xb
    go_wp2_with (fail)
    go_loopw [7] (fun i wr => ∃ k : Nat, k ≤ n ∧ i = .int .i64 (k : Nat) ∧ Hid (cmpL ra rb = cmpL (ra.drop k) (rb.drop k)) ∧ Hid (∃ q, wr = W3.drewN q)) (fun i _ => n - (intOf i).toNat)
    case atStart => exact ⟨0, by omega, by go_num, hide rfl, hide ⟨0, rfl⟩⟩
    case round =>
      obtain ⟨wo, rfl⟩ : ∃ wo : World, wo = wr := ⟨_, rfl⟩
      obtain ⟨k, hk, rfl, HC, HQ⟩ := hrel
      have hfo : Fr No W3 wo := by obtain ⟨q, rfl⟩ := HQ.out; exact (Fr.refl No W3).drewN q
      have ka0 := hfo.cell q0.out (fun h => h)
      have ka1 := hfo.cell q1.out (fun h => h)
      have kb0 := hfo.cell q2.out (fun h => h)
      have kb1 := hfo.cell q3.out (fun h => h)
      by_cases hlt : k < n
      · have k1 : k < ra.length := by rw [HRa.out]; exact hlt
        have k2 : k < rb.length := by rw [HRb.out]; exact hlt
        obtain ⟨ad1, e1, _, xa⟩ := (HA3.out.fr0 hfo).intAt k1
        cases e1
        obtain ⟨ad2, e2, _, xb⟩ := (HB3.out.fr0 hfo).intAt k2
        cases e2
        have hdr := cmpL_drop k1 k2
        generalize ra.getD k 0 = x at xa hdr
        generalize rb.getD k 0 = y at xb hdr
        have hkn : (k : Int) < (n : Int) := by omega
        have hk0 : (0 : Int) ≤ (k : Int) := by omega
        have HFo := hide (HF3.out.tr hfo)
        have HDr := hide hdr
        clear k1 k2 hdr hfo
        by_cases hxy : x = y
        · subst hxy
          have e1 : (x != x) = false := by simp
          have HC' : Hid (cmpL ra rb = cmpL (ra.drop (k + 1)) (rb.drop (k + 1))) := hide (by rw [HC.out, HDr.out, if_pos (cmpI_zero.2 rfl)])
          go_wp2_with (fail)
          go_quiet (fail)
          go_wp2_with (fail)
          go_roundw
          case rel => exact ⟨k + 1, by omega, by go_num, HC', hide (by obtain ⟨q, hq⟩ := HQ.out; exact ⟨_, by rw [hq]; exact World.drewN_drewN _ _ _⟩)⟩
          case measure => simp [intOf]; omega
        · have e1 : (x != y) = true := by simpa using hxy
          have HC' : Hid (r = decide (x < y)) := hide (by
            have h1 : cmpL ra rb = cmpI x y := by rw [HC.out, HDr.out, if_neg (fun h => hxy (cmpI_zero.1 h))]
            rw [HE'.out, h1, if_pos (fun h => hxy (cmpI_zero.1 h))]
            exact decide_eq_decide.2 cmpI_neg)
          clear hxy
          go_wp2_with (fail)
          go_quiet (fail)
          go_wp2_with (fail)
          go_quiet (fail)
          go_wp2_with (fail)
          go_ret
          exact ⟨by rw [HC'.out]; rfl, by first | exact HFo.out.drewN _ | exact (HFo.out.drewN _).drewN _⟩
      · obtain rfl : k = n := by omega
        have HC' : Hid (r = decide (da < db)) := hide (by rw [HE'.out, if_neg (fun h => h (by rw [HC.out, ← HRa.out]; exact cmpL_done (by rw [HRa.out, HRb.out])))])
        have HFo := hide (HF3.out.tr hfo)
        clear hfo hlt
        go_wp2_with (fail)
        go_ret
        exact ⟨by rw [HC'.out]; rfl, HFo.out⟩
  · have e1 : (ya != yb) = true := by simpa using hy
    have HE' : Hid (r = decide (ya < yb)) := hide (by rw [HE.out, if_pos hy])
    clear HE hy
    go_quiet (fail)
    go_wp2_with (fail)
    go_quiet (fail)
    go_wp2_with (fail)
    go_ret
    exact ⟨by rw [HE'.out]; rfl, by first | exact HF2.out.drewN _ | exact (HF2.out.drewN _).drewN _⟩
theorem lowP_one {d : Nat} {p : Pt} {r : List Pt} : lowP d ((p :: r).take 1) (p.2.getD d 0) = p.2.getD d 0 := by simp [lowP]
theorem highP_one {d : Nat} {p : Pt} {r : List Pt} : highP d ((p :: r).take 1) (p.2.getD d 0) = p.2.getD d 0 := by simp [highP]
set_option maxRecDepth 100000 in
set_option maxHeartbeats 2000000 in
theorem far_any (A : Option Addr) (n c B d dims : Nat) (l : List Po) (w : World) (hl : l.length = n) (hn1 : 1 ≤ n) (hn : n ≤ c) (hc : c ≤ maxLen) (hd : ∀ p ∈ l, p.2.length = dims ∧ InI p.2) (hdd : d < dims) (hr : RdPo w B A l) :
    Calls Tryz.prog 76 #[.slice A n c, .int .i64 (d : Nat)] w (Ret (.int .u64 (farP d l : Nat)) w) := by
  have HL := hide hl
  have HR := hide hr
  have HD := hide hd
  have hl0 : 0 < l.length := by rw [hl]; omega
  obtain ⟨ad, A0, c0, rfl, _, k0, k1, e1, e2, hrk⟩ := hr.at hl0
  have hp0 := hd _ (getP_mem hl0)
  have hfar : farP d l = (highP d l ((l.getD 0 noPt).2.getD d 0) - lowP d l ((l.getD 0 noPt).2.getD d 0)).toNat := rfl
  have e00 : l.getD 0 noPt = l.getD 0 noPo := rfl
  rw [e00] at hfar
  have hs : lowP d (l.take 1) ((l.getD 0 noPo).2.getD d 0) = (l.getD 0 noPo).2.getD d 0 ∧ highP d (l.take 1) ((l.getD 0 noPo).2.getD d 0) = (l.getD 0 noPo).2.getD d 0 := by
    match l, hl0 with
    | p :: r, _ => exact ⟨lowP_one, highP_one⟩
  obtain ⟨p0, hp0e⟩ : ∃ x, x = l.getD 0 noPo := ⟨_, rfl⟩
  rw [← hp0e] at k0 k1 e1 hrk hp0 hfar hs
  rw [hp0.1] at k1 e1
  obtain ⟨ad0, rfl, _, hx0⟩ := hrk.intAt (j := d) (by rw [hp0.1]; exact hdd)
  have hx0I := hp0.2 (p0.2.getD d 0) (by rw [List.getD, List.getElem?_eq_getElem (by rw [hp0.1]; exact hdd)]; exact List.getElem_mem _)
  obtain ⟨x0, hx0e⟩ : ∃ x, x = p0.2.getD d 0 := ⟨_, rfl⟩
  rw [← hx0e] at hx0 hx0I hfar hs
  rw [Nat.zero_mul, Addr.add_zero'] at k0 k1
  have HFar := hide hfar
  have HSt := hide hs
  unfold maxLen at hc e2
  clear hl hr hd hl0 hp0 hfar e00 hp0e hrk hx0e hs
  go_enter Tryz.func76, Tryz.ntmps76
  go_wp2
  go_loopw [5, 6, 7, 8] (fun lo hi i _ wr => ∃ (k : Nat) (a b : Int), 1 ≤ k ∧ k ≤ n ∧ i = .int .i64 (k : Nat) ∧ lo = .int .i64 a ∧ hi = .int .i64 b ∧ Hid (a = lowP d (l.take k) x0) ∧ Hid (b = highP d (l.take k) x0) ∧ wr = w) (fun _ _ i _ _ => n - (intOf i).toNat)
  case atStart => exact ⟨1, x0, x0, by omega, by omega, by go_num, rfl, rfl, hide HSt.out.1.symm, hide HSt.out.2.symm, rfl⟩
  case round =>
    obtain ⟨k, a, b, hk1, hk, rfl, rfl, rfl, HLo, HHi, rfl⟩ := hrel
    clear k0 k1 hx0
    by_cases hlk : k < n
    · have hk1' : k < l.length := by rw [HL.out]; exact hlk
      obtain ⟨ad', A1, c1, e, _, k0, k1, g1, g2, hrk⟩ := HR.out.at hk1'
      cases e
      have hpk := HD.out _ (getP_mem hk1')
      have htk := take_snocP hk1'
      obtain ⟨pk, hpke⟩ : ∃ x, x = l.getD k noPo := ⟨_, rfl⟩
      rw [← hpke] at k0 k1 g1 hrk hpk htk
      rw [hpk.1] at k1 g1
      obtain ⟨ad1, rfl, _, hx1⟩ := hrk.intAt (j := d) (by rw [hpk.1]; exact hdd)
      have hlo : lowP d (l.take (k + 1)) x0 = (if pk.2.getD d 0 < a then pk.2.getD d 0 else a) := by rw [htk, lowP_snoc, ← HLo.out]
      have hhi : highP d (l.take (k + 1)) x0 = (if b < pk.2.getD d 0 then pk.2.getD d 0 else b) := by rw [htk, highP_snoc, ← HHi.out]
      obtain ⟨x1, hx1e⟩ : ∃ x, x = pk.2.getD d 0 := ⟨_, rfl⟩
      rw [← hx1e] at hx1 hlo hhi
      have HLo' := hide hlo
      have HHi' := hide hhi
      unfold maxLen at g2
      clear hk1' hpk htk hpke hrk hlo hhi hx1e k0
      by_cases h1 : x1 < a
      · have d1 : decide (x1 < a) = true := decide_eq_true h1
        by_cases h2 : b < x1
        · have d2 : decide (b < x1) = true := decide_eq_true h2
          go_wp2_with (fail)
          go_roundw
          case rel => exact ⟨k + 1, x1, x1, by omega, by omega, by go_num, rfl, rfl, hide (by rw [HLo'.out, if_pos h1]), hide (by rw [HHi'.out, if_pos h2]), trivial⟩
          case measure => simp [intOf]; omega
        · have d2 : decide (b < x1) = false := decide_eq_false h2
          go_wp2_with (fail)
          go_roundw
          case rel => exact ⟨k + 1, x1, b, by omega, by omega, by go_num, rfl, rfl, hide (by rw [HLo'.out, if_pos h1]), hide (by rw [HHi'.out, if_neg h2]), trivial⟩
          case measure => simp [intOf]; omega
      · have d1 : decide (x1 < a) = false := decide_eq_false h1
        by_cases h2 : b < x1
        · have d2 : decide (b < x1) = true := decide_eq_true h2
          go_wp2_with (fail)
          go_roundw
          case rel => exact ⟨k + 1, a, x1, by omega, by omega, by go_num, rfl, rfl, hide (by rw [HLo'.out, if_neg h1]), hide (by rw [HHi'.out, if_pos h2]), trivial⟩
          case measure => simp [intOf]; omega
        · have d2 : decide (b < x1) = false := decide_eq_false h2
          go_wp2_with (fail)
          go_roundw
          case rel => exact ⟨k + 1, a, b, by omega, by omega, by go_num, rfl, rfl, hide (by rw [HLo'.out, if_neg h1]), hide (by rw [HHi'.out, if_neg h2]), trivial⟩
          case measure => simp [intOf]; omega
    · obtain rfl : k = n := by omega
      have hall : l.take k = l := List.take_of_length_le (by rw [HL.out]; exact Nat.le_refl _)
      rw [hall] at HLo HHi
      have hab : a ≤ b := by
        have h1 := lowP_le d l x0
        have h2 := highP_ge d l x0
        rw [HLo.out, HHi.out]
        omega
      have ha : -9223372036854775808 ≤ a := by rw [HLo.out]; exact lowP_in (fun p hp => (HD.out p hp).2) hx0I.1
      have hb : b ≤ 9223372036854775807 := by rw [HHi.out]; exact highP_in (fun p hp => (HD.out p hp).2) hx0I.2
      have hw := far_wrap ha hb hab
      have hff : farP d l = (b - a).toNat := by rw [HFar.out, ← HLo.out, ← HHi.out]
      obtain ⟨f2, hf2⟩ : ∃ x, x = (b - a).toNat := ⟨_, rfl⟩
      rw [← hf2] at hw hff
      have HFf2 := hide hff
      clear hall hf2 hff hlk hab ha hb
      go_wp2
      go_ret
      exact ⟨by rw [HFf2.out]; rfl, rfl⟩
end Go.Proofs.YtpopbkcbplmcaaaGreat
namespace Go.Proofs.YtpopbkcbplmcaaaGreat
set_option linter.unusedVariables false
set_option linter.unusedSimpArgs false
open Go.RowKit

theorem pFlat_takeT (ps : List PoL) (k : Nat) : pFlat (ps.take k) = (pFlat ps).take (k * 2) := by
  induction ps generalizing k with
  | nil => simp [pFlat]
  | cons p r ih =>
    cases k with
    | zero => simp [pFlat]
    | succ k =>
      have e : pFlat (p :: r) = pRow p ++ pFlat r := rfl
      have e2 : pFlat (p :: r.take k) = pRow p ++ pFlat (r.take k) := rfl
      rw [List.take_succ_cons, e, e2, ih, show (k + 1) * 2 = (pRow p).length + k * 2 by simp [pRow]; omega, List.take_length_add_append]
theorem pFlat_dropT (ps : List PoL) (k : Nat) : pFlat (ps.drop k) = (pFlat ps).drop (k * 2) := by
  induction ps generalizing k with
  | nil => simp [pFlat]
  | cons p r ih =>
    cases k with
    | zero => simp
    | succ k =>
      have e : pFlat (p :: r) = pRow p ++ pFlat r := rfl
      rw [List.drop_succ_cons, e, ih, show (k + 1) * 2 = (pRow p).length + k * 2 by simp [pRow]; omega, List.drop_length_add_append]
theorem RdPo.take {w : World} {B : Nat} {A : Option Addr} {l : List Po} (h : RdPo w B A l) (k : Nat) : RdPo w B A (l.take k) := by
  obtain ⟨ps, h1, h2, h3⟩ := h.ex
  exact ⟨ps.take k, by rw [← h1, List.map_take], by rw [pFlat_takeT]; exact h2.tk (k * 2), fun p hp => h3 p (List.mem_of_mem_take hp)⟩
theorem RdPo.drop {w : World} {B : Nat} {ad : Addr} {l : List Po} (h : RdPo w B (some ad) l) (k : Nat) : RdPo w B (some (ad.add (k * 2))) (l.drop k) := by
  obtain ⟨ps, h1, h2, h3⟩ := h.ex
  exact ⟨ps.drop k, by rw [← h1, List.map_drop], by rw [pFlat_dropT]; exact h2.dr (k * 2), fun p hp => h3 p (List.mem_of_mem_drop hp)⟩
theorem RdPo.more {w : World} {B B' : Nat} {A : Option Addr} {l : List Po} (h : RdPo w B A l) (hb : B ≤ B') : RdPo w B' A l := by
  obtain ⟨ps, h1, h2, h3⟩ := h.ex
  exact ⟨ps, h1, h2.more hb, fun p hp => ⟨(h3 p hp).1, (h3 p hp).2.1, (h3 p hp).2.2.more hb⟩⟩
theorem RdPo.empty (w : World) (B : Nat) (A : Option Addr) : RdPo w B A [] := ⟨[], rfl, fun j u hu => by simp [pFlat] at hu, fun p hp => nomatch hp⟩
/-- a row of points that is read: it lies below B, or in a block of points; the places lie below B. -/
structure RdS (w : World) (B : Nat) (A : Option Addr) (l : List Po) : Prop where
  ex : ∃ ps : List PoL, ps.map (·.1) = l ∧ (∀ (j : Nat) u, (pFlat ps)[j]? = some u → ∃ ad, A = some ad ∧ (ad.block < B ∨ ∃ cs fz, w.heap[ad.block]? = some (.cells cs 86 fz)) ∧ w.cell? (ad.add j) = some u) ∧ ∀ p ∈ ps, p.1.2.length ≤ p.2.2 ∧ p.2.2 ≤ maxLen ∧ Rd w B p.2.1 (iz .i64 p.1.2)
theorem RdS.of {w : World} {B : Nat} {A : Option Addr} {l : List Po} (h : RdPo w B A l) : RdS w B A l := by
  obtain ⟨ps, h1, h2, h3⟩ := h.ex
  exact ⟨ps, h1, fun j u hu => by obtain ⟨ad, e, hb, hc⟩ := h2 j u hu; exact ⟨ad, e, .inl hb, hc⟩, h3⟩
theorem RdS.rd {w : World} {B : Nat} {A : Option Addr} {l : List Po} (h : RdS w B A l) (hB : B ≤ w.heap.size) : RdPo w w.heap.size A l := by
  obtain ⟨ps, h1, h2, h3⟩ := h.ex
  refine ⟨ps, h1, fun j u hu => ?_, fun p hp => ⟨(h3 p hp).1, (h3 p hp).2.1, (h3 p hp).2.2.more hB⟩⟩
  obtain ⟨ad, e, hb, hc⟩ := h2 j u hu
  refine ⟨ad, e, ?_, hc⟩
  rcases hb with hb | ⟨cs, fz, hb⟩
  · omega
  · exact (Array.getElem?_eq_some_iff.1 hb).1
theorem RdS.off {S : Nat → Prop} {w w' : World} {B : Nat} {A : Option Addr} {l : List Po} (h : RdS w B A l) (f : Fr S w w') (hB : ∀ k, k < B → ¬ S k) (ho : Off S w 86) : RdS w' B A l := by
  obtain ⟨ps, h1, h2, h3⟩ := h.ex
  refine ⟨ps, h1, fun j u hu => ?_, fun p hp => ⟨(h3 p hp).1, (h3 p hp).2.1, (h3 p hp).2.2.fr f hB⟩⟩
  obtain ⟨ad, e, hb, hc⟩ := h2 j u hu
  have hS : ¬ S ad.block := by
    rcases hb with hb | ⟨cs, fz, hb⟩
    · exact hB _ hb
    · exact ho _ _ _ hb
  refine ⟨ad, e, ?_, f.cell hc (by rw [block_of_add]; exact hS)⟩
  rcases hb with hb | ⟨cs, fz, hb⟩
  · exact .inl hb
  · exact .inr ⟨cs, fz, f.blk hb hS⟩
theorem RdS.fr0 {w w' : World} {B : Nat} {A : Option Addr} {l : List Po} (h : RdS w B A l) (f : Fr No w w') : RdS w' B A l := h.off f (fun _ _ h => h) (fun _ _ _ _ h => h)
theorem RdS.own {w : World} {B base n c : Nat} {A : Option Addr} {ps : List PoL} (h : Own w base 86 2 (.slice A n c) n (pFlat ps)) (hp : ∀ p ∈ ps, p.1.2.length ≤ p.2.2 ∧ p.2.2 ≤ maxLen ∧ Rd w B p.2.1 (iz .i64 p.1.2)) : RdS w B A (ps.map (·.1)) := by
  refine ⟨ps, rfl, fun j u hu => ?_, hp⟩
  obtain ⟨ad, e, hb, hc⟩ := h.rd j u hu
  subst e
  refine ⟨ad, rfl, .inr ?_, hc⟩
  obtain ⟨_, A', c', hv, _, _, hA⟩ := h
  injection hv with e1 _ _
  rcases hA with ⟨e2, _⟩ | ⟨g, cur, e2, _, hh, _⟩
  · rw [e2] at e1; cases e1
  · rw [e2] at e1
    injection e1 with e1
    subst e1
    exact ⟨cur, _, hh⟩
/-- a point's two cells. -/
theorem RdS.at {w : World} {B : Nat} {A : Option Addr} {l : List Po} (h : RdS w B A l) {k : Nat} (hk : k < l.length) :
    ∃ (ad : Addr) (Ak : Option Addr) (c : Nat), A = some ad ∧ True ∧ w.cell? (ad.add (k * 2)) = some (.int .i64 (l.getD k noPo).1) ∧
      w.cell? ⟨(ad.add (k * 2)).block, (ad.add (k * 2)).off + 1, none⟩ = some (.slice Ak (l.getD k noPo).2.length c) ∧ (l.getD k noPo).2.length ≤ c ∧ c ≤ maxLen ∧ Rd w B Ak (iz .i64 (l.getD k noPo).2) := by
  obtain ⟨ps, rfl, h2, h3⟩ := h.ex
  rw [List.length_map] at hk
  obtain ⟨p, hp⟩ : ∃ p, ps[k]? = some p := ⟨_, List.getElem?_eq_getElem hk⟩
  have e : (ps.map (·.1)).getD k noPo = p.1 := by simp [hp]
  rw [e]
  obtain ⟨a1, a2⟩ := pFlat_at hp
  obtain ⟨ad, h4, h5, h6⟩ := h2 _ _ a1
  obtain ⟨ad', h7, h8, h9⟩ := h2 _ _ a2
  rw [h4] at h7
  injection h7 with h7
  subst h7
  have h10 := h3 p (List.mem_of_getElem? hp)
  rw [add_litP] at h9
  exact ⟨ad, p.2.1, p.2.2, h4, trivial, h6, h9, h10.1, h10.2.1, h10.2.2⟩
theorem RdS.empty (w : World) (B : Nat) (A : Option Addr) : RdS w B A [] := ⟨[], rfl, fun j u hu => by simp [pFlat] at hu, fun p hp => nomatch hp⟩
theorem RdS.drop {w : World} {B : Nat} {ad : Addr} {l : List Po} (h : RdS w B (some ad) l) (k : Nat) : RdS w B (some (ad.add (k * 2))) (l.drop k) := by
  obtain ⟨ps, h1, h2, h3⟩ := h.ex
  refine ⟨ps.drop k, by rw [← h1, List.map_drop], fun j u hu => ?_, fun p hp => h3 p (List.mem_of_mem_drop hp)⟩
  rw [pFlat_dropT, List.getElem?_drop] at hu
  obtain ⟨ad', e, hb, hc⟩ := h2 _ u hu
  cases e
  exact ⟨_, rfl, by rw [block_of_add]; exact hb, by rw [add_of_add]; exact hc⟩
theorem RdS.take {w : World} {B : Nat} {A : Option Addr} {l : List Po} (h : RdS w B A l) (k : Nat) : RdS w B A (l.take k) := by
  obtain ⟨ps, h1, h2, h3⟩ := h.ex
  refine ⟨ps.take k, by rw [← h1, List.map_take], fun j u hu => ?_, fun p hp => h3 p (List.mem_of_mem_take hp)⟩
  rw [pFlat_takeT, List.getElem?_take] at hu
  split at hu
  · exact h2 j u hu
  · cases hu
/-- what is left behind the first point. -/
theorem RdS.tail {w : World} {B c : Nat} {ad : Addr} {p : Po} {r : List Po} (h : RdS w B (some ad) (p :: r)) (hc : (p :: r).length ≤ c) : RdS w B (if c = 1 then some ad else some (ad.add (1 * 2))) r := by
  split
  · rename_i e
    have : r = [] := by
      cases r with
      | nil => rfl
      | cons q t => simp at hc; omega
    subst this
    exact RdS.empty _ _ _
  · exact h.drop 1
def SrtQ (w : World) (B : Nat) (l : List Po) (n : Nat) (en : Ending) (w' : World) : Prop := ∃ A c, en = .returned (.slice A n c) ∧ n ≤ c ∧ c ≤ maxLen ∧ RdS w' B A l ∧ Fr No w w'
set_option maxRecDepth 100000 in
set_option maxHeartbeats 8000000 in
theorem sorted_any (d dims : Nat) (hdd : d < dims) : ∀ (n : Nat) (A : Option Addr) (c B : Nat) (l : List Po) (w : World), l.length = n → n ≤ 1048576 → n ≤ c → c ≤ maxLen → B ≤ w.heap.size → (∀ p ∈ l, p.2.length = dims) → RdPo w B A l →
    Calls Tryz.prog 74 #[.slice A n c, .int .i64 (d : Nat)] w (SrtQ w B (sortP d l) n) := by
  intro n
  induction n using Nat.strongRecOn with
  | ind n ih =>
    intro A c B l w hl hnb hn hc hB hd hr
    have HL := hide hl
    have HC := hide hc
    by_cases h2 : n < 2
    · have hs : sortP d l = l := sort_short (by rw [hl]; exact h2)
      have HS := hide hs
      have HR := hide (RdS.of hr)
      unfold maxLen at hc
      clear hl hr ih hd hs
      go_enter Tryz.func74, Tryz.ntmps74
      go_wp2
      go_ret
      exact ⟨A, c, rfl, hn, HC.out, by rw [HS.out]; exact HR.out, Fr.refl _ _⟩
    obtain ⟨iq, hiq, hiqz, hiqsz, hiqby⟩ := info_parts Tryz.infoRP
    have HIh := hide ih
    have HR := hide hr
    have HD := hide hd
    obtain ⟨k, hk⟩ : ∃ k, k = n / 2 := ⟨_, rfl⟩
    have ek : (n : Int) / 2 = (k : Int) := by omega
    have hkn : k < n := by omega
    have hk1 : 1 ≤ k := by omega
    obtain ⟨ad, _, _, rfl, _⟩ := hr.at (k := 0) (by rw [hl]; omega)
    have HA := hide (HIh.out k hkn (some ad) c B (l.take k) w (by rw [List.length_take, hl]; omega) (by omega) (by omega) hc hB (fun p hp => hd p (List.mem_of_mem_take hp)) (hr.take k))
    have HB := hide (fun W (f : Fr No w W) => HIh.out (n - k) (by omega) (some (ad.add (k * 2))) (c - k) B (l.drop k) W (by rw [List.length_drop, hl]) (by omega) (by omega) (by omega) (Nat.le_trans hB f.size) (fun p hp => hd p (List.mem_of_mem_drop hp)) ((hr.drop k).fr0 f))
    have hkle : k ≤ n := by omega
    have hck : ¬ c = k := by omega
    unfold maxLen at hc
    clear hl hr ih hd hk
    go_enter Tryz.func74, Tryz.ntmps74
    go_wp2_with (fail)
    refine HA.out.mono ?_
    rintro en w1 ⟨A1, c1, rfl, x1, x2, hra, hf⟩
    have HF1 := hide hf
    have HRa := hide hra
    have HBc := hide (HB.out w1 hf)
    have HX2 := hide x2
    unfold maxLen at x2
    clear hf hra HA HB
    go_wp2_with (fail)
    refine HBc.out.mono ?_
    rintro en w2 ⟨A2, c2, rfl, y1, y2, hrb, hf⟩
    have HF2 := hide (HF1.out.tr hf)
    have HRa2 := hide (HRa.out.fr0 hf)
    have HRb2 := hide hrb
    have HDa : Hid (∀ p ∈ sortP d (l.take k), p.2.length = dims) := hide (fun p hp => HD.out p (List.mem_of_mem_take (sortP_mem.1 hp)))
    have HDb : Hid (∀ p ∈ sortP d (l.drop k), p.2.length = dims) := hide (fun p hp => HD.out p (List.mem_of_mem_drop (sortP_mem.1 hp)))
    have HMg := hide (sort_merge d k l)
    have HLa : Hid ((sortP d (l.take k)).length = k) := hide (by rw [sortP_len, List.length_take, HL.out]; omega)
    have HLb : Hid ((sortP d (l.drop k)).length = n - k) := hide (by rw [sortP_len, List.length_drop, HL.out])
    have HFz := hide (Fr.refl No w2)
    unfold maxLen at y2
    clear hf hrb HBc HRa HF1
    go_wp2_with (fail)
    go_loopw [5, 6, 7] (fun va vb vo wr => ∃ (Aa Ab : Option Addr) (na ca nb cb m : Nat) (rr ss : List Po) (os : List PoL), va = .slice Aa na ca ∧ vb = .slice Ab nb cb ∧ na ≤ ca ∧ ca ≤ 2 ^ 63 - 1 ∧ nb ≤ cb ∧ cb ≤ 2 ^ 63 - 1 ∧ m + na + nb = n ∧ Hid (rr.length = na) ∧ Hid (ss.length = nb) ∧ Hid (RdS w2 B Aa rr) ∧ Hid (RdS w2 B Ab ss) ∧ Hid (os.map (·.1) ++ rr.merge ss (leP d) = sortP d l) ∧ Hid (∀ p ∈ rr, p.2.length = dims) ∧ Hid (∀ p ∈ ss, p.2.length = dims) ∧ Hid (Own wr w2.heap.size 86 2 vo m (pFlat os)) ∧ Hid (∀ p ∈ os, p.1.2.length ≤ p.2.2 ∧ p.2.2 ≤ maxLen ∧ Rd w2 B p.2.1 (iz .i64 p.1.2)) ∧ Hid (Fr No w2 wr)) (fun va vb _ _ => (match va with | .slice _ x _ => x | _ => 0) + (match vb with | .slice _ x _ => x | _ => 0))
    case atStart => exact ⟨A1, A2, k, c1, n - k, c2, 0, _, _, [], rfl, rfl, x1, x2, y1, y2, by omega, HLa, HLb, HRa2, HRb2, hide (by rw [List.map_nil, List.nil_append]; exact HMg.out), HDa, HDb, hide (Own.nil _ _ _ _), hide (fun p hp => by cases hp), HFz⟩
    case round =>
      clear HLa HLb HRa2 HRb2 HDa HDb
      obtain ⟨wo, rfl⟩ : ∃ wo : World, wo = wr := ⟨_, rfl⟩
      obtain ⟨Aa, Ab, na, ca, nb, cb, m, rr, ss, os, rfl, rfl, g1, g2, g3, g4, hmn, HRl, HSl, HRr, HRs, HMe, HDr, HDs, HO, HOs, HF⟩ := hrel
      by_cases hend : na = 0 ∧ nb = 0
      · obtain ⟨rfl, rfl⟩ := hend
        obtain ⟨A3, c3, rfl, z1, z2, _, z3, _⟩ := HO.out.form
        obtain rfl : m = n := by omega
        have hr0 : rr = [] := List.eq_nil_of_length_eq_zero HRl.out
        have hs0 : ss = [] := List.eq_nil_of_length_eq_zero HSl.out
        have hres : os.map (·.1) = sortP d l := by rw [← HMe.out, hr0, hs0]; simp [List.merge]
        have HRes := hide hres
        have HO3 := hide HO.out
        have HZ12 := hide (And.intro z1 z2)
        unfold maxLen at z2
        clear hr0 hs0 hres z3
        go_wp2_with (fail)
        go_ret
        exact ⟨A3, c3, rfl, HZ12.out.1, HZ12.out.2, by rw [← HRes.out]; exact RdS.own HO3.out (fun p hp => ⟨(HOs.out p hp).1, (HOs.out p hp).2.1, (HOs.out p hp).2.2.fr0 HF.out⟩), HF2.out.tr HF.out⟩
      · by_cases hna : na = 0
        · subst hna
          have hnb : 0 < nb := by omega
          obtain ⟨pb, tb, rfl⟩ : ∃ y s', ss = y :: s' := by
            match ss, HSl.out with
            | [], h => simp at h; omega
            | y :: s', _ => exact ⟨y, s', rfl⟩
          obtain ⟨adb, Eb, qb, rfl, _, kb0, kb1, gb1, gb2, hrb⟩ := HRs.out.at (k := 0) (by simp)
          have ezb : (pb :: tb).getD 0 noPo = pb := rfl
          rw [ezb] at kb0 kb1 gb1 hrb
          rw [Nat.zero_mul, Addr.add_zero'] at kb0 kb1
          have HQb := hide (And.intro gb1 (And.intro gb2 hrb))
          have hmb : dims = pb.2.length := (HDs.out _ List.mem_cons_self).symm
          obtain ⟨eb, heb⟩ : ∃ x, x = pb.1 := ⟨_, rfl⟩
          rw [← hmb] at kb1 gb1
          rw [← hmb] at HQb
          rw [← heb] at kb0
          have HMb := hide hmb
          have HEb := hide heb
          have kb0 := HF.out.cell kb0 (fun h => h)
          have kb1 := HF.out.cell kb1 (fun h => h)
          have HKb0 := hide kb0
          have HKb1 := hide kb1
          unfold maxLen at gb2
          clear ezb hmb heb
          have hr0 : rr = [] := List.eq_nil_of_length_eq_zero HRl.out
          have HMn : Hid ((os ++ [(pb, Eb, qb)]).map (·.1) ++ rr.merge tb (leP d) = sortP d l) := hide (by rw [← HMe.out, merge_b (by rw [hr0]; exact .inl rfl), List.map_append, List.append_assoc]; rfl)
          have d1 : decide ((0 : Int) < (nb : Int)) = true := decide_eq_true (by omega)
          have d2 : decide (0 < nb) = true := decide_eq_true hnb
          clear hr0 kb0 kb1 hend
          go_wp2_with (fail)
          go_quiet (fail)
          have HF4 : Hid (Fr No wo (wo.drewN nq)) := hide ((Fr.refl No wo).drewN nq)
          obtain ⟨w4, hw4⟩ : ∃ x, x = wo.drewN nq := ⟨_, rfl⟩
          rw [← hw4] at HF4 ⊢
          clear hw4
          have kb0 := HF4.out.cell HKb0.out (fun h => h)
          have kb1 := HF4.out.cell HKb1.out (fun h => h)
          have HOa := hide ((HO.out.fr0 HF4.out).fr0 ((Fr.refl No w4).alloc (.cells #[.int .i64 eb, .slice Eb dims qb] 86)))
          have HSa := hide (src_rp w4 eb Eb dims qb)
          have hza : w2.heap.size ≤ (w4.alloc (.cells #[.int .i64 eb, .slice Eb dims qb] 86)).heap.size := ((HF.out.tr HF4.out).alloc _).size
          have b1 : (m + 1) * 32 ≤ 140737488355328 := by omega
          have b2 : m + 1 ≤ maxLen := by unfold maxLen; omega
          by_cases hc1 : cb = 1
          · subst hc1
            go_wp2_with (at_builtin; refine wpList_append_gen _ rfl (.tmp 52) (.tmp 56) 35 35 rfl w2.heap.size 86 iq (.agg #[.int .i64 0, .slice none 0 0]) 2 32 Tryz.underlying35 hiq hiqz hiqsz hiqby rfl u7 m (pFlat os) rfl HOa.out _ 1 [.int .i64 eb, .slice Eb dims qb] rfl HSa.out b1 b2 hza ?_; intro v5 w5 hown hfr hat; have HO5 := hide hown; have HF5 := hide ((HF.out.tr HF4.out).alloc (.cells #[.int .i64 eb, .slice Eb dims qb] 86)); have HF6 : Hid (Fr No w2 w5) := hide (HF5.out.own hfr (fun g hg => .inl (HOa.out.lt g hg).1)); clear hown hfr hat)
            go_roundw
            case rel =>
              refine ⟨_, some adb, _, ca, 0, 0, m + 1, rr, tb, os ++ [(pb, Eb, qb)], rfl, rfl, by omega, by omega, by omega, by omega, by omega, ?_, ?_, ?_, ?_, ?_, ?_, ?_, ?_, ?_, HF6⟩
              · exact HRl
              · exact hide (by have := HSl.out; simp only [List.length_cons] at this; omega)
              · exact HRr
              · exact hide (by have h := HRs.out.tail (c := 1) (by have := HSl.out; omega); rw [if_pos rfl] at h; exact h)
              · exact HMn
              · exact HDr
              · exact hide (fun x hx => HDs.out x (List.mem_cons_of_mem _ hx))
              · exact hide (by rw [pFlat_snoc]; unfold pRow; dsimp only; rw [← HEb.out, ← HMb.out]; exact HO5.out)
              · exact hide (fun x hx => by
                  rcases List.mem_append.1 hx with hx | hx
                  · exact HOs.out x hx
                  · rw [List.mem_singleton.1 hx]; exact ⟨by dsimp only; rw [← HMb.out]; exact HQb.out.1, HQb.out.2.1, HQb.out.2.2⟩)
            case measure => simp; omega
          · have hc1' : ¬ (cb = 1) := hc1
            go_wp2_with (at_builtin; refine wpList_append_gen _ rfl (.tmp 52) (.tmp 56) 35 35 rfl w2.heap.size 86 iq (.agg #[.int .i64 0, .slice none 0 0]) 2 32 Tryz.underlying35 hiq hiqz hiqsz hiqby rfl u7 m (pFlat os) rfl HOa.out _ 1 [.int .i64 eb, .slice Eb dims qb] rfl HSa.out b1 b2 hza ?_; intro v5 w5 hown hfr hat; have HO5 := hide hown; have HF5 := hide ((HF.out.tr HF4.out).alloc (.cells #[.int .i64 eb, .slice Eb dims qb] 86)); have HF6 : Hid (Fr No w2 w5) := hide (HF5.out.own hfr (fun g hg => .inl (HOa.out.lt g hg).1)); clear hown hfr hat)
            go_roundw
            case rel =>
              refine ⟨_, some (adb.add (1 * 2)), _, ca, nb - 1, cb - 1, m + 1, rr, tb, os ++ [(pb, Eb, qb)], rfl, rfl, by omega, by omega, by omega, by omega, by omega, ?_, ?_, ?_, ?_, ?_, ?_, ?_, ?_, ?_, HF6⟩
              · exact HRl
              · exact hide (by have := HSl.out; simp only [List.length_cons] at this; omega)
              · exact HRr
              · exact hide (by have h := HRs.out.tail (c := cb) (by have := HSl.out; omega); rw [if_neg hc1] at h; exact h)
              · exact HMn
              · exact HDr
              · exact hide (fun x hx => HDs.out x (List.mem_cons_of_mem _ hx))
              · exact hide (by rw [pFlat_snoc]; unfold pRow; dsimp only; rw [← HEb.out, ← HMb.out]; exact HO5.out)
              · exact hide (fun x hx => by
                  rcases List.mem_append.1 hx with hx | hx
                  · exact HOs.out x hx
                  · rw [List.mem_singleton.1 hx]; exact ⟨by dsimp only; rw [← HMb.out]; exact HQb.out.1, HQb.out.2.1, HQb.out.2.2⟩)
            case measure => simp; omega
        · have hna' : 0 < na := by omega
          obtain ⟨pa, ta, rfl⟩ : ∃ y s', rr = y :: s' := by
            match rr, HRl.out with
            | [], h => simp at h; omega
            | y :: s', _ => exact ⟨y, s', rfl⟩
          obtain ⟨ada, Ea, qa, rfl, _, ka0, ka1, ga1, ga2, hra⟩ := HRr.out.at (k := 0) (by simp)
          have eza : (pa :: ta).getD 0 noPo = pa := rfl
          rw [eza] at ka0 ka1 ga1 hra
          rw [Nat.zero_mul, Addr.add_zero'] at ka0 ka1
          have HQa := hide (And.intro ga1 (And.intro ga2 hra))
          have hma : dims = pa.2.length := (HDr.out _ List.mem_cons_self).symm
          obtain ⟨ea, hea⟩ : ∃ x, x = pa.1 := ⟨_, rfl⟩
          rw [← hma] at ka1 ga1
          rw [← hma] at HQa
          rw [← hea] at ka0
          have HMa := hide hma
          have HEa := hide hea
          have ka0 := HF.out.cell ka0 (fun h => h)
          have ka1 := HF.out.cell ka1 (fun h => h)
          have HKa0 := hide ka0
          have HKa1 := hide ka1
          unfold maxLen at ga2
          clear eza hma hea
          have a1 : decide ((0 : Int) < (na : Int)) = true := decide_eq_true (by omega)
          have a2 : decide (0 < na) = true := decide_eq_true hna'
          have a3 : ((na : Int) == 0) = false := by simpa using (by omega : ¬ na = 0)
          by_cases hnb : nb = 0
          · subst hnb
            have hs0 : ss = [] := List.eq_nil_of_length_eq_zero HSl.out
            have HMn : Hid ((os ++ [(pa, Ea, qa)]).map (·.1) ++ ta.merge ss (leP d) = sortP d l) := hide (by rw [← HMe.out, merge_a (by rw [hs0]; exact .inl rfl), List.map_append, List.append_assoc]; rfl)
            clear hs0 ka0 ka1 hend hna
            go_wp2_with (fail)
            go_quiet (fail)
            have HF4 : Hid (Fr No wo (wo.drewN nq)) := hide ((Fr.refl No wo).drewN nq)
            obtain ⟨w4, hw4⟩ : ∃ x, x = wo.drewN nq := ⟨_, rfl⟩
            rw [← hw4] at HF4 ⊢
            clear hw4
            have ka0 := HF4.out.cell HKa0.out (fun h => h)
            have ka1 := HF4.out.cell HKa1.out (fun h => h)
            have HOa := hide ((HO.out.fr0 HF4.out).fr0 ((Fr.refl No w4).alloc (.cells #[.int .i64 ea, .slice Ea dims qa] 86)))
            have HSa := hide (src_rp w4 ea Ea dims qa)
            have hza : w2.heap.size ≤ (w4.alloc (.cells #[.int .i64 ea, .slice Ea dims qa] 86)).heap.size := ((HF.out.tr HF4.out).alloc _).size
            have b1 : (m + 1) * 32 ≤ 140737488355328 := by omega
            have b2 : m + 1 ≤ maxLen := by unfold maxLen; omega
            by_cases hc1 : ca = 1
            · subst hc1
              go_wp2_with (at_builtin; refine wpList_append_gen _ rfl (.tmp 60) (.tmp 64) 35 35 rfl w2.heap.size 86 iq (.agg #[.int .i64 0, .slice none 0 0]) 2 32 Tryz.underlying35 hiq hiqz hiqsz hiqby rfl u7 m (pFlat os) rfl HOa.out _ 1 [.int .i64 ea, .slice Ea dims qa] rfl HSa.out b1 b2 hza ?_; intro v5 w5 hown hfr hat; have HO5 := hide hown; have HF5 := hide ((HF.out.tr HF4.out).alloc (.cells #[.int .i64 ea, .slice Ea dims qa] 86)); have HF6 : Hid (Fr No w2 w5) := hide (HF5.out.own hfr (fun g hg => .inl (HOa.out.lt g hg).1)); clear hown hfr hat)
              go_roundw
              case rel =>
                refine ⟨some ada, _, 0, 0, _, cb, m + 1, ta, ss, os ++ [(pa, Ea, qa)], rfl, rfl, by omega, by omega, by omega, by omega, by omega, ?_, ?_, ?_, ?_, ?_, ?_, ?_, ?_, ?_, HF6⟩
                · exact hide (by have := HRl.out; simp only [List.length_cons] at this; omega)
                · exact HSl
                · exact hide (by have h := HRr.out.tail (c := 1) (by have := HRl.out; omega); rw [if_pos rfl] at h; exact h)
                · exact HRs
                · exact HMn
                · exact hide (fun x hx => HDr.out x (List.mem_cons_of_mem _ hx))
                · exact HDs
                · exact hide (by rw [pFlat_snoc]; unfold pRow; dsimp only; rw [← HEa.out, ← HMa.out]; exact HO5.out)
                · exact hide (fun x hx => by
                    rcases List.mem_append.1 hx with hx | hx
                    · exact HOs.out x hx
                    · rw [List.mem_singleton.1 hx]; exact ⟨by dsimp only; rw [← HMa.out]; exact HQa.out.1, HQa.out.2.1, HQa.out.2.2⟩)
              case measure => simp; omega
            · have hc1' : ¬ (ca = 1) := hc1
              go_wp2_with (at_builtin; refine wpList_append_gen _ rfl (.tmp 60) (.tmp 64) 35 35 rfl w2.heap.size 86 iq (.agg #[.int .i64 0, .slice none 0 0]) 2 32 Tryz.underlying35 hiq hiqz hiqsz hiqby rfl u7 m (pFlat os) rfl HOa.out _ 1 [.int .i64 ea, .slice Ea dims qa] rfl HSa.out b1 b2 hza ?_; intro v5 w5 hown hfr hat; have HO5 := hide hown; have HF5 := hide ((HF.out.tr HF4.out).alloc (.cells #[.int .i64 ea, .slice Ea dims qa] 86)); have HF6 : Hid (Fr No w2 w5) := hide (HF5.out.own hfr (fun g hg => .inl (HOa.out.lt g hg).1)); clear hown hfr hat)
              go_roundw
              case rel =>
                refine ⟨some (ada.add (1 * 2)), _, na - 1, ca - 1, _, cb, m + 1, ta, ss, os ++ [(pa, Ea, qa)], rfl, rfl, by omega, by omega, by omega, by omega, by omega, ?_, ?_, ?_, ?_, ?_, ?_, ?_, ?_, ?_, HF6⟩
                · exact hide (by have := HRl.out; simp only [List.length_cons] at this; omega)
                · exact HSl
                · exact hide (by have h := HRr.out.tail (c := ca) (by have := HRl.out; omega); rw [if_neg hc1] at h; exact h)
                · exact HRs
                · exact HMn
                · exact hide (fun x hx => HDr.out x (List.mem_cons_of_mem _ hx))
                · exact HDs
                · exact hide (by rw [pFlat_snoc]; unfold pRow; dsimp only; rw [← HEa.out, ← HMa.out]; exact HO5.out)
                · exact hide (fun x hx => by
                    rcases List.mem_append.1 hx with hx | hx
                    · exact HOs.out x hx
                    · rw [List.mem_singleton.1 hx]; exact ⟨by dsimp only; rw [← HMa.out]; exact HQa.out.1, HQa.out.2.1, HQa.out.2.2⟩)
              case measure => simp; omega
          · have hnb' : 0 < nb := by omega
            obtain ⟨pb, tb, rfl⟩ : ∃ y s', ss = y :: s' := by
              match ss, HSl.out with
              | [], h => simp at h; omega
              | y :: s', _ => exact ⟨y, s', rfl⟩
            obtain ⟨adb, Eb, qb, rfl, _, kb0, kb1, gb1, gb2, hrb⟩ := HRs.out.at (k := 0) (by simp)
            have ezb : (pb :: tb).getD 0 noPo = pb := rfl
            rw [ezb] at kb0 kb1 gb1 hrb
            rw [Nat.zero_mul, Addr.add_zero'] at kb0 kb1
            have HQb := hide (And.intro gb1 (And.intro gb2 hrb))
            have hmb : dims = pb.2.length := (HDs.out _ List.mem_cons_self).symm
            obtain ⟨eb, heb⟩ : ∃ x, x = pb.1 := ⟨_, rfl⟩
            rw [← hmb] at kb1 gb1
            rw [← hmb] at HQb
            rw [← heb] at kb0
            have HMb := hide hmb
            have HEb := hide heb
            have kb0 := HF.out.cell kb0 (fun h => h)
            have kb1 := HF.out.cell kb1 (fun h => h)
            have HKb0 := hide kb0
            have HKb1 := hide kb1
            unfold maxLen at gb2
            clear ezb hmb heb
            have d1 : decide ((0 : Int) < (nb : Int)) = true := decide_eq_true (by omega)
            have d2 : decide (0 < nb) = true := decide_eq_true hnb'
            have HBe := hide (below_any d dims qb qa B eb ea pb.2 pa.2 Eb Ea wo.drew hdd HMb.out.symm HMa.out.symm HQb.out.1 HQb.out.2.1 HQa.out.1 HQa.out.2.1 (HQb.out.2.2.fr0 HF.out.drew) (HQa.out.2.2.fr0 HF.out.drew))
            rw [HEb.out, HEa.out] at HBe
            have eb1 : belP d (pb.1, pb.2) (pa.1, pa.2) = belP d pb pa := rfl
            rw [eb1, ← HEb.out, ← HEa.out] at HBe
            obtain ⟨tb_, htb⟩ : ∃ x, x = belP d pb pa := ⟨_, rfl⟩
            rw [← htb] at HBe
            have HTb := hide htb
            have hS : wo.cell? adb = some (.int .i64 eb) ∧ wo.cell? ⟨adb.block, adb.off + 1, none⟩ = some (.slice Eb dims qb) ∧ wo.cell? ada = some (.int .i64 ea) ∧ wo.cell? ⟨ada.block, ada.off + 1, none⟩ = some (.slice Ea dims qa) := ⟨kb0, kb1, ka0, ka1⟩
            have HS := hide hS
            clear hS eb1 htb hend hna hnb
            go_wp2_with (fail)
            go_region_held3 (fun W => W.cell? adb = some (.int .i64 eb) ∧ W.cell? ⟨adb.block, adb.off + 1, none⟩ = some (.slice Eb dims qb) ∧ W.cell? ada = some (.int .i64 ea) ∧ W.cell? ⟨ada.block, ada.off + 1, none⟩ = some (.slice Ea dims qa)) (first | exact HS4.out | exact HS.out) (first | (go_at_call 91; refine HBe.out.mono ?_; rintro en w4 ⟨rfl, hfr⟩; have HF4 : Hid (Fr No wo w4) := hide ((Fr.refl No wo).drew.tr hfr); have HS4 := hide (And.intro (HF4.out.cell HS.out.1 (fun h => h)) (And.intro (HF4.out.cell HS.out.2.1 (fun h => h)) (And.intro (HF4.out.cell HS.out.2.2.1 (fun h => h)) (HF4.out.cell HS.out.2.2.2 (fun h => h))))); clear hfr))
            all_goals (cases tb_)
            all_goals first
              | (have hx : belP d pb pa = true := HTb.out.symm
                 have HMn : Hid ((os ++ [(pb, Eb, qb)]).map (·.1) ++ (pa :: ta).merge tb (leP d) = sortP d l) := hide (by rw [← HMe.out, merge_b (.inr ⟨pa, ta, rfl, by rw [leP_bel, hx]; rfl⟩), List.map_append, List.append_assoc]; rfl)
                 clear kb0 kb1 ka0 ka1
                 have kb0 := HF4.out.cell HKb0.out (fun h => h)
                 have kb1 := HF4.out.cell HKb1.out (fun h => h)
                 have HOa := hide ((HO.out.fr0 HF4.out).fr0 ((Fr.refl No w4).alloc (.cells #[.int .i64 eb, .slice Eb dims qb] 86)))
                 have HSa := hide (src_rp w4 eb Eb dims qb)
                 have hza : w2.heap.size ≤ (w4.alloc (.cells #[.int .i64 eb, .slice Eb dims qb] 86)).heap.size := ((HF.out.tr HF4.out).alloc _).size
                 have b1 : (m + 1) * 32 ≤ 140737488355328 := by omega
                 have b2 : m + 1 ≤ maxLen := by unfold maxLen; omega
                 by_cases hc1 : cb = 1
                 · subst hc1
                   go_wp2_with (at_builtin; refine wpList_append_gen _ rfl (.tmp 52) (.tmp 56) 35 35 rfl w2.heap.size 86 iq (.agg #[.int .i64 0, .slice none 0 0]) 2 32 Tryz.underlying35 hiq hiqz hiqsz hiqby rfl u7 m (pFlat os) rfl HOa.out _ 1 [.int .i64 eb, .slice Eb dims qb] rfl HSa.out b1 b2 hza ?_; intro v5 w5 hown hfr hat; have HO5 := hide hown; have HF5 := hide ((HF.out.tr HF4.out).alloc (.cells #[.int .i64 eb, .slice Eb dims qb] 86)); have HF6 : Hid (Fr No w2 w5) := hide (HF5.out.own hfr (fun g hg => .inl (HOa.out.lt g hg).1)); clear hown hfr hat)
                   go_roundw
                   case rel =>
                     refine ⟨_, some adb, _, ca, 0, 0, m + 1, (pa :: ta), tb, os ++ [(pb, Eb, qb)], rfl, rfl, by omega, by omega, by omega, by omega, by omega, ?_, ?_, ?_, ?_, ?_, ?_, ?_, ?_, ?_, HF6⟩
                     · exact HRl
                     · exact hide (by have := HSl.out; simp only [List.length_cons] at this; omega)
                     · exact HRr
                     · exact hide (by have h := HRs.out.tail (c := 1) (by have := HSl.out; omega); rw [if_pos rfl] at h; exact h)
                     · exact HMn
                     · exact HDr
                     · exact hide (fun x hx => HDs.out x (List.mem_cons_of_mem _ hx))
                     · exact hide (by rw [pFlat_snoc]; unfold pRow; dsimp only; rw [← HEb.out, ← HMb.out]; exact HO5.out)
                     · exact hide (fun x hx => by
                         rcases List.mem_append.1 hx with hx | hx
                         · exact HOs.out x hx
                         · rw [List.mem_singleton.1 hx]; exact ⟨by dsimp only; rw [← HMb.out]; exact HQb.out.1, HQb.out.2.1, HQb.out.2.2⟩)
                   case measure => simp; omega
                 · have hc1' : ¬ (cb = 1) := hc1
                   go_wp2_with (at_builtin; refine wpList_append_gen _ rfl (.tmp 52) (.tmp 56) 35 35 rfl w2.heap.size 86 iq (.agg #[.int .i64 0, .slice none 0 0]) 2 32 Tryz.underlying35 hiq hiqz hiqsz hiqby rfl u7 m (pFlat os) rfl HOa.out _ 1 [.int .i64 eb, .slice Eb dims qb] rfl HSa.out b1 b2 hza ?_; intro v5 w5 hown hfr hat; have HO5 := hide hown; have HF5 := hide ((HF.out.tr HF4.out).alloc (.cells #[.int .i64 eb, .slice Eb dims qb] 86)); have HF6 : Hid (Fr No w2 w5) := hide (HF5.out.own hfr (fun g hg => .inl (HOa.out.lt g hg).1)); clear hown hfr hat)
                   go_roundw
                   case rel =>
                     refine ⟨_, some (adb.add (1 * 2)), _, ca, nb - 1, cb - 1, m + 1, (pa :: ta), tb, os ++ [(pb, Eb, qb)], rfl, rfl, by omega, by omega, by omega, by omega, by omega, ?_, ?_, ?_, ?_, ?_, ?_, ?_, ?_, ?_, HF6⟩
                     · exact HRl
                     · exact hide (by have := HSl.out; simp only [List.length_cons] at this; omega)
                     · exact HRr
                     · exact hide (by have h := HRs.out.tail (c := cb) (by have := HSl.out; omega); rw [if_neg hc1] at h; exact h)
                     · exact HMn
                     · exact HDr
                     · exact hide (fun x hx => HDs.out x (List.mem_cons_of_mem _ hx))
                     · exact hide (by rw [pFlat_snoc]; unfold pRow; dsimp only; rw [← HEb.out, ← HMb.out]; exact HO5.out)
                     · exact hide (fun x hx => by
                         rcases List.mem_append.1 hx with hx | hx
                         · exact HOs.out x hx
                         · rw [List.mem_singleton.1 hx]; exact ⟨by dsimp only; rw [← HMb.out]; exact HQb.out.1, HQb.out.2.1, HQb.out.2.2⟩)
                   case measure => simp; omega)
              | (have hx : belP d pb pa = false := HTb.out.symm
                 have HMn : Hid ((os ++ [(pa, Ea, qa)]).map (·.1) ++ ta.merge (pb :: tb) (leP d) = sortP d l) := hide (by rw [← HMe.out, merge_a (.inr ⟨pb, tb, rfl, by rw [leP_bel, hx]; rfl⟩), List.map_append, List.append_assoc]; rfl)
                 clear kb0 kb1 ka0 ka1
                 have ka0 := HF4.out.cell HKa0.out (fun h => h)
                 have ka1 := HF4.out.cell HKa1.out (fun h => h)
                 have HOa := hide ((HO.out.fr0 HF4.out).fr0 ((Fr.refl No w4).alloc (.cells #[.int .i64 ea, .slice Ea dims qa] 86)))
                 have HSa := hide (src_rp w4 ea Ea dims qa)
                 have hza : w2.heap.size ≤ (w4.alloc (.cells #[.int .i64 ea, .slice Ea dims qa] 86)).heap.size := ((HF.out.tr HF4.out).alloc _).size
                 have b1 : (m + 1) * 32 ≤ 140737488355328 := by omega
                 have b2 : m + 1 ≤ maxLen := by unfold maxLen; omega
                 by_cases hc1 : ca = 1
                 · subst hc1
                   go_wp2_with (at_builtin; refine wpList_append_gen _ rfl (.tmp 60) (.tmp 64) 35 35 rfl w2.heap.size 86 iq (.agg #[.int .i64 0, .slice none 0 0]) 2 32 Tryz.underlying35 hiq hiqz hiqsz hiqby rfl u7 m (pFlat os) rfl HOa.out _ 1 [.int .i64 ea, .slice Ea dims qa] rfl HSa.out b1 b2 hza ?_; intro v5 w5 hown hfr hat; have HO5 := hide hown; have HF5 := hide ((HF.out.tr HF4.out).alloc (.cells #[.int .i64 ea, .slice Ea dims qa] 86)); have HF6 : Hid (Fr No w2 w5) := hide (HF5.out.own hfr (fun g hg => .inl (HOa.out.lt g hg).1)); clear hown hfr hat)
                   go_roundw
                   case rel =>
                     refine ⟨some ada, _, 0, 0, _, cb, m + 1, ta, (pb :: tb), os ++ [(pa, Ea, qa)], rfl, rfl, by omega, by omega, by omega, by omega, by omega, ?_, ?_, ?_, ?_, ?_, ?_, ?_, ?_, ?_, HF6⟩
                     · exact hide (by have := HRl.out; simp only [List.length_cons] at this; omega)
                     · exact HSl
                     · exact hide (by have h := HRr.out.tail (c := 1) (by have := HRl.out; omega); rw [if_pos rfl] at h; exact h)
                     · exact HRs
                     · exact HMn
                     · exact hide (fun x hx => HDr.out x (List.mem_cons_of_mem _ hx))
                     · exact HDs
                     · exact hide (by rw [pFlat_snoc]; unfold pRow; dsimp only; rw [← HEa.out, ← HMa.out]; exact HO5.out)
                     · exact hide (fun x hx => by
                         rcases List.mem_append.1 hx with hx | hx
                         · exact HOs.out x hx
                         · rw [List.mem_singleton.1 hx]; exact ⟨by dsimp only; rw [← HMa.out]; exact HQa.out.1, HQa.out.2.1, HQa.out.2.2⟩)
                   case measure => simp; omega
                 · have hc1' : ¬ (ca = 1) := hc1
                   go_wp2_with (at_builtin; refine wpList_append_gen _ rfl (.tmp 60) (.tmp 64) 35 35 rfl w2.heap.size 86 iq (.agg #[.int .i64 0, .slice none 0 0]) 2 32 Tryz.underlying35 hiq hiqz hiqsz hiqby rfl u7 m (pFlat os) rfl HOa.out _ 1 [.int .i64 ea, .slice Ea dims qa] rfl HSa.out b1 b2 hza ?_; intro v5 w5 hown hfr hat; have HO5 := hide hown; have HF5 := hide ((HF.out.tr HF4.out).alloc (.cells #[.int .i64 ea, .slice Ea dims qa] 86)); have HF6 : Hid (Fr No w2 w5) := hide (HF5.out.own hfr (fun g hg => .inl (HOa.out.lt g hg).1)); clear hown hfr hat)
                   go_roundw
                   case rel =>
                     refine ⟨some (ada.add (1 * 2)), _, na - 1, ca - 1, _, cb, m + 1, ta, (pb :: tb), os ++ [(pa, Ea, qa)], rfl, rfl, by omega, by omega, by omega, by omega, by omega, ?_, ?_, ?_, ?_, ?_, ?_, ?_, ?_, ?_, HF6⟩
                     · exact hide (by have := HRl.out; simp only [List.length_cons] at this; omega)
                     · exact HSl
                     · exact hide (by have h := HRr.out.tail (c := ca) (by have := HRl.out; omega); rw [if_neg hc1] at h; exact h)
                     · exact HRs
                     · exact HMn
                     · exact hide (fun x hx => HDr.out x (List.mem_cons_of_mem _ hx))
                     · exact HDs
                     · exact hide (by rw [pFlat_snoc]; unfold pRow; dsimp only; rw [← HEa.out, ← HMa.out]; exact HO5.out)
                     · exact hide (fun x hx => by
                         rcases List.mem_append.1 hx with hx | hx
                         · exact HOs.out x hx
                         · rw [List.mem_singleton.1 hx]; exact ⟨by dsimp only; rw [← HMa.out]; exact HQa.out.1, HQa.out.2.1, HQa.out.2.2⟩)
                   case measure => simp; omega)
end Go.Proofs.YtpopbkcbplmcaaaGreat
