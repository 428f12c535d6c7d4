/- Several texts in one: BackP, HoldW. -/
import Derived.Test.YtnjcncidlhllmaaGreatK14
namespace Go.Proofs.YtnjcncidlhllmaaGreat
set_option linter.unusedVariables false
set_option linter.unusedSimpArgs false
open Go.RowKit

theorem keptV_sort (rows : Rw) (h : okV rows) : keptV (sortV rows) = keptV rows := by
  have h2 := sortV_ok h
  unfold keptV
  rw [if_pos h, if_pos h2, sortV_of_up (sortV_up rows)]
theorem keptT_sets (rows : RwT) (h : okT rows) : keptT (rows.map setT) = keptT rows := by
  unfold keptT
  rw [if_pos h, if_pos (okT_sets h), textsB_sets]
theorem sortV_takeB {rows : Rw} {k : Nat} (h : k < rows.length) : (sortV rows).take (k + 1) = (sortV rows).take k ++ [sortI (rows.getD k [])] := by
  have h2 : k < (sortV rows).length := by simpa [sortV] using h
  rw [take_map_getD h2, sortV_at h]
theorem sets_take {rows : RwT} {k : Nat} (h : k < rows.length) : (rows.map setT).take (k + 1) = (rows.map setT).take k ++ [setT (rows.getD k [])] := by
  rw [List.take_add_one, List.getElem?_map, List.getElem?_eq_getElem h, List.getD, List.getElem?_eq_getElem h]
  rfl
theorem upI_at {l : List Int} (h : upI l) {q : Nat} (h1 : 1 ≤ q) (h2 : q < l.length) : l.getD (q - 1) 0 ≤ l.getD q 0 := by
  have := List.pairwise_iff_getElem.1 h (q - 1) q (by omega) h2 (by omega)
  rwa [List.getD, List.getElem?_eq_getElem (by omega), List.getD, List.getElem?_eq_getElem h2]
theorem ltT_at {l : List Tx} (h : ltT l) {q : Nat} (h1 : 1 ≤ q) (h2 : q < l.length) : l.getD (q - 1) [] < l.getD q [] := by
  have := List.pairwise_iff_getElem.1 h (q - 1) q (by omega) h2 (by omega)
  rwa [List.getD, List.getElem?_eq_getElem (by omega), List.getD, List.getElem?_eq_getElem h2]
theorem ordsV_at {ts l : List Tx} {q : Nat} (h : q < (setT l).length) : (ordsV ts l).getD q 0 = ((ordT ts ((setT l).getD q []) : Nat) : Int) := by
  simp [ordsV, List.getD, List.getElem?_eq_getElem h]
theorem ordT_monoB {ts : List Tx} (h : ltT ts) {s t : Tx} (hst : s < t) : ordT ts s ≤ ordT ts t := by
  apply Nat.le_of_not_lt
  intro hlt
  have h1 := ordT_below ts s hlt
  have h2 := ordT_le ts s
  exact ordT_above h t (Nat.le_refl _) (by omega) (tl_trans h1 hst)
theorem ordT_lt {ts : List Tx} (h : ltT ts) {s t : Tx} (hs : s ∈ ts) (ht : t ∈ ts) (hst : s < t) : ordT ts s < ordT ts t := by
  have h1 := ordT_monoB h hst
  rcases Nat.lt_or_eq_of_le h1 with h2 | h2
  · exact h2
  · have e1 := (ordT_mem h hs).2
    have e2 := (ordT_mem h ht).2
    rw [h2, e2] at e1
    rw [e1] at hst
    exact absurd hst (tl_irrefl _)
end Go.Proofs.YtnjcncidlhllmaaGreat
namespace Go.Proofs.YtnjcncidlhllmaaGreat
set_option linter.unusedVariables false
set_option linter.unusedSimpArgs false
open Go.RowKit

/-- how much oftener y stands among the first k of a than of b. -/
def offI (a b : List Int) (y : Int) (k : Nat) : Int := ((a.take k).count y : Int) - ((b.take k).count y : Int)
theorem offI_zero (a b : List Int) (y : Int) : offI a b y 0 = 0 := by simp [offI]
theorem count_step {a : List Int} {k : Nat} (y : Int) (h : k < a.length) : ((a.take (k + 1)).count y : Int) = ((a.take k).count y : Int) + (if a.getD k 0 = y then 1 else 0) := by
  have e : a.take (k + 1) = a.take k ++ [a.getD k 0] := by
    rw [List.take_add_one, List.getElem?_eq_getElem h, List.getD, List.getElem?_eq_getElem h]; rfl
  rw [e, List.count_append, List.count_singleton]
  by_cases hy : a.getD k 0 = y
  · rw [if_pos hy, if_pos (by simpa using hy)]; omega
  · rw [if_neg hy, if_neg (by simpa using hy)]; omega
theorem offI_step {a b : List Int} {k : Nat} (y : Int) (ha : k < a.length) (hb : k < b.length) : offI a b y (k + 1) = offI a b y k + (if a.getD k 0 = y then 1 else 0) - (if b.getD k 0 = y then 1 else 0) := by
  unfold offI
  rw [count_step y ha, count_step y hb]
  omega
theorem offI_all {a b : List Int} {n : Nat} (y : Int) (h : a.Perm b) (ha : a.length = n) (hb : b.length = n) : offI a b y n = 0 := by
  unfold offI
  rw [List.take_of_length_le (by omega), List.take_of_length_le (by omega), h.count_eq]
  omega
theorem offI_le {a b : List Int} {k : Nat} (y : Int) : -(k : Int) ≤ offI a b y k ∧ offI a b y k ≤ k := by
  unfold offI
  have h1 : (a.take k).count y ≤ (a.take k).length := List.count_le_length
  have h2 : (b.take k).count y ≤ (b.take k).length := List.count_le_length
  rw [List.length_take] at h1 h2
  omega
set_option maxRecDepth 100000 in
set_option maxHeartbeats 1600000 in
theorem holds_any (A B : Option Addr) (n c d b1 b2 : Nat) (xs ys : List Int) (w : World) (hx : xs.length = n) (hy : ys.length = n) (hn : n ≤ 64) (hp : xs.Perm ys) (hc : n ≤ c) (hd : n ≤ d) (hr : Rd w b1 A (iz .i64 xs)) (hs : Rd w b2 B (iz .i64 ys)) :
    Calls Tryz.prog 33 #[.slice A n c, .slice B n d] w (RetQ (.bool true) w) := by
  have HX := hide hx
  have HY := hide hy
  have HR := hide hr
  have HS := hide hs
  have HP := hide hp
  clear hx hy hr hs hp
  go_enter Tryz.func33, Tryz.ntmps33
  go_wp2
  go_loopw [5] (fun i wr => ∃ k nq : Nat, k ≤ n ∧ i = .int .i64 k ∧ wr = w.drewN nq) (fun i _ => n - (intOf i).toNat)
  case atStart => exact ⟨0, 0, by omega, rfl, rfl⟩
  case round =>
    obtain ⟨k, nq, hk, rfl, rfl⟩ := hrel
    by_cases hlt : k < n
    · have h1 : k < xs.length := by rw [HX.out]; exact hlt
      obtain ⟨ad, rfl, _, hcell⟩ := HR.out.intAt h1
      generalize xs.getD k 0 = y at hcell
      have HAll := hide (offI_all y HP.out HX.out HY.out)
      clear h1
      go_wp2
      go_loopw [6, 7] (fun v j wr => ∃ (m nm : Nat) (o : Int), m ≤ n ∧ -64 ≤ o ∧ o ≤ 64 ∧ v = .int .i64 o ∧ j = .int .i64 m ∧ wr = w.drewN nm ∧ Hid (o = offI xs ys y m)) (fun _ j _ => n - (intOf j).toNat)
      case atStart => exact ⟨0, nq, 0, by omega, by omega, by omega, by go_num, by go_num, rfl, hide (offI_zero xs ys y).symm⟩
      case round =>
        obtain ⟨m, nm, o, hm, ho1, ho2, rfl, rfl, rfl, HOf⟩ := hrel
        by_cases hlm : m < n
        · have h1 : m < xs.length := by rw [HX.out]; exact hlm
          have h2 : m < ys.length := by rw [HY.out]; exact hlm
          obtain ⟨ad', e, _, hcx⟩ := HR.out.intAt h1
          injection e with e
          subst e
          obtain ⟨bd, rfl, _, hcy⟩ := HS.out.intAt h2
          have hst := offI_step (a := xs) (b := ys) y h1 h2
          have hle := offI_le (a := xs) (b := ys) (k := m + 1) y
          generalize xs.getD m 0 = x at hcx hst
          generalize ys.getD m 0 = z at hcy hst
          rw [← HOf.out] at hst
          obtain ⟨o2, ho2'⟩ : ∃ t, t = offI xs ys y (m + 1) := ⟨_, rfl⟩
          rw [← ho2'] at hst hle
          have HO2 := hide ho2'
          have HST := hide hst
          have hb3 : -64 ≤ o2 := by omega
          have hb4 : o2 ≤ 64 := by omega
          clear h1 h2 ho2' hst hle
          by_cases hxy : x = y
          · subst hxy
            have d1 : (x == x) = true := by simp
            by_cases hzy : z = x
            · subst hzy
              have HE : Hid (o2 = o) := hide (by rw [HST.out, if_pos rfl]; omega)
              go_wp2
              go_quiet (fail)
              go_wp2
              go_quiet (fail)
              go_wp2
              go_round
              case rel => exact ⟨m + 1, _, o, by omega, ho1, ho2, by go_num, by go_num, rfl, hide (by rw [← HO2.out, HE.out])⟩
              case measure => simp [intOf]; omega
            · have d2 : (z == x) = false := by simpa using hzy
              have HE : Hid (o2 = o + 1) := hide (by rw [HST.out, if_pos rfl, if_neg hzy]; omega)
              have hE := HE.out
              have hb5 : o + 1 ≤ 64 := by omega
              clear hzy hE
              go_wp2
              go_quiet (fail)
              go_wp2
              go_quiet (fail)
              go_wp2
              go_round
              case rel => exact ⟨m + 1, _, o + 1, by omega, by omega, hb5, by go_num, by go_num, rfl, hide (by rw [← HO2.out, HE.out])⟩
              case measure => simp [intOf]; omega
          · have d1 : (x == y) = false := by simpa using hxy
            by_cases hzy : z = y
            · subst hzy
              have d2 : (z == z) = true := by simp
              have HE : Hid (o2 = o - 1) := hide (by rw [HST.out, if_pos rfl, if_neg hxy]; omega)
              have hE := HE.out
              have hb5 : -64 ≤ o - 1 := by omega
              clear hxy hE
              go_wp2
              go_quiet (fail)
              go_wp2
              go_quiet (fail)
              go_wp2
              go_round
              case rel => exact ⟨m + 1, _, o - 1, by omega, hb5, by omega, by go_num, by go_num, rfl, hide (by rw [← HO2.out, HE.out])⟩
              case measure => simp [intOf]; omega
            · have d2 : (z == y) = false := by simpa using hzy
              have HE : Hid (o2 = o) := hide (by rw [HST.out, if_neg hxy, if_neg hzy]; omega)
              clear hxy hzy
              go_wp2
              go_quiet (fail)
              go_wp2
              go_quiet (fail)
              go_wp2
              go_round
              case rel => exact ⟨m + 1, _, o, by omega, ho1, ho2, by go_num, by go_num, rfl, hide (by rw [← HO2.out, HE.out])⟩
              case measure => simp [intOf]; omega
        · obtain rfl : m = n := by omega
          have h0 : o = 0 := by rw [HOf.out, HAll.out]
          subst h0
          go_wp2
          go_round
          case rel => exact ⟨k + 1, _, by omega, by go_num, rfl⟩
          case measure => simp [intOf]; omega
    · go_wp2
      go_ret
      exact ⟨rfl, _, rfl⟩
end Go.Proofs.YtnjcncidlhllmaaGreat
