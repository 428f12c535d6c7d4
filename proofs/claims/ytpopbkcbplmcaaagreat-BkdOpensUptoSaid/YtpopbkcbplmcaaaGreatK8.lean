/- Several texts in one: BkO, BkS, BkQ, PutU, PutI, BkF. -/
import Derived.Test.YtpopbkcbplmcaaaGreatK7
import Derived.Deep.RegionHeld3
import Derived.Sort.Grow
import Derived.Shelf.Lay
import Derived.Shelf.SlSortCmp.WholeK
import Derived.Ground.SlsfProg
namespace Go.Proofs.YtpopbkcbplmcaaaGreat
set_option linter.unusedVariables false
set_option linter.unusedSimpArgs false
open Go.RowKit

set_option maxRecDepth 100000 in
set_option maxHeartbeats 400000 in
theorem nanI64_any (x : Int) (w : World) : Calls Tryz.prog 101 #[.int .i64 x] w (Ret (.bool false) w) := by
  have e : (x != x) = false := by simp
  go_enter Tryz.func101, Tryz.ntmps101
  go_wp2
  go_ret
  exact ⟨rfl, rfl⟩
set_option maxRecDepth 100000 in
set_option maxHeartbeats 400000 in
theorem nanInt_any (x : Int) (w : World) : Calls Tryz.prog 82 #[.int .i64 x] w (Ret (.bool false) w) := by
  have e : (x != x) = false := by simp
  go_enter Tryz.func82, Tryz.ntmps82
  go_wp2
  go_ret
  exact ⟨rfl, rfl⟩
set_option maxRecDepth 100000 in
set_option maxHeartbeats 800000 in
theorem cmpI64_any (x y : Int) (w : World) : Calls Tryz.prog 86 #[.int .i64 x, .int .i64 y] w (Ret (.int .i64 (cmpI x y)) w) := by
  by_cases h1 : x < y
  · have d1 : decide (x < y) = true := decide_eq_true h1
    have HE : Hid (cmpI x y = -1) := hide (by unfold cmpI; rw [if_pos h1])
    go_enter Tryz.func86, Tryz.ntmps86
    go_wp2_with (go_at_call 101; refine (nanI64_any _ _).mono ?_; rintro en w' ⟨rfl, rfl⟩)
    go_ret
    exact ⟨by rw [HE.out]; rfl, rfl⟩
  · have d1 : decide (x < y) = false := decide_eq_false h1
    by_cases h2 : y < x
    · have d2 : decide (y < x) = true := decide_eq_true h2
      have HE : Hid (cmpI x y = 1) := hide (by unfold cmpI; rw [if_neg h1, if_pos h2])
      go_enter Tryz.func86, Tryz.ntmps86
      go_wp2_with (go_at_call 101; refine (nanI64_any _ _).mono ?_; rintro en w' ⟨rfl, rfl⟩)
      go_ret
      exact ⟨by rw [HE.out]; rfl, rfl⟩
    · have d2 : decide (y < x) = false := decide_eq_false h2
      have HE : Hid (cmpI x y = 0) := hide (by unfold cmpI; rw [if_neg h1, if_neg h2])
      go_enter Tryz.func86, Tryz.ntmps86
      go_wp2_with (go_at_call 101; refine (nanI64_any _ _).mono ?_; rintro en w' ⟨rfl, rfl⟩)
      go_ret
      exact ⟨by rw [HE.out]; rfl, rfl⟩
set_option maxRecDepth 100000 in
set_option maxHeartbeats 800000 in
theorem cmpInt_any (x y : Int) (w : World) : Calls Tryz.prog 88 #[.int .i64 x, .int .i64 y] w (Ret (.int .i64 (cmpI x y)) w) := by
  by_cases h1 : x < y
  · have d1 : decide (x < y) = true := decide_eq_true h1
    have HE : Hid (cmpI x y = -1) := hide (by unfold cmpI; rw [if_pos h1])
    go_enter Tryz.func88, Tryz.ntmps88
    go_wp2_with (go_at_call 82; refine (nanInt_any _ _).mono ?_; rintro en w' ⟨rfl, rfl⟩)
    go_ret
    exact ⟨by rw [HE.out]; rfl, rfl⟩
  · have d1 : decide (x < y) = false := decide_eq_false h1
    by_cases h2 : y < x
    · have d2 : decide (y < x) = true := decide_eq_true h2
      have HE : Hid (cmpI x y = 1) := hide (by unfold cmpI; rw [if_neg h1, if_pos h2])
      go_enter Tryz.func88, Tryz.ntmps88
      go_wp2_with (go_at_call 82; refine (nanInt_any _ _).mono ?_; rintro en w' ⟨rfl, rfl⟩)
      go_ret
      exact ⟨by rw [HE.out]; rfl, rfl⟩
    · have d2 : decide (y < x) = false := decide_eq_false h2
      have HE : Hid (cmpI x y = 0) := hide (by unfold cmpI; rw [if_neg h1, if_neg h2])
      go_enter Tryz.func88, Tryz.ntmps88
      go_wp2_with (go_at_call 82; refine (nanInt_any _ _).mono ?_; rintro en w' ⟨rfl, rfl⟩)
      go_ret
      exact ⟨by rw [HE.out]; rfl, rfl⟩
set_option maxRecDepth 100000 in
set_option maxHeartbeats 800000 in
theorem cmpL_any (A A' : Option Addr) (n c c' B B' : Nat) (r s : List Int) (w : World) (hr : r.length = n) (hs : s.length = n) (hc : n ≤ c) (hc2 : c ≤ maxLen) (hc' : n ≤ c') (hc2' : c' ≤ maxLen) (h1 : Rd w B A (iz .i64 r)) (h2 : Rd w B' A' (iz .i64 s)) :
    Calls Tryz.prog 87 #[.slice A n c, .slice A' n c'] w (Ret (.int .i64 (cmpL r s)) w) := by
  have HR := hide hr
  have HS := hide hs
  have H1 := hide h1
  have H2 := hide h2
  unfold maxLen at hc2 hc2'
  clear hr hs h1 h2
  go_enter Tryz.func87, Tryz.ntmps87
  go_wp2
  go_loopw [5, 6, 7, 8, 11] (fun _ _ _ _ i wr => ∃ k : Nat, k ≤ n ∧ i = .int .i64 (k : Nat) ∧ Hid (cmpL r s = cmpL (r.drop k) (s.drop k)) ∧ wr = w) (fun _ _ _ _ i _ => n - (intOf i).toNat)
  case atStart => exact ⟨0, by omega, by go_num, hide rfl, rfl⟩
  case round =>
    obtain ⟨k, hk, rfl, HE, rfl⟩ := hrel
    by_cases hlt : k < n
    · have k1 : k < r.length := by rw [HR.out]; exact hlt
      have k2 : k < s.length := by rw [HS.out]; exact hlt
      obtain ⟨ad, rfl, _, ha⟩ := H1.out.intAt k1
      obtain ⟨bd, rfl, _, hb⟩ := H2.out.intAt k2
      have hd := cmpL_drop k1 k2
      generalize r.getD k 0 = x at ha hd
      generalize s.getD k 0 = y at hb hd
      have HD := hide hd
      have HCm := hide (cmpI64_any x y wr)
      obtain ⟨z, hz⟩ : ∃ z, z = cmpI x y := ⟨_, rfl⟩
      rw [← hz] at HCm HD
      clear k1 k2 hd hz
      by_cases hz0 : z = 0
      · have e1 : (z != 0) = false := by simpa using hz0
        have HE' : Hid (cmpL r s = cmpL (r.drop (k + 1)) (s.drop (k + 1))) := hide (by rw [HE.out, HD.out, if_pos hz0])
        clear hz0
        go_wp2_with (go_at_call 86; refine HCm.out.mono ?_; rintro en w' ⟨rfl, rfl⟩)
        go_roundw
        case rel => exact ⟨k + 1, by omega, by go_num, HE', trivial⟩
        case measure => simp [intOf]; omega
      · have e1 : (z != 0) = true := by simpa using hz0
        have HE' : Hid (cmpL r s = z) := hide (by rw [HE.out, HD.out, if_neg hz0])
        clear hz0
        go_wp2_with (go_at_call 86; refine HCm.out.mono ?_; rintro en w' ⟨rfl, rfl⟩)
        go_ret
        exact ⟨by rw [HE'.out]; rfl, rfl⟩
    · obtain rfl : k = n := by omega
      have HE' : Hid (cmpL r s = 0) := hide (by rw [HE.out, ← HR.out]; exact cmpL_done (by rw [HR.out, HS.out]))
      clear hlt
      go_wp2
      go_ret
      exact ⟨by rw [HE'.out]; rfl, rfl⟩
/-- cmp.Or. -/
def orL : List Int → Int
  | [] => 0
  | x :: r => if x ≠ 0 then x else orL r
theorem orL_drop {l : List Int} {k : Nat} (h : k < l.length) : orL (l.drop k) = if l.getD k 0 ≠ 0 then l.getD k 0 else orL (l.drop (k + 1)) := by
  rw [List.drop_eq_getElem_cons h, orL, List.getD, List.getElem?_eq_getElem h]
  rfl
set_option maxRecDepth 100000 in
set_option maxHeartbeats 800000 in
theorem orL_any (A : Option Addr) (n c B : Nat) (l : List Int) (w : World) (hl : l.length = n) (hc : n ≤ c) (hc2 : c ≤ maxLen) (h : Rd w B A (iz .i64 l)) :
    Calls Tryz.prog 85 #[.slice A n c] w (Ret (.int .i64 (orL l)) w) := by
  have HL := hide hl
  have H := hide h
  unfold maxLen at hc2
  clear hl h
  go_enter Tryz.func85, Tryz.ntmps85
  go_wp2
  go_loopw [5, 8] (fun _ i wr => ∃ k : Nat, k ≤ n ∧ i = .int .i64 (k : Nat) ∧ Hid (orL l = orL (l.drop k)) ∧ wr = w) (fun _ i _ => n - (intOf i).toNat)
  case atStart => exact ⟨0, by omega, by go_num, hide rfl, rfl⟩
  case round =>
    obtain ⟨k, hk, rfl, HE, rfl⟩ := hrel
    by_cases hlt : k < n
    · have k1 : k < l.length := by rw [HL.out]; exact hlt
      obtain ⟨ad, rfl, _, ha⟩ := H.out.intAt k1
      have hd := orL_drop k1
      generalize l.getD k 0 = x at ha hd
      have HD := hide hd
      clear k1 hd
      by_cases hz0 : x = 0
      · have e1 : (x != 0) = false := by simpa using hz0
        have HE' : Hid (orL l = orL (l.drop (k + 1))) := hide (by rw [HE.out, HD.out, if_neg (fun h => h hz0)])
        clear hz0
        go_wp2
        go_roundw
        case rel => exact ⟨k + 1, by omega, by go_num, HE', trivial⟩
        case measure => simp [intOf]; omega
      · have e1 : (x != 0) = true := by simpa using hz0
        have HE' : Hid (orL l = x) := hide (by rw [HE.out, HD.out, if_pos hz0])
        clear hz0
        go_wp2
        go_ret
        exact ⟨by rw [HE'.out]; rfl, rfl⟩
    · obtain rfl : k = n := by omega
      have HE' : Hid (orL l = 0) := hide (by rw [HE.out, ← HL.out, List.drop_length]; rfl)
      clear hlt
      go_wp2
      go_ret
      exact ⟨by rw [HE'.out]; rfl, rfl⟩
end Go.Proofs.YtpopbkcbplmcaaaGreat
namespace Go.Proofs.YtpopbkcbplmcaaaGreat
set_option linter.unusedVariables false
set_option linter.unusedSimpArgs false
open Go.RowKit Go.Shelf Go.Lib Go.Sort
shelf_lay_g SlLaysF0.n6 Slsf 6 at Tryz 66 as Tryz.sortBP

/-- points in a part of a block. -/
structure ArrP (w : World) (G off : Nat) (ps : List PoL) : Prop where
  cell : ∀ j u, (pFlat ps)[j]? = some u → w.cell? ⟨G, off + j, none⟩ = some u ∧ w.frozen? ⟨G, off + j, none⟩ = false
  lt : G < w.heap.size
/-- what lies outside that part stays. -/
def Apart2 (w w' : World) (G lo hi : Nat) : Prop := ∀ i, (i < lo ∨ hi ≤ i) → w'.cell? ⟨G, i, none⟩ = w.cell? ⟨G, i, none⟩ ∧ w'.frozen? ⟨G, i, none⟩ = w.frozen? ⟨G, i, none⟩
/-- a point in memory: its place has so many numbers, and is read. -/
def OkPt (w : World) (B dims : Nat) (p : PoL) : Prop := p.1.2.length = dims ∧ p.1.2.length ≤ p.2.2 ∧ p.2.2 ≤ maxLen ∧ Rd w B p.2.1 (iz .i64 p.1.2)
theorem OkPt.fr {S : Nat → Prop} {w w' : World} {B dims : Nat} {p : PoL} (h : OkPt w B dims p) (f : Fr S w w') (hS : ∀ k, k < B → ¬ S k) : OkPt w' B dims p := ⟨h.1, h.2.1, h.2.2.1, h.2.2.2.fr f hS⟩
abbrev PtS (w : World) (B dims : Nat) := {p : PoL // OkPt w B dims p}
def encS {w : World} {B dims : Nat} (x : PtS w B dims) : List Value := pRow x.1
theorem encS_len {w : World} {B dims : Nat} (x : PtS w B dims) : (encS x).length = 2 := rfl
theorem encS_one {w : World} {B dims : Nat} (x : PtS w B dims) : ∀ v ∈ encS x, v.oneCell' = true := pRow_one x.1
def cmpS {w : World} {B dims : Nat} (d : Nat) (x y : PtS w B dims) : Int := cmpP d x.1.1 y.1.1
theorem ltOfS {w : World} {B dims : Nat} (d : Nat) (x y : PtS w B dims) : ltOf (cmpS d) x y = belP d x.1.1 y.1.1 := by
  unfold ltOf cmpS belP
  exact decide_eq_decide.2 (cmpP_lt (by rw [x.2.1, y.2.1]))
theorem belP_iff {d : Nat} {a b : Pt} : belP d a b = true ↔ keyP d a < keyP d b := ⟨fun h => of_decide_eq_true h, fun h => decide_eq_true (p := ltP d a b) h⟩
theorem belP_no {d : Nat} {a b : Pt} : belP d a b = false ↔ ¬ keyP d a < keyP d b := ⟨fun h => of_decide_eq_false h, fun h => decide_eq_false (p := ltP d a b) h⟩
theorem swoS {w : World} {B dims : Nat} (d : Nat) : SWO (ltOf (cmpS (w := w) (B := B) (dims := dims) d)) where
  irrefl x := by rw [ltOfS, belP_no]; exact li_irrefl _
  trans x y z h1 h2 := by rw [ltOfS, belP_iff] at *; exact li_trans h1 h2
  ntrans x y z h1 h2 := by
    rw [ltOfS, belP_no] at *
    exact List.not_lt.2 (List.le_trans (List.not_lt.1 h2) (List.not_lt.1 h1))
/-- the list of a row in memory. -/
theorem flat_at {w : World} {B dims : Nat} [Inhabited (PtS w B dims)] (d : Array (PtS w B dims)) (t : Nat) (h : t < d.size * 2) : (pFlat (d.toList.map (·.1)))[t]? = some ((flatK encS 2 d)[t]!) := by
  have hk : t / 2 < d.size := by omega
  have hp : (d.toList.map (·.1))[t / 2]? = some d[t / 2]!.1 := by
    rw [List.getElem?_map, Array.getElem?_toList, getElem!_pos d (t / 2) hk, Array.getElem?_eq_getElem hk]
    rfl
  obtain ⟨a1, a2⟩ := pFlat_at hp
  rw [get_flatK _ _ _ _ h]
  rcases Nat.mod_two_eq_zero_or_one t with e | e
  · rw [e]
    rw [show t = t / 2 * 2 by omega]
    rw [show t / 2 * 2 / 2 = t / 2 by omega]
    exact a1
  · rw [e]
    rw [show t = t / 2 * 2 + 1 by omega]
    rw [show (t / 2 * 2 + 1) / 2 = t / 2 by omega]
    exact a2
theorem holds_arr {w w' : World} {B dims G off : Nat} [Inhabited (PtS w B dims)] {d : Array (PtS w B dims)} (h : ArrP w' G off (d.toList.map (·.1))) : HoldsK encS 2 w' G off d := by
  intro j hj
  rw [size_flatK] at hj
  exact h.cell j _ (flat_at d j hj)
theorem arr_holds {w w' : World} {B dims G off : Nat} [Inhabited (PtS w B dims)] {d : Array (PtS w B dims)} (h : HoldsK encS 2 w' G off d) (hl : G < w'.heap.size) : ArrP w' G off (d.toList.map (·.1)) := by
  refine ⟨fun j u hu => ?_, hl⟩
  have hj := (List.getElem?_eq_some_iff.1 hu).1
  rw [pFlat_len, List.length_map, Array.length_toList] at hj
  rw [flat_at d j hj] at hu
  injection hu with hu
  subst hu
  exact h j (by rw [size_flatK]; exact hj)
theorem fr_sortW {α : Type} [Inhabited α] (enc : α → List Value) (w : World) (G off n : Nat) (d : Array α) (os : Array Obj) : Fr (Is G) w (sortWorldK enc 2 w G off n d os) := by
  refine ⟨rfl, rfl, rfl, by simp [sortWorldK, grow, putRowK, putRow, mapBlock, Sort.ahead], fun k hk hne => ?_⟩
  have hne : G ≠ k := fun e => hne e.symm
  rw [sortWorldK, heap_grow_old _ _ (by simpa [putRowK, putRow, mapBlock, Sort.ahead] using hk)]
  simp [putRowK, putRow, mapBlock, Sort.ahead, Array.getElem?_modify, hne]
theorem apart_sortW {α : Type} [Inhabited α] (enc : α → List Value) (w : World) (G off n : Nat) (d : Array α) (os : Array Obj) (hG : G < w.heap.size) : Apart2 w (sortWorldK enc 2 w G off n d os) G off (off + d.size * 2) := by
  intro i hi
  have hb : G < (putRowK enc 2 (Sort.ahead w n) G off d).heap.size := by simpa [putRowK, putRow, mapBlock, Sort.ahead] using hG
  constructor
  · rw [sortWorldK, cell?_grow _ _ _ hb, putRowK, cell?_putRow_other _ _ _ _ _ _ (by rw [size_flatK]; exact .inr hi)]
    rfl
  · rw [sortWorldK, frozen?_grow _ _ _ hb, putRowK, putRow, frozen?_mapBlock]
    rfl
end Go.Proofs.YtpopbkcbplmcaaaGreat
namespace Go.Proofs.YtpopbkcbplmcaaaGreat
set_option linter.unusedVariables false
set_option linter.unusedSimpArgs false
open Go.RowKit Go.Shelf Go.Lib Go.Sort

theorem cmpP_or (d : Nat) (a b : Pt) : orL [cmpI (a.2.getD d 0) (b.2.getD d 0), cmpL a.2 b.2, cmpI a.1 b.1] = cmpP d a b := by
  unfold cmpP
  simp only [orL]
  by_cases h : cmpI a.1 b.1 = 0 <;> simp [h]
theorem lift_list {α : Type} {q : α → Prop} : ∀ l : List α, (∀ x ∈ l, q x) → ∃ ys : List {x // q x}, ys.map (·.1) = l
  | [], _ => ⟨[], rfl⟩
  | x :: r, h => by
    obtain ⟨ys, e⟩ := lift_list r (fun y hy => h y (List.mem_cons_of_mem _ hy))
    exact ⟨⟨x, h x List.mem_cons_self⟩ :: ys, by rw [List.map_cons, e]⟩
theorem grow3 (W : World) (a b c : Obj) : (((W.alloc a).alloc b).alloc c).drew = grow (W.drewN 1) (#[a] ++ #[b] ++ #[c]) := by
  rw [alloc_eq_grow, alloc_eq_grow, alloc_eq_grow, grow_grow, grow_grow, drew_grow]
  rfl
theorem holdsK_sortW {α : Type} [Inhabited α] {enc : α → List Value} {w : World} {G off n : Nat} {d d' : Array α} {os : Array Obj} (h : HoldsK enc 2 w G off d) (hs : d'.size = d.size) (hG : G < w.heap.size) : HoldsK enc 2 (sortWorldK enc 2 w G off n d' os) G off d' := by
  unfold sortWorldK
  refine holdsK_grow (enc := enc) (k := 2) _ os G off d' ?_ ?_
  · simpa [putRowK, putRow, mapBlock, Sort.ahead] using hG
  · exact holdsK_putRowK (enc := enc) (k := 2) _ G off d d' (holdsK_ahead (enc := enc) (k := 2) w n G off d h) hs
set_option maxRecDepth 100000 in
set_option maxHeartbeats 2000000 in
theorem clos_any (d bx n ca cb B : Nat) (da db : Int) (ra rb : List Int) (Aa Ab : Option Addr) (W : World) (hd : d < n) (hra : ra.length = n) (hrb : rb.length = n) (h1 : n ≤ ca) (h2 : ca ≤ maxLen) (h3 : n ≤ cb) (h4 : cb ≤ maxLen)
    (hA : Rd W B Aa (iz .i64 ra)) (hB : Rd W B Ab (iz .i64 rb)) (hbx : W.cell? ⟨bx, 0, none⟩ = some (.int .i64 (d : Nat))) :
    Calls Tryz.prog 84 #[.agg #[.int .i64 da, .slice Aa n ca], .agg #[.int .i64 db, .slice Ab n cb], .pointer (some ⟨bx, 0, none⟩)] W (fun en w' => en = .returned (.int .i64 (cmpP d (da, ra) (db, rb))) ∧ ∃ q os', w' = grow (W.drewN q) os') := by
  have HO := hide (cmpP_or d (da, ra) (db, rb))
  obtain ⟨r, hr⟩ : ∃ x, x = cmpP d (da, ra) (db, rb) := ⟨_, rfl⟩
  rw [← hr] at HO ⊢
  dsimp only at HO
  obtain ⟨W2, hW2⟩ : ∃ x, x = (W.alloc (.cells #[.int .i64 da, .slice Aa n ca] 46)).alloc (.cells #[.int .i64 db, .slice Ab n cb] 46) := ⟨_, rfl⟩
  have f2 : Fr No W W2 := by rw [hW2]; exact ((Fr.refl No W).alloc _).alloc _
  obtain ⟨ada, rfl, _, xa⟩ := (hA.fr0 f2).intAt (j := d) (by rw [hra]; exact hd)
  obtain ⟨adb, rfl, _, xb⟩ := (hB.fr0 f2).intAt (j := d) (by rw [hrb]; exact hd)
  obtain ⟨g0, hg0⟩ : ∃ x, x = W.heap.size := ⟨_, rfl⟩
  obtain ⟨g1, hg1⟩ : ∃ x, x = W.heap.size + 1 := ⟨_, rfl⟩
  have ba : W2.heap[g0]? = some (.cells #[.int .i64 da, .slice (some ada) n ca] 46 (0, 0)) := by
    rw [hW2, hg0, heap_alloc_old _ _ (by simp)]; exact heap_alloc_new W _
  have bb : W2.heap[g1]? = some (.cells #[.int .i64 db, .slice (some adb) n cb] 46 (0, 0)) := by
    have := heap_alloc_new (W.alloc (.cells #[.int .i64 da, .slice (some ada) n ca] 46)) (.cells #[.int .i64 db, .slice (some adb) n cb] 46)
    rw [hW2, hg1]; simpa using this
  have ka0 := cell_of_row _ _ 0 _ _ _ ba
  have ka1 := cell_of_row _ _ 1 _ _ _ ba
  have kb0 := cell_of_row _ _ 0 _ _ _ bb
  have kb1 := cell_of_row _ _ 1 _ _ _ bb
  have kx := f2.cell hbx (fun h => h)
  have hdn : (d : Int) < (n : Int) := by omega
  have hd0 : (0 : Int) ≤ (d : Int) := by omega
  have HC1 := hide (cmpI64_any (ra.getD d 0) (rb.getD d 0) W2.drew)
  have HC2 := hide (cmpL_any (some ada) (some adb) n ca cb B B ra rb W2.drew hra hrb h1 h2 h3 h4 (hA.fr0 f2.drew) (hB.fr0 f2.drew))
  have HC3 := hide (cmpInt_any da db W2.drew)
  have HW2 := hide hW2
  have HR := hide hr
  generalize ra.getD d 0 = ya at xa HC1 HO
  generalize rb.getD d 0 = yb at xb HC1 HO
  generalize cmpI ya yb = z1 at HC1 HO
  generalize cmpL ra rb = z2 at HC2 HO
  generalize cmpI da db = z3 at HC3 HO
  have HS : Hid (W2.cell? ⟨g0, 0, none⟩ = some (.int .i64 da) ∧ W2.cell? ⟨g0, 1, none⟩ = some (.slice (some ada) n ca) ∧ W2.cell? ⟨g1, 0, none⟩ = some (.int .i64 db) ∧ W2.cell? ⟨g1, 1, none⟩ = some (.slice (some adb) n cb) ∧ W2.cell? ⟨bx, 0, none⟩ = some (.int .i64 (d : Nat)) ∧ W2.cell? (ada.add d) = some (.int .i64 ya) ∧ W2.cell? (adb.add d) = some (.int .i64 yb)) := hide ⟨ka0, ka1, kb0, kb1, kx, xa, xb⟩
  have HOr := hide (orL_any (some ⟨W2.heap.size, 0, none⟩) 3 3 (W2.heap.size + 1) [z1, z2, z3] ((W2.alloc (.cells #[.int .i64 z1, .int .i64 z2, .int .i64 z3] 3)).drew) rfl (by omega) (by decide) ((Rd.block (heap_alloc_new W2 (.cells #[.int .i64 z1, .int .i64 z2, .int .i64 z3] 3))).fr0 (Fr.refl No _).drew))
  have f3 : Fr No W2 ((W2.alloc (.cells #[.int .i64 z1, .int .i64 z2, .int .i64 z3] 3)).drew) := ((Fr.refl No W2).alloc _).drew
  have HS2 := hide (And.intro (f3.cell ka0 (fun h => h)) (And.intro (f3.cell ka1 (fun h => h)) (And.intro (f3.cell kb0 (fun h => h)) (And.intro (f3.cell kb1 (fun h => h)) (And.intro (f3.cell kx (fun h => h)) (And.intro (f3.cell xa (fun h => h)) (f3.cell xb (fun h => h))))))))
  rw [HO.out] at HOr
  unfold maxLen at h2 h4
  have HG0 := hide hg0
  have HG1 := hide hg1
  clear ba bb ka0 ka1 kb0 kb1 kx xa xb hA hB hbx f2 hra hrb hr hW2 hg0 hg1 f3
  go_enter Tryz.func84, Tryz.ntmps84
  go_wp2_with (fail)
  have hz1 : (W.alloc (.cells #[.int .i64 da, .slice (some ada) n ca] 46)).heap.size = g1 := by rw [HG1.out]; simp
  rw [← HW2.out]
  try rw [hz1]
  try rw [← HG1.out]
  rw [← HG0.out]
  clear hz1
  go_region_held3 (fun W => W.cell? ⟨g0, 0, none⟩ = some (.int .i64 da) ∧ W.cell? ⟨g0, 1, none⟩ = some (.slice (some ada) n ca) ∧ W.cell? ⟨g1, 0, none⟩ = some (.int .i64 db) ∧ W.cell? ⟨g1, 1, none⟩ = some (.slice (some adb) n cb) ∧ W.cell? ⟨bx, 0, none⟩ = some (.int .i64 (d : Nat)) ∧ W.cell? (ada.add d) = some (.int .i64 ya) ∧ W.cell? (adb.add d) = some (.int .i64 yb)) (first | exact HS.out | exact HS2.out) (first
    | (go_at_call 86; refine HC1.out.mono ?_; rintro en w' ⟨rfl, rfl⟩)
    | (go_at_call 87; refine HC2.out.mono ?_; rintro en w' ⟨rfl, rfl⟩)
    | (go_at_call 88; refine HC3.out.mono ?_; rintro en w' ⟨rfl, rfl⟩)
    | (go_at_call 85; refine HOr.out.mono ?_; rintro en w' ⟨rfl, rfl⟩))
  all_goals (
    go_wp2
    go_ret
    exact ⟨rfl, 1, _, by rw [HW2.out]; exact grow3 W _ _ _⟩)
set_option maxRecDepth 100000 in
theorem sortPts_any (d dims bx G off n c B : Nat) (ps : List PoL) (w : World) (hps : ps.length = n) (hn : 1 ≤ n) (hn2 : n < 4611686018427387904) (hd : d < dims) (hok : ∀ p ∈ ps, OkPt w B dims p) (harr : ArrP w G off ps) (hB : B ≤ G) (hbx : w.cell? ⟨bx, 0, none⟩ = some (.int .i64 (d : Nat))) (hne : bx ≠ G) :
    Calls Tryz.prog 66 #[.slice (some ⟨G, off, none⟩) n c, .func (.func 84) #[] #[.pointer (some ⟨bx, 0, none⟩)]] w (fun en w' => en = .returned (.tuple #[]) ∧ ∃ ps', ps'.Perm ps ∧ ps'.map (·.1) = sortP d (ps.map (·.1)) ∧ ArrP w' G off ps' ∧ Fr (Is G) w w' ∧ Apart2 w w' G off (off + n * 2)) := by
  obtain ⟨ys, hys⟩ : ∃ ys : List (PtS w B dims), ys.map (·.1) = ps := lift_list ps hok
  have hyl : ys.length = n := by rw [← hps, ← hys, List.length_map]
  haveI : Inhabited (PtS w B dims) := ⟨ys.head (by intro e; rw [e] at hyl; simp at hyl; omega)⟩
  obtain ⟨d0, hd0⟩ : ∃ d0 : Array (PtS w B dims), d0 = ys.toArray := ⟨_, rfl⟩
  have hsz : d0.size = n := by rw [hd0]; simpa using hyl
  have hl0 : d0.toList.map (·.1) = ps := by rw [hd0]; simpa using hys
  have hH : HoldsK (encS (w := w) (B := B) (dims := dims)) 2 w G off d0 := holds_arr (by rw [hl0]; exact harr)
  have eg : ∀ args w, (callFunc 84 args).run Tryz.prog w = .ok (.enter 84 args) w := enters_of Tryz.func84 (by kernel_rfl) rfl
  have hcmp : CmpLays Tryz.prog 84 #[.pointer (some ⟨bx, 0, none⟩)] (encS (w := w) (B := B) (dims := dims)) 2 (cmpS (w := w) (B := B) (dims := dims) d) G off d0.size w := by
    intro m os dk hdk x y
    have f := fr_sortW (encS (w := w) (B := B) (dims := dims)) w G off m dk os
    have hS : ∀ k, k < B → ¬ Is G k := fun k hk e => by have e : k = G := e; omega
    have h := clos_any d bx dims x.1.2.2 y.1.2.2 B x.1.1.1 y.1.1.1 x.1.1.2 y.1.1.2 x.1.2.1 y.1.2.1 (sortWorldK (encS (w := w) (B := B) (dims := dims)) 2 w G off m dk os) hd x.2.1 y.2.1 (by have h1 := x.2.1; have h2 := x.2.2.1; omega) x.2.2.2.1 (by have h1 := y.2.1; have h2 := y.2.2.1; omega) y.2.2.2.1 (x.2.2.2.2.fr f hS) (y.2.2.2.2.fr f hS) (f.cell hbx (fun e => hne e))
    have ex : (encS x).toArray = #[.int .i64 x.1.1.1, .slice x.1.2.1 dims x.1.2.2] := by unfold encS pRow; rw [x.2.1]
    have ey : (encS y).toArray = #[.int .i64 y.1.1.1, .slice y.1.2.1 dims y.1.2.2] := by unfold encS pRow; rw [y.2.1]
    rw [ex, ey]
    exact h
  have hc := AnyQ.slices_SortFunc Tryz.sortBP 2 (fun _ => by kernel_rfl) (fun _ => by kernel_rfl) (encS (w := w) (B := B) (dims := dims)) encS_len encS_one (cmpS (w := w) (B := B) (dims := dims) d) (swoS d) 84 #[.pointer (some ⟨bx, 0, none⟩)] G off c d0 w eg hcmp hH harr.lt (by rw [hsz]; exact hn2)
  rw [hsz] at hc
  refine hc.mono ?_
  rintro en w' ⟨rfl, d', nn, os, hp, hs, rfl⟩
  have hs' : d'.size = n := by rw [hp.1, hsz]
  have hperm : d'.toList.Perm d0.toList := by
    have h := hp.2.2
    rw [show d'.extract 0 n = d' by rw [← hs']; exact Array.extract_size, show d0.extract 0 n = d0 by rw [← hsz]; exact Array.extract_size] at h
    exact h
  refine ⟨rfl, d'.toList.map (·.1), ?_, ?_, ?_, fr_sortW _ _ _ _ _ _ _, ?_⟩
  · rw [← hl0]; exact hperm.map _
  · refine sortP_uniq ?_ ?_
    · rw [← hl0]; exact (hperm.map _).map _
    · rw [List.map_map, List.pairwise_map, List.pairwise_iff_getElem]
      intro i j hi hj hij
      have hjn : j < d'.size := by simpa using hj
      have hin : i < d'.size := by omega
      have h := hs i j (Nat.zero_le _) hij (by rw [← hs']; exact hjn)
      rw [ltOfS] at h
      rw [leP_bel]
      simp only [Function.comp, Array.getElem_toList]
      rw [getElem!_pos d' j hjn, getElem!_pos d' i hin] at h
      rw [h]
      rfl
  · exact arr_holds (holdsK_sortW hH (by rw [hs', hsz]) harr.lt) (Nat.lt_of_lt_of_le harr.lt (fr_sortW _ _ _ _ _ _ _).size)
  · have := apart_sortW (encS (w := w) (B := B) (dims := dims)) w G off nn d' os harr.lt
    rw [hs'] at this
    exact this
end Go.Proofs.YtpopbkcbplmcaaaGreat
namespace Go.Proofs.YtpopbkcbplmcaaaGreat
set_option linter.unusedVariables false
set_option linter.unusedSimpArgs false
open Go.RowKit

set_option maxHeartbeats 400000 in
theorem formU_any (u : Int) (w : World) : Calls Tryz.prog 71 #[.int .u64 u] w (Ret (.int .u64 u) w) := by
  go_enter Tryz.func71, Tryz.ntmps71
  go_wp2
  go_ret
  exact ⟨rfl, rfl⟩

set_option maxRecDepth 100000 in
set_option maxHeartbeats 1000000 in
theorem putU_loop (A : Option Addr) (n c B : Nat) (bs : List UInt8) (u : Nat) (x : Int) (w : World) (hl : bs.length = n) (hn : n ≤ c) (hc : c ≤ maxLen) (hb : n ≤ 140737488350000) (hB : B ≤ w.heap.size) (hr : Rd w B A (by8 bs)) (hu : u < 18446744073709551616)
    (hform : ∀ W, Calls Tryz.prog 71 #[.int .u64 x] W (Ret (.int .u64 u) W)) :
    Calls Tryz.prog 70 #[.slice A n c, .int .u64 x, .func (.func 71) #[] #[]] w (GivesB w (bs ++ enc u)) := by
  have H := hide (clone_any A n c B bs w hl hn hc (by omega) hB hr)
  have HFo := hide hform
  have HL := hide hl
  clear hr hl hform
  obtain ⟨i0, hi, hz, hsz, hby⟩ := info_parts Tryz.info5
  go_enter Tryz.func70, Tryz.ntmps70
  go_wp2_with (first | (go_at_call 35; refine H.out.mono ?_; rintro en w1 ⟨v1, rfl, hown, hfr⟩; have HO := hide hown; have HF := hide hfr; clear hown hfr) | (go_at_call 71; refine (HFo.out _).mono ?_; rintro en w2 ⟨rfl, rfl⟩))
  clear H HFo
  go_loopw [7, 8] (fun v y wr => ∃ (f k : Nat) (done : List UInt8), y = .int .u64 (k : Nat) ∧ Hid (Own wr w.heap.size 5 1 v done.length (by8 done)) ∧ Hid (done ++ encF f k = bs ++ enc u) ∧ Hid (Fr No w wr) ∧ Hid (f ≤ 9 ∧ done.length ≤ n + 9 - f ∧ k * 2 ^ (7 * (9 - f)) < 18446744073709551616)) (fun _ y _ => (intOf y).toNat)
  case atStart => exact ⟨9, u, bs, rfl, HO, hide rfl, HF, hide ⟨Nat.le_refl _, by rw [HL.out]; omega, by simpa using hu⟩⟩
  case round =>
    obtain ⟨f, k, done, rfl, HOw, HE, HFr, HB⟩ := hrel
    clear HO HF HL
    obtain ⟨hf9, hdl, hk⟩ := HB.out
    have hgw := HFr.out.size
    by_cases hbig : 127 < k
    · obtain ⟨f', rfl⟩ : ∃ f', f = f' + 1 := by
        cases f with
        | zero => exfalso; have e : (2 : Nat) ^ (7 * (9 - 0)) = 9223372036854775808 := by decide
                  rw [e] at hk; omega
        | succ f' => exact ⟨f', rfl⟩
      have HK := hide hk; clear hk
      have ho := or_128 k
      have HD := hide (show encF (f' + 1) k = UInt8.ofNat (k % 128 + 128) :: encF f' (k / 128) by rw [encF, if_pos hbig])
      generalize UInt8.ofNat (k % 128 + 128) = b at ho HD
      have HS := hide (Src.one (P := Tryz.prog) wr (e := 5) Tryz.underlying22 (.int .u8 b.toNat) rfl)
      have HOw' := hide (HOw.out.fr0 ((Fr.refl No wr).alloc (.cells #[.int .u8 b.toNat] 5)))
      have b1 : (done.length + 1) * 1 ≤ 140737488355328 := by omega
      have b2 : done.length + 1 ≤ maxLen := by unfold maxLen; omega
      have b3 : w.heap.size ≤ (wr.alloc (.cells #[.int .u8 b.toNat] 5)).heap.size := by simp; omega
      have HR := hide (show Own wr w.heap.size 5 1 u7 done.length (by8 done) → ∀ k, u7.ownBlock = some k → w.heap.size ≤ k from fun h k hk => (h.lt k hk).1)
      go_wp2_with (at_builtin; refine wpList_append_gen _ rfl (.tmp 18) (.tmp 22) 22 22 rfl w.heap.size 5 i0 (.int .u8 0) 1 1 Tryz.underlying22 hi hz hsz hby rfl u7 done.length (by8 done) rfl HOw'.out _ 1 [.int .u8 b.toNat] rfl HS.out b1 b2 b3 ?_; intro v' w' hown hfr hat; have HOn := hide hown; have HFn := hide hfr; clear hown hfr hat)
      go_roundw
      case rel =>
        refine ⟨f', k / 128, done ++ [b], by go_num, hide (by simpa [by8] using HOn.out), hide ?_, hide ((HFr.out.alloc _).own HFn.out (fun g hg => .inl (HOw.out.lt g hg).1)), hide ⟨by omega, by simp; omega, ?_⟩⟩
        · rw [← HE.out, HD.out]; simp
        · have e : 7 * (9 - f') = 7 * ((9 - (f' + 1)) + 1) := by omega
          rw [e, pow7, ← Nat.mul_assoc]
          exact Nat.lt_of_le_of_lt (Nat.mul_le_mul_right _ (by omega)) HK.out
      case measure => simp [intOf]; omega
    · obtain ⟨b, rfl⟩ : ∃ b : UInt8, k = b.toNat := ⟨UInt8.ofNat k, (ofNat_toNat (by omega)).symm⟩
      have HD := hide (show encF f b.toNat = [b] by cases f with
        | zero => simp [encF]
        | succ f => rw [encF, if_neg hbig]; simp)
      clear hk
      have HS := hide (Src.one (P := Tryz.prog) wr (e := 5) Tryz.underlying22 (.int .u8 b.toNat) rfl)
      have HOw' := hide (HOw.out.fr0 ((Fr.refl No wr).alloc (.cells #[.int .u8 b.toNat] 5)))
      have b1 : (done.length + 1) * 1 ≤ 140737488355328 := by omega
      have b2 : done.length + 1 ≤ maxLen := by unfold maxLen; omega
      have b3 : w.heap.size ≤ (wr.alloc (.cells #[.int .u8 b.toNat] 5)).heap.size := by simp; omega
      go_wp2_with (first | (at_builtin; refine wpList_append_gen _ rfl (.tmp 24) (.tmp 27) 22 22 rfl w.heap.size 5 i0 (.int .u8 0) 1 1 Tryz.underlying22 hi hz hsz hby rfl u7 done.length (by8 done) rfl HOw'.out _ 1 [.int .u8 b.toNat] rfl HS.out b1 b2 b3 ?_; intro v' w' hown hfr hat; obtain ⟨A1, c1, rfl, hc1, hc2, _⟩ := hown.form; have HOn := hide hown; have HFn := hide hfr; clear hown hfr hat) | (go_at_call 64; refine (clip_any _ _ _ _ hc1 hc2).mono ?_; rintro en w2 ⟨rfl, rfl⟩))
      go_ret
      refine ⟨_, rfl, ?_, (HFr.out.alloc _).own HFn.out (fun g hg => .inl (HOw.out.lt g hg).1)⟩
      rw [← HE.out, HD.out, by8_append, List.length_append]
      exact HOn.out.clip

theorem putU_any (A : Option Addr) (n c B : Nat) (bs : List UInt8) (u : Nat) (w : World) (hl : bs.length = n) (hn : n ≤ c) (hc : c ≤ maxLen) (hb : n ≤ 140737488350000) (hB : B ≤ w.heap.size) (hr : Rd w B A (by8 bs)) (hu : u < 18446744073709551616) :
    Calls Tryz.prog 44 #[.slice A n c, .int .u64 u] w (GivesB w (bs ++ enc u)) := by
  have H := hide (putU_loop A n c B bs u u w hl hn hc hb hB hr hu (fun W => formU_any _ W))
  clear hr hl
  go_enter Tryz.func44, Tryz.ntmps44
  go_wp2_with (go_at_call 70; refine H.out.mono ?_; rintro en w1 ⟨v1, rfl, hown, hfr⟩; have HO := hide hown; have HF := hide hfr; clear hown hfr)
  go_ret
  exact ⟨_, rfl, HO.out, HF.out⟩

end Go.Proofs.YtpopbkcbplmcaaaGreat
namespace Go.Proofs.YtpopbkcbplmcaaaGreat
set_option linter.unusedVariables false
set_option linter.unusedSimpArgs false
open Go.RowKit

set_option maxHeartbeats 400000 in
theorem formI_any (n : Int) (w : World) (h1 : -9223372036854775808 ≤ n) (h2 : n ≤ 9223372036854775807) : Calls Tryz.prog 90 #[.int .i64 n] w (Ret (.int .u64 (zz n)) w) := by
  have HZ := hide (zz_bits h1 h2)
  go_enter Tryz.func90, Tryz.ntmps90
  go_wp2
  go_ret
  exact ⟨by rw [← HZ.out]; rfl, rfl⟩

set_option maxRecDepth 100000 in
set_option maxHeartbeats 1000000 in
theorem putI_loop (A : Option Addr) (n c B : Nat) (bs : List UInt8) (u : Nat) (x : Int) (w : World) (hl : bs.length = n) (hn : n ≤ c) (hc : c ≤ maxLen) (hb : n ≤ 140737488350000) (hB : B ≤ w.heap.size) (hr : Rd w B A (by8 bs)) (hu : u < 18446744073709551616)
    (hform : ∀ W, Calls Tryz.prog 90 #[.int .i64 x] W (Ret (.int .u64 u) W)) :
    Calls Tryz.prog 89 #[.slice A n c, .int .i64 x, .func (.func 90) #[] #[]] w (GivesB w (bs ++ enc u)) := by
  have H := hide (clone_any A n c B bs w hl hn hc (by omega) hB hr)
  have HFo := hide hform
  have HL := hide hl
  clear hr hl hform
  obtain ⟨i0, hi, hz, hsz, hby⟩ := info_parts Tryz.info5
  go_enter Tryz.func89, Tryz.ntmps89
  go_wp2_with (first | (go_at_call 35; refine H.out.mono ?_; rintro en w1 ⟨v1, rfl, hown, hfr⟩; have HO := hide hown; have HF := hide hfr; clear hown hfr) | (go_at_call 90; refine (HFo.out _).mono ?_; rintro en w2 ⟨rfl, rfl⟩))
  clear H HFo
  go_loopw [7, 8] (fun v y wr => ∃ (f k : Nat) (done : List UInt8), y = .int .u64 (k : Nat) ∧ Hid (Own wr w.heap.size 5 1 v done.length (by8 done)) ∧ Hid (done ++ encF f k = bs ++ enc u) ∧ Hid (Fr No w wr) ∧ Hid (f ≤ 9 ∧ done.length ≤ n + 9 - f ∧ k * 2 ^ (7 * (9 - f)) < 18446744073709551616)) (fun _ y _ => (intOf y).toNat)
  case atStart => exact ⟨9, u, bs, rfl, HO, hide rfl, HF, hide ⟨Nat.le_refl _, by rw [HL.out]; omega, by simpa using hu⟩⟩
  case round =>
    obtain ⟨f, k, done, rfl, HOw, HE, HFr, HB⟩ := hrel
    clear HO HF HL
    obtain ⟨hf9, hdl, hk⟩ := HB.out
    have hgw := HFr.out.size
    by_cases hbig : 127 < k
    · obtain ⟨f', rfl⟩ : ∃ f', f = f' + 1 := by
        cases f with
        | zero => exfalso; have e : (2 : Nat) ^ (7 * (9 - 0)) = 9223372036854775808 := by decide
                  rw [e] at hk; omega
        | succ f' => exact ⟨f', rfl⟩
      have HK := hide hk; clear hk
      have ho := or_128 k
      have HD := hide (show encF (f' + 1) k = UInt8.ofNat (k % 128 + 128) :: encF f' (k / 128) by rw [encF, if_pos hbig])
      generalize UInt8.ofNat (k % 128 + 128) = b at ho HD
      have HS := hide (Src.one (P := Tryz.prog) wr (e := 5) Tryz.underlying22 (.int .u8 b.toNat) rfl)
      have HOw' := hide (HOw.out.fr0 ((Fr.refl No wr).alloc (.cells #[.int .u8 b.toNat] 5)))
      have b1 : (done.length + 1) * 1 ≤ 140737488355328 := by omega
      have b2 : done.length + 1 ≤ maxLen := by unfold maxLen; omega
      have b3 : w.heap.size ≤ (wr.alloc (.cells #[.int .u8 b.toNat] 5)).heap.size := by simp; omega
      have HR := hide (show Own wr w.heap.size 5 1 u7 done.length (by8 done) → ∀ k, u7.ownBlock = some k → w.heap.size ≤ k from fun h k hk => (h.lt k hk).1)
      go_wp2_with (at_builtin; refine wpList_append_gen _ rfl (.tmp 18) (.tmp 22) 22 22 rfl w.heap.size 5 i0 (.int .u8 0) 1 1 Tryz.underlying22 hi hz hsz hby rfl u7 done.length (by8 done) rfl HOw'.out _ 1 [.int .u8 b.toNat] rfl HS.out b1 b2 b3 ?_; intro v' w' hown hfr hat; have HOn := hide hown; have HFn := hide hfr; clear hown hfr hat)
      go_roundw
      case rel =>
        refine ⟨f', k / 128, done ++ [b], by go_num, hide (by simpa [by8] using HOn.out), hide ?_, hide ((HFr.out.alloc _).own HFn.out (fun g hg => .inl (HOw.out.lt g hg).1)), hide ⟨by omega, by simp; omega, ?_⟩⟩
        · rw [← HE.out, HD.out]; simp
        · have e : 7 * (9 - f') = 7 * ((9 - (f' + 1)) + 1) := by omega
          rw [e, pow7, ← Nat.mul_assoc]
          exact Nat.lt_of_le_of_lt (Nat.mul_le_mul_right _ (by omega)) HK.out
      case measure => simp [intOf]; omega
    · obtain ⟨b, rfl⟩ : ∃ b : UInt8, k = b.toNat := ⟨UInt8.ofNat k, (ofNat_toNat (by omega)).symm⟩
      have HD := hide (show encF f b.toNat = [b] by cases f with
        | zero => simp [encF]
        | succ f => rw [encF, if_neg hbig]; simp)
      clear hk
      have HS := hide (Src.one (P := Tryz.prog) wr (e := 5) Tryz.underlying22 (.int .u8 b.toNat) rfl)
      have HOw' := hide (HOw.out.fr0 ((Fr.refl No wr).alloc (.cells #[.int .u8 b.toNat] 5)))
      have b1 : (done.length + 1) * 1 ≤ 140737488355328 := by omega
      have b2 : done.length + 1 ≤ maxLen := by unfold maxLen; omega
      have b3 : w.heap.size ≤ (wr.alloc (.cells #[.int .u8 b.toNat] 5)).heap.size := by simp; omega
      go_wp2_with (first | (at_builtin; refine wpList_append_gen _ rfl (.tmp 24) (.tmp 27) 22 22 rfl w.heap.size 5 i0 (.int .u8 0) 1 1 Tryz.underlying22 hi hz hsz hby rfl u7 done.length (by8 done) rfl HOw'.out _ 1 [.int .u8 b.toNat] rfl HS.out b1 b2 b3 ?_; intro v' w' hown hfr hat; obtain ⟨A1, c1, rfl, hc1, hc2, _⟩ := hown.form; have HOn := hide hown; have HFn := hide hfr; clear hown hfr hat) | (go_at_call 64; refine (clip_any _ _ _ _ hc1 hc2).mono ?_; rintro en w2 ⟨rfl, rfl⟩))
      go_ret
      refine ⟨_, rfl, ?_, (HFr.out.alloc _).own HFn.out (fun g hg => .inl (HOw.out.lt g hg).1)⟩
      rw [← HE.out, HD.out, by8_append, List.length_append]
      exact HOn.out.clip

theorem putI_any (A : Option Addr) (n c B : Nat) (bs : List UInt8) (x : Int) (w : World) (hl : bs.length = n) (hn : n ≤ c) (hc : c ≤ maxLen) (hb : n ≤ 140737488350000) (hB : B ≤ w.heap.size) (hr : Rd w B A (by8 bs)) (h1 : -9223372036854775808 ≤ x) (h2 : x ≤ 9223372036854775807) :
    Calls Tryz.prog 68 #[.slice A n c, .int .i64 x] w (GivesB w (bs ++ enc (zz x))) := by
  have H := hide (putI_loop A n c B bs (zz x) x w hl hn hc hb hB hr (zz_lt h1 h2) (fun W => formI_any _ W h1 h2))
  clear hr hl
  go_enter Tryz.func68, Tryz.ntmps68
  go_wp2_with (go_at_call 89; refine H.out.mono ?_; rintro en w1 ⟨v1, rfl, hown, hfr⟩; have HO := hide hown; have HF := hide hfr; clear hown hfr)
  go_ret
  exact ⟨_, rfl, HO.out, HF.out⟩

end Go.Proofs.YtpopbkcbplmcaaaGreat
namespace Go.Proofs.YtpopbkcbplmcaaaGreat
set_option linter.unusedVariables false
set_option linter.unusedSimpArgs false
open Go.RowKit

set_option maxRecDepth 100000 in
set_option maxHeartbeats 400000 in
theorem order_any (d : Nat) (w : World) : Calls Tryz.prog 67 #[.int .i64 (d : Nat)] w (fun en w' => en = .returned (.func (.func 84) #[] #[.pointer (some ⟨w.heap.size, 0, none⟩)]) ∧ w' = w.alloc (.cells #[.int .i64 (d : Nat)] 3)) := by
  go_enter Tryz.func67, Tryz.ntmps67
  go_wp2
  go_ret
  exact ⟨rfl, rfl⟩
theorem ArrP.fr {S : Nat → Prop} {w w' : World} {G off : Nat} {ps : List PoL} (h : ArrP w G off ps) (f : Fr S w w') (hS : ¬ S G) : ArrP w' G off ps := by
  refine ⟨fun j u hu => ?_, Nat.lt_of_lt_of_le h.lt f.size⟩
  obtain ⟨h1, h2⟩ := h.cell j u hu
  refine ⟨f.cell h1 hS, ?_⟩
  have hb := f.block G h.lt hS
  unfold World.frozen? at h2 ⊢
  dsimp only at h2 ⊢
  rw [hb]
  exact h2
theorem Apart2.fr {w w' w'' : World} {G lo hi : Nat} {S : Nat → Prop} (h : Apart2 w w' G lo hi) (f : Fr S w' w'') (hS : ¬ S G) (hG : G < w'.heap.size) : Apart2 w w'' G lo hi := fun i hi => by
  have hb := f.block G hG hS
  have h1 := h i hi
  constructor
  · rw [← h1.1]; unfold World.cell?; dsimp only; rw [hb]
  · rw [← h1.2]; unfold World.frozen?; dsimp only; rw [hb]
theorem Apart2.fr0 {w w' : World} {G lo hi : Nat} (f : Fr No w w') (hG : G < w.heap.size) : Apart2 w w' G lo hi := fun i hi => by
  have hb := f.block G hG (fun h => h)
  constructor
  · unfold World.cell?; dsimp only; rw [hb]
  · unfold World.frozen?; dsimp only; rw [hb]
theorem Apart2.tr {w w' w'' : World} {G lo hi : Nat} (h : Apart2 w w' G lo hi) (k : Apart2 w' w'' G lo hi) : Apart2 w w'' G lo hi := fun i hi => ⟨((k i hi).1).trans (h i hi).1, ((k i hi).2).trans (h i hi).2⟩
theorem Apart2.wide {w w' : World} {G lo hi lo' hi' : Nat} (h : Apart2 w w' G lo hi) (h1 : lo' ≤ lo) (h2 : hi ≤ hi') : Apart2 w w' G lo' hi' := fun i hi => h i (by omega)
theorem ArrP.rd {w : World} {G off B dims : Nat} {ps : List PoL} (h : ArrP w G off ps) (hok : ∀ p ∈ ps, OkPt w B dims p) (hB : B ≤ w.heap.size) : RdPo w w.heap.size (some ⟨G, off, none⟩) (ps.map (·.1)) := by
  refine ⟨ps, rfl, fun j u hu => ⟨_, rfl, h.lt, ?_⟩, fun p hp => ⟨(hok p hp).2.1, (hok p hp).2.2.1, (hok p hp).2.2.2.more hB⟩⟩
  rw [Addr.add_lit]
  exact (h.cell j u hu).1
/-- what form is given. -/
structure FormH (w : World) (G off n c B dims : Nat) (ps : List PoL) : Prop where
  len : ps.length = n
  n1 : 1 ≤ n
  n2 : n ≤ 1048576
  cap : n ≤ c
  cap2 : c ≤ maxLen
  ok : ∀ p ∈ ps, OkPt w B dims p
  fit : ∀ p ∈ ps, InI p.1.2 ∧ 0 ≤ p.1.1 ∧ p.1.1 < 16384
  arr : ArrP w G off ps
  low : B ≤ G
  dm : 1 ≤ dims ∧ dims ≤ 4
/-- what form answers. -/
def FormQ (w : World) (G off n dims : Nat) (l : List Pt) (en : Ending) (w' : World) : Prop := (∃ v, en = .returned v ∧ Own w' w.heap.size 5 1 v (treeP dims l).length (by8 (treeP dims l))) ∧ Fr (Is G) w w' ∧ Apart2 w w' G off (off + n * 2)
theorem take_1 {l : List Int} {k : Nat} (h : k < l.length) : l.take (k + 1) = l.take k ++ [l.getD k 0] := by
  rw [List.take_succ_eq_append_getElem h, List.getD, List.getElem?_eq_getElem h]
  rfl
theorem ptsB_snoc (l : List Pt) (p : Pt) : ptsB (l ++ [p]) = ptsB l ++ ptB p := by simp [ptsB]
def zzs (l : List Int) : List UInt8 := (l.map (fun v => enc (zz v))).flatten
theorem zzs_snoc (l : List Int) (x : Int) : zzs (l ++ [x]) = zzs l ++ enc (zz x) := by simp [zzs]
theorem zzs_le : ∀ l : List Int, (zzs l).length ≤ 10 * l.length
  | [] => by simp [zzs]
  | x :: r => by
    have h1 := zzs_le r
    have h2 := (enc_len (zz x)).2
    have e : zzs (x :: r) = enc (zz x) ++ zzs r := by simp [zzs]
    rw [e, List.length_append, List.length_cons]
    omega
set_option maxRecDepth 100000 in
set_option maxHeartbeats 4000000 in
theorem form_leaf (ad : Addr) (G off n c B dims : Nat) (ps : List PoL) (w : World) (had : ad = ⟨G, off, none⟩) (H : FormH w G off n c B dims ps) (h8 : n ≤ 8) :
    Calls Tryz.prog 42 #[.int .i64 (dims : Nat), .slice (some ad) n c] w (FormQ w G off n dims (ps.map (·.1))) := by
  obtain ⟨i5, hi5, hz5, hsz5, hby5⟩ := info_parts Tryz.info5
  have HH := hide H
  have HAd := hide had
  have hn1 := H.n1
  have hnc := H.cap
  have hc := H.cap2
  have hd := H.dm
  obtain ⟨w1, hw1⟩ : ∃ x, x = w.alloc (.cells #[.int .i64 ((0 : Nat) : Int)] 3) := ⟨_, rfl⟩
  obtain ⟨bx, hbx⟩ : ∃ x, x = w.heap.size := ⟨_, rfl⟩
  have f1 : Fr No w w1 := by rw [hw1]; exact (Fr.refl No w).alloc _
  have hOr := order_any 0 w
  rw [← hw1, ← hbx] at hOr
  have HOr := hide hOr
  have hcx : w1.cell? ⟨bx, 0, none⟩ = some (.int .i64 ((0 : Nat) : Int)) := by rw [hw1, hbx]; exact cell_of_row _ _ 0 _ _ _ (heap_alloc_new w _)
  have HSo := hide (sortPts_any 0 dims bx G off n c B ps w1 H.len hn1 (by have := H.n2; omega) (by omega) (fun p hp => (H.ok p hp).fr f1 (fun _ _ h => h)) (H.arr.fr f1 (fun h => h)) H.low hcx (by have := H.arr.lt; omega))
  rw [← had] at HSo
  have HF1 := hide f1
  unfold maxLen at hc
  clear hw1 hbx hOr hcx f1 H had
  go_enter Tryz.func42, Tryz.ntmps42
  go_wp2_with (fail)
  refine HOr.out.mono ?_
  rintro en wz ⟨rfl, rfl⟩
  go_wp2_with (fail)
  refine HSo.out.mono ?_
  rintro en w2 ⟨rfl, ps2, hperm, hmap, harr, hfr, hap⟩
  obtain ⟨l2, hl2⟩ : ∃ x, x = ps2.map (·.1) := ⟨_, rfl⟩
  have hB2 : ∀ k, k < B → ¬ Is G k := fun k hk e => by have e : k = G := e; have := HH.out.low; omega
  have hfw : Fr (Is G) w w2 := (HF1.out.any (Is G)).trans hfr (fun i hi e => e)
  have hok2 : ∀ p ∈ ps2, OkPt w2 B dims p := fun p hp => (HH.out.ok p (hperm.mem_iff.1 hp)).fr hfw hB2
  have hl2n : l2.length = n := by rw [hl2, List.length_map, hperm.length_eq, HH.out.len]
  have hrd : RdPo w2 w2.heap.size (some ad) l2 := by
    rw [HAd.out, hl2]
    exact harr.rd hok2 (by have := harr.lt; have := HH.out.low; omega)
  have hmem : ∀ p ∈ l2, p.2.length = dims ∧ InI p.2 ∧ 0 ≤ p.1 ∧ p.1 < 16384 := fun p hp => by
    rw [hl2] at hp
    obtain ⟨q, hq, rfl⟩ := List.mem_map.1 hp
    exact ⟨(hok2 q hq).1, HH.out.fit q (hperm.mem_iff.1 hq)⟩
  have HM : Hid (l2 = sortP 0 (ps.map (·.1))) := hide (hl2.trans hmap)
  have HL2 := hide hl2n
  have HRd := hide hrd
  have HMem := hide hmem
  have HF2 := hide hfw
  have HGl := hide harr.lt
  have HAp : Hid (Apart2 w w2 G off (off + n * 2)) := hide ((Apart2.fr0 HF1.out HH.out.arr.lt).tr hap)
  have HPu := hide (fun (u : Nat) (hu : u < 18446744073709551616) W => putU_any none 0 0 0 [] u W rfl (Nat.le_refl _) (Nat.zero_le _) (by omega) (Nat.zero_le _) (fun j u hu => by simp [by8] at hu) hu)
  have HPn := hide (HPu.out n (by omega))
  obtain ⟨en0, hen⟩ : ∃ x, x = (enc n).length := ⟨_, rfl⟩
  have he10 := (enc_len n).2
  rw [← hen] at he10
  have HEn := hide hen
  have b1 : (1 + en0) * 1 ≤ 140737488355328 := by omega
  have b2 : 1 + en0 ≤ maxLen := by unfold maxLen; omega
  clear hl2 hB2 hfw hok2 hl2n hrd hmem hperm hmap harr hfr hap hen HSo HOr
  go_wp2_with (first
    | (go_at_call 44; refine (HPn.out _).mono ?_; rintro en w3 ⟨v3, rfl, hown, hfr⟩; rw [List.nil_append, ← HEn.out] at hown; obtain ⟨A3, c3, rfl, p1, p2, _, p3, _⟩ := hown.form; have HS3 := hide (Src.ofRd (P := Tryz.prog) (size := 1) w3 Tryz.underlying22 A3 en0 c3 (by8 (enc n)) (by rw [by8_length, ← HEn.out, Nat.mul_one]) (by omega) p3 (by8_one _)); have HO3 := hide ((own_new8 w2 #[.int .u8 0] 1 [0] 5 rfl rfl (by decide)).fr0 hfr); have HF3 : Hid (Fr No w2 w3) := hide (((Fr.refl No w2).alloc _).tr hfr); have hz3 := HF3.out.size; unfold maxLen at p2; clear hown hfr p3)
    | (at_builtin; refine wpList_append_gen _ rfl (.tmp 21) (.tmp 25) 22 22 rfl w2.heap.size 5 i5 (.int .u8 0) 1 1 Tryz.underlying22 hi5 hz5 hsz5 hby5 rfl (.slice (some ⟨w2.heap.size, 0, none⟩) 1 1) 1 (by8 [0]) rfl HO3.out _ en0 (by8 (enc n)) rfl HS3.out b1 b2 hz3 ?_; intro v4 w4 hown hfr hat; have HO4 := hide hown; have HF4 : Hid (Fr No w2 w4) := hide (HF3.out.own hfr (fun g hg => .inl (HO3.out.lt g hg).1)); clear hown hfr hat))
  go_loopw [5, 7, 9, 29] (fun vb _ _ i wr => ∃ (k bn : Nat), k ≤ n ∧ i = .int .i64 (k : Nat) ∧ bn ≤ 11 + 50 * k ∧ Hid (Fr No w2 wr) ∧ Hid (bn = ((0 : UInt8) :: (enc n ++ ptsB (l2.take k))).length) ∧ Hid (Own wr w2.heap.size 5 1 vb bn (by8 ((0 : UInt8) :: (enc n ++ ptsB (l2.take k)))))) (fun _ _ _ i _ => n - (intOf i).toNat)
  case atStart => exact ⟨0, 1 + en0, by omega, by go_num, by omega, HF4, hide (by simp [ptsB, HEn.out]; omega), hide (by simpa [ptsB, by8] using HO4.out)⟩
  case round =>
    clear HO4 HF4
    obtain ⟨wo, rfl⟩ : ∃ wo : World, wo = wr := ⟨_, rfl⟩
    obtain ⟨k, bn, hk, rfl, hbn, HFk, HBn, HOk⟩ := hrel
    by_cases hlk : k < n
    · have hk1 : k < l2.length := by rw [HL2.out]; exact hlk
      obtain ⟨ad', A1, c1, e, _, k0', k1', g1, g2, hrk⟩ := HRd.out.at hk1
      cases e
      have k0 := HFk.out.cell k0' (fun h => h)
      have k1 := HFk.out.cell k1' (fun h => h)
      clear k0' k1'
      have hpk := HMem.out _ (getP_mem hk1)
      have htk := take_snocP hk1
      obtain ⟨pk, hpke⟩ : ∃ x, x = l2.getD k noPo := ⟨_, rfl⟩
      rw [← hpke] at k0 k1 g1 hrk hpk htk
      rw [hpk.1] at k1 g1
      obtain ⟨dn, hdn⟩ : ∃ m : Nat, pk.1 = (m : Int) := ⟨pk.1.toNat, by omega⟩
      rw [hdn] at k0 hpk
      have hdn16 : dn < 16384 := by omega
      have HDn := hide hdn
      have HPk := hide hpk
      have HTk := hide htk
      have HRk := hide hrk
      have HPd := hide (HPu.out dn (by omega))
      obtain ⟨ed, hed⟩ : ∃ x, x = (enc dn).length := ⟨_, rfl⟩
      have hed10 := (enc_len dn).2
      rw [← hed] at hed10
      have HEd := hide hed
      have b1 : (bn + ed) * 1 ≤ 140737488355328 := by omega
      have b2 : bn + ed ≤ maxLen := by unfold maxLen; omega
      unfold maxLen at g2
      clear hk1 hpk htk hpke hrk hdn hed
      go_upto_region 7 with (fail)
      obtain ⟨w5, hw5⟩ : ∃ x, x = wo.alloc (.cells #[.int .i64 dn, .slice A1 dims c1] 46) := ⟨_, rfl⟩
      obtain ⟨g, hg⟩ : ∃ x, x = wo.heap.size := ⟨_, rfl⟩
      have hb5 : w5.heap[g]? = some (.cells #[.int .i64 dn, .slice A1 dims c1] 46 (0, 0)) := by rw [hw5, hg]; exact heap_alloc_new wo _
      have f5 : Fr No wo w5 := by rw [hw5]; exact (Fr.refl No wo).alloc _
      have q0 := cell_of_row _ _ 0 _ _ _ hb5
      have HQ1 := hide (cell_of_row _ _ 1 _ _ _ hb5)
      have HB5 := hide hb5
      have HF5 := hide (HFk.out.tr f5)
      have HO5 := hide (HOk.out.fr0 f5)
      rw [← hw5, ← hg]
      clear hw5 hg hb5 f5 k0 k1
      have hz5b := HF5.out.size
      obtain ⟨X, hX⟩ : ∃ X, X = (0 : UInt8) :: (enc n ++ ptsB (l2.take k)) := ⟨_, rfl⟩
      rw [← hX] at HBn HO5
      have HX := hide hX
      obtain ⟨at_, hat_⟩ : ∃ x, x = pk.2 := ⟨_, rfl⟩
      rw [← hat_] at HRk HPk
      have HAt := hide hat_
      clear hX hat_
      go_wp2_with (first
        | (go_at_call 44; refine (HPd.out _).mono ?_; rintro en w6 ⟨v6, rfl, hown, hfr⟩; rw [List.nil_append, ← HEd.out] at hown; obtain ⟨A6, c6, rfl, p1, p2, _, p3, _⟩ := hown.form; have HS6 := hide (Src.ofRd (P := Tryz.prog) (size := 1) w6 Tryz.underlying22 A6 ed c6 (by8 (enc dn)) (by rw [by8_length, ← HEd.out, Nat.mul_one]) (by omega) p3 (by8_one _)); have HO6 := hide (HO5.out.fr0 hfr); have HF6 : Hid (Fr No w2 w6) := hide (HF5.out.tr hfr); have hz6 := HF6.out.size; have HQ6 := hide (hfr.cell HQ1.out (fun h => h)); have HB6 := hide (hfr.blk HB5.out (fun h => h)); unfold maxLen at p2; clear hown hfr p3 q0)
        | (at_builtin; refine wpList_append_gen _ rfl (.tmp 33) (.tmp 37) 22 22 rfl w2.heap.size 5 i5 (.int .u8 0) 1 1 Tryz.underlying22 hi5 hz5 hsz5 hby5 rfl u5 bn (by8 X) rfl HO6.out _ ed (by8 (enc dn)) rfl HS6.out b1 b2 hz6 ?_; intro v7 w7 hown hfr hat; have HO7 := hide hown; have HF7 : Hid (Fr No w2 w7) := hide (HF6.out.own hfr (fun g hg => .inl (HO6.out.lt g hg).1)); have q7 := hfr.cell (p := ⟨g, 1, none⟩) HQ6.out (off_own HO6.out (by decide) _ _ _ HB6.out); clear hown hfr hat))
      go_loopw [5, 9, 42] (fun vb _ i wr => ∃ (q bm : Nat), q ≤ dims ∧ i = .int .i64 (q : Nat) ∧ bm ≤ bn + ed + 10 * q ∧ Hid (Fr No w2 wr) ∧ Hid (bm = (X ++ enc dn ++ zzs (at_.take q)).length) ∧ Hid (Own wr w2.heap.size 5 1 vb bm (by8 (X ++ enc dn ++ zzs (at_.take q))))) (fun _ _ i _ => dims - (intOf i).toNat)
      case atStart => exact ⟨0, bn + ed, by omega, by go_num, by omega, HF7, hide (by rw [List.take_zero]; simp [zzs, ← HBn.out, HEd.out]), hide (by rw [List.take_zero]; have h := HO7.out; rw [← by8_append] at h; simpa [zzs] using h)⟩
      case round =>
        clear HO7 HF7 q7
        obtain ⟨wx, rfl⟩ : ∃ wo : World, wo = wr := ⟨_, rfl⟩
        obtain ⟨q, bm, hq, rfl, hbm, HFq, HBm, HOq⟩ := hrel
        by_cases hlq : q < dims
        · have hq1 : q < at_.length := by rw [HPk.out.1]; exact hlq
          obtain ⟨ad1, rfl, _, hx2⟩ := (HRk.out.fr0 HFq.out).intAt hq1
          have hxI := HPk.out.2.1 (at_.getD q 0) (by rw [List.getD, List.getElem?_eq_getElem hq1]; exact List.getElem_mem hq1)
          have htq : at_.take (q + 1) = at_.take q ++ [at_.getD q 0] := take_1 hq1
          obtain ⟨x, hxe⟩ : ∃ x, x = at_.getD q 0 := ⟨_, rfl⟩
          rw [← hxe] at hx2 hxI htq
          have HTq := hide htq
          have HPi := hide (fun W => putI_any none 0 0 0 [] x W rfl (Nat.le_refl _) (Nat.zero_le _) (by omega) (Nat.zero_le _) (fun j u hu => by simp [by8] at hu) hxI.1 hxI.2)
          obtain ⟨ez, hez⟩ : ∃ y, y = (enc (zz x)).length := ⟨_, rfl⟩
          have hez10 := (enc_len (zz x)).2
          rw [← hez] at hez10
          have HEz := hide hez
          have b1 : (bm + ez) * 1 ≤ 140737488355328 := by omega
          have b2 : bm + ez ≤ maxLen := by unfold maxLen; omega
          obtain ⟨Y, hY⟩ : ∃ Y, Y = X ++ enc dn ++ zzs (at_.take q) := ⟨_, rfl⟩
          rw [← hY] at HBm HOq
          have HY := hide hY
          clear hq1 htq hxe hez hY
          go_wp2_with (first
            | (go_at_call 68; refine (HPi.out _).mono ?_; rintro en w8 ⟨v8, rfl, hown, hfr⟩; rw [List.nil_append, ← HEz.out] at hown; obtain ⟨A8, c8, rfl, p1, p2, _, p3, _⟩ := hown.form; have HS8 := hide (Src.ofRd (P := Tryz.prog) (size := 1) w8 Tryz.underlying22 A8 ez c8 (by8 (enc (zz x))) (by rw [by8_length, ← HEz.out, Nat.mul_one]) (by omega) p3 (by8_one _)); have HO8 := hide (HOq.out.fr0 hfr); have HF8 : Hid (Fr No w2 w8) := hide (HFq.out.tr hfr); have hz8 := HF8.out.size; unfold maxLen at p2; clear hown hfr p3)
            | (at_builtin; refine wpList_append_gen _ rfl (.tmp 46) (.tmp 48) 22 22 rfl w2.heap.size 5 i5 (.int .u8 0) 1 1 Tryz.underlying22 hi5 hz5 hsz5 hby5 rfl u5 bm (by8 Y) rfl HO8.out _ ez (by8 (enc (zz x))) rfl HS8.out b1 b2 hz8 ?_; intro v9 w9 hown hfr hat; have HO9 := hide hown; have HF9 : Hid (Fr No w2 w9) := hide (HF8.out.own hfr (fun g hg => .inl (HO8.out.lt g hg).1)); clear hown hfr hat))
          go_roundw
          case rel =>
            have hY1 : X ++ enc dn ++ zzs (at_.take (q + 1)) = Y ++ enc (zz x) := by rw [HTq.out, zzs_snoc, HY.out, List.append_assoc (X ++ enc dn)]
            refine ⟨q + 1, bm + ez, by omega, by go_num, by omega, HF9, hide ?_, hide ?_⟩
            · rw [hY1, List.length_append, ← HBm.out, ← HEz.out]
            · rw [hY1, by8_append]; exact HO9.out
          case measure => simp [intOf]; omega
        · obtain rfl : q = dims := by omega
          have hall : at_.take q = at_ := List.take_of_length_le (by rw [HPk.out.1]; exact Nat.le_refl _)
          rw [hall] at HBm HOq
          have hE : X ++ enc dn ++ zzs at_ = (0 : UInt8) :: (enc n ++ ptsB (l2.take (k + 1))) := by
            rw [HTk.out, ptsB_snoc, HX.out, ptB, HDn.out, Int.toNat_natCast, HAt.out]
            simp [zzs]
          rw [hE] at HBm HOq
          clear hall hE hlq
          go_wp2_with (fail)
          go_roundw
          case rel => exact ⟨k + 1, bm, by omega, by go_num, by omega, HFq, HBm, HOq⟩
          case measure => simp [intOf]; omega
    · obtain rfl : k = n := by omega
      have hall : l2.take k = l2 := List.take_of_length_le (by rw [HL2.out]; exact Nat.le_refl _)
      rw [hall] at HBn HOk
      have HT : Hid (treeP dims (ps.map (·.1)) = (0 : UInt8) :: (enc k ++ ptsB l2)) := hide (by rw [treeP_leaf (by rw [List.length_map, HH.out.len]; exact h8), List.length_map, HH.out.len, HM.out])
      clear hall hlk
      go_wp2_with (fail)
      go_ret
      refine ⟨⟨u5, rfl, ?_⟩, ?_, ?_⟩
      · rw [HT.out, ← HBn.out]; exact HOk.out.lower HF2.out.size
      · exact HF2.out.trans HFk.out (fun i hi e => e.elim)
      · exact HAp.out.fr HFk.out (fun h => h) HGl.out
end Go.Proofs.YtpopbkcbplmcaaaGreat
