/- order's closure, walked; slices.SortFunc with it: the points of a part of a block, in order. -/
import Derived.Test.YtkenjhalamdjfaaBkO
import Derived.Test.YtkenjhalamdjfaaBkS
import Derived.Test.YtkenjhalamdjfaaMem4
namespace Go.Proofs.Ytkenjhalamdjfaa
set_option linter.unusedVariables false
set_option linter.unusedSimpArgs false
open Go.RowKit Go.Shelf Go.Lib Go.Sort

theorem cmpP_or (d : Nat) (a b : Pt) : orL [cmpI (a.2.getD d 0) (b.2.getD d 0), cmpL a.2 b.2, cmpI a.1 b.1] = cmpP d a b := by
  unfold cmpP
  simp only [orL]
  by_cases h : cmpI a.1 b.1 = 0 <;> simp [h]
theorem lift_list {α : Type} {q : α → Prop} : ∀ l : List α, (∀ x ∈ l, q x) → ∃ ys : List {x // q x}, ys.map (·.1) = l
  | [], _ => ⟨[], rfl⟩
  | x :: r, h => by
    obtain ⟨ys, e⟩ := lift_list r (fun y hy => h y (List.mem_cons_of_mem _ hy))
    exact ⟨⟨x, h x List.mem_cons_self⟩ :: ys, by rw [List.map_cons, e]⟩
theorem grow3 (W : World) (a b c : Obj) : (((W.alloc a).alloc b).alloc c).drew = grow (W.drewN 1) (#[a] ++ #[b] ++ #[c]) := by
  rw [alloc_eq_grow, alloc_eq_grow, alloc_eq_grow, grow_grow, grow_grow, drew_grow]
  rfl
theorem holdsK_sortW {α : Type} [Inhabited α] {enc : α → List Value} {w : World} {G off n : Nat} {d d' : Array α} {os : Array Obj} (h : HoldsK enc 2 w G off d) (hs : d'.size = d.size) (hG : G < w.heap.size) : HoldsK enc 2 (sortWorldK enc 2 w G off n d' os) G off d' := by
  unfold sortWorldK
  refine holdsK_grow (enc := enc) (k := 2) _ os G off d' ?_ ?_
  · simpa [putRowK, putRow, mapBlock, Sort.ahead] using hG
  · exact holdsK_putRowK (enc := enc) (k := 2) _ G off d d' (holdsK_ahead (enc := enc) (k := 2) w n G off d h) hs
set_option maxRecDepth 100000 in
set_option maxHeartbeats 2000000 in
theorem clos_any (d bx n ca cb B : Nat) (da db : Int) (ra rb : List Int) (Aa Ab : Option Addr) (W : World) (hd : d < n) (hra : ra.length = n) (hrb : rb.length = n) (h1 : n ≤ ca) (h2 : ca ≤ maxLen) (h3 : n ≤ cb) (h4 : cb ≤ maxLen)
    (hA : Rd W B Aa (iz .i64 ra)) (hB : Rd W B Ab (iz .i64 rb)) (hbx : W.cell? ⟨bx, 0, none⟩ = some (.int .i64 (d : Nat))) :
    Calls Try.prog 29 #[.agg #[.int .i64 da, .slice Aa n ca], .agg #[.int .i64 db, .slice Ab n cb], .pointer (some ⟨bx, 0, none⟩)] W (fun en w' => en = .returned (.int .i64 (cmpP d (da, ra) (db, rb))) ∧ ∃ q os', w' = grow (W.drewN q) os') := by
  have HO := hide (cmpP_or d (da, ra) (db, rb))
  obtain ⟨r, hr⟩ : ∃ x, x = cmpP d (da, ra) (db, rb) := ⟨_, rfl⟩
  rw [← hr] at HO ⊢
  dsimp only at HO
  obtain ⟨W2, hW2⟩ : ∃ x, x = (W.alloc (.cells #[.int .i64 da, .slice Aa n ca] 37)).alloc (.cells #[.int .i64 db, .slice Ab n cb] 37) := ⟨_, rfl⟩
  have f2 : Fr No W W2 := by rw [hW2]; exact ((Fr.refl No W).alloc _).alloc _
  obtain ⟨ada, rfl, _, xa⟩ := (hA.fr0 f2).intAt (j := d) (by rw [hra]; exact hd)
  obtain ⟨adb, rfl, _, xb⟩ := (hB.fr0 f2).intAt (j := d) (by rw [hrb]; exact hd)
  obtain ⟨g0, hg0⟩ : ∃ x, x = W.heap.size := ⟨_, rfl⟩
  obtain ⟨g1, hg1⟩ : ∃ x, x = W.heap.size + 1 := ⟨_, rfl⟩
  have ba : W2.heap[g0]? = some (.cells #[.int .i64 da, .slice (some ada) n ca] 37 (0, 0)) := by
    rw [hW2, hg0, heap_alloc_old _ _ (by simp)]; exact heap_alloc_new W _
  have bb : W2.heap[g1]? = some (.cells #[.int .i64 db, .slice (some adb) n cb] 37 (0, 0)) := by
    have := heap_alloc_new (W.alloc (.cells #[.int .i64 da, .slice (some ada) n ca] 37)) (.cells #[.int .i64 db, .slice (some adb) n cb] 37)
    rw [hW2, hg1]; simpa using this
  have ka0 := cell_of_row _ _ 0 _ _ _ ba
  have ka1 := cell_of_row _ _ 1 _ _ _ ba
  have kb0 := cell_of_row _ _ 0 _ _ _ bb
  have kb1 := cell_of_row _ _ 1 _ _ _ bb
  have kx := f2.cell hbx (fun h => h)
  have hdn : (d : Int) < (n : Int) := by omega
  have hd0 : (0 : Int) ≤ (d : Int) := by omega
  have HC1 := hide (cmpI64_any (ra.getD d 0) (rb.getD d 0) W2.drew)
  have HC2 := hide (cmpL_any (some ada) (some adb) n ca cb B B ra rb W2.drew hra hrb h1 h2 h3 h4 (hA.fr0 f2.drew) (hB.fr0 f2.drew))
  have HC3 := hide (cmpInt_any da db W2.drew)
  have HW2 := hide hW2
  have HR := hide hr
  generalize ra.getD d 0 = ya at xa HC1 HO
  generalize rb.getD d 0 = yb at xb HC1 HO
  generalize cmpI ya yb = z1 at HC1 HO
  generalize cmpL ra rb = z2 at HC2 HO
  generalize cmpI da db = z3 at HC3 HO
  have HS : Hid (W2.cell? ⟨g0, 0, none⟩ = some (.int .i64 da) ∧ W2.cell? ⟨g0, 1, none⟩ = some (.slice (some ada) n ca) ∧ W2.cell? ⟨g1, 0, none⟩ = some (.int .i64 db) ∧ W2.cell? ⟨g1, 1, none⟩ = some (.slice (some adb) n cb) ∧ W2.cell? ⟨bx, 0, none⟩ = some (.int .i64 (d : Nat)) ∧ W2.cell? (ada.add d) = some (.int .i64 ya) ∧ W2.cell? (adb.add d) = some (.int .i64 yb)) := hide ⟨ka0, ka1, kb0, kb1, kx, xa, xb⟩
  have HOr := hide (orL_any (some ⟨W2.heap.size, 0, none⟩) 3 3 (W2.heap.size + 1) [z1, z2, z3] ((W2.alloc (.cells #[.int .i64 z1, .int .i64 z2, .int .i64 z3] 3)).drew) rfl (by omega) (by decide) ((Rd.block (heap_alloc_new W2 (.cells #[.int .i64 z1, .int .i64 z2, .int .i64 z3] 3))).fr0 (Fr.refl No _).drew))
  have f3 : Fr No W2 ((W2.alloc (.cells #[.int .i64 z1, .int .i64 z2, .int .i64 z3] 3)).drew) := ((Fr.refl No W2).alloc _).drew
  have HS2 := hide (And.intro (f3.cell ka0 (fun h => h)) (And.intro (f3.cell ka1 (fun h => h)) (And.intro (f3.cell kb0 (fun h => h)) (And.intro (f3.cell kb1 (fun h => h)) (And.intro (f3.cell kx (fun h => h)) (And.intro (f3.cell xa (fun h => h)) (f3.cell xb (fun h => h))))))))
  rw [HO.out] at HOr
  unfold maxLen at h2 h4
  have HG0 := hide hg0
  have HG1 := hide hg1
  clear ba bb ka0 ka1 kb0 kb1 kx xa xb hA hB hbx f2 hra hrb hr hW2 hg0 hg1 f3
  go_enter Try.func29, Try.ntmps29
  go_wp2_with (fail)
  have hz1 : (W.alloc (.cells #[.int .i64 da, .slice (some ada) n ca] 37)).heap.size = g1 := by rw [HG1.out]; simp
  rw [← HW2.out]
  try rw [hz1]
  try rw [← HG1.out]
  rw [← HG0.out]
  clear hz1
  go_region_held3 (fun W => W.cell? ⟨g0, 0, none⟩ = some (.int .i64 da) ∧ W.cell? ⟨g0, 1, none⟩ = some (.slice (some ada) n ca) ∧ W.cell? ⟨g1, 0, none⟩ = some (.int .i64 db) ∧ W.cell? ⟨g1, 1, none⟩ = some (.slice (some adb) n cb) ∧ W.cell? ⟨bx, 0, none⟩ = some (.int .i64 (d : Nat)) ∧ W.cell? (ada.add d) = some (.int .i64 ya) ∧ W.cell? (adb.add d) = some (.int .i64 yb)) (first | exact HS.out | exact HS2.out) (first
    | (go_at_call 31; refine HC1.out.mono ?_; rintro en w' ⟨rfl, rfl⟩)
    | (go_at_call 32; refine HC2.out.mono ?_; rintro en w' ⟨rfl, rfl⟩)
    | (go_at_call 33; refine HC3.out.mono ?_; rintro en w' ⟨rfl, rfl⟩)
    | (go_at_call 30; refine HOr.out.mono ?_; rintro en w' ⟨rfl, rfl⟩))
  all_goals (
    go_wp2
    go_ret
    exact ⟨rfl, 1, _, by rw [HW2.out]; exact grow3 W _ _ _⟩)
set_option maxRecDepth 100000 in
theorem sortPts_any (d dims bx G off n c B : Nat) (ps : List PoL) (w : World) (hps : ps.length = n) (hn : 1 ≤ n) (hn2 : n < 4611686018427387904) (hd : d < dims) (hok : ∀ p ∈ ps, OkPt w B dims p) (harr : ArrP w G off ps) (hB : B ≤ G) (hbx : w.cell? ⟨bx, 0, none⟩ = some (.int .i64 (d : Nat))) (hne : bx ≠ G) :
    Calls Try.prog 17 #[.slice (some ⟨G, off, none⟩) n c, .func (.func 29) #[] #[.pointer (some ⟨bx, 0, none⟩)]] w (fun en w' => en = .returned (.tuple #[]) ∧ ∃ ps', ps'.Perm ps ∧ ps'.map (·.1) = sortP d (ps.map (·.1)) ∧ ArrP w' G off ps' ∧ Fr (Is G) w w' ∧ Apart2 w w' G off (off + n * 2)) := by
  obtain ⟨ys, hys⟩ : ∃ ys : List (PtS w B dims), ys.map (·.1) = ps := lift_list ps hok
  have hyl : ys.length = n := by rw [← hps, ← hys, List.length_map]
  haveI : Inhabited (PtS w B dims) := ⟨ys.head (by intro e; rw [e] at hyl; simp at hyl; omega)⟩
  obtain ⟨d0, hd0⟩ : ∃ d0 : Array (PtS w B dims), d0 = ys.toArray := ⟨_, rfl⟩
  have hsz : d0.size = n := by rw [hd0]; simpa using hyl
  have hl0 : d0.toList.map (·.1) = ps := by rw [hd0]; simpa using hys
  have hH : HoldsK (encS (w := w) (B := B) (dims := dims)) 2 w G off d0 := holds_arr (by rw [hl0]; exact harr)
  have eg : ∀ args w, (callFunc 29 args).run Try.prog w = .ok (.enter 29 args) w := enters_of Try.func29 (by kernel_rfl) rfl
  have hcmp : CmpLays Try.prog 29 #[.pointer (some ⟨bx, 0, none⟩)] (encS (w := w) (B := B) (dims := dims)) 2 (cmpS (w := w) (B := B) (dims := dims) d) G off d0.size w := by
    intro m os dk hdk x y
    have f := fr_sortW (encS (w := w) (B := B) (dims := dims)) w G off m dk os
    have hS : ∀ k, k < B → ¬ Is G k := fun k hk e => by have e : k = G := e; omega
    have h := clos_any d bx dims x.1.2.2 y.1.2.2 B x.1.1.1 y.1.1.1 x.1.1.2 y.1.1.2 x.1.2.1 y.1.2.1 (sortWorldK (encS (w := w) (B := B) (dims := dims)) 2 w G off m dk os) hd x.2.1 y.2.1 (by have h1 := x.2.1; have h2 := x.2.2.1; omega) x.2.2.2.1 (by have h1 := y.2.1; have h2 := y.2.2.1; omega) y.2.2.2.1 (x.2.2.2.2.fr f hS) (y.2.2.2.2.fr f hS) (f.cell hbx (fun e => hne e))
    have ex : (encS x).toArray = #[.int .i64 x.1.1.1, .slice x.1.2.1 dims x.1.2.2] := by unfold encS pRow; rw [x.2.1]
    have ey : (encS y).toArray = #[.int .i64 y.1.1.1, .slice y.1.2.1 dims y.1.2.2] := by unfold encS pRow; rw [y.2.1]
    rw [ex, ey]
    exact h
  have hc := AnyQ.slices_SortFunc Try.sortBP 2 (fun _ => by kernel_rfl) (fun _ => by kernel_rfl) (encS (w := w) (B := B) (dims := dims)) encS_len encS_one (cmpS (w := w) (B := B) (dims := dims) d) (swoS d) 29 #[.pointer (some ⟨bx, 0, none⟩)] G off c d0 w eg hcmp hH harr.lt (by rw [hsz]; exact hn2)
  rw [hsz] at hc
  refine hc.mono ?_
  rintro en w' ⟨rfl, d', nn, os, hp, hs, rfl⟩
  have hs' : d'.size = n := by rw [hp.1, hsz]
  have hperm : d'.toList.Perm d0.toList := by
    have h := hp.2.2
    rw [show d'.extract 0 n = d' by rw [← hs']; exact Array.extract_size, show d0.extract 0 n = d0 by rw [← hsz]; exact Array.extract_size] at h
    exact h
  refine ⟨rfl, d'.toList.map (·.1), ?_, ?_, ?_, fr_sortW _ _ _ _ _ _ _, ?_⟩
  · rw [← hl0]; exact hperm.map _
  · refine sortP_uniq ?_ ?_
    · rw [← hl0]; exact (hperm.map _).map _
    · rw [List.map_map, List.pairwise_map, List.pairwise_iff_getElem]
      intro i j hi hj hij
      have hjn : j < d'.size := by simpa using hj
      have hin : i < d'.size := by omega
      have h := hs i j (Nat.zero_le _) hij (by rw [← hs']; exact hjn)
      rw [ltOfS] at h
      rw [leP_bel]
      simp only [Function.comp, Array.getElem_toList]
      rw [getElem!_pos d' j hjn, getElem!_pos d' i hin] at h
      rw [h]
      rfl
  · exact arr_holds (holdsK_sortW hH (by rw [hs', hsz]) harr.lt) (Nat.lt_of_lt_of_le harr.lt (fr_sortW _ _ _ _ _ _ _).size)
  · have := apart_sortW (encS (w := w) (B := B) (dims := dims)) w G off nn d' os harr.lt
    rw [hs'] at this
    exact this
end Go.Proofs.Ytkenjhalamdjfaa
