/- Several texts in one: BkEd, BkEf, BkEg, BkEh, BkSp, BkSo, Kit8, Lent8, Open. -/
import Derived.Test.YtpopbkcbplmcaaaGreatK13
import Derived.Lib.SlicesCompact
import Derived.Shelf.Lay
import Derived.Shelf.Sort.Plain
import Derived.Shelf.Slices.In.SortNone
import Derived.Shelf.Slices.CompactI
import Derived.Ground.NamesProg
import Derived.Ground.Names2Prog
import Derived.Sort.OwnSortedInts
import Derived.Lib.RowBridge
import Derived.Test.YtpopbkcbplmcaaaGreatRows
import Derived.ProofKit
import Derived.OpenShut
import Derived.ShutString
import Derived.ChangeOld
import Derived.Below
import Derived.SizedLaws
import Derived.HandedShaped
namespace Go.Proofs.YtpopbkcbplmcaaaGreat
set_option linter.unusedVariables false
set_option linter.unusedSimpArgs false
open Go.RowKit

theorem down_any (base b5 b6 b7 b8 : Nat) (F : FuncId) (g0 : Nat) (Al Ah : Option Addr) (m cl ch : Nat) (low high : List Int) (I : List Pt → World → Prop) (hd : DoC base F g0 I) (hl1 : low.length = m) (hl2 : high.length = m) (hm4 : m ≤ 4) (hcl : m ≤ cl) (hch : m ≤ ch) : ∀ t : TreeT, DownC base b5 b6 b7 b8 F g0 Al Ah m cl ch low high I t := by
  intro t
  induction t with
  | leaf l => exact fun gx W l0 he ht hok hI hn => down_leaf base b5 b6 b7 b8 F g0 Al Ah m cl ch low high I hd hl1 hl2 hm4 hcl hch (fun _ h => h) l gx W l0 he ht hok hI hn
  | cut d c a b ha hb => exact down_cut base b5 b6 b7 b8 F g0 Al Ah m cl ch low high I hd hl1 hl2 hm4 hcl hch d c a b ha hb
set_option maxRecDepth 100000 in
set_option maxHeartbeats 4000000 in
theorem each_in (base : Nat) (F : FuncId) (g0 : Nat) (Al Ah : Option Addr) (m cl ch : Nat) (low high : List Int) (I : List Pt → World → Prop) (hd : DoC base F g0 I) (hl1 : low.length = m) (hl2 : high.length = m) (hm4 : m ≤ 4) (hcl : m ≤ cl) (hch : m ≤ ch) (hc1 : cl ≤ maxLen) (hc2 : ch ≤ maxLen) (gT gn n : Nat) (vlo vhi : Value) (t : TreeT) (W : World) (l0 : List Pt) (hb : base ≤ W.heap.size)
    (hT : W.heap[gT]? = some (.cells #[.int .i64 (m : Nat), .int .i64 (n : Nat), .pointer (some ⟨gn, 0, none⟩), vlo, vhi] 43 (0, 0))) (hgT : gT < base) (ht : TreeM W (fun k => k < base) t gn) (hok : OkT m t) (hI : I l0 W) (hn : l0.length + (flatT t).length ≤ 1048576) (hr1 : Rd W base Al (iz .i64 low)) (hr2 : Rd W base Ah (iz .i64 high)) :
    Calls Tryz.prog 14 #[.pointer (some ⟨gT, 0, none⟩), .slice Al m cl, .slice Ah m ch, .func (.func F) #[] #[.pointer (some ⟨g0, 0, none⟩)]] W (Told base I (l0 ++ eachT low high t) W) := by
  have HI := hide hI
  have HD := hide hd
  have HT := hide hT
  have HTr := hide ht
  have HOk := hide hok
  have HN := hide hn
  have HR1 := hide hr1
  have HR2 := hide hr2
  have HGT := hide hgT
  have HBs := hide hb
  have HL1 := hide hl1
  have HL2 := hide hl2
  have k0 : W.cell? ⟨gT, 0, none⟩ = some (.int .i64 (m : Nat)) := cell_of_row W _ 0 _ _ _ hT
  unfold maxLen at hc1 hc2
  have hmf : ∀ (fn : Fn) (first cap : Array Value) (w : World), (Instr.makeFunc fn first cap).run Tryz.prog w = .ok (.func fn first cap) w := fun _ _ _ _ => rfl
  have hsf := fun (a : Addr) (c : Array Value) (w : World) => run_store Tryz.prog w a (.func (.func 32) #[] c) .plain rfl
  have hbn : ((m : Int) != (m : Int)) = false := by simp
  clear hI hd hT ht hok hn hr1 hr2 hgT hb hl1 hl2
  go_enter Tryz.func14, Tryz.ntmps14
  refine wp_named fun K hK => ?_
  go_upto_region 1 with (fail)
  obtain ⟨W1, hW1⟩ : ∃ x, x = ((W.alloc (.cells #[.slice Al m cl] 24)).alloc (.cells #[.slice Ah m ch] 24)).alloc (.cells #[.func (.func F) #[] #[.pointer (some ⟨g0, 0, none⟩)]] 47) := ⟨_, rfl⟩
  obtain ⟨b5, hb5⟩ : ∃ x, x = W.heap.size := ⟨_, rfl⟩
  rw [← hW1, ← hb5]
  have f1 : Fr No W W1 := by rw [hW1]; exact (((Fr.refl No W).alloc _).alloc _).alloc _
  have hz1 : W1.heap.size = b5 + 3 := by rw [hW1, hb5]; simp
  have e5 : W1.heap[b5]? = some (.cells #[.slice Al m cl] 24 (0, 0)) := by rw [hW1, hb5]; exact (((Fr.refl No _).alloc _).alloc _).blk (heap_alloc_new W _) (fun h => h)
  have e6 : W1.heap[b5 + 1]? = some (.cells #[.slice Ah m ch] 24 (0, 0)) := by
    have h := ((Fr.refl No _).alloc (.cells #[.func (.func F) #[] #[.pointer (some ⟨g0, 0, none⟩)]] 47)).blk (heap_alloc_new (W.alloc (.cells #[.slice Al m cl] 24)) (.cells #[.slice Ah m ch] 24)) (fun h => h)
    rw [hW1, hb5]; simpa using h
  have e7 : W1.heap[b5 + 1 + 1]? = some (.cells #[.func (.func F) #[] #[.pointer (some ⟨g0, 0, none⟩)]] 47 (0, 0)) := by
    have h := heap_alloc_new ((W.alloc (.cells #[.slice Al m cl] 24)).alloc (.cells #[.slice Ah m ch] 24)) (.cells #[.func (.func F) #[] #[.pointer (some ⟨g0, 0, none⟩)]] 47)
    rw [hW1, hb5]; simpa using h
  have k5 : W1.cell? ⟨b5, 0, none⟩ = some (.slice Al m cl) := cell_of_row W1 _ 0 _ _ _ e5
  have k6 : W1.cell? ⟨b5 + 1, 0, none⟩ = some (.slice Ah m ch) := cell_of_row W1 _ 0 _ _ _ e6
  have k0' : W1.cell? ⟨gT, 0, none⟩ = some (.int .i64 (m : Nat)) := f1.cell k0 (fun h => h)
  have HE5 := hide e5
  have HE6 := hide e6
  have HE7 := hide e7
  have HF1 := hide f1
  have HZ1 := hide hz1
  have HB5 := hide hb5
  clear k0 e5 e6 e7 f1 hz1 hb5 hW1
  go_quiet (fail)
  obtain ⟨W2, hW2⟩ : ∃ x, x = W1.drewN nq := ⟨_, rfl⟩
  rw [← hW2]
  have f2 : Fr No W1 W2 := by rw [hW2]; exact (Fr.refl No W1).drewN nq
  have hz2 : W2.heap.size = b5 + 3 := by rw [hW2]; exact HZ1.out
  have HF2 := hide f2
  have HZ2 := hide hz2
  clear hW2 f2 hz2 k5 k6 k0'
  go_upto_region 3 with (fail)
  obtain ⟨W3, hW3⟩ : ∃ x, x = W2.alloc (.cells #[.nilFunc] 69) := ⟨_, rfl⟩
  have f3 : Fr No W2 W3 := by rw [hW3]; exact (Fr.refl No W2).alloc _
  have e8 : W3.heap[W2.heap.size]? = some (.cells #[.nilFunc] 69 (0, 0)) := by rw [hW3]; exact heap_alloc_new W2 _
  obtain ⟨b8, hb8⟩ : ∃ x, x = W2.heap.size := ⟨_, rfl⟩
  rw [← hW3, ← hb8]
  rw [← hb8] at e8
  have k8 : W3.cell? ⟨b8, 0, none⟩ = some .nilFunc := cell_of_row W3 _ 0 _ _ _ e8
  have z8 : W3.frozen? ⟨b8, 0, none⟩ = false := frozen_of_row W3 _ 0 _ _ e8
  have HF3 := hide f3
  have HE8 := hide e8
  have HB8 := hide hb8
  clear hW3 f3 e8 hb8
  go_upto_region 4 with (fail)
  obtain ⟨W4, hW4⟩ : ∃ x, x = W3.setCell ⟨b8, 0, none⟩ (.func (.func 32) #[] #[.pointer (some ⟨b5, 0, none⟩), .pointer (some ⟨b5 + 1, 0, none⟩), .pointer (some ⟨b5 + 1 + 1, 0, none⟩), .pointer (some ⟨b8, 0, none⟩)]) := ⟨_, rfl⟩
  rw [← hW4]
  have hlt3 : b8 = b5 + 3 := by rw [HB8.out]; exact HZ2.out
  have f4 : Fr (Is b8) W3 W4 := by rw [hW4]; exact (Fr.refl (Is b8) W3).setCell (p := ⟨b8, 0, none⟩) (fun _ => rfl) _
  have hF3 : Fr No W W3 := (HF1.out.tr HF2.out).tr HF3.out
  have hF4 : Fr No W W4 := hF3.trans f4 (fun i hi e => by have e : i = b8 := e; have := HB5.out; omega)
  have e8 : W4.heap[b8]? = some (.cells #[(.func (.func 32) #[] #[.pointer (some ⟨b5, 0, none⟩), .pointer (some ⟨b5 + 1, 0, none⟩), .pointer (some ⟨b5 + 1 + 1, 0, none⟩), .pointer (some ⟨b8, 0, none⟩)])] 69 (0, 0)) := by
    rw [hW4]; simp [World.setCell, Array.getElem?_modify, HE8.out, Array.set!]
  have g5 : Fr No W1 W4 := (HF2.out.tr HF3.out).trans f4 (fun i hi e => by have e : i = b8 := e; have := HZ1.out; omega)
  have hEB : EB W4.drew base b5 (b5 + 1) (b5 + 1 + 1) b8 F g0 Al Ah m cl ch low high := ⟨g5.blk HE5.out (fun h => h), g5.blk HE6.out (fun h => h), g5.blk HE7.out (fun h => h), e8, HR1.out.fr0 hF4.drew, HR2.out.fr0 hF4.drew⟩
  have hc := down_any base b5 (b5 + 1) (b5 + 1 + 1) b8 F g0 Al Ah m cl ch low high I HD.out HL1.out HL2.out hm4 hcl hch t gn W4.drew l0 hEB (TreeM.fr hF4.drew (fun _ _ h => h) HTr.out) HOk.out (HD.out.up _ _ _ HI.out hF4.drew) HN.out
  have HC := hide hc
  have kd : W4.drew.cell? ⟨b8, 0, none⟩ = some (.func (.func 32) #[] #[.pointer (some ⟨b5, 0, none⟩), .pointer (some ⟨b5 + 1, 0, none⟩), .pointer (some ⟨b5 + 1 + 1, 0, none⟩), .pointer (some ⟨b8, 0, none⟩)]) := cell_of_row W4.drew _ 0 _ _ _ e8
  have kg : W4.drew.cell? ⟨gT, 2, none⟩ = some (.pointer (some ⟨gn, 0, none⟩)) := cell_of_row W4.drew _ 2 _ _ _ (hF4.drew.blk HT.out (fun h => h))
  have HF4 := hide hF4
  clear hW4 hlt3 f4 hF3 hF4 e8 g5 hEB hc k8 z8
  go_region_held3 (fun W => W.cell? ⟨b8, 0, none⟩ = some (.func (.func 32) #[] #[.pointer (some ⟨b5, 0, none⟩), .pointer (some ⟨b5 + 1, 0, none⟩), .pointer (some ⟨b5 + 1 + 1, 0, none⟩), .pointer (some ⟨b8, 0, none⟩)]) ∧ W.cell? ⟨gT, 2, none⟩ = some (.pointer (some ⟨gn, 0, none⟩))) (first | exact HK1.out | exact ⟨kd, kg⟩) (first
    | (go_at_call 32; refine HC.out.mono ?_; rintro en w1 ⟨⟨⟨r1, rfl⟩, f, hi⟩, he⟩; have f' := Fr.dos0 HF4.out.drew f; have HFn := hide f'; have HIn := hide hi; have HK1 : Hid (w1.cell? ⟨b8, 0, none⟩ = some (.func (.func 32) #[] #[.pointer (some ⟨b5, 0, none⟩), .pointer (some ⟨b5 + 1, 0, none⟩), .pointer (some ⟨b5 + 1 + 1, 0, none⟩), .pointer (some ⟨b8, 0, none⟩)]) ∧ w1.cell? ⟨gT, 2, none⟩ = some (.pointer (some ⟨gn, 0, none⟩))) := hide (And.intro (cell_of_row w1 _ 0 _ _ _ he.e8) (cell_of_row w1 _ 2 _ _ _ (f'.blk HT.out (dos_low HGT.out)))); clear f f' hi he))
  clear kd kg HC
  refine hK _ _ ?_
  go_end0
  exact ⟨⟨_, rfl⟩, HFn.out, HIn.out⟩
set_option maxRecDepth 100000 in
set_option maxHeartbeats 2000000 in
theorem each_nil (F : FuncId) (g0 : Nat) (Al Ah : Option Addr) (n1 n2 cl ch : Nat) (W : World) :
    Calls Tryz.prog 14 #[.pointer none, .slice Al n1 cl, .slice Ah n2 ch, .func (.func F) #[] #[.pointer (some ⟨g0, 0, none⟩)]] W (fun en W' => (∃ r, en = .returned r) ∧ Fr No W W') := by
  go_enter Tryz.func14, Tryz.ntmps14
  refine wp_named fun K hK => ?_
  go_upto_region 1 with (fail)
  obtain ⟨W1, hW1⟩ : ∃ x, x = ((W.alloc (.cells #[.slice Al n1 cl] 24)).alloc (.cells #[.slice Ah n2 ch] 24)).alloc (.cells #[.func (.func F) #[] #[.pointer (some ⟨g0, 0, none⟩)]] 47) := ⟨_, rfl⟩
  obtain ⟨b5, hb5⟩ : ∃ x, x = W.heap.size := ⟨_, rfl⟩
  rw [← hW1, ← hb5]
  have f1 : Fr No W W1 := by rw [hW1]; exact (((Fr.refl No W).alloc _).alloc _).alloc _
  have hz1 : W1.heap.size = b5 + 3 := by rw [hW1, hb5]; simp
  have e5 : W1.heap[b5]? = some (.cells #[.slice Al n1 cl] 24 (0, 0)) := by rw [hW1, hb5]; exact (((Fr.refl No _).alloc _).alloc _).blk (heap_alloc_new W _) (fun h => h)
  have e6 : W1.heap[b5 + 1]? = some (.cells #[.slice Ah n2 ch] 24 (0, 0)) := by
    have h := ((Fr.refl No _).alloc (.cells #[.func (.func F) #[] #[.pointer (some ⟨g0, 0, none⟩)]] 47)).blk (heap_alloc_new (W.alloc (.cells #[.slice Al n1 cl] 24)) (.cells #[.slice Ah n2 ch] 24)) (fun h => h)
    rw [hW1, hb5]; simpa using h
  have e7 : W1.heap[b5 + 1 + 1]? = some (.cells #[.func (.func F) #[] #[.pointer (some ⟨g0, 0, none⟩)]] 47 (0, 0)) := by
    have h := heap_alloc_new ((W.alloc (.cells #[.slice Al n1 cl] 24)).alloc (.cells #[.slice Ah n2 ch] 24)) (.cells #[.func (.func F) #[] #[.pointer (some ⟨g0, 0, none⟩)]] 47)
    rw [hW1, hb5]; simpa using h
  have k5 : W1.cell? ⟨b5, 0, none⟩ = some (.slice Al n1 cl) := cell_of_row W1 _ 0 _ _ _ e5
  have k6 : W1.cell? ⟨b5 + 1, 0, none⟩ = some (.slice Ah n2 ch) := cell_of_row W1 _ 0 _ _ _ e6
  have HF1 := hide f1
  clear e5 e6 e7 f1 hz1 hb5 hW1
  go_quiet (fail)
  go_wp2_with (fail)
  (try simp only [Exit.inBlock, Exit.then])
  refine bodyPost_ret (results_none rfl _ _ _) rfl ?_
  exact ⟨⟨_, rfl⟩, HF1.out.drewN _⟩
set_option maxRecDepth 100000 in
set_option maxHeartbeats 2000000 in
theorem each_low (F : FuncId) (g0 : Nat) (Al Ah : Option Addr) (n1 n2 cl ch : Nat) (W : World) (gT m : Nat) (k0 : W.cell? ⟨gT, 0, none⟩ = some (.int .i64 (m : Nat))) (hne : n1 ≠ m) :
    Calls Tryz.prog 14 #[.pointer (some ⟨gT, 0, none⟩), .slice Al n1 cl, .slice Ah n2 ch, .func (.func F) #[] #[.pointer (some ⟨g0, 0, none⟩)]] W (fun en W' => (∃ r, en = .returned r) ∧ Fr No W W') := by
  have hbn : ((n1 : Int) != (m : Int)) = true := by simp only [bne_iff_ne, ne_eq]; omega
  clear hne
  go_enter Tryz.func14, Tryz.ntmps14
  refine wp_named fun K hK => ?_
  go_upto_region 1 with (fail)
  obtain ⟨W1, hW1⟩ : ∃ x, x = ((W.alloc (.cells #[.slice Al n1 cl] 24)).alloc (.cells #[.slice Ah n2 ch] 24)).alloc (.cells #[.func (.func F) #[] #[.pointer (some ⟨g0, 0, none⟩)]] 47) := ⟨_, rfl⟩
  obtain ⟨b5, hb5⟩ : ∃ x, x = W.heap.size := ⟨_, rfl⟩
  rw [← hW1, ← hb5]
  have f1 : Fr No W W1 := by rw [hW1]; exact (((Fr.refl No W).alloc _).alloc _).alloc _
  have hz1 : W1.heap.size = b5 + 3 := by rw [hW1, hb5]; simp
  have e5 : W1.heap[b5]? = some (.cells #[.slice Al n1 cl] 24 (0, 0)) := by rw [hW1, hb5]; exact (((Fr.refl No _).alloc _).alloc _).blk (heap_alloc_new W _) (fun h => h)
  have e6 : W1.heap[b5 + 1]? = some (.cells #[.slice Ah n2 ch] 24 (0, 0)) := by
    have h := ((Fr.refl No _).alloc (.cells #[.func (.func F) #[] #[.pointer (some ⟨g0, 0, none⟩)]] 47)).blk (heap_alloc_new (W.alloc (.cells #[.slice Al n1 cl] 24)) (.cells #[.slice Ah n2 ch] 24)) (fun h => h)
    rw [hW1, hb5]; simpa using h
  have e7 : W1.heap[b5 + 1 + 1]? = some (.cells #[.func (.func F) #[] #[.pointer (some ⟨g0, 0, none⟩)]] 47 (0, 0)) := by
    have h := heap_alloc_new ((W.alloc (.cells #[.slice Al n1 cl] 24)).alloc (.cells #[.slice Ah n2 ch] 24)) (.cells #[.func (.func F) #[] #[.pointer (some ⟨g0, 0, none⟩)]] 47)
    rw [hW1, hb5]; simpa using h
  have k5 : W1.cell? ⟨b5, 0, none⟩ = some (.slice Al n1 cl) := cell_of_row W1 _ 0 _ _ _ e5
  have k6 : W1.cell? ⟨b5 + 1, 0, none⟩ = some (.slice Ah n2 ch) := cell_of_row W1 _ 0 _ _ _ e6
  have k0' : W1.cell? ⟨gT, 0, none⟩ = some (.int .i64 (m : Nat)) := f1.cell k0 (fun h => h)
  have HF1 := hide f1
  clear k0 e5 e6 e7 f1 hz1 hb5 hW1
  go_quiet (fail)
  go_wp2_with (fail)
  (try simp only [Exit.inBlock, Exit.then])
  refine bodyPost_ret (results_none rfl _ _ _) rfl ?_
  exact ⟨⟨_, rfl⟩, HF1.out.drewN _⟩
set_option maxRecDepth 100000 in
set_option maxHeartbeats 2000000 in
theorem each_high (F : FuncId) (g0 : Nat) (Al Ah : Option Addr) (n1 n2 cl ch : Nat) (W : World) (gT m : Nat) (k0 : W.cell? ⟨gT, 0, none⟩ = some (.int .i64 (m : Nat))) (hne : n2 ≠ n1) (he : n1 = m) :
    Calls Tryz.prog 14 #[.pointer (some ⟨gT, 0, none⟩), .slice Al n1 cl, .slice Ah n2 ch, .func (.func F) #[] #[.pointer (some ⟨g0, 0, none⟩)]] W (fun en W' => (∃ r, en = .returned r) ∧ Fr No W W') := by
  subst he
  have hbn : ((n1 : Int) != (n1 : Int)) = false := by simp
  have hbn2 : ((n2 : Int) != (n1 : Int)) = true := by simp only [bne_iff_ne, ne_eq]; omega
  clear hne
  go_enter Tryz.func14, Tryz.ntmps14
  refine wp_named fun K hK => ?_
  go_upto_region 1 with (fail)
  obtain ⟨W1, hW1⟩ : ∃ x, x = ((W.alloc (.cells #[.slice Al n1 cl] 24)).alloc (.cells #[.slice Ah n2 ch] 24)).alloc (.cells #[.func (.func F) #[] #[.pointer (some ⟨g0, 0, none⟩)]] 47) := ⟨_, rfl⟩
  obtain ⟨b5, hb5⟩ : ∃ x, x = W.heap.size := ⟨_, rfl⟩
  rw [← hW1, ← hb5]
  have f1 : Fr No W W1 := by rw [hW1]; exact (((Fr.refl No W).alloc _).alloc _).alloc _
  have hz1 : W1.heap.size = b5 + 3 := by rw [hW1, hb5]; simp
  have e5 : W1.heap[b5]? = some (.cells #[.slice Al n1 cl] 24 (0, 0)) := by rw [hW1, hb5]; exact (((Fr.refl No _).alloc _).alloc _).blk (heap_alloc_new W _) (fun h => h)
  have e6 : W1.heap[b5 + 1]? = some (.cells #[.slice Ah n2 ch] 24 (0, 0)) := by
    have h := ((Fr.refl No _).alloc (.cells #[.func (.func F) #[] #[.pointer (some ⟨g0, 0, none⟩)]] 47)).blk (heap_alloc_new (W.alloc (.cells #[.slice Al n1 cl] 24)) (.cells #[.slice Ah n2 ch] 24)) (fun h => h)
    rw [hW1, hb5]; simpa using h
  have e7 : W1.heap[b5 + 1 + 1]? = some (.cells #[.func (.func F) #[] #[.pointer (some ⟨g0, 0, none⟩)]] 47 (0, 0)) := by
    have h := heap_alloc_new ((W.alloc (.cells #[.slice Al n1 cl] 24)).alloc (.cells #[.slice Ah n2 ch] 24)) (.cells #[.func (.func F) #[] #[.pointer (some ⟨g0, 0, none⟩)]] 47)
    rw [hW1, hb5]; simpa using h
  have k5 : W1.cell? ⟨b5, 0, none⟩ = some (.slice Al n1 cl) := cell_of_row W1 _ 0 _ _ _ e5
  have k6 : W1.cell? ⟨b5 + 1, 0, none⟩ = some (.slice Ah n2 ch) := cell_of_row W1 _ 0 _ _ _ e6
  have k0' : W1.cell? ⟨gT, 0, none⟩ = some (.int .i64 (n1 : Nat)) := f1.cell k0 (fun h => h)
  have HF1 := hide f1
  clear k0 e5 e6 e7 f1 hz1 hb5 hW1
  go_quiet (fail)
  go_wp2_with (fail)
  (try simp only [Exit.inBlock, Exit.then])
  refine bodyPost_ret (results_none rfl _ _ _) rfl ?_
  exact ⟨⟨_, rfl⟩, HF1.out.drewN _⟩
end Go.Proofs.YtpopbkcbplmcaaaGreat
namespace Go.Proofs.YtpopbkcbplmcaaaGreat
set_option linter.unusedVariables false
set_option linter.unusedSimpArgs false
open Go.RowKit

/-- how many were told. -/
def CntI (g0 : Nat) (l : List Pt) (W : World) : Prop := W.heap[g0]? = some (.cells #[.int .i64 (l.length : Nat)] 3 (0, 0))
set_option maxRecDepth 100000 in
set_option maxHeartbeats 1000000 in
theorem cnt_call (base g0 : Nat) (hg : base ≤ g0) : DoC base 18 g0 (CntI g0) := by
  refine ⟨.inl rfl, fun l W W' h f => f.blk h (fun h => h), fun l p A c W h hl => ?_⟩
  unfold CntI at h
  have f1 : Fr No W (W.alloc (.cells #[.int .i64 p.1, .slice A p.2.length c] 46)) := (Fr.refl No W).alloc _
  have h1 := f1.blk h (fun h => h)
  obtain ⟨W1, hW1⟩ : ∃ x, x = W.alloc (.cells #[.int .i64 p.1, .slice A p.2.length c] 46) := ⟨_, rfl⟩
  rw [← hW1] at f1 h1
  have k1 : W1.cell? ⟨g0, 0, none⟩ = some (.int .i64 (l.length : Nat)) := cell_of_row W1 _ 0 _ _ _ h1
  have z1 : W1.frozen? ⟨g0, 0, none⟩ = false := frozen_of_row W1 _ 0 _ _ h1
  have HF1 := hide f1
  have HH := hide h
  have HH1 := hide h1
  have HW1 := hide hW1
  obtain ⟨n, hn⟩ : ∃ n, n = l.length := ⟨_, rfl⟩
  have HN := hide hn
  rw [← hn] at k1 hl
  obtain ⟨pn, hpn⟩ : ∃ n, n = p.2.length := ⟨_, rfl⟩
  have HPn := hide hpn
  rw [← hpn] at HW1 ⊢
  clear h f1 h1 hW1 hn hpn
  go_enter Tryz.func18, Tryz.ntmps18
  go_upto_region 1 with (fail)
  rw [← HW1.out]
  clear HW1
  go_wp2_with (fail)
  go_end0
  have f2 : Fr (DoS base W) W (W1.setCell ⟨g0, 0, none⟩ (.int .i64 ((n : Int) + 1))) := (HF1.out.any (DoS base W)).setCell (p := ⟨g0, 0, none⟩) (fun _ => ⟨hg, _, _, _, HH.out, .inl rfl⟩) _
  refine ⟨⟨_, rfl⟩, f2, ?_⟩
  unfold CntI
  rw [List.length_append, List.length_singleton, ← HN.out]
  have := HH1.out
  simp [World.setCell, Array.getElem?_modify, this, Array.set!]
theorem Tryz.infoRI : (Tryz.prog.info? 3).map (fun i => (i.zero, i.size, i.bytes)) = some (some (.int .i64 0), 1, 8) := by kernel_rfl
/-- the documents that were told. -/
def RngI (g0 : Nat) (l : List Pt) (W : World) : Prop := ∃ v, W.heap[g0]? = some (.cells #[v] 28 (0, 0)) ∧ Own W g0 3 1 v l.length (iz .i64 (l.map (·.1)))
set_option maxRecDepth 100000 in
set_option maxHeartbeats 2000000 in
theorem rng_call (base g0 : Nat) (hg : base ≤ g0) : DoC base 15 g0 (RngI g0) := by
  refine ⟨.inr rfl, fun l W W' ⟨v, h, o⟩ f => ⟨v, f.blk h (fun h => h), o.fr0 f⟩, fun l p A c W h hl => ?_⟩
  obtain ⟨v, h, o⟩ := h
  obtain ⟨d, P⟩ := p
  dsimp only
  obtain ⟨Av, cv, rfl, hv1, hv2, _⟩ := o.form
  obtain ⟨n, hn⟩ : ∃ n, n = l.length := ⟨_, rfl⟩
  have HN := hide hn
  rw [← hn] at h o hl hv1
  obtain ⟨pn, hpn⟩ : ∃ n, n = P.length := ⟨_, rfl⟩
  rw [← hpn]
  have f1 : Fr No W (W.alloc (.cells #[.int .i64 d, .slice A pn c] 46)) := (Fr.refl No W).alloc _
  have hp1 := heap_alloc_new W (.cells #[.int .i64 d, .slice A pn c] 46)
  obtain ⟨W1, hW1⟩ : ∃ x, x = W.alloc (.cells #[.int .i64 d, .slice A pn c] 46) := ⟨_, rfl⟩
  rw [← hW1] at f1 hp1
  have h1 := f1.blk h (fun h => h)
  have k1 : W1.cell? ⟨g0, 0, none⟩ = some (.slice Av n cv) := cell_of_row W1 _ 0 _ _ _ h1
  have z1 : W1.frozen? ⟨g0, 0, none⟩ = false := frozen_of_row W1 _ 0 _ _ h1
  have kp : W1.cell? ⟨W.heap.size, 0, none⟩ = some (.int .i64 d) := cell_of_row W1 _ 0 _ _ _ hp1
  have HSr := hide (Src.one (P := Tryz.prog) W1 (e := 3) Tryz.underlying28 (.int .i64 d) rfl)
  have HO := hide ((o.fr0 f1).fr0 ((Fr.refl No W1).alloc (.cells #[.int .i64 d] 3)))
  have HO0 := hide o
  have HF1 := hide f1
  have HH := hide h
  have HH1 := hide h1
  have HW1 := hide hW1
  have hgs : g0 < W.heap.size := (Array.getElem?_eq_some_iff.1 h).1
  have hz1 : W.heap.size ≤ W1.heap.size := f1.size
  have hzl : g0 ≤ (W1.alloc (.cells #[.int .i64 d] 3)).heap.size := by simp; omega
  obtain ⟨i0, hi, hz, hsz, hby⟩ := info_parts Tryz.infoRI
  have b1 : (n + 1) * 8 ≤ 140737488355328 := by omega
  have b2 : n + 1 ≤ maxLen := by unfold maxLen; omega
  clear h o f1 h1 hW1 hn hpn hp1 hv1 hv2
  go_enter Tryz.func15, Tryz.ntmps15
  go_upto_region 1 with (fail)
  rw [← HW1.out]
  clear HW1
  go_wp2_with (at_builtin; refine wpList_append_gen _ rfl (.tmp 3) (.tmp 6) 28 28 rfl g0 3 i0 (.int .i64 0) 1 8 Tryz.underlying28 hi hz hsz hby rfl _ n _ rfl HO.out _ 1 [.int .i64 d] rfl HSr.out b1 b2 hzl ?_; intro v2 w2 hown hfr hat; have hk := hfr.blk (((Fr.refl No W1).alloc (.cells #[.int .i64 d] 3)).blk HH1.out (fun h => h)) (fun e => HO0.out.ne_blk e HH.out (by decide)); obtain ⟨A2, c2, rfl, x1, x2, _⟩ := hown.form; have k2 : w2.cell? ⟨g0, 0, none⟩ = some (.slice Av n cv) := cell_of_row w2 _ 0 _ _ _ hk; have z2 : w2.frozen? ⟨g0, 0, none⟩ = false := frozen_of_row w2 _ 0 _ _ hk; have HK := hide hk; have HOn := hide hown; have HFn := hide hfr; clear hown hfr hat hk)
  go_end0
  obtain ⟨W4, hW4⟩ : ∃ x, x = w2.setCell ⟨g0, 0, none⟩ (.slice A2 (n + 1) c2) := ⟨_, rfl⟩
  have e1 : (28 : TypeId) ≠ 3 := by decide
  have f4 : Fr (Is g0) w2 W4 := by rw [hW4]; exact (Fr.refl (Is g0) w2).setCell (p := ⟨g0, 0, none⟩) (fun _ => rfl) _
  have fA : Fr No W (W1.alloc (.cells #[.int .i64 d] 3)) := HF1.out.alloc _
  have fB : Fr (DoS base W) W w2 := (fA.any (DoS base W)).trans HFn.out (fun i hi e => by
    obtain ⟨h1, cs, fz, h2⟩ := HO0.out.cellsT e
    exact ⟨by omega, cs, fz, _, h2, .inl rfl⟩)
  have fC : Fr (DoS base W) W W4 := fB.trans f4 (fun i hi e => by
    have e : i = g0 := e
    subst e
    exact ⟨hg, _, _, _, HH.out, .inr rfl⟩)
  rw [← hW4]
  refine ⟨⟨_, rfl⟩, fC, .slice A2 (n + 1) c2, ?_, ?_⟩
  · rw [hW4]; simp [World.setCell, Array.getElem?_modify, HK.out, Array.set!]
  · rw [List.length_append, List.length_singleton, ← HN.out, List.map_append]
    have := HOn.out.fr f4 (fun k hk e => HOn.out.ne_blk (by rw [show g0 = k from (show k = g0 from e).symm]; exact hk) HK.out (by decide))
    simpa [iz] using this
end Go.Proofs.YtpopbkcbplmcaaaGreat
namespace Go.Proofs.YtpopbkcbplmcaaaGreat
set_option linter.unusedVariables false
set_option linter.unusedSimpArgs false
open Go.RowKit

/-- a tree that is below. -/
def TrQ (W : World) (base gT dims : Nat) (l : List Pt) : Prop := ∃ gn vlo vhi, W.heap[gT]? = some (.cells #[.int .i64 (dims : Nat), .int .i64 (l.length : Nat), .pointer (some ⟨gn, 0, none⟩), vlo, vhi] 43 (0, 0)) ∧ gT < base ∧ TreeM W (fun k => k < base) (treeT dims l) gn
theorem TrQ.fr0 {W W' : World} {base gT dims : Nat} {l : List Pt} (h : TrQ W base gT dims l) (f : Fr No W W') : TrQ W' base gT dims l := by
  obtain ⟨gn, vlo, vhi, h1, h2, h3⟩ := h
  exact ⟨gn, vlo, vhi, f.blk h1 (fun h => h), h2, TreeM.fr f (fun _ _ h => h) h3⟩
theorem TrM.q {w : World} {b gT dims : Nat} {l : List Pt} (h : TrM w b gT dims l) : TrQ w w.heap.size gT dims l := by
  obtain ⟨gn, vlo, vhi, h1, h2, _⟩ := h.ex
  exact ⟨gn, vlo, vhi, h1, (Array.getElem?_eq_some_iff.1 h1).1, h2.mono fun k hk => hk.2⟩
/-- the points that are told. -/
def boxT (dims : Nat) (l : List Pt) (low high : List Int) : List Pt := if low.length = dims ∧ high.length = dims then eachT low high (treeT dims l) else []
def boxP (dims : Nat) (l : List Pt) (low high : List Int) : List Pt := if low.length = dims ∧ high.length = dims then l.filter (inB low high) else []
theorem boxT_perm {dims : Nat} {l : List Pt} {low high : List Int} (hm : mayP (dims : Int) l) : (boxT dims l low high).Perm (boxP dims l low high) := by
  unfold boxT boxP
  split
  · rw [eachT_eq dims low high (by have := hm.1; omega) _ l rfl (fun p hp => by have := (hm.2.2.2 p hp).1; omega)]
    exact (flatT_perm dims _ l rfl).filter _
  · exact List.Perm.refl _
theorem boxT_len {dims : Nat} {l : List Pt} {low high : List Int} : (boxT dims l low high).length ≤ l.length := by
  unfold boxT
  split
  · have := eachT_len low high (treeT dims l)
    rw [(flatT_perm dims _ l rfl).length_eq] at this
    exact this
  · exact Nat.zero_le _
theorem boxP_len {dims : Nat} {l : List Pt} {low high : List Int} : (boxP dims l low high).length ≤ l.length := by
  unfold boxP
  split
  · exact List.length_filter_le _ _
  · exact Nat.zero_le _
theorem each_any (base : Nat) (F : FuncId) (g0 : Nat) (Al Ah : Option Addr) (n1 n2 cl ch : Nat) (low high : List Int) (I : List Pt → World → Prop) (hd : DoC base F g0 I) (hl1 : low.length = n1) (hl2 : high.length = n2) (h1 : n1 ≤ cl) (h2 : n2 ≤ ch) (hc1 : cl ≤ maxLen) (hc2 : ch ≤ maxLen) (gT dims : Nat) (l : List Pt) (W : World) (hb : base ≤ W.heap.size)
    (hT : TrQ W base gT dims l) (hm : mayP (dims : Int) l) (hI : I [] W) (hr1 : Rd W base Al (iz .i64 low)) (hr2 : Rd W base Ah (iz .i64 high)) :
    Calls Tryz.prog 14 #[.pointer (some ⟨gT, 0, none⟩), .slice Al n1 cl, .slice Ah n2 ch, .func (.func F) #[] #[.pointer (some ⟨g0, 0, none⟩)]] W (Told base I (boxT dims l low high) W) := by
  obtain ⟨gn, vlo, vhi, h3, h4, h5⟩ := hT
  have k0 : W.cell? ⟨gT, 0, none⟩ = some (.int .i64 (dims : Nat)) := cell_of_row W _ 0 _ _ _ h3
  unfold boxT
  rw [hl1, hl2]
  by_cases he1 : n1 = dims
  · by_cases he2 : n2 = dims
    · rw [if_pos ⟨he1, he2⟩]
      subst he1
      subst he2
      have hlen : (flatT (treeT n2 l)).length ≤ 1048576 := by rw [(flatT_perm n2 _ l rfl).length_eq]; exact hm.2.2.1
      have := each_in base F g0 Al Ah n2 cl ch low high I hd hl1 hl2 (by have := hm.2.1; omega) h1 h2 hc1 hc2 gT gn _ vlo vhi (treeT n2 l) W [] hb h3 h4 h5 (okT_tree (by have := hm.1; omega) _ l rfl (fun p hp => by have := (hm.2.2.2 p hp).1; omega)) hI (by simpa using hlen) hr1 hr2
      simpa using this
    · rw [if_neg (fun h => he2 h.2)]
      subst he1
      exact (each_high F g0 Al Ah n1 n2 cl ch W gT n1 k0 he2 rfl).mono fun en W' h => ⟨h.1, h.2.any _, hd.up _ _ _ hI h.2⟩
  · rw [if_neg (fun h => he1 h.1)]
    exact (each_low F g0 Al Ah n1 n2 cl ch W gT dims k0 he1).mono fun en W' h => ⟨h.1, h.2.any _, hd.up _ _ _ hI h.2⟩
theorem fr_dos {w W W' : World} (h : Fr No w W) (k : Fr (DoS w.heap.size W) W W') : Fr No w W' := h.trans k (fun i hi e => by have := e.1; omega)
set_option maxRecDepth 100000 in
set_option maxHeartbeats 2000000 in
theorem count_any (b gT dims : Nat) (l : List Pt) (Al Ah : Option Addr) (n1 n2 cl ch B1 B2 : Nat) (low high : List Int) (w : World) (hT : TrM w b gT dims l) (hm : mayP (dims : Int) l) (hl1 : low.length = n1) (hl2 : high.length = n2) (h1 : n1 ≤ cl) (h2 : n2 ≤ ch) (hc1 : cl ≤ maxLen) (hc2 : ch ≤ maxLen) (hB1 : B1 ≤ w.heap.size) (hB2 : B2 ≤ w.heap.size) (hr1 : Rd w B1 Al (iz .i64 low)) (hr2 : Rd w B2 Ah (iz .i64 high)) :
    Calls Tryz.prog 8 #[.pointer (some ⟨gT, 0, none⟩), .slice Al n1 cl, .slice Ah n2 ch] w (fun en w' => en = .returned (.int .i64 ((boxP dims l low high).length : Nat)) ∧ Fr No w w') := by
  have hmf : ∀ (fn : Fn) (first cap : Array Value) (w : World), (Instr.makeFunc fn first cap).run Tryz.prog w = .ok (.func fn first cap) w := fun _ _ _ _ => rfl
  rw [← (boxT_perm (low := low) (high := high) hm).length_eq]
  have HE := hide (fun W (f : Fr No w W) (hI : CntI w.heap.size [] W) => each_any w.heap.size _ w.heap.size Al Ah n1 n2 cl ch low high _ (cnt_call w.heap.size w.heap.size (Nat.le_refl _)) hl1 hl2 h1 h2 hc1 hc2 gT dims l W f.size (hT.q.fr0 f) hm hI ((hr1.more hB1).fr0 f) ((hr2.more hB2).fr0 f))
  clear hT hm hl1 hl2 hr1 hr2 h1 h2 hc1 hc2
  go_enter Tryz.func8, Tryz.ntmps8
  go_wp2_with (fail)
  have hc := HE.out (w.alloc (.cells #[.int .i64 0] 3)) ((Fr.refl No w).alloc _) (heap_alloc_new w _)
  clear HE
  refine hc.mono ?_
  rintro en w2 ⟨⟨r, rfl⟩, f, hi⟩
  have HF := hide (fr_dos ((Fr.refl No w).alloc _) f)
  have hk : w2.cell? ⟨w.heap.size, 0, none⟩ = some (.int .i64 ((boxT dims l low high).length : Nat)) := cell_of_row w2 _ 0 _ _ _ hi
  clear hc f hi
  obtain ⟨n, hn⟩ : ∃ n, n = (boxT dims l low high).length := ⟨_, rfl⟩
  have HN := hide hn
  rw [← hn] at hk
  clear hn
  go_wp2_with (fail)
  go_ret
  rw [← HN.out]
  exact ⟨rfl, HF.out⟩
end Go.Proofs.YtpopbkcbplmcaaaGreat
namespace Go.Proofs.YtpopbkcbplmcaaaGreat
set_option linter.unusedVariables false
set_option linter.unusedSimpArgs false
open Go.RowKit

set_option maxRecDepth 100000 in
set_option maxHeartbeats 400000 in
theorem blen_any (b gT dims : Nat) (l : List Pt) (w : World) (hT : TrM w b gT dims l) : Calls Tryz.prog 5 #[.pointer (some ⟨gT, 0, none⟩)] w (Ret (.int .i64 (l.length : Nat)) w) := by
  obtain ⟨gn, vlo, vhi, h1, _⟩ := hT.ex
  have k1 : w.cell? ⟨gT, 1, none⟩ = some (.int .i64 (l.length : Nat)) := cell_of_row w _ 1 _ _ _ h1
  clear h1
  generalize l.length = n at k1 ⊢
  go_enter Tryz.func5, Tryz.ntmps5
  go_wp2
  go_ret
  exact ⟨rfl, rfl⟩
set_option maxRecDepth 100000 in
set_option maxHeartbeats 400000 in
theorem bdims_any (b gT dims : Nat) (l : List Pt) (w : World) (hT : TrM w b gT dims l) : Calls Tryz.prog 6 #[.pointer (some ⟨gT, 0, none⟩)] w (Ret (.int .i64 (dims : Nat)) w) := by
  obtain ⟨gn, vlo, vhi, h1, _⟩ := hT.ex
  have k1 : w.cell? ⟨gT, 0, none⟩ = some (.int .i64 (dims : Nat)) := cell_of_row w _ 0 _ _ _ h1
  clear h1
  go_enter Tryz.func6, Tryz.ntmps6
  go_wp2
  go_ret
  exact ⟨rfl, rfl⟩
set_option maxRecDepth 100000 in
set_option maxHeartbeats 400000 in
theorem blen_nil (w : World) : Calls Tryz.prog 5 #[.pointer none] w (Ret (.int .i64 0) w) := by
  go_enter Tryz.func5, Tryz.ntmps5
  go_wp2
  go_ret
  exact ⟨rfl, rfl⟩
set_option maxRecDepth 100000 in
set_option maxHeartbeats 400000 in
theorem bdims_nil (w : World) : Calls Tryz.prog 6 #[.pointer none] w (Ret (.int .i64 0) w) := by
  go_enter Tryz.func6, Tryz.ntmps6
  go_wp2
  go_ret
  exact ⟨rfl, rfl⟩
set_option maxRecDepth 100000 in
set_option maxHeartbeats 400000 in
theorem bounds_nil (w : World) : Calls Tryz.prog 4 #[.pointer none] w (Ret (.tuple #[.slice none 0 0, .slice none 0 0]) w) := by
  go_enter Tryz.func4, Tryz.ntmps4
  go_wp2
  go_ret2
  exact ⟨rfl, rfl⟩
/-- two rows of the call's own. -/
def Gives2 (w : World) (xs ys : List Int) (en : Ending) (w' : World) : Prop := ∃ v1 v2, en = .returned (.tuple #[v1, v2]) ∧ Own w' w.heap.size 2 1 v1 xs.length (iz .i64 xs) ∧ Own w' w.heap.size 2 1 v2 ys.length (iz .i64 ys) ∧ (∀ k, v1.ownBlock = some k → v2.ownBlock ≠ some k) ∧ Fr No w w'
set_option maxRecDepth 100000 in
set_option maxHeartbeats 4000000 in
theorem bounds_any (b gT dims : Nat) (l : List Pt) (w : World) (hT : TrM w b gT dims l) (hm : mayP (dims : Int) l) : Calls Tryz.prog 4 #[.pointer (some ⟨gT, 0, none⟩)] w (Gives2 w (lowsB dims l) (highsB dims l)) := by
  obtain ⟨gn, vlo, vhi, h1, _, o1, o2⟩ := hT.ex
  obtain ⟨A1, c1, rfl, p1, p2, _, p3, _⟩ := o1.form
  obtain ⟨A2, c2, rfl, q1, q2, _, q3, _⟩ := o2.form
  have hd1 : (lowsB dims l).length ≤ 4 := by
    have := hm.2.1
    unfold lowsB
    split
    · simp
    · simp; omega
  have hd2 : (highsB dims l).length ≤ 4 := by
    have := hm.2.1
    unfold highsB
    split
    · simp
    · simp; omega
  have HC1 := hide (fun W (f : Fr No w W) => cloneI_any A1 _ c1 w.heap.size (lowsB dims l) W rfl p1 p2 (by omega) (p3.fr0 f))
  have HC2 := hide (fun W (f : Fr No w W) => cloneI_any A2 _ c2 w.heap.size (highsB dims l) W rfl q1 q2 (by omega) (q3.fr0 f))
  have HT := hide h1
  unfold Gives2
  obtain ⟨xs, hxs⟩ : ∃ x, x = lowsB dims l := ⟨_, rfl⟩
  obtain ⟨ys, hys⟩ : ∃ x, x = highsB dims l := ⟨_, rfl⟩
  rw [← hxs] at HC1 HT ⊢
  rw [← hys] at HC2 HT ⊢
  obtain ⟨n1, hn1⟩ : ∃ x, x = xs.length := ⟨_, rfl⟩
  obtain ⟨n2, hn2⟩ : ∃ x, x = ys.length := ⟨_, rfl⟩
  have HC1' : Hid (∀ W, Fr No w W → Calls Tryz.prog 13 #[.slice A1 n1 c1] W (GivesI W xs)) := hide (by rw [hn1]; exact HC1.out)
  have HC2' : Hid (∀ W, Fr No w W → Calls Tryz.prog 13 #[.slice A2 n2 c2] W (GivesI W ys)) := hide (by rw [hn2]; exact HC2.out)
  rw [← hn1, ← hn2] at HT
  rw [← hn1, ← hn2]
  have k3 : w.drew.cell? ⟨gT, 3, none⟩ = some (.slice A1 n1 c1) := cell_of_row w _ 3 _ _ _ HT.out
  have k4 : w.drew.cell? ⟨gT, 4, none⟩ = some (.slice A2 n2 c2) := cell_of_row w _ 4 _ _ _ HT.out
  have HN1 := hide hn1
  have HN2 := hide hn2
  clear HC1 HC2 h1 o1 o2 p1 p2 p3 q1 q2 q3 hd1 hd2 hxs hys hn1 hn2 hT hm
  go_enter Tryz.func4, Tryz.ntmps4
  go_upto_region 3 with (fail)
  have HF0 : Hid (Fr No w w.drew) := hide (Fr.refl No w).drew
  go_region_held3 (fun W => W.cell? ⟨gT, 3, none⟩ = some (.slice A1 n1 c1) ∧ W.cell? ⟨gT, 4, none⟩ = some (.slice A2 n2 c2)) (first | exact HK2.out | exact HK1.out | exact ⟨k3, k4⟩) (first
    | (go_at_call 13; refine (HC1'.out _ HF0.out).mono ?_; rintro en w1 ⟨v1, rfl, o1, f1⟩; have HO1 := hide o1; have HF1 := hide (HF0.out.tr f1); have HK1 := hide (And.intro (f1.cell k3 (fun h => h)) (f1.cell k4 (fun h => h))); have HC1 := HC1'; clear HC1' o1 f1)
    | (go_at_call 13; refine (HC2'.out _ HF1.out).mono ?_; rintro en w2 ⟨v2, rfl, o2, f2⟩; have HO2 := hide o2; have HO12 := hide (HO1.out.fr0 f2); have HSz := hide f2.size; have HF2 := hide (HF1.out.tr f2); have HK2 := hide (And.intro (f2.cell HK1.out.1 (fun h => h)) (f2.cell HK1.out.2 (fun h => h))); clear HC2' o2 f2))
  go_wp2_with (fail)
  go_ret2
  refine ⟨_, _, rfl, (by rw [HN1.out]; exact HO12.out), (by rw [HN2.out]; exact HO2.out.lower HF1.out.size), ?_, HF2.out⟩
  intro k h1 h2
  have a1 := (HO1.out.lt k h1).2
  have a2 := (HO2.out.lt k h2).1
  omega
end Go.Proofs.YtpopbkcbplmcaaaGreat
namespace Go.Proofs.YtpopbkcbplmcaaaGreat
set_option linter.unusedVariables false
set_option linter.unusedSimpArgs false
open Go.RowKit

theorem take_getD0 {α : Type} {l : List α} {m : Nat} (d : α) (h : m < l.length) : l.take (m + 1) = l.take m ++ [l.getD m d] := by
  rw [List.take_succ_eq_append_getElem h]
  congr 2
  simp [List.getElem?_eq_getElem h]
def sortZ (l : List Int) : List Int := l.mergeSort (fun x y => decide (x ≤ y))
def leZ (l : List Int) : Prop := l.Pairwise (· ≤ ·)
def ltZ (l : List Int) : Prop := l.Pairwise (· < ·)
theorem sortZ_le (l : List Int) : leZ (sortZ l) := by
  have h := List.pairwise_mergeSort (le := fun x y : Int => decide (x ≤ y)) (fun a b c h1 h2 => by simp only [decide_eq_true_eq] at *; omega) (fun a b => by simp only [Bool.or_eq_true, decide_eq_true_eq]; omega) l
  exact h.imp (fun h => of_decide_eq_true h)
theorem sortZ_perm (l : List Int) : (sortZ l).Perm l := List.mergeSort_perm l _
theorem sortZ_len (l : List Int) : (sortZ l).length = l.length := List.length_mergeSort l
theorem sortZ_nil : sortZ [] = [] := by simp [sortZ]
/-- texts in order, each once. -/
def setZ (l : List Int) : List Int := Lib.compact (sortZ l)
theorem compact_stepZ (l : List Int) (h : leZ l) : ∀ m, m ≤ l.length → ltZ (Lib.compactUpTo l.toArray m) ∧ (∀ t, t ∈ Lib.compactUpTo l.toArray m ↔ t ∈ l.take m) ∧ (∀ t ∈ Lib.compactUpTo l.toArray m, ∀ k, m - 1 = k → t ≤ l.getD k 0)
  | 0, _ => by simp [Lib.compactUpTo, ltZ]
  | m + 1, hm => by
    obtain ⟨h1, h2, h3⟩ := compact_stepZ l h m (by omega)
    have hlt : m < l.length := hm
    have hget : l.toArray[m]! = l.getD m 0 := by simp [List.getD, List.getElem?_eq_getElem hlt, getElem!_pos, hlt]
    have hle : ∀ t ∈ l.take m, t ≤ l.getD m 0 := fun t ht => by
      obtain ⟨i, hi, rfl⟩ := List.getElem_of_mem ht
      rw [List.length_take] at hi
      rw [List.getElem_take, List.getD, List.getElem?_eq_getElem hlt]
      exact List.pairwise_iff_getElem.1 h i m (by omega) hlt (by omega)
    rw [Lib.compactUpTo_succ, hget, take_getD0 (0 : Int) hlt]
    by_cases hk : Lib.keeps l.toArray m = true
    · rw [if_pos hk]
      have hlast : ∀ t ∈ Lib.compactUpTo l.toArray m, t < l.getD m 0 := fun t ht => by
        have hm0 : 0 < m := by
          rcases Nat.eq_zero_or_pos m with e | e
          · subst e; simp [Lib.compactUpTo] at ht
          · exact e
        have hlt1 : m - 1 < l.length := by omega
        have hp : l.toArray[m - 1]! = l.getD (m - 1) 0 := by simp [List.getD, List.getElem?_eq_getElem hlt1, getElem!_pos, hlt1]
        have hne : l.getD (m - 1) 0 ≠ l.getD m 0 := by
          unfold Lib.keeps at hk
          have := of_decide_eq_true hk
          rcases this with h | h
          · omega
          · rw [hget, hp] at h; exact fun e => h e.symm
        have hle1 := h3 t ht (m - 1) rfl
        have hle2 : l.getD (m - 1) 0 ≤ l.getD m 0 := hle _ (by
          rw [List.getD, List.getElem?_eq_getElem hlt1]
          exact List.mem_take_iff_getElem.2 ⟨m - 1, by omega, rfl⟩)
        have := (Int.lt_iff_le_and_ne.2 ⟨hle2, hne⟩)
        exact Int.lt_of_le_of_lt hle1 this
      refine ⟨?_, fun t => ?_, fun t ht k hk => ?_⟩
      · unfold ltZ
        rw [List.pairwise_append]
        exact ⟨h1, by simp, fun a ha b hb => by rw [List.mem_singleton.1 hb]; exact hlast a ha⟩
      · rw [List.mem_append, List.mem_append, h2]
      · have e : k = m := by omega
        subst e
        rcases List.mem_append.1 ht with ht | ht
        · exact hle t ((h2 t).1 ht)
        · rw [List.mem_singleton.1 ht]; exact Int.le_refl _
    · have hk' : Lib.keeps l.toArray m = false := by simpa using hk
      rw [hk', if_neg (by decide), List.append_nil]
      have hm0 : 0 < m := by
        rcases Nat.eq_zero_or_pos m with e | e
        · subst e; simp [Lib.keeps] at hk'
        · exact e
      have hlt1 : m - 1 < l.length := by omega
      have hp : l.toArray[m - 1]! = l.getD (m - 1) 0 := by simp [List.getD, List.getElem?_eq_getElem hlt1, getElem!_pos, hlt1]
      have heq : l.getD m 0 = l.getD (m - 1) 0 := by
        unfold Lib.keeps at hk'
        have := of_decide_eq_false hk'
        rw [hget, hp] at this
        exact Classical.byContradiction fun e => this (.inr e)
      have hmem : l.getD m 0 ∈ l.take m := by
        rw [heq, List.getD, List.getElem?_eq_getElem hlt1]
        exact List.mem_take_iff_getElem.2 ⟨m - 1, by omega, rfl⟩
      refine ⟨h1, fun t => ?_, fun t ht k hk => ?_⟩
      · rw [h2, List.mem_append, List.mem_singleton]
        exact ⟨.inl, fun h => h.elim id (fun e => e ▸ hmem)⟩
      · have e : k = m := by omega
        subst e
        exact hle t ((h2 t).1 ht)
theorem compact_setZ {l : List Int} (h : leZ l) : ltZ (Lib.compact l) ∧ ∀ t, t ∈ Lib.compact l ↔ t ∈ l := by
  obtain ⟨h1, h2, _⟩ := compact_stepZ l h l.length (Nat.le_refl _)
  rw [List.take_length] at h2
  exact ⟨h1, h2⟩
theorem setZ_lt (l : List Int) : ltZ (setZ l) := (compact_setZ (sortZ_le l)).1
theorem setZ_mem (l : List Int) (t : Int) : t ∈ setZ l ↔ t ∈ l := by
  rw [setZ, (compact_setZ (sortZ_le l)).2]
  exact (sortZ_perm l).mem_iff
theorem ltZ_nodup {l : List Int} (h : ltZ l) : l.Nodup := h.imp (fun h e => by rw [e] at h; exact Int.lt_irrefl _ h)
/-- strictly ascending rows of the same texts are the same. -/
theorem ltZ_ext {l m : List Int} (h1 : ltZ l) (h2 : ltZ m) (h : ∀ t, t ∈ l ↔ t ∈ m) : l = m :=
  ((List.perm_ext_iff_of_nodup (ltZ_nodup h1) (ltZ_nodup h2)).2 h).eq_of_pairwise (fun a b _ _ h1 h2 => absurd (Int.lt_trans h1 h2) (Int.lt_irrefl _)) h1 h2
theorem setZ_of {l m : List Int} (h1 : ltZ m) (h : ∀ t, t ∈ m ↔ t ∈ l) : setZ l = m := ltZ_ext (setZ_lt l) h1 (fun t => by rw [setZ_mem, h])
theorem setZ_of_lt {l : List Int} (h : ltZ l) : setZ l = l := setZ_of h (fun _ => Iff.rfl)
theorem setZ_perm {l m : List Int} (h : l.Perm m) : setZ l = setZ m := setZ_of (setZ_lt m) (fun t => by rw [setZ_mem]; exact h.mem_iff.symm)
theorem compactZ_le (l : List Int) : (Lib.compact l).length ≤ l.length := by
  unfold Lib.compact Lib.compactUpTo
  rw [List.length_map]
  exact Nat.le_trans (List.length_filter_le _ _) (by simp)
/-- the documents of the points in a box. -/
def rngZ (dims : Nat) (l : List Pt) (low high : List Int) : List Int := setZ ((boxP dims l low high).map (·.1))
end Go.Proofs.YtpopbkcbplmcaaaGreat
namespace Go.Proofs.YtpopbkcbplmcaaaGreat
set_option linter.unusedVariables false
set_option linter.unusedSimpArgs false
open Go.Shelf Go.RowKit Go.Lib Go.Sort
shelf_lay Lays.n189 Nm 189 at Tryz as Tryz.sortInts
shelf_lay Lays2.n20 Nm2 20 at Tryz as Tryz.compactInts
/-- a slice of the call's own, sorted. -/
theorem sortZ_any (base n c : Nat) (A : Option Addr) (xs : List Int) (w : World) (h : Own w base 3 1 (.slice A n c) n (iz .i64 xs)) (hb : n ≤ 4611686018427387903) :
    Calls Tryz.prog 16 #[.slice A n c] w (fun en w' => en = .returned (.tuple #[]) ∧ Own w' base 3 1 (.slice A n c) n (iz .i64 (sortZ xs)) ∧ Fr (fun k => (Value.slice A n c).ownBlock = some k) w w') := by
  obtain ⟨hl, A', c', hv, hn, hm, hA⟩ := h
  injection hv with h1 h2 h3
  subst h1; subst h3
  rw [iz_len, Nat.mul_one] at hl
  rcases hA with ⟨rfl, rfl⟩ | ⟨g, cur, rfl, hb', hh, hcs, ht⟩
  · have h0 : n = 0 := by omega
    subst h0
    have hx : xs = [] := List.eq_nil_of_length_eq_zero hl
    subst hx
    refine (Any.slices_Sort_int_none Tryz.sortInts none 0 w).mono ?_
    rintro en w' ⟨rfl, rfl⟩
    refine ⟨rfl, ?_, Fr.refl _ _⟩
    rw [sortZ_nil]
    exact Own.nil _ _ _ _
  · have hH : Holds (Value.int .i64) w g 0 xs.toArray := holds_of_blockI hh (by rw [hl]; simpa [iz] using ht)
    have hc := Any.slices_Sort_int Tryz.sortInts g 0 c xs w hH (Array.getElem?_eq_some_iff.1 hh).1 (by omega)
    rw [hl] at hc
    refine hc.mono ?_
    rintro en w' ⟨rfl, nn, os, rfl⟩
    have hsl : (xs.mergeSort fun x y => decide (x ≤ y)).length = xs.length := List.length_mergeSort xs
    have hsz : (xs.mergeSort fun x y => decide (x ≤ y)).length ≤ cur.size := by rw [hsl]; omega
    obtain ⟨g1, g2, g3, g4, g5⟩ := grownBy_sortedI (w := w) (g := g) (n := nn) (os := os) (xs.mergeSort fun x y => decide (x ≤ y)).toArray
    refine ⟨rfl, ⟨by rw [iz_len, sortZ_len, hl]; omega, _, c, rfl, hn, hm, .inr ⟨g, _, rfl, hb', heap_sortedI _ hh, by simpa [putCells] using hcs, ?_⟩⟩, ⟨g1, g2, g3, g4, fun k hk hne => g5 k hk (fun e => hne e.symm)⟩⟩
    have := take_putCellsI cur (xs.mergeSort fun x y => decide (x ≤ y)) hsz
    rw [hsl, hl] at this
    rw [Nat.mul_one]
    exact this
theorem heap_putZ {w : World} {g n : Nat} {cur : Array Value} {e : TypeId} {fr : Nat × Nat} (d : Array Int) (hb : w.heap[g]? = some (.cells cur e fr)) :
    (putRow (Value.int .i64) (Sort.ahead w n) g 0 d).heap[g]? = some (.cells (putCells (Value.int .i64) 0 d cur) e fr) := by
  simp [putRow, mapBlock, Sort.ahead, Array.getElem?_modify, hb, onCells]
theorem fr_putZ {w : World} {g n : Nat} (d : Array Int) : Fr (fun k => g = k) w (putRow (Value.int .i64) (Sort.ahead w n) g 0 d) := by
  refine ⟨rfl, rfl, rfl, by simp [putRow, mapBlock, Sort.ahead], fun k hk hne => ?_⟩
  simp [putRow, mapBlock, Sort.ahead, Array.getElem?_modify, hne]
/-- a slice of the call's own, each number once. -/
theorem compactZ_any (base n c : Nat) (A : Option Addr) (xs : List Int) (w : World) (h : Own w base 3 1 (.slice A n c) n (iz .i64 xs)) (hb : n ≤ 4611686018427387903) :
    Calls Tryz.prog 17 #[.slice A n c] w (fun en w' => en = .returned (.slice A (compact xs).length c) ∧ Own w' base 3 1 (.slice A (compact xs).length c) (compact xs).length (iz .i64 (compact xs)) ∧ Fr (fun k => (Value.slice A n c).ownBlock = some k) w w') := by
  obtain ⟨hl, A', c', hv, hn, hm, hA⟩ := h
  injection hv with h1 h2 h3
  subst h1; subst h3
  rw [iz_len, Nat.mul_one] at hl
  have hle := compactZ_le xs
  rcases hA with ⟨rfl, rfl⟩ | ⟨g, cur, rfl, hb', hh, hcs, ht⟩
  · have h0 : n = 0 := by omega
    subst h0
    have hx : xs = [] := List.eq_nil_of_length_eq_zero hl
    subst hx
    refine (Any.slices_Compact_int_empty Tryz.compactInts none 0 w).mono ?_
    rintro en w' ⟨rfl, rfl⟩
    exact ⟨rfl, Own.nil _ _ _ _, Fr.refl _ _⟩
  · have hH : Holds (Value.int .i64) w g 0 xs.toArray := holds_of_blockI hh (by rw [hl]; simpa [iz] using ht)
    have hc := Any.slices_Compact_int Tryz.compactInts g 0 c xs w hH (by omega) (by omega)
    rw [hl] at hc
    refine hc.mono ?_
    rintro en w' ⟨rfl, q, rfl⟩
    refine ⟨rfl, ⟨by rw [iz_len, Nat.mul_one], _, c, rfl, by omega, hm, .inr ⟨g, _, rfl, hb', heap_putZ _ hh, by simpa [putCells] using hcs, ?_⟩⟩, (fr_putZ _).mono ?_⟩
    · have h1 := take_putCellsI cur (compact xs ++ List.replicate (n - (compact xs).length) 0) (by simp; omega)
      have h2 := congrArg (List.take (compact xs).length) h1
      rw [List.take_take, ← List.map_take, List.take_left, Nat.min_eq_left (by simp)] at h2
      rw [Nat.mul_one]
      exact h2
    · intro k _ hk
      rw [← hk]
      rfl
set_option maxRecDepth 100000 in
set_option maxHeartbeats 2000000 in
theorem brange_any (b gT dims : Nat) (l : List Pt) (Al Ah : Option Addr) (n1 n2 cl ch B1 B2 : Nat) (low high : List Int) (w : World) (hT : TrM w b gT dims l) (hm : mayP (dims : Int) l) (hl1 : low.length = n1) (hl2 : high.length = n2) (h1 : n1 ≤ cl) (h2 : n2 ≤ ch) (hc1 : cl ≤ maxLen) (hc2 : ch ≤ maxLen) (hB1 : B1 ≤ w.heap.size) (hB2 : B2 ≤ w.heap.size) (hr1 : Rd w B1 Al (iz .i64 low)) (hr2 : Rd w B2 Ah (iz .i64 high)) :
    Calls Tryz.prog 7 #[.pointer (some ⟨gT, 0, none⟩), .slice Al n1 cl, .slice Ah n2 ch] w (fun en w' => ∃ v, en = .returned v ∧ Own w' w.heap.size 3 1 v (rngZ dims l low high).length (iz .i64 (rngZ dims l low high)) ∧ Fr No w w') := by
  have hmf : ∀ (fn : Fn) (first cap : Array Value) (w : World), (Instr.makeFunc fn first cap).run Tryz.prog w = .ok (.func fn first cap) w := fun _ _ _ _ => rfl
  have hres : rngZ dims l low high = setZ ((boxT dims l low high).map (·.1)) := setZ_perm ((boxT_perm (low := low) (high := high) hm).map _).symm
  have hlen : (boxT dims l low high).length ≤ 1048576 := Nat.le_trans boxT_len hm.2.2.1
  rw [hres]
  obtain ⟨xs, hxs⟩ : ∃ x, x = (boxT dims l low high).map (·.1) := ⟨_, rfl⟩
  rw [← hxs]
  have HXs := hide hxs
  have HE := hide (fun W (f : Fr No w W) (hI : RngI w.heap.size [] W) => each_any w.heap.size _ w.heap.size Al Ah n1 n2 cl ch low high _ (rng_call w.heap.size w.heap.size (Nat.le_refl _)) hl1 hl2 h1 h2 hc1 hc2 gT dims l W f.size (hT.q.fr0 f) hm hI ((hr1.more hB1).fr0 f) ((hr2.more hB2).fr0 f))
  clear hT hm hl1 hl2 hr1 hr2 h1 h2 hc1 hc2 hres hxs
  go_enter Tryz.func7, Tryz.ntmps7
  go_wp2_with (fail)
  have hc := HE.out (w.alloc (.cells #[.slice none 0 0] 28)) ((Fr.refl No w).alloc _) ⟨_, heap_alloc_new w _, Own.nil _ _ _ _⟩
  clear HE
  refine hc.mono ?_
  rintro en w2 ⟨⟨r, rfl⟩, f, v, hb, ho⟩
  have HF := hide (fr_dos ((Fr.refl No w).alloc _) f)
  obtain ⟨n, hn⟩ : ∃ n, n = (boxT dims l low high).length := ⟨_, rfl⟩
  rw [← HXs.out, ← hn] at ho
  rw [← hn] at hlen
  obtain ⟨A, c, rfl, p1, p2, _⟩ := ho.form
  have HO := hide ho
  have HB := hide hb
  have hk : w2.cell? ⟨w.heap.size, 0, none⟩ = some (.slice A n c) := cell_of_row w2 _ 0 _ _ _ hb
  have HSo := hide (sortZ_any w.heap.size n c A xs w2 ho (by omega))
  clear hc f hb ho hn
  go_wp2_with (fail)
  refine HSo.out.mono ?_
  rintro en w3 ⟨rfl, o3, f3⟩
  have hb3 := f3.blk HB.out (fun e => HO.out.ne_blk e HB.out (by decide))
  have hk3 : w3.cell? ⟨w.heap.size, 0, none⟩ = some (.slice A n c) := cell_of_row w3 _ 0 _ _ _ hb3
  have HF3 := hide (HF.out.trans f3 (fun i hi e => by have := (HO.out.lt i e).1; omega))
  have HC := hide (compactZ_any w.heap.size n c A (sortZ xs) w3 o3 (by omega))
  have HO3 := hide o3
  clear o3 f3 hb3 hk HSo
  go_wp2_with (fail)
  refine HC.out.mono ?_
  rintro en w4 ⟨rfl, o4, f4⟩
  have HO4 := hide o4
  have HF4 := hide (HF3.out.trans f4 (fun i hi e => by have := (HO3.out.lt i e).1; omega))
  clear o4 f4 hk3 HC
  go_wp2_with (fail)
  go_ret
  exact ⟨_, rfl, HO4.out, HF4.out⟩
end Go.Proofs.YtpopbkcbplmcaaaGreat
namespace Go.Proofs.YtpopbkcbplmcaaaGreat
set_option linter.unusedVariables false
set_option linter.unusedSimpArgs false
open Go.RowKit

set_option maxRecDepth 100000 in
set_option maxHeartbeats 800000 in
theorem kbytes_any (A B : Option Addr) (n c m d b1 b2 : Nat) (xs ys : List UInt8) (w : World) (hx : xs.length = n) (hy : ys.length = m) (hn : n ≤ c) (hc : c ≤ maxLen) (hm : m ≤ d) (hd : d ≤ maxLen) (hr : Rd w b1 A (by8 xs)) (hs : Rd w b2 B (by8 ys)) :
    Calls Tryz.prog 31 #[.slice A n c, .slice B m d] w (RetQ (.bool (decide (xs = ys))) w) := by
  unfold maxLen at hc hd
  have HX := hide hx
  have HY := hide hy
  have HR := hide hr
  have HS := hide hs
  clear hx hy hr hs
  by_cases hnm : n = m
  · subst hnm
    have hb : ((n : Int) != n) = false := by simp
    go_enter Tryz.func31, Tryz.ntmps31
    go_wp2
    go_loopw [5] (fun i wr => ∃ k nq : Nat, k ≤ n ∧ i = .int .i64 k ∧ wr = w.drewN nq ∧ Hid (xs.take k = ys.take k)) (fun i _ => n - (intOf i).toNat)
    case atStart => exact ⟨0, 0, by omega, rfl, rfl, hide rfl⟩
    case round =>
      obtain ⟨k, nq, hk, rfl, rfl, HT⟩ := hrel
      by_cases hlt : k < n
      · have h1 : k < xs.length := by rw [HX.out]; exact hlt
        have h2 : k < ys.length := by rw [HY.out]; exact hlt
        obtain ⟨ad, rfl, _, hcell⟩ := HR.out.byte h1
        obtain ⟨bd, rfl, _, hcell2⟩ := HS.out.byte h2
        have HE := hide (fun he => take_succ_eq h1 h2 HT.out he)
        have HN := hide (show xs.getD k 0 ≠ ys.getD k 0 → xs ≠ ys from fun h e => h (by rw [e]))
        clear h1 h2
        generalize xs.getD k 0 = x at hcell HE HN
        generalize ys.getD k 0 = y at hcell2 HE HN
        by_cases he : x = y
        · subst he
          have HE' := hide (HE.out rfl)
          clear HE
          have hb2 : ((x.toNat : Int) != x.toNat) = false := by simp
          go_wp2
          go_quiet (fail)
          go_wp2
          go_round
          case rel => exact ⟨k + 1, _, by omega, by go_num, rfl, HE'⟩
          case measure => simp [intOf]; omega
        · have hb2 : ((x.toNat : Int) != y.toNat) = true := by
            simp
            intro h
            exact he (UInt8.toNat_inj.1 (by omega))
          go_wp2
          go_quiet (fail)
          go_wp2
          go_ret
          exact ⟨by simp [HN.out he], _, World.drewN_drewN _ _ _⟩
      · have HF := hide (show xs = ys by
          have h := HT.out
          rwa [List.take_of_length_le (by rw [HX.out]; omega), List.take_of_length_le (by rw [HY.out]; omega)] at h)
        go_wp2
        go_ret
        exact ⟨by simp [HF.out], _, rfl⟩
  · have hb : ((n : Int) != m) = true := by simp; omega
    have HF := hide (show xs ≠ ys from fun e => hnm (by rw [← HX.out, ← HY.out, e]))
    go_enter Tryz.func31, Tryz.ntmps31
    go_wp2
    go_ret
    exact ⟨by simp [HF.out], 0, rfl⟩

end Go.Proofs.YtpopbkcbplmcaaaGreat
namespace Go.Proofs.YtpopbkcbplmcaaaGreat
set_option linter.unusedVariables false
set_option linter.unusedSimpArgs false
open Go.RowKit

def GivesLent (w : World) (bs : List UInt8) (en : Ending) (w' : World) : Prop :=
  ∃ A c, en = .returned (.slice A bs.length c) ∧ Own w' w.heap.size 5 1 (.slice A (bs.length + 1) c) (bs.length + 1) (by8 (bs ++ [201])) ∧ Fr No w w'

set_option maxRecDepth 100000 in
set_option maxHeartbeats 800000 in
theorem lent8_any (A : Option Addr) (n c B : Nat) (bs : List UInt8) (w : World) (hl : bs.length = n) (hb : n + 1 ≤ 140737488355328) (hr : Rd w B A (by8 bs)) :
    Calls Tryz.prog 9 #[.slice A n c] w (GivesLent w bs) := by
  obtain ⟨i0, hi, hz, hsz, hby⟩ := info_parts Tryz.info5
  have HS := hide (Src.ofRd (P := Tryz.prog) (size := 1) w Tryz.underlying22 A n c (by8 bs) (by rw [by8_length, hl]; omega) (by omega) hr (by8_one _))
  have HL := hide hl
  clear hr hl
  have b1 : (0 + n) * 1 ≤ 140737488355328 := by omega
  have b2 : 0 + n ≤ maxLen := by unfold maxLen; omega
  have c1 : (0 + n + 1) * 1 ≤ 140737488355328 := by omega
  have c2 : 0 + n + 1 ≤ maxLen := by unfold maxLen; omega
  have HO0 := hide (Own.nil w w.heap.size 5 1)
  go_enter Tryz.func9, Tryz.ntmps9
  go_wp2_with (first
    | (at_builtin; refine wpList_append_gen _ rfl (.tmp 4) (.tmp 5) 22 22 rfl w.heap.size 5 i0 (.int .u8 0) 1 1 Tryz.underlying22 hi hz hsz hby rfl (.slice none 0 0) 0 [] rfl HO0.out _ n (by8 bs) rfl HS.out b1 b2 (Nat.le_refl _) ?_; intro v1 w1 hown hfr hat; have HO1 := hide hown; have HF1 : Hid (Fr No w w1) := hide ((Fr.refl No w).own hfr (fun g h => by cases h)); have hz1 := hfr.size; clear hown hfr hat)
    | (at_builtin; refine wpList_append_gen _ rfl (.tmp 7) (.tmp 8) 22 22 rfl w.heap.size 5 i0 (.int .u8 0) 1 1 Tryz.underlying22 hi hz hsz hby rfl v1 (0 + n) _ rfl (HO1.out.fr0 ((Fr.refl No w1).alloc (.cells #[.int .u8 201] 5))) _ 1 [.int .u8 201] rfl (Src.one (P := Tryz.prog) w1 (e := 5) Tryz.underlying22 (.int .u8 201) rfl) c1 c2 (by simp; omega) ?_; intro v2 w2 hown hfr hat; obtain ⟨A2, k2, rfl, hc1, hc2, _⟩ := hown.form; unfold maxLen at hc2; have HO2 := hide hown; have HF2 : Hid (Fr No w w2) := hide ((HF1.out.alloc _).own hfr (fun g hg => .inl (HO1.out.lt g hg).1)); clear hown hfr hat))
  go_ret
  refine ⟨A2, k2, ?_, ?_, HF2.out⟩
  · rw [HL.out]; first | rfl | simp
  · have h := HO2.out
    rw [HL.out, by8_append]
    simpa [by8] using h

set_option maxRecDepth 100000 in
set_option maxHeartbeats 800000 in
theorem kept8_any (A B : Option Addr) (n c m d b1 b2 : Nat) (xs : List UInt8) (w : World) (hx : xs.length = n) (hm : xs.length = m) (hn : n + 1 ≤ c) (hc : c ≤ maxLen) (hmd : m ≤ d) (hd : d ≤ maxLen) (hr : Rd w b1 A (by8 (xs ++ [201]))) (hs : Rd w b2 B (by8 xs)) :
    Calls Tryz.prog 12 #[.slice A n c, .slice B m d] w (RetQ (.bool true) w) := by
  have hr1 : Rd w b1 A (by8 xs) := by
    have h := hr.tk xs.length
    rw [← by8_take, List.take_left] at h
    exact h
  have HK := hide (kbytes_any A B n c m d b1 b2 xs xs w hx hm (by omega) hc hmd hd hr1 hs)
  rw [decide_eq_true rfl] at HK
  obtain ⟨ad, rfl, _, hcell⟩ := hr.byte (k := n) (by simp; omega)
  have e1 : (xs ++ [201]).getD n 0 = 201 := by rw [← hx]; simp
  rw [e1] at hcell
  have e2 : ((201 : UInt8).toNat : Nat) = 201 := by decide
  rw [e2] at hcell
  unfold maxLen at hc
  clear hr hs hr1 hx hm e1 e2
  go_enter Tryz.func12, Tryz.ntmps12
  go_wp2_with (go_at_call 31; refine HK.out.mono ?_; rintro en w2 ⟨rfl, nq, rfl⟩)
  go_ret
  exact ⟨rfl, _, rfl⟩

end Go.Proofs.YtpopbkcbplmcaaaGreat
namespace Go.Proofs.YtpopbkcbplmcaaaGreat
set_option linter.unusedVariables false
set_option linter.unusedSimpArgs false
open Go.ChangeShapes Go.WideShapes Go.ChangeAt Go.RowKit

theorem Tryz.own : ownKnob Tryz.prog.godebug = none := by kernel_rfl
theorem Tryz.laidOut : laidOutB Tryz.prog = true := by kernel_rfl

/-- bytes that came in. -/
theorem open8 {H : Type} {enc : TypeId × Value → H} {W : World} {a : Option Addr} {len cap : Nat} {d : DataW H} {p : List MemPlace}
    (h : DataW.Trod enc Tryz.prog W 0 (fun _ => true) true 22 (.slice a len cap) d p)
    (hsz : ∀ elems spare, d = .slice elems spare → (elems.length + spare.length) * Tryz.prog.bytesOf 5 ≤ reachBytes) :
    ∃ bs : List UInt8, bs.length = len ∧ len ≤ cap ∧ cap ≤ maxLen ∧ cap ≤ 140737488351232 ∧ Rd W W.heap.size a (by8 bs) := by
  obtain ⟨fuel, hf⟩ := h
  rcases open_ints Tryz.underlying22 Tryz.underlying5 (by kernel_rfl) hf with ⟨hcs, _⟩ | ⟨x, l, c, zs, hcs, _, hl, hm, hz, hd, hcell, hwz⟩
  · simp [Value.cells] at hcs
    obtain ⟨rfl, rfl, rfl⟩ := hcs
    exact ⟨[], rfl, Nat.le_refl _, Nat.zero_le _, Nat.zero_le _, Rd.nil _ _ _⟩
  · simp [Value.cells] at hcs
    obtain ⟨rfl, rfl, rfl⟩ := hcs
    injection hd with hd _
    have hz : zs.length = cap := by simpa using hz
    have hs := hsz _ _ hd
    have hby : Tryz.prog.bytesOf 5 = 1 := by kernel_rfl
    rw [hby] at hs
    have hlen : (lits (H := H) .u8 (zs.take len)).length + (lits (H := H) .u8 (zs.drop len)).length = cap := by simp [lits]; omega
    rw [hlen] at hs
    refine ⟨(zs.take len).map fun n => UInt8.ofNat n.toNat, by simp; omega, hl, hm, by simpa [reachBytes] using hs, ?_⟩
    intro j u hu
    simp only [by8, List.map_map, List.getElem?_map, List.getElem?_take] at hu
    split at hu
    · rename_i hj
      have hjz : j < zs.length := by omega
      rw [List.getElem?_eq_getElem hjz] at hu
      injection hu with hu
      have hc := hcell j hjz
      have hw := hwz zs[j] (List.getElem_mem hjz)
      have hb : 0 ≤ zs[j] ∧ zs[j] ≤ 255 := by simpa [Lit.wf, IntKind.min, IntKind.max, IntKind.signed, IntKind.bits] using hw
      have hv : (((UInt8.ofNat zs[j].toNat).toNat : Nat) : Int) = zs[j] := by
        have h1 : (UInt8.ofNat zs[j].toNat).toNat = zs[j].toNat := by simp [UInt8.toNat_ofNat]; omega
        rw [h1]; omega
      have he : zs.getD j 0 = zs[j] := by simp [List.getElem?_eq_getElem hjz]
      rw [he] at hc
      refine ⟨x, rfl, ?_, ?_⟩
      · have := World.block_lt_of_cell? W _ hc
        rwa [block_of_add] at this
      · rw [hc, ← hu]
        simp only [Function.comp_apply, hv]
    · cases hu
end Go.Proofs.YtpopbkcbplmcaaaGreat
