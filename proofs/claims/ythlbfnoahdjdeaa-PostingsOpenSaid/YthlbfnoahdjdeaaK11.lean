/- Several texts in one: RgMemP, PoCh, OffT, PutU, PoBp, StepA. -/
import Derived.Test.YthlbfnoahdjdeaaK10
import Derived.Deep.DeepCutAuto
import Derived.RegionTactic
import Derived.BigRegion
namespace Go.Proofs.Ythlbfnoahdjdeaa
set_option linter.unusedVariables false
set_option linter.unusedSimpArgs false
open Go.RowKit

/-- the iterator's contract. -/
def SeqMemP {α : Type} (F : Fence) (n : Nat) (P : Program) (g : Nat) (lb : Array Value) (encs : α → Array Value) (t : TypeId) (Kp : World → World → Prop) (Gd : List α → α → World → Prop) (S Sp Pn : List α → Prop) (ch : List PanicEntry) (N : Nat) (w : World) : Prop :=
  ∀ (l : Nat) (J Jx : List α → World → Prop) (W : World), Fr No w W → AbT t W.heap.size J → AbT t W.heap.size Jx →
    (∀ pre x W1, J pre W1 → Gd pre x W1 → pre.length < N → YieldAt F (n - 1) P l (encs x) W1 fun e W' =>
      (e = .returned (.bool true) ∧ J (pre ++ [x]) W' ∧ Kp W1 W') ∨ (e = .returned (.bool false) ∧ Jx (pre ++ [x]) W')) →
    J [] W →
    CallsIn F n P g (#[.func (.yield l) #[] #[]] ++ lb) W fun e W' => ((∃ v, e = .returned v) ∧ ((∃ xs, S xs ∧ J xs W') ∨ (∃ pre, Sp pre ∧ Jx pre W'))) ∨ (∃ pre, Pn pre ∧ e = .panicked ch ∧ J pre W')

variable {F : Fence} {n : Nat} {P : Program} {w : World}
theorem wpIn_rangeFunc_memP {α : Type} {g : Operand} {ps : Array Tmp} {assign body : Code} {Q : Exit → Act → World → Prop} {a : Act} {w : World}
    (hro : F.round = none) (h1 : 1 ≤ n) {gf : Nat} {lb : Array Value} (hg : a.eval g = .func (.func gf) #[] lb) (hFg : F.fn gf) (eg : ∀ args w, (callFunc gf args).run P w = .ok (.enter gf args) w)
    {encs : α → Array Value} {t : TypeId} {Kp : World → World → Prop} {Gd : List α → α → World → Prop} {S Sp Pn : List α → Prop} {ch : List PanicEntry} {N : Nat} {w0 : World} (hseq : SeqMemP F (n - 1) P gf lb encs t Kp Gd S Sp Pn ch N w0)
    (hKt : ∀ {A B C : World}, Kp A B → Kp B C → Kp A C) (hKb : ∀ (W : World) (l : Nat) (o o' : Obj), W.heap[l]? = some o → o.isCells = false → Kp W (W.putObj l o'))
    (hGb : ∀ (pre : List α) (x : α) (W : World) (l : Nat) (o o' : Obj), Gd pre x W → W.heap[l]? = some o → o.isCells = false → Gd pre x (W.putObj l o'))
    (hb0 : Fr No w0 w) (hps : ∀ x, (encs x).size = ps.size)
    (I : List α → World → Prop) (Ix : Code → List α → World → Prop) (hI : AbL t w.heap.size I) (hIx : ∀ c, AbL t w.heap.size (Ix c)) (h0 : I [] w) (a₁ : α → Act)
    (hassign : ∀ (l : Nat) (x : α) (W : World) (K : Act → World → Prop), K (a₁ x) W →
      assign.wpIn (F.inRound l) (n - 1 - 1) P (Exit.then K (fun _ _ _ => False)) { tmps := (ps.zip (encs x)).foldl (fun t (p, v) => t.setIfInBounds p v) a.tmps, defers := [] } W)
    (hbody : ∀ (l : Nat) (pre : List α) (x : α) (W : World), I pre W → Gd pre x W → pre.length < N → body.wpIn (F.inRound l) (n - 1 - 1) P (ownPostG w.heap.size Kp I Ix (pre ++ [x]) W) (a₁ x) W)
    (hdone : ∀ (D : Nat) (xs : List α) (W : World), w.heap.size ≤ D → S xs → I xs W → W.heap[D]? = some (.deferred (some [])) → Q .normal { a with defers := { target := .collected D, args := #[] } :: a.defers } W)
    (hstop : ∀ (D : Nat) (c : Code) (pre : List α) (W : World), w.heap.size ≤ D → Sp pre → Ix c pre W → W.heap[D]? = some (.deferred (some [])) → c.wpIn F n P Q { a with defers := { target := .collected D, args := #[] } :: a.defers } W)
    (hpanic : ∀ (D : Nat) (pre : List α) (W : World), w.heap.size ≤ D → Pn pre → I pre W → W.heap[D]? = some (.deferred (some [])) → Q (.panic ch) { a with defers := { target := .collected D, args := #[] } :: a.defers } W) :
    (Code.rangeFunc g ps assign body).wpIn F n P Q a w := by
  refine wpIn_rangeFunc ?_
  intro fn hfn
  rw [hro]
  obtain ⟨rec, hrec⟩ : ∃ rec : LoopState → Option Code → Loop, rec = fun st pe => { state := st, pending := pe, fn, tmps := a.tmps, params := ps, assign, body, defers := w.heap.size } := ⟨_, rfl⟩
  obtain ⟨W1, hW1⟩ : ∃ W1, (w.alloc (.deferred (some []))).alloc (.loop (rec .ready none)) = W1 := ⟨_, rfl⟩
  have hL1 : W1.heap[w.heap.size + 1]? = some (.loop (rec .ready none)) := by
    rw [← hW1]; have := World.alloc_heap_new (w.alloc (.deferred (some []))) (.loop (rec .ready none)); rwa [World.size_alloc] at this
  have hK1 : W1.heap[w.heap.size]? = some (.deferred (some [])) := by
    rw [← hW1]; exact (Below.heap_alloc _ _ _ (by simp)).trans (World.alloc_heap_new w _)
  have hI1 : I [] W1 := by rw [← hW1]; exact hI.new (hI.new h0 _) _
  have hb1 : Fr No w0 W1 := by rw [← hW1]; exact (hb0.alloc _).alloc _
  have hsz1 : w.heap.size ≤ W1.heap.size := by rw [← hW1]; simp; omega
  refine ⟨w.heap.size + 1, [{ target := .collected w.heap.size, args := #[] }], W1, { target := .fn (.func gf) lb, args := #[.func (.yield (w.heap.size + 1)) #[] #[]] }, W1, gf,
    #[.func (.yield (w.heap.size + 1)) #[] #[]] ++ lb, W1, ?_, ?_, ?_, ?_, fun _ => h1, ?_⟩
  · rw [← hW1, hrec]; exact run_enterLoop_outer _ _ _ _ _
  · simp only [resolve, hg]
    simp [go_sem]
  · intro f' hf'; simp [Target.leads] at hf'; subst hf'; exact hFg
  · simp [invoke, go_sem, eg]
  · refine (hseq (w.heap.size + 1)
      (fun pre W => I pre W ∧ W.heap[w.heap.size + 1]? = some (.loop (rec .ready none)) ∧ W.heap[w.heap.size]? = some (.deferred (some [])))
      (fun pre W => ∃ c, Ix c pre W ∧ W.heap[w.heap.size + 1]? = some (.loop (rec .done (some c))) ∧ W.heap[w.heap.size]? = some (.deferred (some [])))
      W1 hb1
      (fun s A A' hs f => ⟨hI.abT hsz1 s A A' hs.1 f, OfT.other f hs.2.1 rfl, OfT.other f hs.2.2 rfl⟩)
      (fun s A A' hs f => by
        obtain ⟨c, hc, hl, hk⟩ := hs
        exact ⟨c, (hIx c).abT hsz1 s A A' hc f, OfT.other f hl rfl, OfT.other f hk rfl⟩)
      ?_ ⟨hI1, hL1, hK1⟩).mono ?_
    · rintro pre x W ⟨hi, hl, hk⟩ hgx hlen
      have hlt : w.heap.size + 1 < W.heap.size := (Array.getElem?_eq_some_iff.1 hl).1
      have hy := run_yield (P := P) (args := encs x) hl (by rw [hrec]; exact hps x)
      rw [hrec] at hy
      refine ⟨fn, _, assign, body, hy, roundIn_of_wpIn hfn (hassign _ x W _ ?_)⟩
      clear hy
      refine ⟨_, run_beginRound hl (by rw [hrec]), ?_⟩
      have hl2 : (W.putObj (w.heap.size + 1) (.loop { rec .ready none with state := .busy })).heap[w.heap.size + 1]? = some (.loop { rec .ready none with state := .busy }) := World.putObj_heap_same hlt
      have hk2 : (W.putObj (w.heap.size + 1) (.loop { rec .ready none with state := .busy })).heap[w.heap.size]? = some (.deferred (some [])) := (World.putObj_heap_other (by omega)).trans hk
      have hw2 : Kp W (W.putObj (w.heap.size + 1) (.loop { rec .ready none with state := .busy })) := hKb _ _ _ _ hl rfl
      refine wpIn_mono (hbody _ pre x _ (hI.put hi (by omega) hl rfl) (hGb _ _ _ _ _ _ hgx hl rfl) hlen) ?_
      have fin : ∀ (jump : Option Code) (W3 : World), KeepsFrom w.heap.size (W.putObj (w.heap.size + 1) (.loop { rec .ready none with state := .busy })) W3 →
          (Instr.endRound (w.heap.size + 1) jump).run P W3 = .ok (.bool jump.isNone) (W3.putObj (w.heap.size + 1) (.loop (rec (if jump.isNone then .ready else .done) jump))) ∧
          W3.heap[w.heap.size + 1]? = some (.loop { rec .ready none with state := .busy }) ∧
          (W3.putObj (w.heap.size + 1) (.loop (rec (if jump.isNone then .ready else .done) jump))).heap[w.heap.size + 1]? = some (.loop (rec (if jump.isNone then .ready else .done) jump)) ∧
          (W3.putObj (w.heap.size + 1) (.loop (rec (if jump.isNone then .ready else .done) jump))).heap[w.heap.size]? = some (.deferred (some [])) := fun jump W3 hk3 => by
        have hl3 := hk3.same _ _ (by omega) hl2 rfl
        have := run_endRound (P := P) jump hl3
        rw [hrec] at this ⊢
        exact ⟨this, by rw [hrec] at hl3; exact hl3, World.putObj_heap_same (Array.getElem?_eq_some_iff.1 hl3).1, (World.putObj_heap_other (by omega)).trans (hk3.same _ _ (Nat.le_refl _) hk2 rfl)⟩
      rintro e a3 W3 hp
      cases e with
      | normal =>
        obtain ⟨hk3, hkp3, hi3⟩ := hp
        obtain ⟨hr, hl3, hl4, hk4⟩ := fin none W3 hk3
        exact ⟨_, _, hr, .inl ⟨rfl, ⟨hI.put hi3 (by omega) hl3 rfl, hl4, hk4⟩, hKt (hKt hw2 hkp3) (hKb _ _ _ _ hl3 rfl)⟩⟩
      | ret =>
        obtain ⟨hk3, hi3⟩ := hp
        obtain ⟨hr, hl3, hl4, hk4⟩ := fin (some .ret) W3 hk3
        exact ⟨_, _, hr, .inr ⟨rfl, .ret, (hIx _).put hi3 (by omega) hl3 rfl, hl4, hk4⟩⟩
      | exit id =>
        obtain ⟨hk3, hi3⟩ := hp
        obtain ⟨hr, hl3, hl4, hk4⟩ := fin (some (.exit id)) W3 hk3
        exact ⟨_, _, hr, .inr ⟨rfl, .exit id, (hIx _).put hi3 (by omega) hl3 rfl, hl4, hk4⟩⟩
      | goto t =>
        obtain ⟨hk3, hi3⟩ := hp
        obtain ⟨hr, hl3, hl4, hk4⟩ := fin (some (.goto t)) W3 hk3
        exact ⟨_, _, hr, .inr ⟨rfl, .goto t, (hIx _).put hi3 (by omega) hl3 rfl, hl4, hk4⟩⟩
      | panic ch => exact hp.elim
      | outgrown => exact hp.elim
    · rintro e W2 (⟨⟨v, rfl⟩, (⟨xs, hS, hi, hl, hk⟩ | ⟨pre, hSp, c, hi, hl, hk⟩)⟩ | ⟨pre, hPn, rfl, hi, hl, hk⟩)
      · exact ⟨none, _, by have := run_endLoop (P := P) hl (by rw [hrec]; simp); rw [hrec] at this; exact this, hdone _ xs _ (Nat.le_refl _) hS (hI.put hi (by omega) hl rfl) ((World.putObj_heap_other (by omega)).trans hk)⟩
      · exact ⟨some c, _, by have := run_endLoop (P := P) hl (by rw [hrec]; simp); rw [hrec] at this; exact this, hstop _ c pre _ (Nat.le_refl _) hSp ((hIx c).put hi (by omega) hl rfl) ((World.putObj_heap_other (by omega)).trans hk)⟩
      · exact hpanic _ pre _ (Nat.le_refl _) hPn hi hk
end Go.Proofs.Ythlbfnoahdjdeaa
namespace Go.Proofs.Ythlbfnoahdjdeaa
set_option linter.unusedVariables false
set_option linter.unusedSimpArgs false
open Go.RowKit
attribute [local go_sem] Oper.semAt_some

/-- what the body may not write: these two boxes. -/
structure KpX (b1 b2 : Nat) (W W' : World) : Prop where
  sz : W.heap.size ≤ W'.heap.size
  k1 : ∀ cs t fz, W.heap[b1]? = some (.cells cs t fz) → W'.heap[b1]? = some (.cells cs t fz)
  k2 : ∀ cs t fz, W.heap[b2]? = some (.cells cs t fz) → W'.heap[b2]? = some (.cells cs t fz)
theorem KpX.t {b1 b2 : Nat} {a b c : World} (h : KpX b1 b2 a b) (k : KpX b1 b2 b c) : KpX b1 b2 a c := ⟨Nat.le_trans h.sz k.sz, fun cs t fz e => k.k1 _ _ _ (h.k1 _ _ _ e), fun cs t fz e => k.k2 _ _ _ (h.k2 _ _ _ e)⟩
theorem KpX.of {b1 b2 : Nat} {S : Nat → Prop} {a b : World} (f : Fr S a b) (h1 : ¬ S b1) (h2 : ¬ S b2) : KpX b1 b2 a b := ⟨f.size, fun cs t fz e => f.blk e h1, fun cs t fz e => f.blk e h2⟩
theorem KpX.b {b1 b2 : Nat} (W : World) (l : Nat) (o o' : Obj) (h : W.heap[l]? = some o) (ho : o.isCells = false) : KpX b1 b2 W (W.putObj l o') := by
  have f := Fr.of_grown (grownBy_putObj' W l o')
  have hne : ∀ b cs t fz, W.heap[b]? = some (.cells cs t fz) → ¬ some l = some b := fun b cs t fz e q => by
    injection q with q
    subst q
    rw [h] at e
    injection e with e
    subst e
    cases ho
  exact ⟨f.size, fun cs t fz e => f.blk e (hne _ _ _ _ e), fun cs t fz e => f.blk e (hne _ _ _ _ e)⟩
def chP (A : Option Addr) (n j : Nat) : Value := .slice (A.map fun ad => ad.add (8 * j * 2)) (min 8 (n - 8 * j)) (min 8 (n - 8 * j))
set_option maxRecDepth 100000 in
theorem chunkPo_any (A : Option Addr) (n c : Nat) (w : World) : Calls Try.prog 42 #[.slice A n c, .int .i64 8] w fun e w' =>
    e = .returned (.func (.func 68) #[] #[.pointer (some ⟨w.heap.size, 0, none⟩), .pointer (some ⟨w.heap.size + 1, 0, none⟩)]) ∧ w' = (w.alloc (.cells #[.slice A n c] 22)).alloc (.cells #[.int .i64 8] 3) := by
  have h1 : ((w.alloc (.cells #[.slice A n c] 22)).alloc (.cells #[.int .i64 8] 3)).cell? ⟨w.heap.size + 1, 0, none⟩ = some (.int .i64 8) := by
    have := heap_alloc_new (w.alloc (.cells #[.slice A n c] 22)) (.cells #[.int .i64 8] 3)
    rw [show (w.alloc (.cells #[.slice A n c] 22)).heap.size = w.heap.size + 1 by simp] at this
    exact cell_of_row _ _ 0 _ _ _ this
  go_enter Try.func42, Try.ntmps42
  go_wp2
  go_ret
  exact ⟨by simp, by simp⟩
theorem range_pre {a b : Nat} (h : a ≤ b) : List.range a <+: List.range b := by
  obtain ⟨d, rfl⟩ : ∃ d, b = a + d := ⟨b - a, by omega⟩
  rw [List.range_add]
  exact List.prefix_append _ _

set_option maxRecDepth 100000 in
set_option maxHeartbeats 4000000 in
theorem chunkPo_in (fr : Nat) (hn : 1 ≤ fr) (b1 b2 n c : Nat) (A : Option Addr) (w : World) (hA : 0 < n → ∃ ad, A = some ad) (hnc : n ≤ c) (hc : c ≤ maxLen) (hnb : n ≤ 1048576)
    (h1 : w.heap[b1]? = some (.cells #[.slice A n c] 22 (0, 0))) (h2 : w.heap[b2]? = some (.cells #[.int .i64 8] 3 (0, 0))) :
    SeqMemP Fence.wide fr Try.prog 68 #[.pointer (some ⟨b1, 0, none⟩), .pointer (some ⟨b2, 0, none⟩)] (fun j => #[chP A n j]) 111 (KpX b1 b2) (fun pre x _ => x = pre.length ∧ x < nbP n) (fun xs => xs = List.range (nbP n)) (fun pre => pre <+: List.range (nbP n) ∧ 0 < pre.length) (fun _ => False) [] (nbP n) w := by
  intro lp J Jx W hW hJ hJx hY h0
  have HB1 := hide (hW.blk h1 (fun h => h))
  have HB2 := hide (hW.blk h2 (fun h => h))
  have HY := hide hY
  have HJ := hide hJ
  have HJ0 := hide h0
  have HA := hide hA
  have c1 : W.cell? ⟨b1, 0, none⟩ = some (.slice A n c) := cell_of_row _ _ 0 _ _ _ HB1.out
  have c2 : W.cell? ⟨b2, 0, none⟩ = some (.int .i64 8) := cell_of_row _ _ 0 _ _ _ HB2.out
  unfold maxLen at hc
  clear h1 h2 hY hJ hJx h0 hW hA
  refine callsIn_of_wp Try.func68 rfl trivial ?_ rfl
  simp only [Try.ntmps68, List.size_toArray, List.length_cons, List.length_nil, Nat.reduceAdd, Nat.reduceSub, Array.replicate_succ, Array.replicate_zero, List.push_toArray, List.append_toArray, List.nil_append, List.cons_append]
  refine wpIn_wide.2 ?_
  go_wp2_with (fail)
  go_loopw [4] (fun i wr => ∃ (j i' : Nat), i = .int .i64 i' ∧ Hid (i' = 8 * j) ∧ i' ≤ n + 8 ∧ Hid (j ≤ nbP n) ∧ Hid (J (List.range j) wr) ∧ Hid (wr.heap[b1]? = some (.cells #[.slice A n c] 22 (0, 0))) ∧ Hid (wr.heap[b2]? = some (.cells #[.int .i64 8] 3 (0, 0)))) (fun i _ => n + 8 - (intOf i).toNat)
  case atStart => exact ⟨0, 0, rfl, hide rfl, by omega, hide (Nat.zero_le _), HJ0, HB1, HB2⟩
  case round =>
    obtain ⟨wo, rfl⟩ : ∃ wo : World, wo = wr := ⟨_, rfl⟩
    obtain ⟨j, i', rfl, HI, hib, HJb, HJo, HBo1, HBo2⟩ := hrel
    clear HB1 HB2 HJ0 c1 c2
    have c1 : wo.cell? ⟨b1, 0, none⟩ = some (.slice A n c) := cell_of_row _ _ 0 _ _ _ HBo1.out
    have c2 : wo.cell? ⟨b2, 0, none⟩ = some (.int .i64 8) := cell_of_row _ _ 0 _ _ _ HBo2.out
    by_cases hlt : i' < n
    · obtain ⟨ad, rfl⟩ := HA.out (by omega)
      have HJn : Hid (j < nbP n) := hide (by have := HI.out; unfold nbP; omega)
      obtain ⟨k, hk⟩ : ∃ k, min 8 (n - i') = k := ⟨_, rfl⟩
      have hk1 : 1 ≤ k ∧ k ≤ 8 ∧ i' + k ≤ n := by omega
      obtain ⟨hk2, hk3, hk4⟩ := hk1
      have HK := hide hk
      obtain ⟨d, hd⟩ : ∃ d, n - i' = d := ⟨_, rfl⟩
      have hd2 : (n : Int) - (i' : Int) = (d : Int) := by omega
      have HD := hide hd
      clear hk
      have i0 : (0 : Int) ≤ (i' : Int) := by omega
      have i1 : (i' : Int) ≤ (n : Int) := by omega
      have i2 : (i' : Int) < (n : Int) := by omega
      go_upto_region 3 with (fail)
      refine wp_named fun K hK => ?_
      go_cut [5] from 13 to 18 (fun v wx => v = .int .i64 k ∧ ∃ nq, wx = wo.drewN nq)
      case first =>
        clear hib hnb hk4
        go_quiet (fail)
        go_wp2
        all_goals go_meet
        all_goals (
          have hk := HK.out
          have hd := HD.out
          refine ⟨congrArg (Value.int .i64) (by omega), _, rfl⟩)
      case rest =>
      obtain ⟨rfl, nq, rfl⟩ := hcut
      refine hK _ _ ?_
      have HBn1 : Hid ((wo.drewN nq).heap[b1]? = some (.cells #[.slice (some ad) n c] 22 (0, 0))) := hide HBo1.out
      have HBn2 : Hid ((wo.drewN nq).heap[b2]? = some (.cells #[.int .i64 8] 3 (0, 0))) := hide HBo2.out
      have HJn2 : Hid (J (List.range j) (wo.drewN nq)) := hide (HJ.out _ _ _ HJo.out (((Fr.refl No wo).drewN nq).any _))
      clear hK c1 c2 HBo1 HBo2 HJo
      generalize wo.drewN nq = w3 at HBn1 HBn2 HJn2 ⊢
      have c1 : w3.cell? ⟨b1, 0, none⟩ = some (.slice (some ad) n c) := cell_of_row _ _ 0 _ _ _ HBn1.out
      have c2 : w3.cell? ⟨b2, 0, none⟩ = some (.int .i64 8) := cell_of_row _ _ 0 _ _ _ HBn2.out
      obtain ⟨fn, tmps, assign, body, hy, hR⟩ := HY.out (List.range j) j w3 HJn2.out ⟨by rw [List.length_range], HJn.out⟩ (by rw [List.length_range]; exact HJn.out)
      have HR := hide hR
      obtain ⟨e, he⟩ : ∃ e, i' + k = e := ⟨_, rfl⟩
      have he2 : (i' : Int) + (k : Int) = (e : Int) := by omega
      have he3 : e ≤ n := by omega
      have he4 : (e : Int) ≤ (c : Int) := by omega
      have he5 : (i' : Int) ≤ (e : Int) := by omega
      have he6 : e - i' = k := by omega
      have he7 : ¬ e = i' := by omega
      have HE := hide he
      unfold chP at hy
      rw [← HI.out, HK.out, Option.map_some] at hy
      have HNn : Hid (n = n) := hide rfl
      clear hR he hlt
      gi_wp2
      refine wp_named fun K hK => ?_
      have HKK := hide hK
      clear hK
      refine (wpIn_wide (n := fr)).1 ?_
      gi_wp2
      refine HR.out.mono ?_
      rintro en W3 (⟨rfl, hJ3, hk3⟩ | ⟨rfl, hJx3⟩)
      · have HJ3 := hide hJ3
        have HB3 := hide (hk3.k1 _ _ _ HBn1.out)
        have HB4 := hide (hk3.k2 _ _ _ HBn2.out)
        have c3 : W3.cell? ⟨b2, 0, none⟩ = some (.int .i64 8) := cell_of_row _ _ 0 _ _ _ HB4.out
        clear hy hJ3 hk3 c1 c2
        gi_wp2
        refine HKK.out _ _ ?_
        go_wp2
        go_roundw
        case rel => exact ⟨j + 1, i' + 8, by go_num, hide (by have := HI.out; omega), by omega, hide HJn.out, hide (by rw [List.range_succ]; exact HJ3.out), HB3, HB4⟩
        case measure => simp [intOf]; omega
      · have HX3 := hide hJx3
        clear hy hJx3
        gi_wp2
        refine bodyPost_ret (results_none rfl _ _ _) rfl ?_
        refine .inl ⟨⟨_, rfl⟩, .inr ⟨_, ⟨?_, by simp⟩, HX3.out⟩⟩
        rw [← List.range_succ]
        exact range_pre HJn.out
    · have HJe : Hid (j = nbP n) := hide (by have h1 := HI.out; have h2 := HJb.out; unfold nbP at h2 ⊢; omega)
      have d1 : decide ((i' : Int) < (n : Int)) = false := decide_eq_false (by omega)
      refine (wpIn_wide (n := fr)).1 ?_
      gi_wp2
      go_end0
      exact .inl ⟨⟨_, rfl⟩, .inl ⟨_, by rw [HJe.out], HJo.out⟩⟩
end Go.Proofs.Ythlbfnoahdjdeaa
namespace Go.Proofs.Ythlbfnoahdjdeaa
set_option linter.unusedVariables false
set_option linter.unusedSimpArgs false
open Go.RowKit

theorem Own.cellsT {w : World} {base e size n : Nat} {v : Value} {xs : List Value} (h : Own w base e size v n xs) {k : Nat} (hk : v.ownBlock = some k) : base ≤ k ∧ ∃ cs fz, w.heap[k]? = some (.cells cs e fz) := by
  refine ⟨(h.lt k hk).1, ?_⟩
  obtain ⟨_, A, c, rfl, _, _, hA⟩ := h
  rcases hA with ⟨rfl, _⟩ | ⟨g, cur, rfl, _, hh, _⟩
  · cases hk
  · have e : g = k := Option.some.inj hk
    subst e
    exact ⟨_, _, hh⟩
/-- a frame that writes no block of one type. -/
def Off (S : Nat → Prop) (w : World) (t : TypeId) : Prop := ∀ k cs fz, w.heap[k]? = some (.cells cs t fz) → ¬ S k
theorem Own.off {S : Nat → Prop} {w w' : World} {base e size n : Nat} {v : Value} {xs : List Value} (h : Own w base e size v n xs) (f : Fr S w w') (hS : Off S w e) : Own w' base e size v n xs :=
  h.fr f (fun k hk => by
    obtain ⟨_, cs, fz, hh⟩ := h.cellsT hk
    exact hS k cs fz hh)
theorem RD.offT {S : Nat → Prop} {w w' : World} {g : Nat} {bs : List UInt8} {a : Nat} {e : Int} (h : RD w g bs a e) (f : Fr S w w') (h1 : Off S w 111) (h2 : Off S w 5) : RD w' g bs a e := by
  obtain ⟨A, c, hh, q1, q2, q3, q4, ho⟩ := h
  exact ⟨A, c, f.blk hh (h1 _ _ _ hh), q1, q2, q3, q4, ho.off f h2⟩
theorem off_is {w : World} {g : Nat} {cs : Array Value} {t t' : TypeId} {fz : Nat × Nat} (h : w.heap[g]? = some (.cells cs t fz)) (hne : t' ≠ t) : Off (Is g) w t' := by
  intro k cs' fz' hk e
  have e : k = g := e
  subst e
  rw [h] at hk
  injection hk with hk
  injection hk with _ hk _
  exact hne hk.symm
theorem off_own {w : World} {base e size n : Nat} {v : Value} {xs : List Value} (h : Own w base e size v n xs) {t : TypeId} (hne : t ≠ e) : Off (fun k => v.ownBlock = some k) w t := by
  intro k cs fz hk hv
  obtain ⟨_, cs', fz', hh⟩ := h.cellsT hv
  rw [hh] at hk
  injection hk with hk
  injection hk with _ hk _
  exact hne hk.symm


end Go.Proofs.Ythlbfnoahdjdeaa
namespace Go.Proofs.Ythlbfnoahdjdeaa
set_option linter.unusedVariables false
set_option linter.unusedSimpArgs false
open Go.RowKit

set_option maxHeartbeats 400000 in
theorem formU_any (u : Int) (w : World) : Calls Try.prog 67 #[.int .u64 u] w (Ret (.int .u64 u) w) := by
  go_enter Try.func67, Try.ntmps67
  go_wp2
  go_ret
  exact ⟨rfl, rfl⟩

set_option maxRecDepth 100000 in
set_option maxHeartbeats 1000000 in
theorem putU_loop (A : Option Addr) (n c B : Nat) (bs : List UInt8) (u : Nat) (x : Int) (w : World) (hl : bs.length = n) (hn : n ≤ c) (hc : c ≤ maxLen) (hb : n ≤ 140737488350000) (hB : B ≤ w.heap.size) (hr : Rd w B A (by8 bs)) (hu : u < 18446744073709551616)
    (hform : ∀ W, Calls Try.prog 67 #[.int .u64 x] W (Ret (.int .u64 u) W)) :
    Calls Try.prog 66 #[.slice A n c, .int .u64 x, .func (.func 67) #[] #[]] w (GivesB w (bs ++ enc u)) := by
  have H := hide (clone_any A n c B bs w hl hn hc (by omega) hB hr)
  have HFo := hide hform
  have HL := hide hl
  clear hr hl hform
  obtain ⟨i0, hi, hz, hsz, hby⟩ := info_parts Try.info5
  go_enter Try.func66, Try.ntmps66
  go_wp2_with (first | (go_at_call 72; refine H.out.mono ?_; rintro en w1 ⟨v1, rfl, hown, hfr⟩; have HO := hide hown; have HF := hide hfr; clear hown hfr) | (go_at_call 67; refine (HFo.out _).mono ?_; rintro en w2 ⟨rfl, rfl⟩))
  clear H HFo
  go_loopw [7, 8] (fun v y wr => ∃ (f k : Nat) (done : List UInt8), y = .int .u64 (k : Nat) ∧ Hid (Own wr w.heap.size 5 1 v done.length (by8 done)) ∧ Hid (done ++ encF f k = bs ++ enc u) ∧ Hid (Fr No w wr) ∧ Hid (f ≤ 9 ∧ done.length ≤ n + 9 - f ∧ k * 2 ^ (7 * (9 - f)) < 18446744073709551616)) (fun _ y _ => (intOf y).toNat)
  case atStart => exact ⟨9, u, bs, rfl, HO, hide rfl, HF, hide ⟨Nat.le_refl _, by rw [HL.out]; omega, by simpa using hu⟩⟩
  case round =>
    obtain ⟨f, k, done, rfl, HOw, HE, HFr, HB⟩ := hrel
    clear HO HF HL
    obtain ⟨hf9, hdl, hk⟩ := HB.out
    have hgw := HFr.out.size
    by_cases hbig : 127 < k
    · obtain ⟨f', rfl⟩ : ∃ f', f = f' + 1 := by
        cases f with
        | zero => exfalso; have e : (2 : Nat) ^ (7 * (9 - 0)) = 9223372036854775808 := by decide
                  rw [e] at hk; omega
        | succ f' => exact ⟨f', rfl⟩
      have HK := hide hk; clear hk
      have ho := or_128 k
      have HD := hide (show encF (f' + 1) k = UInt8.ofNat (k % 128 + 128) :: encF f' (k / 128) by rw [encF, if_pos hbig])
      generalize UInt8.ofNat (k % 128 + 128) = b at ho HD
      have HS := hide (Src.one (P := Try.prog) wr (e := 5) Try.underlying25 (.int .u8 b.toNat) rfl)
      have HOw' := hide (HOw.out.fr0 ((Fr.refl No wr).alloc (.cells #[.int .u8 b.toNat] 5)))
      have b1 : (done.length + 1) * 1 ≤ 140737488355328 := by omega
      have b2 : done.length + 1 ≤ maxLen := by unfold maxLen; omega
      have b3 : w.heap.size ≤ (wr.alloc (.cells #[.int .u8 b.toNat] 5)).heap.size := by simp; omega
      have HR := hide (show Own wr w.heap.size 5 1 u7 done.length (by8 done) → ∀ k, u7.ownBlock = some k → w.heap.size ≤ k from fun h k hk => (h.lt k hk).1)
      go_wp2_with (at_builtin; refine wpList_append_gen _ rfl (.tmp 18) (.tmp 22) 25 25 rfl w.heap.size 5 i0 (.int .u8 0) 1 1 Try.underlying25 hi hz hsz hby rfl u7 done.length (by8 done) rfl HOw'.out _ 1 [.int .u8 b.toNat] rfl HS.out b1 b2 b3 ?_; intro v' w' hown hfr hat; have HOn := hide hown; have HFn := hide hfr; clear hown hfr hat)
      go_roundw
      case rel =>
        refine ⟨f', k / 128, done ++ [b], by go_num, hide (by simpa [by8] using HOn.out), hide ?_, hide ((HFr.out.alloc _).own HFn.out (fun g hg => .inl (HOw.out.lt g hg).1)), hide ⟨by omega, by simp; omega, ?_⟩⟩
        · rw [← HE.out, HD.out]; simp
        · have e : 7 * (9 - f') = 7 * ((9 - (f' + 1)) + 1) := by omega
          rw [e, pow7, ← Nat.mul_assoc]
          exact Nat.lt_of_le_of_lt (Nat.mul_le_mul_right _ (by omega)) HK.out
      case measure => simp [intOf]; omega
    · obtain ⟨b, rfl⟩ : ∃ b : UInt8, k = b.toNat := ⟨UInt8.ofNat k, (ofNat_toNat (by omega)).symm⟩
      have HD := hide (show encF f b.toNat = [b] by cases f with
        | zero => simp [encF]
        | succ f => rw [encF, if_neg hbig]; simp)
      clear hk
      have HS := hide (Src.one (P := Try.prog) wr (e := 5) Try.underlying25 (.int .u8 b.toNat) rfl)
      have HOw' := hide (HOw.out.fr0 ((Fr.refl No wr).alloc (.cells #[.int .u8 b.toNat] 5)))
      have b1 : (done.length + 1) * 1 ≤ 140737488355328 := by omega
      have b2 : done.length + 1 ≤ maxLen := by unfold maxLen; omega
      have b3 : w.heap.size ≤ (wr.alloc (.cells #[.int .u8 b.toNat] 5)).heap.size := by simp; omega
      go_wp2_with (first | (at_builtin; refine wpList_append_gen _ rfl (.tmp 24) (.tmp 27) 25 25 rfl w.heap.size 5 i0 (.int .u8 0) 1 1 Try.underlying25 hi hz hsz hby rfl u7 done.length (by8 done) rfl HOw'.out _ 1 [.int .u8 b.toNat] rfl HS.out b1 b2 b3 ?_; intro v' w' hown hfr hat; obtain ⟨A1, c1, rfl, hc1, hc2, _⟩ := hown.form; have HOn := hide hown; have HFn := hide hfr; clear hown hfr hat) | (go_at_call 44; refine (clip_any _ _ _ _ hc1 hc2).mono ?_; rintro en w2 ⟨rfl, rfl⟩))
      go_ret
      refine ⟨_, rfl, ?_, (HFr.out.alloc _).own HFn.out (fun g hg => .inl (HOw.out.lt g hg).1)⟩
      rw [← HE.out, HD.out, by8_append, List.length_append]
      exact HOn.out.clip

theorem putU_any (A : Option Addr) (n c B : Nat) (bs : List UInt8) (u : Nat) (w : World) (hl : bs.length = n) (hn : n ≤ c) (hc : c ≤ maxLen) (hb : n ≤ 140737488350000) (hB : B ≤ w.heap.size) (hr : Rd w B A (by8 bs)) (hu : u < 18446744073709551616) :
    Calls Try.prog 41 #[.slice A n c, .int .u64 u] w (GivesB w (bs ++ enc u)) := by
  have H := hide (putU_loop A n c B bs u u w hl hn hc hb hB hr hu (fun W => formU_any _ W))
  clear hr hl
  go_enter Try.func41, Try.ntmps41
  go_wp2_with (go_at_call 66; refine H.out.mono ?_; rintro en w1 ⟨v1, rfl, hown, hfr⟩; have HO := hide hown; have HF := hide hfr; clear hown hfr)
  go_ret
  exact ⟨_, rfl, HO.out, HF.out⟩

end Go.Proofs.Ythlbfnoahdjdeaa
namespace Go.Proofs.Ythlbfnoahdjdeaa
set_option linter.unusedVariables false
set_option linter.unusedSimpArgs false
open Go.RowKit

theorem po_mem {l : List Po} (h : rightP l) {x : Po} (hx : x ∈ l) : 0 ≤ x.1 ∧ x.1 < 16384 ∧ x.2 ≠ [] ∧ ∀ y ∈ x.2, 0 ≤ y ∧ y ≤ 1048576 := by
  obtain ⟨i, hi, rfl⟩ := List.getElem_of_mem hx
  have h1 := h i hi
  have e : l.getD i noPo = l[i] := by rw [List.getD, List.getElem?_eq_getElem hi]; rfl
  rw [e] at h1
  have h2 := right_last (rightP_take h i)
  exact ⟨by have := h1.1; omega, h1.2.1, h1.2.2.1, h1.2.2.2.2.2⟩
theorem sumP_drop {b : List Po} (i : Nat) : sumP (b.drop i) ≤ sumP b := by
  have h := sumP_app (b.take i) (b.drop i)
  rw [List.take_append_drop] at h
  omega
theorem right_row {l : List Po} (h : rightP l) (j : Nat) : RowOk (aheadPo l j) (blkPo l j) := by
  have h1 := right_last (rightP_take h (8 * j))
  refine ⟨h1.1, h1.2, fun x hx => po_mem h (List.mem_of_mem_drop (List.mem_of_mem_take hx)), ?_, ?_⟩
  · have a1 := sumP_take (b := l.drop (8 * j)) 8
    have a2 := sumP_drop (b := l) (8 * j)
    have a3 := right_sum h
    unfold blkPo
    omega
  · unfold blkPo
    rw [List.length_take]
    omega
theorem blkPo_len (l : List Po) (j : Nat) : (blkPo l j).length = min 8 (l.length - 8 * j) := by unfold blkPo; rw [List.length_take, List.length_drop]
theorem take_blk (l : List Po) (j : Nat) : l.take (8 * (j + 1)) = l.take (8 * j) ++ blkPo l j := by
  unfold blkPo
  rw [show 8 * (j + 1) = 8 * j + 8 by omega, List.take_add]
/-- the last document of block j. -/
theorem end_blk {l : List Po} {j k : Nat} (hk : (blkPo l j).length = k) (h0 : 0 < k) : lastD (l.take (8 * (j + 1))) = ((blkPo l j).getD (k - 1) noPo).1 := by
  rw [take_blk]
  rcases List.eq_nil_or_concat (blkPo l j) with h | ⟨m, x, h⟩
  · rw [h] at hk; simp at hk; omega
  · rw [h, List.concat_eq_append] at hk ⊢
    rw [← List.append_assoc, lastD_snoc]
    have : k - 1 = m.length := by rw [← hk]; simp
    rw [this]
    simp
theorem ahead_succ (l : List Po) (j : Nat) : aheadPo l (j + 1) = lastD (l.take (8 * (j + 1))) := rfl
theorem end_up {l : List Po} (h : rightP l) {j : Nat} (hj : j < nbP l.length) : aheadPo l j < lastD (l.take (8 * (j + 1))) ∧ lastD (l.take (8 * (j + 1))) < 16384 := by
  refine ⟨?_, (right_last (rightP_take h _)).2⟩
  have hlen : 8 * j < l.length := by unfold nbP at hj; omega
  -- documents rise
  have up : ∀ a b, a < b → b ≤ l.length → lastD (l.take a) < lastD (l.take b) := by
    intro a b hab hb
    obtain ⟨c, rfl⟩ : ∃ c, b = c + 1 := ⟨b - 1, by omega⟩
    have h1 := h c (by omega)
    rw [take_snocP (by omega), lastD_snoc]
    by_cases e : a = c
    · rw [e]; exact h1.1
    · have h2 : ∀ d, a ≤ d → d ≤ c → lastD (l.take a) ≤ lastD (l.take d) := by
        intro d
        induction d with
        | zero => intro h3 _; have : a = 0 := by omega
                  rw [this]; exact Int.le_refl _
        | succ d ih =>
          intro h3 h4
          by_cases e2 : a = d + 1
          · rw [e2]; exact Int.le_refl _
          · have h5 := ih (by omega) (by omega)
            have h6 := h d (by omega)
            rw [take_snocP (by omega), lastD_snoc]
            have := h6.1
            omega
      have := h2 c (by omega) (Nat.le_refl _)
      have := h1.1
      omega
  by_cases hb : 8 * (j + 1) ≤ l.length
  · exact up _ _ (by omega) hb
  · rw [List.take_of_length_le (l := l) (i := 8 * (j + 1)) (by omega)]
    have := up (8 * j) l.length hlen (Nat.le_refl _)
    rwa [List.take_length] at this
theorem pieceP_le {l : List Po} (h : rightP l) (j : Nat) : (pieceP l j).length ≤ 9000020 := by
  have h1 := rowsB_le (right_row h j)
  have h2 := (enc_len (rowsB (aheadPo l j) (blkPo l j)).length).2
  have h3 := (enc_len (lastD (l.take (8 * (j + 1))) - aheadPo l j).toNat).2
  rw [pieceP, List.length_append, List.length_append]
  omega
theorem bodP_le {l : List Po} (h : rightP l) : ∀ j, (bodP l j).length ≤ 9000020 * j
  | 0 => by simp [bodP]
  | j + 1 => by
    have h1 := bodP_le h j
    have h2 := pieceP_le h j
    rw [bodP_succ, List.length_append]
    omega
/-- a part of a row of posts. -/
theorem RdPo.part {w : World} {B : Nat} {ad : Addr} {l : List Po} (h : RdPo w B (some ad) l) (i k : Nat) : RdPo w B (some (ad.add (i * 2))) ((l.drop i).take k) := by
  obtain ⟨ps, rfl, h2, h3⟩ := h.ex
  refine ⟨(ps.drop i).take k, by rw [List.map_take, List.map_drop], ?_, fun p hp => h3 p (List.mem_of_mem_drop (List.mem_of_mem_take hp))⟩
  have e1 : ∀ (ps : List PoL) (i : Nat), pFlat (ps.drop i) = (pFlat ps).drop (i * 2) := by
    intro ps
    induction ps with
    | nil => intro i; simp [pFlat]
    | cons p r ih =>
      intro i
      cases i with
      | zero => simp
      | succ i =>
        have e : pFlat (p :: r) = pRow p ++ pFlat r := rfl
        rw [List.drop_succ_cons, ih, e, show (i + 1) * 2 = (pRow p).length + i * 2 by simp [pRow]; omega, List.drop_length_add_append]
  have e2 : ∀ (ps : List PoL) (k : Nat), pFlat (ps.take k) = (pFlat ps).take (k * 2) := by
    intro ps
    induction ps with
    | nil => intro k; simp [pFlat]
    | cons p r ih =>
      intro k
      cases k with
      | zero => simp [pFlat]
      | succ k =>
        have e : ∀ q s, pFlat (q :: s) = pRow q ++ pFlat s := fun _ _ => rfl
        rw [List.take_succ_cons, e, e, ih, show (k + 1) * 2 = (pRow p).length + k * 2 by simp [pRow]; omega, List.take_length_add_append]
  rw [e2, e1]
  exact (h2.dr (i * 2)).tk (k * 2)
/-- what Build keeps: bytes so far, the last document. -/
structure BwM (w W : World) (bo bl : Nat) (bs : List UInt8) (last : Int) : Prop where
  fr : Fr No w W
  h1 : w.heap.size ≤ bo
  h2 : w.heap.size ≤ bl
  o : ∃ v, W.heap[bo]? = some (.cells #[v] 25 (0, 0)) ∧ Own W w.heap.size 5 1 v bs.length (by8 bs)
  l : W.heap[bl]? = some (.cells #[.int .i64 last] 3 (0, 0))
theorem looseOff {t : TypeId} {B : Nat} {A : World} {T : TypeId} (hT : T ≠ t) : Off (Loose t B A) A T := fun k cs fz hk hl => hT (hl.2 cs T fz hk)
theorem BwM.loose {w A A' : World} {bo bl B : Nat} {bs : List UInt8} {last : Int} (h : BwM w A bo bl bs last) (hw : w.heap.size ≤ B) (f : Fr (Loose 111 B A) A A') : BwM w A' bo bl bs last := by
  have o : ∀ T, T ≠ 111 → Off (Loose 111 B A) A T := fun T hT => looseOff hT
  obtain ⟨v, k1, k2⟩ := h.o
  exact ⟨h.fr.trans f (fun i hi hl => by have := hl.1; omega), h.h1, h.h2, ⟨v, f.blk k1 (o _ (by decide) _ _ _ k1), k2.off f (o _ (by decide))⟩, f.blk h.l (o _ (by decide) _ _ _ h.l)⟩
end Go.Proofs.Ythlbfnoahdjdeaa
namespace Go.Proofs.Ythlbfnoahdjdeaa
set_option linter.unusedVariables false
set_option linter.unusedSimpArgs false
open Go.RowKit

/-- append inside a region that draws its order. -/
theorem step_append_any {P : Program} {ops : Array Oper} {o : Oper} {a : Act} {w : World} {K : Act → World → Prop} {Q : Exit → Act → World → Prop} {E : Prop} (hgd : o.guard = none) (s x : Operand) (t tx : TypeId)
    (ho : o.op = .call { callee := .builtin .append, args := #[s, x], argTypes := #[t, tx] })
    (base : Nat) (e : TypeId) (i : TypeInfo) (z : Value) (size bytes : Nat) (ht : P.underlying t = some (.slice e)) (hi : P.info? e = some i) (hz : i.zero = some z)
    (hsize : i.size = size) (hby : i.bytes = bytes) (hzs : z.cells.size = size)
    (v : Value) (n : Nat) (xs : List Value) (hs : a.eval s = v) (hown : Own w base e size v n xs)
    (y : Value) (m : Nat) (news : List Value) (hx : a.eval x = y) (hsrc : Src P size tx y m news w)
    (hbytes : (n + m) * bytes ≤ 140737488355328) (h63 : n + m ≤ maxLen) (hbase : base ≤ w.heap.size)
    (h : ∀ v' w', Own w' base e size v' (n + m) (xs ++ news) → Fr (fun k => v.ownBlock = some k) w w' → K (a.put o.dst v') w') :
    if Region.wanted o (yielded ops a.tmps) = true then Oper.wp P o a w K Q else E := by
  have hw : Region.wanted o (yielded ops a.tmps) = true := by simp [Region.wanted, hgd]
  rw [if_pos hw]
  exact wp_append_gen w s x t tx ho base e i z size bytes ht hi hz hsize hby hzs v n xs hs hown y m news hx hsrc hbytes h63 hbase fun v' w' h2 h3 _ => h v' w' h2 h3

end Go.Proofs.Ythlbfnoahdjdeaa
