/- TermsEach, walked. -/
import Derived.Test.YtcdhbdhhknlbaaaK10
import Derived.Test.YtcdhbdhhknlbaaaTFindWZ
import Derived.Deep.CutBlock
namespace Go.Proofs.Ytcdhbdhhknlbaaa
set_option linter.unusedVariables false
set_option linter.unusedSimpArgs false
open Go.RowKit
attribute [local go_sem] Oper.semAt_some

theorem results_cell1 {P : Program} {fn : Func} {p : Tmp} {ty : TypeId} (h : fn.results = #[.cell p ty]) (tmps : Array Value) (w : World) (g : Nat) (v : Value) (d : TypeDesc)
    (hp : tmps.getD p undef = .pointer (some ⟨g, 0, none⟩)) (hg : w.cell? ⟨g, 0, none⟩ = some v)
    (hu : P.underlying ty = some d) (hd : (match d with | .struct _ | .array _ _ => true | _ => false) = false) :
    (results fn tmps).run P w = .ok v w := by
  have hp' : tmps[p]?.getD undef = .pointer (some ⟨g, 0, none⟩) := by simpa using hp
  have hl : (loadVar ty ⟨g, 0, none⟩).run P w = .ok v w := by
    have ha := run_isAgg_plain (P := P) hu hd w
    unfold loadVar
    rw [Sem.run_bind, ha]
    simp [Result.andThen, hg]
  simp [results, h, hp', asAddr, hl]

/-- a boxed number, text, row: where it is written, nothing else is. -/
structure Box1 (w : World) (b : Nat) (v : Value) (t : TypeId) : Prop where
  h : w.heap[b]? = some (.cells #[v] t (0, 0))
theorem Box1.new (w : World) (v : Value) (t : TypeId) : Box1 (w.alloc (.cells #[v] t)) w.heap.size v t := ⟨heap_alloc_new w _⟩
theorem Box1.fr {S : Nat → Prop} {w w' : World} {b : Nat} {v : Value} {t : TypeId} (h : Box1 w b v t) (f : Fr S w w') (hS : ¬ S b) : Box1 w' b v t := ⟨f.blk h.h hS⟩
theorem Box1.cell {w : World} {b : Nat} {v : Value} {t : TypeId} (h : Box1 w b v t) : w.cell? ⟨b, 0, none⟩ = some v := cell_of_row _ _ 0 _ _ _ h.h
theorem Box1.froz {w : World} {b : Nat} {v : Value} {t : TypeId} (h : Box1 w b v t) : w.frozen? ⟨b, 0, none⟩ = false := frozen_of_row _ _ _ _ _ h.h
theorem Box1.put {w : World} {b : Nat} {v : Value} {t : TypeId} (h : Box1 w b v t) (v' : Value) : Box1 (w.setCell ⟨b, 0, none⟩ v') b v' t := ⟨by
  have := heap_setCell_same w b 0 _ t v' h.h
  simpa using this⟩
theorem Box1.lt {w : World} {b : Nat} {v : Value} {t : TypeId} (h : Box1 w b v t) : b < w.heap.size := (Array.getElem?_eq_some_iff.1 h.h).1
theorem fr_set (w : World) (b : Nat) (v : Value) : Fr (Is b) w (w.setCell ⟨b, 0, none⟩ v) := (Fr.refl (Is b) w).put 0 v

theorem Box1.offI {w : World} {b : Nat} {v : Value} (h : Box1 w b v 3) {t : TypeId} (hne : t ≠ 3) : Off (Is b) w t := fun k cs fz hk hs => by
  have hs : k = b := hs
  subst hs
  rw [h.h] at hk
  injection hk with hk
  injection hk with _ hk _
  exact hne hk.symm
theorem DictP.box {w w' : World} {B : Nat} {p : Option Addr} {l : List Tx} {at_ : List Nat} {b : Nat} {v : Value} (h : DictP w B p l at_) (hb : Box1 w b v 3) (f : Fr (Is b) w w') : DictP w' B p l at_ :=
  h.off f (hb.offI (by decide)) (hb.offI (by decide)) (hb.offI (by decide)) (hb.offI (by decide))
/-- a row of terms whose last is not the one that is due. -/
def OddE (l : List Tx) (a : Nat) (cc : Code) (pre : List (Nat × Tx)) : Prop := cc = .ret ∧ ∃ pre0 x, pre = pre0 ++ [x] ∧ x ≠ (a + pre0.length, l.getD (a + pre0.length) [])
theorem nodup2 {a b : Nat} (h : a ≠ b) : [a, b].Nodup := by simp [h]
theorem wp_act {P : Program} {s : Code} {Q : Exit → Act → World → Prop} {a : Act} {w : World} (h : ∀ a', a' = a → s.wp P Q a' w) : s.wp P Q a w := h a rfl
/-- the four boxes. -/
structure Box4 (w : World) (b : Nat) (l tv u r : Value) : Prop where
  hl : Box1 w b l 22
  ht : Box1 w (b + 1) tv 3
  hu : Box1 w (b + 1 + 1) u 3
  hr : Box1 w (b + 1 + 1 + 1) r 4
theorem Box4.fr0 {w w' : World} {b : Nat} {l tv u r : Value} (h : Box4 w b l tv u r) (f : Fr No w w') : Box4 w' b l tv u r := ⟨h.hl.fr f (fun h => h), h.ht.fr f (fun h => h), h.hu.fr f (fun h => h), h.hr.fr f (fun h => h)⟩
theorem Box4.fr {S : Nat → Prop} {w w' : World} {b : Nat} {l tv u r : Value} (h : Box4 w b l tv u r) (f : Fr S w w') (hS : ∀ k, S k → b + 1 + 1 + 1 < k) : Box4 w' b l tv u r :=
  ⟨h.hl.fr f (fun h => by have := hS _ h; omega), h.ht.fr f (fun h => by have := hS _ h; omega), h.hu.fr f (fun h => by have := hS _ h; omega), h.hr.fr f (fun h => by have := hS _ h; omega)⟩
theorem Box4.setR {w : World} {b : Nat} {l tv u r : Value} (h : Box4 w b l tv u r) (r' : Value) : Box4 (w.setCell ⟨b + 1 + 1 + 1, 0, none⟩ r') b l tv u r' :=
  ⟨h.hl.fr (fr_set _ _ _) (fun e => by have e : b = b + 1 + 1 + 1 := e; omega), h.ht.fr (fr_set _ _ _) (fun e => by have e : b + 1 = b + 1 + 1 + 1 := e; omega), h.hu.fr (fr_set _ _ _) (fun e => by have e : b + 1 + 1 = b + 1 + 1 + 1 := e; omega), h.hr.put r'⟩
theorem Box4.setU {w : World} {b : Nat} {l tv u r : Value} (h : Box4 w b l tv u r) (u' : Value) : Box4 (w.setCell ⟨b + 1 + 1, 0, none⟩ u') b l tv u' r :=
  ⟨h.hl.fr (fr_set _ _ _) (fun e => by have e : b = b + 1 + 1 := e; omega), h.ht.fr (fr_set _ _ _) (fun e => by have e : b + 1 = b + 1 + 1 := e; omega), h.hu.put u', h.hr.fr (fr_set _ _ _) (fun e => by have e : b + 1 + 1 + 1 = b + 1 + 1 := e; omega)⟩
/-- blocks from b on. -/
def Ab (b : Nat) : Nat → Prop := fun k => b ≤ k
theorem Fr.toAb {w w' : World} {b : Nat} (f : Fr No w w') : Fr (Ab b) w w' := f.mono (fun _ _ h => h.elim)
theorem Fr.ofAb {w w' : World} (f : Fr (Ab w.heap.size) w w') : Fr No w w' := f.mono (fun k hk h => absurd h (Nat.not_le.2 hk))
theorem termsOk_zeros {l : List Tx} (h : termsOk l (List.replicate l.length 0)) : Form9 (dictB l (List.replicate l.length 0)) l (List.replicate l.length 0) := ⟨h, fun v hv => by rw [(List.mem_replicate.1 hv).2]; decide, rfl⟩
theorem BoxE.fr {S : Nat → Prop} {w w' : World} {b1 b2 b3 : Nat} {f t : Int} {p : Option Addr} (h : BoxE w b1 b2 b3 f t p) (fr : Fr S w w') (hS : ∀ k, S k → k ≠ b1 ∧ k ≠ b2 ∧ k ≠ b3) : BoxE w' b1 b2 b3 f t p :=
  ⟨fr.blk h.h1 (fun h => (hS _ h).1 rfl), fr.blk h.h2 (fun h => (hS _ h).2.1 rfl), fr.blk h.h3 (fun h => (hS _ h).2.2 rfl)⟩
theorem BoxE.lt {w : World} {b1 b2 b3 : Nat} {f t : Int} {p : Option Addr} (h : BoxE w b1 b2 b3 f t p) : b1 < w.heap.size ∧ b2 < w.heap.size ∧ b3 < w.heap.size := ⟨(Array.getElem?_eq_some_iff.1 h.h1).1, (Array.getElem?_eq_some_iff.1 h.h2).1, (Array.getElem?_eq_some_iff.1 h.h3).1⟩
set_option maxRecDepth 100000 in
theorem eachD_new (p : Option Addr) (f t : Int) (w : World) : Calls Try.prog 12 #[.pointer p, .int .i64 f, .int .i64 t] w fun e w' => ∃ b1 b2 b3, e = .returned (.func (.func 47) #[] #[.pointer (some ⟨b1, 0, none⟩), .pointer (some ⟨b2, 0, none⟩), .pointer (some ⟨b3, 0, none⟩)]) ∧ BoxE w' b1 b2 b3 f t p ∧ Fr No w w' ∧ (w.heap.size ≤ b1 ∧ w.heap.size ≤ b2 ∧ w.heap.size ≤ b3) := by
  go_enter Try.func12, Try.ntmps12
  go_wp2
  go_ret
  refine ⟨w.heap.size + 1, w.heap.size + 1 + 1, w.heap.size, by simp,  ⟨?_, ?_, ?_⟩, (((Fr.refl No w).alloc _).alloc _).alloc _, by omega⟩
  · exact (three w _ _ _).2.1
  · exact (three w _ _ _).2.2
  · exact (three w _ _ _).1
/-- TermsEach is left: its answer lies in its box. -/
theorem leaveT (fr : Nat) (tmps : Array Value) (w W : World) (b : Bool) (Ds : List Nat) (hp : tmps.getD 8 undef = .pointer (some ⟨w.heap.size + 1 + 1 + 1, 0, none⟩)) (hb : Box1 W (w.heap.size + 1 + 1 + 1) (.bool b) 4) (hf : Fr No w W) (hn : Ds.Nodup)
    (hd : ∀ D ∈ Ds, w.heap.size + 1 + 1 + 1 < D ∧ W.heap[D]? = some (.deferred (some []))) : LeavesInM Fence.wide fr Try.prog Try.f3 tmps (RetB b w) (Ds.map mkD ++ []) .returning W := by
  refine leave_marks (by simp) Ds _ hn (fun E hE => (hd E hE).2) fun W' ff => ?_
  show LeavesIn _ _ _ _ _ _ _ _ _
  exact ⟨_, results_cell1 Try.results3 _ _ (w.heap.size + 1 + 1 + 1) _ _ hp (hb.fr ff (fun h => by have := (hd _ h).1; omega)).cell Try.underlying4 rfl, rfl, hf.trans ff (fun j hj hl => by have := (hd _ hl).1; omega)⟩

set_option maxRecDepth 100000 in
set_option maxHeartbeats 4000000 in
theorem teach_in (fr : Nat) (hf4 : 8 ≤ fr) (A0 : Option Addr) (n0 c0 : Nat) (l : List Tx) (f t u : Int) (w : World)
    (h0 : l.length = n0) (x0 : n0 ≤ c0) (y0 : c0 ≤ maxLen) (z0 : c0 * 16 ≤ 140737488351232) (r0 : Rd w w.heap.size A0 (svs l)) (t0 : ∀ t ∈ l, t.length ≤ maxLen)
    (hf : -9223372036854775808 ≤ f ∧ f ≤ 9223372036854775807) :
    CallsIn Fence.wide fr Try.prog 3 #[.slice A0 n0 c0, .int .i64 f, .int .i64 t, .int .i64 u] w (RetB true w) := by
  have HL := hide h0
  have HR0 := hide r0
  have HT0 := hide t0
  have HY0 := hide y0
  have m1 := make_u64w n0 (by omega)
  obtain ⟨w4, hw4⟩ : ∃ W, W = (((w.alloc (.cells #[.slice A0 n0 c0] 22)).alloc (.cells #[.int .i64 t] 3)).alloc (.cells #[.int .i64 u] 3)).alloc (.cells #[.bool false] 4) := ⟨_, rfl⟩
  have HF4 : Hid (Fr No w w4) := hide (by rw [hw4]; exact ((((Fr.refl No w).alloc _).alloc _).alloc _).alloc _)
  have HBx : Hid (Box4 w4 w.heap.size (.slice A0 n0 c0) (.int .i64 t) (.int .i64 u) (.bool false)) := hide (by
    have e1 := Box1.new w (.slice A0 n0 c0) 22
    have e2 := Box1.new (w.alloc (.cells #[.slice A0 n0 c0] 22)) (.int .i64 t) 3
    have e3 := Box1.new ((w.alloc (.cells #[.slice A0 n0 c0] 22)).alloc (.cells #[.int .i64 t] 3)) (.int .i64 u) 3
    have e4 := Box1.new (((w.alloc (.cells #[.slice A0 n0 c0] 22)).alloc (.cells #[.int .i64 t] 3)).alloc (.cells #[.int .i64 u] 3)) (.bool false) 4
    have s1 : (w.alloc (.cells #[.slice A0 n0 c0] 22)).heap.size = w.heap.size + 1 := by simp
    have s2 : ((w.alloc (.cells #[.slice A0 n0 c0] 22)).alloc (.cells #[.int .i64 t] 3)).heap.size = w.heap.size + 1 + 1 := by simp
    have s3 : (((w.alloc (.cells #[.slice A0 n0 c0] 22)).alloc (.cells #[.int .i64 t] 3)).alloc (.cells #[.int .i64 u] 3)).heap.size = w.heap.size + 1 + 1 + 1 := by simp
    rw [s1] at e2
    rw [s2] at e3
    rw [s3] at e4
    rw [hw4]
    have a := fun (W : World) (o : Obj) => (Fr.refl No W).alloc o
    exact ⟨((e1.fr (a _ _) (fun h => h)).fr (a _ _) (fun h => h)).fr (a _ _) (fun h => h), (e2.fr (a _ _) (fun h => h)).fr (a _ _) (fun h => h), e3.fr (a _ _) (fun h => h), e4⟩)
  have HW4 := hide hw4
  obtain ⟨w5, hw5⟩ : ∃ W, W = w4.alloc (.cells (madeCells #[.int .u64 0] n0) 40) := ⟨_, rfl⟩
  have HF5 : Hid (Fr No w4 w5) := hide (by rw [hw5]; exact (Fr.refl No w4).alloc _)
  have hs5 : w5.heap.size = w4.heap.size + 1 := by rw [hw5]; simp
  have r1 : Rd w5 w5.heap.size (some ⟨w4.heap.size, 0, none⟩) (un (List.replicate n0 0)) := by
    have h := Rd.block (heap_alloc_new w4 (.cells (madeCells #[.int .u64 0] n0) 40))
    rw [← hw5, made_list, ← un_zeros] at h
    exact h.more (by rw [hs5]; exact Nat.le_refl _)
  have HU : Hid (U64s (List.replicate n0 0)) := hide (fun v hv => by rw [(List.mem_replicate.1 hv).2]; decide)
  have HB1 := hide (rbuild_any A0 (some ⟨w4.heap.size, 0, none⟩) n0 n0 c0 n0 w5.heap.size l (List.replicate n0 0) w5 h0 x0 y0 (by simp) (Nat.le_refl _) (by unfold maxLen; omega) (Nat.le_refl _) ((r0.fr0 (HF4.out.tr HF5.out)).more (HF4.out.tr HF5.out).size) r1 t0 HU.out)
  have HW5 := hide hw5
  have HFb := hide hf
  clear h0 r0 t0 r1 hs5 hw4 hw5 y0 z0 hf
  refine callsIn_of_wp_marks Try.func3 rfl trivial ?_ rfl
  simp only [Try.ntmps3, List.size_toArray, List.length_cons, List.length_nil, Nat.reduceAdd, Nat.reduceSub, Array.replicate_succ, Array.replicate_zero, List.push_toArray, List.append_toArray, List.nil_append, List.cons_append]
  refine wpIn_wide.2 ?_
  go_upto_region 1 with (fail)
  rw [← HW4.out]
  have k1 := HBx.out.hl.cell
  have k2 := HBx.out.ht.cell
  have k3 := HBx.out.hu.cell
  have k4 := HBx.out.hr.cell
  have z4 := HBx.out.hr.froz
  go_upto_region 2 with (fail)
  rw [← HW5.out]
  have HB5 := hide (HBx.out.fr0 HF5.out)
  have k1 := HB5.out.hl.cell
  go_wp2_with (fail)
  refine HB1.out.mono ?_
  rintro en w6 ⟨hfr, hbp⟩
  have HF6 : Hid (Fr No w w6) := hide ((HF4.out.tr HF5.out).tr hfr)
  have HB6 := hide (HBx.out.fr0 (HF5.out.tr hfr))
  have HBp := hide hbp
  clear hfr hbp k1 k2 k3 k4 z4 HBx HB1 m1
  have k1 := HB6.out.hl.cell
  have k2 := HB6.out.ht.cell
  have k3 := HB6.out.hu.cell
  have k4 := HB6.out.hr.cell
  have z4 := HB6.out.hr.froz
  by_cases g0 : 300 < n0
  · have d1 : decide ((300 : Int) < (n0 : Int)) = true := decide_eq_true (by omega)
    have d1b : decide (300 < n0) = true := decide_eq_true g0
    obtain ⟨v6, e6, hv6⟩ : ∃ v e, en = .returned (.tuple #[v, .int .i64 e]) := by
      rcases HBp.out with ⟨_, v, m, _, e, _⟩ | ⟨_, e⟩ <;> exact ⟨_, _, e⟩
    subst hv6
    clear HBp g0
    go_wp2_with (go_at_call 10; refine (awake_any _).mono ?_; rintro en w7 ⟨rfl, hfr⟩; have HF7 := hide (HF6.out.tr hfr); have HB7 := hide (HB6.out.fr0 hfr); have q1 := HB7.out.hr.cell; have q2 := HB7.out.hr.froz; clear hfr)
    exact leaveT fr _ w _ true [] rfl (HB7.out.setR _).hr (HF7.out.trans (fr_set _ _ _) (fun k hk e => by have e : k = w.heap.size + 1 + 1 + 1 := e; omega)) (by simp) (fun D hD => by cases hD)
  have d1 : decide ((300 : Int) < (n0 : Int)) = false := decide_eq_false (by omega)
  have d1b : decide (300 < n0) = false := decide_eq_false g0
  rcases HBp.out with ⟨hok, vb, mb, hmb, rfl, hob⟩ | ⟨_, rfl⟩
  rotate_left
  · clear HBp
    go_wp2_with (go_at_call 10; refine (awake_any _).mono ?_; rintro en w7 ⟨rfl, hfr⟩; have HF7 := hide (HF6.out.tr hfr); have HB7 := hide (HB6.out.fr0 hfr); have q1 := HB7.out.hr.cell; have q2 := HB7.out.hr.froz; clear hfr)
    exact leaveT fr _ w _ true [] rfl (HB7.out.setR _).hr (HF7.out.trans (fr_set _ _ _) (fun k hk e => by have e : k = w.heap.size + 1 + 1 + 1 := e; omega)) (by simp) (fun D hD => by cases hD)
  have HFo : Hid (Form9 (dictB l (List.replicate n0 0)) l (List.replicate n0 0)) := hide ⟨hok, HU.out, rfl⟩
  obtain ⟨Ab, cb, rfl, hb1, hb2, _, hbr, _⟩ := hob.form
  have hmb2 : mb ≤ 140737488300000 := by
    rw [hmb]
    have h1 := dictB_le (at_ := List.replicate n0 0) hok.2.2.1
    have h2 := hok.1
    omega
  have HO1 := hide (topen_any Ab mb cb w6.heap.size _ w6 hmb.symm hb1 hb2 (by omega) (Nat.le_refl _) hbr)
  clear HBp hok hmb hob hb1 hb2 hbr hmb2
  go_wp2_with (fail)
  refine HO1.out.mono ?_
  rintro en w7 hop
  obtain ⟨hfr, p, ef, rfl, _, hfd⟩ := openQ_of hop
  obtain ⟨rfl, hdp⟩ := hfd _ _ HFo.out
  have HF7 : Hid (Fr No w w7) := hide (HF6.out.tr hfr)
  have HB7 := hide (HB6.out.fr0 hfr)
  have HD7 := hide hdp
  have HF67 := hide hfr
  clear hop hfr hfd hdp HO1 k1 k2 k3 k4 z4
  have HB6s : w.heap.size + 1 + 1 + 1 < w6.heap.size := HB6.out.hr.lt
  clear HB6
  have k2 := HB7.out.ht.cell
  go_wp2_with (fail)
  refine (eachD_new p f t w7).mono ?_
  rintro en w8 ⟨b1, b2, b3, rfl, hbe, hfr, hbg⟩
  have HBg : Hid (w6.heap.size ≤ b1 ∧ w6.heap.size ≤ b2 ∧ w6.heap.size ≤ b3) := hide ⟨Nat.le_trans HF67.out.size hbg.1, Nat.le_trans HF67.out.size hbg.2.1, Nat.le_trans HF67.out.size hbg.2.2⟩
  have HF8 : Hid (Fr No w w8) := hide (HF7.out.tr hfr)
  have HB8 := hide (HB7.out.fr0 hfr)
  have HD8 := hide (HD7.out.fr0 hfr)
  have HE8 := hide hbe
  have HF78 := hide hfr
  clear hfr hbe k2 HB7 HD7 hbg
  obtain ⟨u1, hu1⟩ : ∃ u1 : Int, u1 = (if u < 1 then 1 else u) := ⟨_, rfl⟩
  have HU1 := hide hu1
  clear hu1
  have k3 := HB8.out.hu.cell
  have z3 := HB8.out.hu.froz
  have hq : ∀ (a b c : Option Addr) (W : World), (binOp .eql 33 (.func (.func 47) #[] #[.pointer a, .pointer b, .pointer c]) .nilFunc).run Try.prog W = .ok (.bool false) W := fun _ _ _ _ => by kernel_rfl
  obtain ⟨gu, hgu⟩ : ∃ gu : Bool, decide (u < 1) = gu := ⟨_, rfl⟩
  have HGu := hide hgu
  go_upto_if 50 with (fail)
  refine wp_named fun K hK => ?_
  go_cut [] from 51 to 51 (fun wx => Hid (Box4 wx w.heap.size (.slice A0 n0 c0) (.int .i64 t) (.int .i64 u1) (.bool false)) ∧ Hid (Fr (Is (w.heap.size + 1 + 1)) w8 wx))
  case first =>
    cases gu with
    | true =>
      have e : u1 = 1 := by rw [HU1.out, if_pos (of_decide_eq_true HGu.out)]
      clear hgu
      go_wp2_with (fail)
      go_meet
      exact ⟨hide (by rw [e]; exact HB8.out.setU _), hide (fr_set _ _ _)⟩
    | false =>
      have e : u1 = u := by rw [HU1.out, if_neg (of_decide_eq_false HGu.out)]
      clear hgu
      go_wp2_with (fail)
      go_meet
      exact ⟨hide (by rw [e]; exact HB8.out), hide (Fr.refl _ _)⟩
  case rest =>
  obtain ⟨HB9, HF9⟩ := hcut
  obtain ⟨w9, rfl⟩ : ∃ W : World, W = wc := ⟨_, rfl⟩
  have HD9 := hide (HD8.out.above HF9.out (fun k hk => by have e : k = w.heap.size + 1 + 1 := hk; have := HB8.out.hr.lt; have := HF6.out.size; have := HB6s; omega))
  refine hK _ _ ?_
  clear hK k3 z3 hq hgu
  obtain ⟨w10, hw10⟩ : ∃ W, W = w9.alloc (.cells #[.int .i64 0] 3) := ⟨_, rfl⟩
  obtain ⟨Bn, hBn⟩ : ∃ Bn, Bn = w9.heap.size := ⟨_, rfl⟩
  have HW10 := hide hw10
  have HBn := hide hBn
  clear hw10 hBn
  go_upto_region 12 with (fail)
  rw [← HW10.out, ← HBn.out]
  go_upto_block 0 with (fail)
  refine wp_named fun K hK => ?_
  refine wp_act fun a0 ha0 => ?_
  have hd0 : a0.defers = [] := by rw [ha0]
  have HA0 := hide ha0
  obtain ⟨a, ha⟩ : ∃ a, a = (max f 0).toNat := ⟨_, rfl⟩
  obtain ⟨q, hq⟩ : ∃ q, q = (min t l.length).toNat - a := ⟨_, rfl⟩
  have HA := hide ha
  have HQ := hide hq
  have HF10 : Hid (Fr No w9 w10) := hide (by rw [HW10.out]; exact (Fr.refl No w9).alloc _)
  have HF10w : Hid (Fr No w w10) := hide ((HF8.out.trans HF9.out (fun k hk e => by have e : k = w.heap.size + 1 + 1 := e; omega)).tr HF10.out)
  have HB10 := hide (HB9.out.fr0 HF10.out)
  have HN10 : Hid (Box1 w10 Bn (.int .i64 (0 : Nat)) 3) := hide (by rw [HW10.out, HBn.out]; exact Box1.new _ _ _)
  have HE9 := hide (HE8.out.fr HF9.out (fun k hk => by have e : k = w.heap.size + 1 + 1 := hk; have := HBg.out; omega))
  have HE10 := hide (HE9.out.fr0 HF10.out)
  have HD10 := hide (HD9.out.fr0 HF10.out)
  have hqn : q ≤ l.length := by rw [hq]; omega
  have hbn : Bn + 1 = w10.heap.size := by rw [HBn.out, HW10.out]; simp
  clear ha hq
  have hbl := HE9.out.lt
  have hb69 : w6.heap.size ≤ Bn := by rw [HBn.out]; exact Nat.le_trans HF67.out.size (Nat.le_trans HF78.out.size HF9.out.size)
  rw [← HBn.out] at hbl
  have HSq := hide (fun W (hW : Fr (Is Bn) w10 W) => eachD_in (fr - 1) (by omega) b1 b2 b3 w6.heap.size f t p l _ a q W (HE10.out.fr hW (fun k e => by have e : k = Bn := e; omega)) (HD10.out.box HN10.out hW) HA.out HQ.out)
  have HEg := hide (enters_of Try.func47 (by kernel_rfl) rfl)
  have h1u : (0 : Int) < u1 := by rw [HU1.out]; split <;> omega
  have hrest : ∀ (D m : Nat) (W : World), w10.heap.size ≤ D → W.heap[D]? = some (.deferred (some [])) → Fr (Is Bn) w10 W → Box1 W Bn (.int .i64 m) 3 → m ≤ q → ((m : Int) = u1 ∨ m = q) → K { a0 with defers := [mkD D] } W := by
    intro D m W hD hWD hF hB hmq hm
    have HWD := hide hWD
    have HFr := hide hF
    have HBm := hide hB
    have HM := hide hm
    have HMq := hide hmq
    have HBW := hide (HB10.out.fr hF (fun k e => by have e : k = Bn := e; omega))
    have HFW : Hid (Fr No w W) := hide (HF10w.out.trans hF (fun k hk e => by have e : k = Bn := e; omega))
    have HSW := hide (HSq.out W hF)
    have HDB : Hid (w.heap.size + 1 + 1 + 1 < D) := hide (by omega)
    have HBn3 : Hid (w.heap.size + 1 + 1 + 1 < Bn) := hide (by omega)
    have HnW : Hid (D < W.heap.size) := hide (Array.getElem?_eq_some_iff.1 hWD).1
    have HBnl : Hid (Bn < W.heap.size) := hide hB.lt
    refine hK _ _ ?_
    have ha0 := HA0.out
    clear HA0
    subst ha0
    dsimp only
    clear hWD hF hB hm hmq hK HSq h1u hbl hb69 hbn hD hqn hd0
    obtain ⟨w11, hw11⟩ : ∃ W1, W1 = W.alloc (.cells #[.int .i64 f] 3) := ⟨_, rfl⟩
    obtain ⟨Bk, hBk⟩ : ∃ Bk, Bk = W.heap.size := ⟨_, rfl⟩
    have HW11 := hide hw11
    have HBk := hide hBk
    clear hw11 hBk
    go_upto_region 16 with (fail)
    rw [← HW11.out, ← HBk.out]
    have HF11 : Hid (Fr No W w11) := hide (by rw [HW11.out]; exact (Fr.refl No W).alloc _)
    have HBk1 : Hid (Box1 w11 Bk (.int .i64 f) 3) := hide (by rw [HW11.out, HBk.out]; exact Box1.new _ _ _)
    have k1 := HBk1.out.cell
    have k2 := HBk1.out.froz
    obtain ⟨gu, hgu⟩ : ∃ gu : Bool, decide (f < 0) = gu := ⟨_, rfl⟩
    have HGu := hide hgu
    go_upto_if 61 with (fail)
    refine wp_named fun K hK => ?_
    go_cut [] from 62 to 62 (fun wx => Hid (Box1 wx Bk (.int .i64 (a : Nat)) 3) ∧ Hid (Fr (Is Bk) w11 wx))
    case first =>
      cases gu with
      | true =>
        have e : ((a : Nat) : Int) = 0 := by have := of_decide_eq_true HGu.out; rw [HA.out]; omega
        clear hgu
        go_wp2_with (fail)
        go_meet
        exact ⟨hide (by rw [e]; exact HBk1.out.put _), hide (fr_set _ _ _)⟩
      | false =>
        have e : ((a : Nat) : Int) = f := by have := of_decide_eq_false HGu.out; rw [HA.out]; omega
        clear hgu
        go_wp2_with (fail)
        go_meet
        exact ⟨hide (by rw [e]; exact HBk1.out), hide (Fr.refl _ _)⟩
    case rest =>
    obtain ⟨HBk2, HF12⟩ := hcut
    obtain ⟨w12, rfl⟩ : ∃ W1 : World, W1 = wc := ⟨_, rfl⟩
    refine hK _ _ ?_
    clear hK k1 k2 hgu
    have HF12W : Hid (Fr No W w12) := hide (HF11.out.trans HF12.out (fun k hk e => by have e : k = Bk := e; have := HBk.out; omega))
    have k1 := HBk2.out.cell
    go_upto_block 2 with (fail)
    refine wp_named fun K2 hK2 => ?_
    refine wp_act fun a1 ha1 => ?_
    have HA1 := hide ha1
    have HEa : Hid (a1.eval (.tmp 63) = .func (.func 47) #[] #[.pointer (some ⟨b1, 0, none⟩), .pointer (some ⟨b2, 0, none⟩), .pointer (some ⟨b3, 0, none⟩)]) := hide (by rw [ha1]; rfl)
    have HDa : Hid (a1.defers = [mkD D]) := hide (by rw [ha1])
    clear ha1
    have HEg := hide (enters_of Try.func47 (by kernel_rfl) rfl)
    have HFz : Hid (Fr No w w12) := hide (HFW.out.tr HF12W.out)
    have HBz := hide (HBW.out.fr0 HF12W.out)
    have hbk : Bk < w12.heap.size := HBk2.out.lt
    have hbk2 : w.heap.size + 1 + 1 + 1 < Bk := by have := HBk.out; have := HnW.out; have := HDB.out; omega
    have hbnk : Bn < Bk := by have := HBk.out; have := HBnl.out; omega
    have hdk : D < Bk := by have := HBk.out; have := HnW.out; omega
    have HFq := hide HF12W.out.any
    have HBmz := hide (HBm.out.fr HF12W.out (fun h => h))
    have HWDz : Hid (w12.heap[D]? = some (.deferred (some []))) := hide (HF12W.out.blk HWD.out (fun h => h))
    have hend : ∀ (D2 : Nat) (W' : World), w12.heap.size ≤ D2 → W'.heap[D2]? = some (.deferred (some [])) → Fr (Is Bk) w12 W' → Box1 W' Bk (.int .i64 ((a + q : Nat) : Int)) 3 → K2 { a1 with defers := [mkD D2, mkD D] } W' := by
      intro D2 W' hD2 hKd hFe hBe
      have HKd := hide hKd
      have HFe := hide hFe
      have HBe := hide hBe
      have HBx := hide (HBz.out.fr hFe (fun k e => by have e : k = Bk := e; omega))
      have HBm2 := hide (HBmz.out.fr hFe (fun e => by have e : Bn = Bk := e; omega))
      have HFx : Hid (Fr No w W') := hide (HFz.out.trans hFe (fun k hk e => by have e : k = Bk := e; omega))
      have HWD2 : Hid (W'.heap[D]? = some (.deferred (some []))) := hide (HFe.out.blk HWDz.out (fun e => by have e : D = Bk := e; omega))
      have hDD : D < D2 := by omega
      have hD2b : w.heap.size + 1 + 1 + 1 < D2 := by omega
      have hDb := HDB.out
      clear hKd hFe hBe
      refine hK2 _ _ ?_
      have ha1 := HA1.out
      clear HA1
      subst ha1
      dsimp only
      obtain ⟨kk, hkk⟩ : ∃ kk, a + q = kk := ⟨_, rfl⟩
      have HKK := hide hkk
      have b1' := HBe.out.cell
      rw [hkk] at b1'
      have b2' := HBx.out.ht.cell
      have b3' := HBx.out.hl.cell
      have b4' := HBx.out.hu.cell
      have b5' := HBm2.out.cell
      obtain ⟨g1, hg1⟩ : ∃ g : Bool, decide (t ≤ (kk : Int)) = g := ⟨_, rfl⟩
      have HG : Hid (g1 = false → n0 ≤ kk) := hide (fun h => by
        rw [h] at hg1
        have h1 := of_decide_eq_false hg1
        have h2 := HQ.out
        have h3 := HL.out
        omega)
      obtain ⟨g2, hg2⟩ : ∃ g : Bool, ((m : Int) == u1) = g := ⟨_, rfl⟩
      have HG2 : Hid (g2 = false → m = q) := hide (fun h => by
        rcases HM.out with h1 | h1
        · rw [h] at hg2; simp [h1] at hg2
        · exact h1)
      have hsub : (kk : Int) - (a : Int) = (q : Int) := by omega
      have hkb : (kk : Int) ≤ 9223372036854775807 := by
        have h1 := HA.out
        have h2 := HQ.out
        have h3 := HFb.out
        have h4 := HD10.out.n_le
        omega
      have ha0 : (0 : Int) ≤ (a : Int) := by omega
      have hk0 : (0 : Int) ≤ (kk : Int) := by omega
      clear hkk
      cases g1 with
      | true =>
        cases g2 with
        | true =>
          clear HG2 HG
          go_wp2_with (go_at_call 10; refine (awake_any _).mono ?_; rintro en w20 ⟨rfl, hfr⟩; have HF20 := hide (HFx.out.tr hfr); have HB20 := hide (HBx.out.fr0 hfr); have q1 := HB20.out.hr.cell; have q2 := HB20.out.hr.froz; have HK20 := hide (hfr.blk HKd.out (fun h => h)); have HW20 := hide (hfr.blk HWD2.out (fun h => h)); clear hfr)
          exact leaveT fr _ w _ true [D2, D] rfl (HB20.out.setR _).hr (HF20.out.trans (fr_set _ _ _) (fun k hk e => by have e : k = w.heap.size + 1 + 1 + 1 := e; omega)) (nodup2 (by omega)) (fun E hE => by
            rcases List.mem_cons.1 hE with rfl | hE
            · exact ⟨hD2b, (fr_set _ _ _).blk HK20.out (fun e => by have e : _ = w.heap.size + 1 + 1 + 1 := e; omega)⟩
            · rw [List.mem_singleton.1 hE]; exact ⟨hDb, (fr_set _ _ _).blk HW20.out (fun e => by have e : _ = w.heap.size + 1 + 1 + 1 := e; omega)⟩)
        | false =>
          have hmq2 := HG2.out rfl
          have e9 : ((m : Int) == (q : Int)) = true := by rw [hmq2]; simp
          clear hmq2 HG2 HG
          go_wp2_with (go_at_call 10; refine (awake_any _).mono ?_; rintro en w20 ⟨rfl, hfr⟩; have HF20 := hide (HFx.out.tr hfr); have HB20 := hide (HBx.out.fr0 hfr); have q1 := HB20.out.hr.cell; have q2 := HB20.out.hr.froz; have HK20 := hide (hfr.blk HKd.out (fun h => h)); have HW20 := hide (hfr.blk HWD2.out (fun h => h)); clear hfr)
          exact leaveT fr _ w _ true [D2, D] rfl (HB20.out.setR _).hr (HF20.out.trans (fr_set _ _ _) (fun k hk e => by have e : k = w.heap.size + 1 + 1 + 1 := e; omega)) (nodup2 (by omega)) (fun E hE => by
            rcases List.mem_cons.1 hE with rfl | hE
            · exact ⟨hD2b, (fr_set _ _ _).blk HK20.out (fun e => by have e : _ = w.heap.size + 1 + 1 + 1 := e; omega)⟩
            · rw [List.mem_singleton.1 hE]; exact ⟨hDb, (fr_set _ _ _).blk HW20.out (fun e => by have e : _ = w.heap.size + 1 + 1 + 1 := e; omega)⟩)
      | false =>
        have hnk := HG.out rfl
        have e8 : decide ((n0 : Int) ≤ (kk : Int)) = true := decide_eq_true (by omega)
        have e8b : decide (n0 ≤ kk) = true := decide_eq_true hnk
        clear hnk
        cases g2 with
        | true =>
          clear HG2 HG
          go_wp2_with (go_at_call 10; refine (awake_any _).mono ?_; rintro en w20 ⟨rfl, hfr⟩; have HF20 := hide (HFx.out.tr hfr); have HB20 := hide (HBx.out.fr0 hfr); have q1 := HB20.out.hr.cell; have q2 := HB20.out.hr.froz; have HK20 := hide (hfr.blk HKd.out (fun h => h)); have HW20 := hide (hfr.blk HWD2.out (fun h => h)); clear hfr)
          exact leaveT fr _ w _ true [D2, D] rfl (HB20.out.setR _).hr (HF20.out.trans (fr_set _ _ _) (fun k hk e => by have e : k = w.heap.size + 1 + 1 + 1 := e; omega)) (nodup2 (by omega)) (fun E hE => by
            rcases List.mem_cons.1 hE with rfl | hE
            · exact ⟨hD2b, (fr_set _ _ _).blk HK20.out (fun e => by have e : _ = w.heap.size + 1 + 1 + 1 := e; omega)⟩
            · rw [List.mem_singleton.1 hE]; exact ⟨hDb, (fr_set _ _ _).blk HW20.out (fun e => by have e : _ = w.heap.size + 1 + 1 + 1 := e; omega)⟩)
        | false =>
          have hmq2 := HG2.out rfl
          have e9 : ((m : Int) == (q : Int)) = true := by rw [hmq2]; simp
          clear hmq2 HG2 HG
          go_wp2_with (go_at_call 10; refine (awake_any _).mono ?_; rintro en w20 ⟨rfl, hfr⟩; have HF20 := hide (HFx.out.tr hfr); have HB20 := hide (HBx.out.fr0 hfr); have q1 := HB20.out.hr.cell; have q2 := HB20.out.hr.froz; have HK20 := hide (hfr.blk HKd.out (fun h => h)); have HW20 := hide (hfr.blk HWD2.out (fun h => h)); clear hfr)
          exact leaveT fr _ w _ true [D2, D] rfl (HB20.out.setR _).hr (HF20.out.trans (fr_set _ _ _) (fun k hk e => by have e : k = w.heap.size + 1 + 1 + 1 := e; omega)) (nodup2 (by omega)) (fun E hE => by
            rcases List.mem_cons.1 hE with rfl | hE
            · exact ⟨hD2b, (fr_set _ _ _).blk HK20.out (fun e => by have e : _ = w.heap.size + 1 + 1 + 1 := e; omega)⟩
            · rw [List.mem_singleton.1 hE]; exact ⟨hDb, (fr_set _ _ _).blk HW20.out (fun e => by have e : _ = w.heap.size + 1 + 1 + 1 := e; omega)⟩)
    clear k1
    refine wp_block ?_
    refine (wpIn_wide (n := fr)).1 ?_
    refine wpIn_rangeFunc_mem (F := Fence.wide) rfl (by omega) HEa.out trivial HEg.out HSW.out KpI.t KpI.b (fun x W l o o' h hl ho => h) HF12W.out (fun x => rfl)
      (fun pre W' => Fr (Is Bk) w12 W' ∧ Box1 W' Bk (.int .i64 ((a + pre.length : Nat) : Int)) 3)
      (fun cc pre W' => OddE l a cc pre) ?hI ?hIx ?h0
      (fun x => { tmps := (((a1.tmps.setIfInBounds 64 (.int .i64 (x.1 : Nat))).setIfInBounds 65 (sv x.2)).setIfInBounds 18 (.int .i64 (x.1 : Nat))).setIfInBounds 19 (sv x.2), defers := [] }) ?assign ?body ?done ?stop ?panic
    case hI =>
      rintro s A1' A2' ⟨z1, z2⟩ ff
      exact ⟨z1.trans ff (fun j hj hl => by have := hl.1; omega), z2.fr ff (fun hl => by have := hl.1; omega)⟩
    case hIx => exact fun cc s A1' A2' h ff => h
    case h0 => exact ⟨Fr.refl _ _, HBk2.out⟩
    case assign =>
      intro lp x W' K hK
      have ha1 := HA1.out
      clear HA1
      subst ha1
      have HKx := hide hK
      clear hK
      gi_wp2
      have hK := HKx.out
      simpa [encI] using hK
    case panic => exact fun D pre W _ hPn _ _ => hPn.elim
    case done =>
      rintro D2 xs W' hD2 rfl ⟨z1, z2⟩ hKd
      rw [ordsT_len] at z2
      rw [HDa.out]
      exact hend D2 W' hD2 hKd z1 z2
    case stop =>
      rintro D2 cc pre W' hD2 hSp ⟨_, pre0, x, rfl, hne⟩ hKd
      refine absurd ?_ hne
      obtain ⟨⟨r, hr⟩, _⟩ := hSp
      have hlen := congrArg List.length hr
      rw [List.length_append, List.length_append, ordsT_len, List.length_singleton] at hlen
      have h1 : (ordsT l a q)[pre0.length]? = some x := by
        rw [← hr, List.append_assoc, List.getElem?_append_right (Nat.le_refl _)]
        simp
      rw [ordsT, List.getElem?_map, List.getElem?_range (by omega)] at h1
      exact (Option.some.inj h1).symm
    case body =>
      rintro lp pre x W' ⟨z1, z2⟩ hgx hpl
      have hf5 : 1 ≤ fr - 1 - 1 := by omega
      have ha1 := HA1.out
      clear HA1
      subst ha1
      have HZ1 := hide z1
      have HZ2 := hide z2
      have HBx := hide (HBz.out.fr z1 (fun k e => by have e : k = Bk := e; omega))
      have HFx : Hid (Fr No w W') := hide (HFz.out.trans z1 (fun k hk e => by have e : k = Bk := e; omega))
      obtain ⟨kk, hkk⟩ : ∃ kk, a + pre.length = kk := ⟨_, rfl⟩
      have HKK := hide hkk
      have hkt : (kk : Int) < t := by have := HQ.out; omega
      have hkn : kk < n0 := by have := HQ.out; have := HL.out; omega
      have hkl : kk < l.length := by rw [HL.out]; exact hkn
      have hkb : kk ≤ 1048576 := by have := HD10.out.n_le; omega
      obtain ⟨ad, X, hA0, _, kc, hX1, hX2, hX3⟩ := cellStr (HR0.out.fr0 HFx.out) hkl
      subst hA0
      have c1 : W'.cell? ⟨Bk, 0, none⟩ = some (.int .i64 (kk : Nat)) := by rw [← hkk]; exact z2.cell
      have c2 : W'.frozen? ⟨Bk, 0, none⟩ = false := z2.froz
      have c3 := HBx.out.hl.cell
      have c4 := HBx.out.ht.cell
      have c5 := HBx.out.hr.cell
      have c6 := HBx.out.hr.froz
      obtain ⟨x1, hx1⟩ : ∃ x1, x.1 = x1 := ⟨_, rfl⟩
      obtain ⟨Y, hY⟩ : ∃ Y : ByteArray, (⟨x.2.toArray⟩ : ByteArray) = Y := ⟨_, rfl⟩
      have HY : Hid (Y.toList = x.2) := hide (by rw [← hY, tx_list])
      have eY : sv x.2 = .string Y := by rw [sv, hY]
      have HX1 := hide hx1
      have HX2 := hide hX2
      have hln : a + (pre ++ [x]).length = kk + 1 := by rw [List.length_append, ← hkk]; rfl
      have HLn := hide hln
      rw [eY, hx1]
      have hbd : a + pre.length < a + q := by omega
      have i1 : (0 : Int) ≤ (kk : Int) := by omega
      have i2 : (kk : Int) < (n0 : Int) := by omega
      have d2 : decide ((n0 : Int) ≤ (kk : Int)) = false := decide_eq_false (by omega)
      have d2b : decide (n0 ≤ kk) = false := decide_eq_false (by omega)
      have d3 : decide (t ≤ (kk : Int)) = false := decide_eq_false (by omega)
      clear z1 z2 hgx hpl hkk hkl hX1 hX2 hX3 hx1 hY eY hln hbd
      have f2 : Fr (Is (w.heap.size + 1 + 1 + 1)) W' (W'.setCell ⟨w.heap.size + 1 + 1 + 1, 0, none⟩ (.bool false)) := fr_set _ _ _
      have HKf2 : Hid (KeepsFrom w12.heap.size W' (W'.setCell ⟨w.heap.size + 1 + 1 + 1, 0, none⟩ (.bool false))) := hide ⟨f2.size, fun j o hj hk _ => f2.blk hk (fun e => by have e : j = w.heap.size + 1 + 1 + 1 := e; omega)⟩
      clear f2
      by_cases hne : x1 = kk
      · subst hne
        by_cases hte : Y.toList = X.toList
        · have e1 : ((x1 : Int) != x1) = false := by simp
          have e2 : (Y.toList != X.toList) = false := by simp [hte]
          have e3 : (Y.toList == X.toList) = true := by simp [hte]
          have f1 : Fr (Is Bk) W' (W'.setCell ⟨Bk, 0, none⟩ (.int .i64 ((x1 : Int) + 1))) := fr_set _ _ _
          have HKp : Hid (KpI W' (W'.setCell ⟨Bk, 0, none⟩ (.int .i64 ((x1 : Int) + 1)))) := hide (f1.mono (fun i _ e => by
            have e : i = Bk := e
            subst e
            intro cs t fz hk
            rw [HZ2.out.h] at hk
            injection hk with hk
            injection hk with _ hk _
            exact hk.symm))
          have HFn : Hid (Fr (Is Bk) w12 (W'.setCell ⟨Bk, 0, none⟩ (.int .i64 ((x1 : Int) + 1)))) := hide (HZ1.out.ts f1)
          have HBn1 : Hid (Box1 (W'.setCell ⟨Bk, 0, none⟩ (.int .i64 ((x1 : Int) + 1))) Bk (.int .i64 ((x1 : Int) + 1)) 3) := hide (HZ2.out.put _)
          have HKf : Hid (KeepsFrom w12.heap.size W' (W'.setCell ⟨Bk, 0, none⟩ (.int .i64 ((x1 : Int) + 1)))) := hide ⟨f1.size, fun j o hj hk _ => f1.blk hk (fun e => by have e : j = Bk := e; omega)⟩
          clear f1 hte
          gi_wp2
          refine ⟨HKf.out, HKp.out, HFn.out, ?_⟩
          have e : (a : Int) + ((pre ++ [x]).length : Nat) = (x1 : Int) + 1 := by have := HLn.out; omega
          rw [e]
          exact HBn1.out
        · have e1 : ((x1 : Int) != x1) = false := by simp
          have e2 : (Y.toList != X.toList) = true := by simpa using hte
          have e3 : (Y.toList == X.toList) = false := by simpa using hte
          have HTe := hide hte
          clear hte
          gi_wp2
          refine ⟨HKf2.out, rfl, pre, x, rfl, fun hx => HTe.out ?_⟩
          rw [HY.out, HX2.out, hx, HKK.out]
      · have e1 : ((x1 : Int) != (kk : Int)) = true := by simp; omega
        have HNe := hide hne
        clear hne
        gi_wp2
        refine ⟨HKf2.out, rfl, pre, x, rfl, fun hx => HNe.out ?_⟩
        rw [← HX1.out, hx, ← HKK.out]
  clear hK
  refine wp_block ?_
  refine (wpIn_wide (n := fr)).1 ?_
  have he0 : a0.eval (.tmp 51) = .func (.func 47) #[] #[.pointer (some ⟨b1, 0, none⟩), .pointer (some ⟨b2, 0, none⟩), .pointer (some ⟨b3, 0, none⟩)] := by rw [ha0]; rfl
  clear ha0
  refine wpIn_rangeFunc_mem (F := Fence.wide) rfl (by omega) he0 trivial HEg.out (HSq.out w10 (Fr.refl _ _)) KpI.t KpI.b (fun x W l o o' h hl ho => h) (Fr.refl _ _) (fun x => rfl)
    (fun pre W => Fr (Is Bn) w10 W ∧ Box1 W Bn (.int .i64 (pre.length : Nat)) 3 ∧ (pre.length : Int) < u1)
    (fun cc pre W => cc = .exit 0 ∧ Fr (Is Bn) w10 W ∧ Box1 W Bn (.int .i64 (pre.length : Nat)) 3 ∧ (pre.length : Int) = u1) ?hI ?hIx ?h0
    (fun x => { tmps := (a0.tmps.setIfInBounds 52 (.int .i64 (x.1 : Nat))).setIfInBounds 53 (sv x.2), defers := [] }) ?assign ?body ?done ?stop ?panic
  case hI =>
    rintro s A1' A2' ⟨z1, z2, z3⟩ ff
    exact ⟨z1.trans ff (fun j hj hl => by have := hl.1; omega), z2.fr ff (fun hl => by have := hl.1; omega), z3⟩
  case hIx =>
    rintro cc s A1' A2' ⟨z0, z1, z2, z3⟩ ff
    exact ⟨z0, z1.trans ff (fun j hj hl => by have := hl.1; omega), z2.fr ff (fun hl => by have := hl.1; omega), z3⟩
  case h0 => exact ⟨Fr.refl _ _, HN10.out, h1u⟩
  case assign =>
    intro l x W K hK
    gi_wp2
    simpa [encI] using hK
  case panic => exact fun D pre W _ hPn _ _ => hPn.elim
  case done =>
    rintro D xs W hD rfl ⟨z1, z2, z3⟩ hK
    rw [ordsT_len] at z2
    rw [hd0]
    exact hrest D q W hD hK z1 z2 (Nat.le_refl _) (.inr rfl)
  case stop =>
    rintro D cc pre W hD hSp ⟨rfl, z1, z2, z3⟩ hK
    have hl : pre.length ≤ q := by
      have := hSp.1.length_le
      rwa [ordsT_len] at this
    rw [hd0]
    have := hrest D pre.length W hD hK z1 z2 hl (.inl z3)
    clear hrest
    gi_wp2
    exact this
  case body =>
    rintro lp pre x W ⟨z1, z2, z3⟩ hgx hpl
    have hf5 : 1 ≤ fr - 1 - 1 := by omega
    have ha0 := HA0.out
    clear HA0
    subst ha0
    have HZ1 := hide z1
    have HZ2 := hide z2
    have u1c : W.cell? ⟨Bn, 0, none⟩ = some (.int .i64 (pre.length : Nat)) := z2.cell
    have u2c : W.frozen? ⟨Bn, 0, none⟩ = false := z2.froz
    have hpl2 : pre.length ≤ 2097152 := by have := HD10.out.n_le; omega
    have u3c : W.cell? ⟨w.heap.size + 1 + 1, 0, none⟩ = some (.int .i64 u1) := (HB10.out.hu.fr z1 (fun e => by have e : w.heap.size + 1 + 1 = Bn := e; omega)).cell
    have q1 : (0 : Int) ≤ (pre.length : Int) := by omega
    obtain ⟨k, hk⟩ : ∃ k, pre.length = k := ⟨_, rfl⟩
    have HK := hide hk
    rw [hk] at u1c hpl2 q1 z3
    have HZ3 := hide z3
    clear z1 z2 hgx hpl hk z3
    obtain ⟨gb, hgb⟩ : ∃ gb : Bool, (((k : Int) + 1) == u1) = gb := ⟨_, rfl⟩
    have HGb := hide hgb
    have f1 : Fr (Is Bn) W (W.setCell ⟨Bn, 0, none⟩ (.int .i64 ((k : Int) + 1))) := fr_set _ _ _
    have hkp : KpI W (W.setCell ⟨Bn, 0, none⟩ (.int .i64 ((k : Int) + 1))) := f1.mono (fun i _ e => by
      have e : i = Bn := e
      subst e
      intro cs t fz hk
      rw [HZ2.out.h] at hk
      injection hk with hk
      injection hk with _ hk _
      exact hk.symm)
    have HKp := hide hkp
    have HFn : Hid (Fr (Is Bn) w10 (W.setCell ⟨Bn, 0, none⟩ (.int .i64 ((k : Int) + 1)))) := hide (HZ1.out.ts f1)
    have HBn1 : Hid (Box1 (W.setCell ⟨Bn, 0, none⟩ (.int .i64 ((k : Int) + 1))) Bn (.int .i64 ((k : Int) + 1)) 3) := hide (HZ2.out.put _)
    have HKf : Hid (KeepsFrom w10.heap.size W (W.setCell ⟨Bn, 0, none⟩ (.int .i64 ((k : Int) + 1)))) := hide ⟨f1.size, fun j o hj hk _ => f1.blk hk (fun e => by have e : j = Bn := e; omega)⟩
    have hln : ((pre ++ [x]).length : Int) = (k : Int) + 1 := by rw [List.length_append, HK.out]; rfl
    have HLn := hide hln
    clear f1 hkp hln
    cases gb with
    | true =>
      gi_wp2
      refine ⟨HKf.out, rfl, HFn.out, ?_, ?_⟩
      · rw [HLn.out]; exact HBn1.out
      · rw [HLn.out]; simpa using HGb.out
    | false =>
      gi_wp2
      refine ⟨HKf.out, HKp.out, HFn.out, ?_, ?_⟩
      · rw [HLn.out]; exact HBn1.out
      · rw [HLn.out]
        have h1 := HZ3.out
        have h2 : (k : Int) + 1 ≠ u1 := by simpa using HGb.out
        omega
theorem teach_any (A0 : Option Addr) (n0 c0 : Nat) (l : List Tx) (f t u : Int) (w : World)
    (h0 : l.length = n0) (x0 : n0 ≤ c0) (y0 : c0 ≤ maxLen) (z0 : c0 * 16 ≤ 140737488351232) (r0 : Rd w w.heap.size A0 (svs l)) (t0 : ∀ t ∈ l, t.length ≤ maxLen)
    (hf : -9223372036854775808 ≤ f ∧ f ≤ 9223372036854775807) :
    Calls Try.prog 3 #[.slice A0 n0 c0, .int .i64 f, .int .i64 t, .int .i64 u] w (RetB true w) := callsIn_wide.1 (teach_in 8 (Nat.le_refl _) A0 n0 c0 l f t u w h0 x0 y0 z0 r0 t0 hf)
end Go.Proofs.Ytcdhbdhhknlbaaa
