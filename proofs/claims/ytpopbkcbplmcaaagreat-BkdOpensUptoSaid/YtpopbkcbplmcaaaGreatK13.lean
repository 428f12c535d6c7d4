/- Several texts in one: TextP, BkRy, BkEa, BkEb, BkEc. -/
import Derived.Test.YtpopbkcbplmcaaaGreatK12
import Derived.Laws.BytesString
import Derived.Deep.LoopGhost
import Derived.Deep.DeepCutAuto
import Derived.BigQuiet
import Derived.Deep.RegionLaw
import Derived.RegionTactic
import Derived.Deep.RegionHeld3
namespace Go.Proofs.YtpopbkcbplmcaaaGreat
set_option linter.unusedVariables false
set_option linter.unusedSimpArgs false
open Go.RowKit

theorem foldl_push (bs : List UInt8) (s : ByteArray) : (bs.map fun b => ((b.toNat : Nat) : Int)).foldl (fun r n => r.push (UInt8.ofNat n.toNat)) s = ⟨s.data ++ bs.toArray⟩ := by
  induction bs generalizing s with
  | nil => obtain ⟨d⟩ := s; simp
  | cons b r ih =>
    obtain ⟨d⟩ := s
    rw [List.map_cons, List.foldl_cons, ih]
    show ByteArray.mk ((d.push (UInt8.ofNat ((b.toNat : Int).toNat))) ++ r.toArray) = ByteArray.mk (d ++ (b :: r).toArray)
    congr 1
    rw [Int.toNat_natCast, UInt8.ofNat_toNat]
    apply Array.ext'
    simp

/-- bytes that are read, as a text. -/
theorem conv_rd (w : World) {B : Nat} (A : Option Addr) (l c : Nat) (bs : List UInt8) (hl : bs.length = l) (hr : Rd w B A (by8 bs)) :
    (convert 22 9 (.slice A l c)).run Tryz.prog w = .ok (.string ⟨bs.toArray⟩) w := by
  rw [run_convert_bytes_string w 22 9 5 A l c Tryz.underlying22 Tryz.underlying5 Tryz.underlying9]
  cases A with
  | none =>
    have h0 := hr.len0
    subst h0
    subst hl
    simp [Conv.bytesToString]
    rfl
  | some a =>
    have h := run_loadCells_list (P := Tryz.prog) (w := w) a (by8 bs) (fun j v hv => by
      obtain ⟨ad, e, _, hc⟩ := hr j v hv
      injection e with e
      subst e
      exact hc)
    rw [by8_length, hl] at h
    have e : (bs.map fun b => ((b.toNat : Nat) : Int)).map (Value.int .u8) = by8 bs := by simp [by8, Function.comp_def]
    rw [← e] at h
    rw [run_bytesToString w a l c _ h, foldl_push]
    congr 2
    simp

def textR (bs : List UInt8) (most : Int) : Option (List UInt8 × Nat) :=
  match dec 0 0 bs with
  | none => none
  | some (u, k) => if most < 0 ∨ most < (u : Int) ∨ bs.length - k < u then none else some ((bs.drop k).take u, k + u)

def textV : Option (List UInt8 × Nat) → Value
  | none => .tuple #[.string ⟨#[]⟩, .int .i64 (-1)]
  | some (s, k) => .tuple #[.string ⟨s.toArray⟩, .int .i64 k]

theorem textR_none {bs : List UInt8} {most : Int} (hd : dec 0 0 bs = none) : textR bs most = none := by unfold textR; rw [hd]

theorem textR_no {bs : List UInt8} {most : Int} {u k : Nat} (hd : dec 0 0 bs = some (u, k)) (h : most < 0 ∨ most < (u : Int) ∨ bs.length - k < u) : textR bs most = none := by
  unfold textR; rw [hd]; exact if_pos h

theorem textR_ok {bs : List UInt8} {most : Int} {u k : Nat} (hd : dec 0 0 bs = some (u, k)) (h : ¬ (most < 0 ∨ most < (u : Int) ∨ bs.length - k < u)) : textR bs most = some ((bs.drop k).take u, k + u) := by
  unfold textR; rw [hd]; exact if_neg h

def textS (bs : List UInt8) (a : Nat) (e most : Int) : List UInt8 × Nat × Int :=
  if e = 0 then (match textR (bs.drop a) most with | none => ([], a, 20) | some (s, k) => (s, a + k, 0)) else ([], a, e)

theorem textR_le {bs : List UInt8} {most : Int} {s : List UInt8} {k : Nat} (h : textR bs most = some (s, k)) : k ≤ bs.length := by
  cases hd : dec 0 0 bs with
  | none => rw [textR_none hd] at h; cases h
  | some x =>
    obtain ⟨u, j⟩ := x
    have hk := dec_le _ _ _ _ _ hd
    by_cases hb : most < 0 ∨ most < (u : Int) ∨ bs.length - j < u
    · rw [textR_no hd hb] at h; cases h
    · rw [textR_ok hd hb] at h
      injection h with h
      injection h with _ h
      omega

end Go.Proofs.YtpopbkcbplmcaaaGreat
namespace Go.Proofs.YtpopbkcbplmcaaaGreat
set_option linter.unusedVariables false
set_option linter.unusedSimpArgs false
open Go.RowKit

/-- what the document reads. -/
def readD (bs : List UInt8) : List Pt × Nat × Int := nodeW bs (sizeS bs 0 0 4).1 41 (sizeS bs (sizeS bs 0 0 4).2.1 (sizeS bs 0 0 4).2.2 1048576).2.1 (sizeS bs (sizeS bs 0 0 4).2.1 (sizeS bs 0 0 4).2.2 1048576).2.2
def openD (bs : List UInt8) : Nat × List Pt × Int :=
  if endE bs (readD bs).2.1 (readD bs).2.2 = 0 ∧ keptP ((sizeS bs 0 0 4).1 : Nat) (readD bs).1 = bs then ((sizeS bs 0 0 4).1, (readD bs).1, 0) else (0, [], 20)
def GivesD (w : World) (r : Nat × List Pt × Int) (en : Ending) (w' : World) : Prop := ∃ A c, en = .returned (.tuple #[.int .i64 (r.1 : Nat), .slice A r.2.1.length c, .int .i64 r.2.2]) ∧ Fr No w w'
theorem sB_dec13 (k b : List UInt8) : ((ByteArray.mk k.toArray).toList == (ByteArray.mk b.toArray).toList) = decide (k = b) := by by_cases h : k = b <;> simp [ByteArray.toList_eq, h]
theorem results_tmp3 {fn : Func} {t u v : Tmp} (h : fn.results = #[.tmp t, .tmp u, .tmp v]) (tmps : Array Value) (P : Program) (w : World) :
    (results fn tmps).run P w = .ok (.tuple #[tmps.getD t undef, tmps.getD u undef, tmps.getD v undef]) w := by
  simp [results, h]
set_option maxRecDepth 100000 in
set_option maxHeartbeats 8000000 in
theorem ropenD_any (A : Option Addr) (m c : Nat) (bs : List UInt8) (w : World) (hl : bs.length = m) (hn : m ≤ c) (hc : c ≤ maxLen) (hb : m ≤ 1048576) (hr : Rd w w.heap.size A (by8 bs)) :
    Calls Tryz.prog 11 #[.slice A m c] w (GivesD w (openD bs)) := by
  have HL := hide hl
  have HR := hide hr
  have HC := hide (And.intro hn hc)
  obtain ⟨g, hg⟩ : ∃ x, x = w.heap.size := ⟨_, rfl⟩
  obtain ⟨w1, hw1⟩ : ∃ x, x = w.alloc (.cells #[.slice A m c, .int .i64 0, .int .i64 0] 66) := ⟨_, rfl⟩
  have f1 : Fr No w w1 := by rw [hw1]; exact (Fr.refl No w).alloc _
  have hrs1 : RS w1 w.heap.size g bs ((0 : Nat)) 0 := by
    refine ⟨A, c, ?_, by omega, hc, Nat.zero_le _, by omega, hr.fr0 f1, by omega⟩
    rw [hw1, hg, hl]
    exact heap_alloc_new w _
  have HF1 := hide f1
  have HGs := hide (show w.heap.size ≤ g by omega)
  have HG := hide hg
  have HW1 := hide hw1
  obtain ⟨⟨dn, a1, e1⟩, hs1⟩ : ∃ x, x = sizeS bs 0 0 4 := ⟨_, rfl⟩
  obtain ⟨⟨nn, a2, e2⟩, hs2⟩ : ∃ x, x = sizeS bs a1 e1 1048576 := ⟨_, rfl⟩
  have hd4 : dn ≤ 4 := by
    have := sizeS_le (bs := bs) (a := 0) (e := 0) (most := 4) (by decide)
    rw [← hs1] at this
    omega
  have hrd : readD bs = nodeW bs dn 41 a2 e2 := by unfold readD; rw [← hs1]; dsimp only; rw [← hs2]
  have ha1 := sizeS_go (bs := bs) (a := 0) (e := 0) (most := 4) (Nat.zero_le _)
  rw [← hs1] at ha1
  have ha2 := sizeS_go (bs := bs) (a := a1) (e := e1) (most := 1048576) ha1.2.1
  rw [← hs2] at ha2
  have hnw := nodeW_go (bs := bs) (dims := dn) 41 a2 e2 ha2.2.1
  have HSz1 := hide (refN_any w.heap.size g bs 0 0 4 w1 hrs1 (by decide))
  rw [← hs1] at HSz1
  have HSz2 := hide (fun W (h : RS W w.heap.size g bs a1 e1) => refN_any w.heap.size g bs a1 e1 1048576 W h (by decide))
  rw [← hs2] at HSz2
  have HPt := hide (fun W (h : RS W w.heap.size g bs a2 e2) (hz : w.heap.size ≤ W.heap.size) => rpts_any w.heap.size g dn bs hd4 (by omega) 41 0 a2 e2 W rfl h hz)
  obtain ⟨⟨L, b, ε⟩, hL⟩ : ∃ x, x = nodeW bs dn 41 a2 e2 := ⟨_, rfl⟩
  rw [← hL] at hrd hnw HPt
  dsimp only at hnw HSz1 HSz2 HPt
  have HI2 : Hid (InI2 L) := hide (fun p hp => by
    obtain ⟨q1, q2, q3, q4⟩ := hnw.2.2.2.2 p hp
    exact ⟨q2, by omega, by omega⟩)
  have hLn : L.length ≤ 1048584 := by have := hnw.2.1; have := hnw.2.2.1; omega
  obtain ⟨xs, hxs⟩ : ∃ x, x = keptP (dn : Nat) L := ⟨_, rfl⟩
  obtain ⟨xl, hxl⟩ : ∃ x, x = xs.length := ⟨_, rfl⟩
  have HXs := hide hxs
  have HXl := hide hxl
  have hD : openD bs = if endE bs b ε = 0 ∧ xs = bs then (dn, L, 0) else (0, [], 20) := by
    unfold openD
    rw [hrd, ← hs1, hxs]
  have HD := hide hD
  obtain ⟨R, hR⟩ : ∃ R, R = openD bs := ⟨_, rfl⟩
  rw [← hR] at HD ⊢
  have HCv := hide (fun (W : World) (f : Fr No w W) => conv_rd W A m c bs HL.out (HR.out.fr0 f))
  unfold maxLen at hc
  clear hl hr hg hw1 f1 hrs1 hs1 hs2 hrd ha1 ha2 hnw hL hxs hxl hD hR
  go_enter Tryz.func11, Tryz.ntmps11
  go_upto_region 2 with (fail)
  rw [← HW1.out, ← HG.out]
  clear HW1 HG
  go_wp2_with (fail)
  refine HSz1.out.mono ?_
  rintro en w2 ⟨rfl, hrs, hf⟩
  have HF2 := hide (HF1.out.trans hf (fun i hi e => by have e : i = g := e; have := HGs.out; omega))
  have HP2 := hide (HSz2.out w2 hrs)
  clear hrs hf HSz1 HSz2 HF1
  go_wp2_with (fail)
  refine HP2.out.mono ?_
  rintro en w3 ⟨rfl, hrs, hf⟩
  have HF3 := hide (HF2.out.trans hf (fun i hi e => by have e : i = g := e; have := HGs.out; omega))
  have HP3 := hide (HPt.out w3 hrs HF3.out.size)
  clear hrs hf HP2 HF2 HPt
  go_wp2_with (fail)
  refine HP3.out.mono ?_
  rintro en w4 ⟨v4, ps, rfl, hps, hlf⟩
  dsimp only at hps hlf
  obtain ⟨A5, c5, rfl, x5, x6, _⟩ := hlf.own.form
  have hpl : ps.length = L.length := by rw [← hps, List.length_map]
  obtain ⟨n, hnL⟩ : ∃ x, x = L.length := ⟨_, rfl⟩
  rw [hpl, ← hnL] at x5 ⊢
  have HPs := hide hps
  have HNl := hide hnL
  have HF4 := hide (HF3.out.trans hlf.fr (fun i hi e => by have e : i = g := e; have := HGs.out; omega))
  have HL3d := hide (hlf.fr0 (Fr.refl No w4).drew)
  have HF3d := hide HF4.out.drew
  have HEnd := hide (fun W (h : RS W w.heap.size g bs b ε) => refEnd_any w.heap.size g bs b ε W h)
  have HC0 := hide (HCv.out w4.drew HF3d.out)
  have HX5 := hide (And.intro x5 x6)
  have HBd := hide (fun (W : World) (h : RLf w3 W w.heap.size g bs b (endE bs b ε) (.slice A5 ps.length c5) ps) => rbuild_any A5 n c5 W.heap.size (dn : Nat) L W HNl.out.symm HX5.out.1 HX5.out.2 (Nat.le_refl _) HI2.out ⟨ps, HPs.out, h.own.rd, fun p hp => ⟨(h.pts p hp).1, (h.pts p hp).2.1, (h.pts p hp).2.2.rd (fun k hk => hk.2.1)⟩⟩)
  rw [← HXs.out] at HBd
  obtain ⟨ev, hev⟩ : ∃ x, x = endE bs b ε := ⟨_, rfl⟩
  rw [← hev] at HD HEnd HBd
  unfold maxLen at x6
  clear hps hlf hpl hnL HP3 HF3 HF4 hev
  go_upto_region 5 with (fail)
  by_cases hee : ev = 0
  · subst hee
    have d0 : ((0 : Int) != 0) = false := by decide
    by_cases heq : xs = bs
    · have hRe : R = (dn, L, 0) := by rw [HD.out, if_pos ⟨rfl, heq⟩]
      have HFin := hide (fun W (f : Fr No w W) => (show GivesD w R (.returned (.tuple #[.int .i64 (dn : Nat), .slice A5 n c5, .int .i64 0])) W from by rw [hRe]; exact ⟨A5, c5, by rw [HNl.out], f⟩))
      have h1 := sB_dec13 xs bs
      rw [decide_eq_true heq] at h1
      have h3 : (xs == bs) = true := by rw [heq]; simp
      clear heq hRe HD
      refine wp_calm fun K hK => ?_
      refine wp_region_held_drew (S := fun W => (convert 22 9 (.slice A m c)).run Tryz.prog W = .ok (.string ⟨bs.toArray⟩) W) (by kernel_rfl) HC0.out (fun hHeld => ?_)
      refine wpAnyH_take (i := 0) (v := ?_) rfl (by kernel_rfl) (by kernel_rfl) (by kernel_rfl) (fun _ _ _ h => h) (Or.inl ⟨by kernel_rfl, ?_⟩) hHeld ?_
      rotate_left 1
      · (intro w' hSw; (try dsimp only at hSw); go_simp; try with_reducible rfl)
      try simp only [Act.put, List.setIfInBounds_toArray, List.set_cons_zero, List.set_cons_succ]
      refine wpAnyH_ready (rs := [1]) (by kernel_rfl) (by simp) ?_
      refine AllReadyH.cons rfl (fun K1 hK1 => ?_) AllReadyH.nil
      go_simp
      go_at_call 29; refine (HEnd.out _ HL3d.out.rs).mono ?_; rintro en w20 ⟨rfl, hrs, hfr⟩; have HL20 := hide (HL3d.out.read hfr hrs); have HF20 := hide (HF3d.out.trans hfr (fun i hi e => by have e : i = g := e; have := HGs.out; omega)); have hc20 := HCv.out w20 HF20.out; clear hrs hfr
      refine hK1.out _ _ hc20 (fun hHeld => ?_)
      clear hK1 K1
      try simp only [Act.put, List.setIfInBounds_toArray, List.set_cons_zero, List.set_cons_succ]
      refine wpAnyH_take (i := 2) (v := ?_) rfl (by kernel_rfl) (by kernel_rfl) (by kernel_rfl) (fun _ _ _ h => h) (Or.inl ⟨by kernel_rfl, ?_⟩) hHeld ?_
      rotate_left 1
      · (intro w' hSw; (try dsimp only at hSw); go_simp; try with_reducible rfl)
      try simp only [Act.put, List.setIfInBounds_toArray, List.set_cons_zero, List.set_cons_succ]
      refine wpAnyH_take (i := 3) (v := ?_) rfl (by kernel_rfl) (by kernel_rfl) (by kernel_rfl) (fun _ _ _ h => h) (Or.inl ⟨by kernel_rfl, ?_⟩) hHeld ?_
      rotate_left 1
      · (intro w' hSw; (try dsimp only at hSw); go_simp; try with_reducible rfl)
      try simp only [Act.put, List.setIfInBounds_toArray, List.set_cons_zero, List.set_cons_succ]
      refine wpAnyH_take (i := 4) (v := ?_) rfl (by kernel_rfl) (by kernel_rfl) (by kernel_rfl) (fun _ _ _ h => h) (Or.inl ⟨by kernel_rfl, ?_⟩) hHeld ?_
      rotate_left 1
      · (intro w' hSw; (try dsimp only at hSw); go_simp; try with_reducible rfl)
      try simp only [Act.put, List.setIfInBounds_toArray, List.set_cons_zero, List.set_cons_succ]
      refine wpAnyH_take (i := 5) (v := ?_) rfl (by kernel_rfl) (by kernel_rfl) (by kernel_rfl) (fun _ _ _ h => h) (Or.inl ⟨by kernel_rfl, ?_⟩) hHeld ?_
      rotate_left 1
      · (intro w' hSw; (try dsimp only at hSw); go_simp; try with_reducible rfl)
      try simp only [Act.put, List.setIfInBounds_toArray, List.set_cons_zero, List.set_cons_succ]
      refine wpAnyH_take (i := 8) (v := ?_) rfl (by kernel_rfl) (by kernel_rfl) (by kernel_rfl) (fun _ _ _ h => h) (Or.inl ⟨by kernel_rfl, ?_⟩) hHeld ?_
      rotate_left 1
      · (intro w' hSw; (try dsimp only at hSw); go_simp; try with_reducible rfl)
      try simp only [Act.put, List.setIfInBounds_toArray, List.set_cons_zero, List.set_cons_succ]
      refine wpAnyH_take (i := 9) (v := ?_) rfl (by kernel_rfl) (by kernel_rfl) (by kernel_rfl) (fun _ _ _ h => h) (Or.inl ⟨by kernel_rfl, ?_⟩) hHeld ?_
      rotate_left 1
      · (intro w' hSw; (try dsimp only at hSw); go_simp; try with_reducible rfl)
      try simp only [Act.put, List.setIfInBounds_toArray, List.set_cons_zero, List.set_cons_succ]
      refine wpAnyH_ready (rs := [6]) (by kernel_rfl) (by simp) ?_
      refine AllReadyH.cons rfl (fun K1 hK1 => ?_) AllReadyH.nil
      go_simp
      go_at_call 30; refine (HBd.out w20 HL20.out).mono ?_; rintro en w21 ⟨v21, rfl, hown, hfr⟩; rw [← HXl.out] at hown; obtain ⟨A21, c21, rfl, _, _, _, hr21, _⟩ := hown.form; have HF21 := hide (HF20.out.tr hfr); have hc21 := HCv.out w21 HF21.out; have hcx := conv_rd w21 A21 xl c21 xs HXl.out.symm hr21; clear hown hfr hr21
      refine hK1.out _ _ hc21 (fun hHeld => ?_)
      clear hK1 K1
      try simp only [Act.put, List.setIfInBounds_toArray, List.set_cons_zero, List.set_cons_succ]
      refine wpAnyH_ready (rs := [7]) (by kernel_rfl) (by simp) ?_
      refine AllReadyH.cons rfl (fun K1 hK1 => ?_) AllReadyH.nil
      go_simp
      refine hK1.out _ _ hc21 (fun hHeld => ?_)
      clear hK1 K1
      try simp only [Act.put, List.setIfInBounds_toArray, List.set_cons_zero, List.set_cons_succ]
      refine wpAnyH_take (i := 10) (v := ?_) rfl (by kernel_rfl) (by kernel_rfl) (by kernel_rfl) (fun _ _ _ h => h) (Or.inl ⟨by kernel_rfl, ?_⟩) hHeld ?_
      rotate_left 1
      · (intro w' hSw; (try dsimp only at hSw); go_simp; try with_reducible rfl)
      try simp only [Act.put, List.setIfInBounds_toArray, List.set_cons_zero, List.set_cons_succ]
      refine wpAnyH_take (i := 11) (v := ?_) rfl (by kernel_rfl) (by kernel_rfl) (by kernel_rfl) (fun _ _ _ h => h) (Or.inl ⟨by kernel_rfl, ?_⟩) hHeld ?_
      rotate_left 1
      · (intro w' hSw; (try dsimp only at hSw); go_simp; try with_reducible rfl)
      try simp only [Act.put, List.setIfInBounds_toArray, List.set_cons_zero, List.set_cons_succ]
      refine wpAnyH_done (by kernel_rfl) ?_ _
      go_simp
      refine hK _ _ ?_
      clear hK K
      go_wp2_with (fail)
      (try simp only [Exit.inBlock, Exit.then])
      refine bodyPost_ret (results_tmp3 rfl _ _ _) rfl ?_
      exact HFin.out _ HF21.out
    · have hRe : R = (0, [], 20) := by rw [HD.out, if_neg (fun h => heq h.2)]
      have HFin := hide (fun W (f : Fr No w W) => (show GivesD w R (.returned (.tuple #[.int .i64 0, .slice none 0 0, .int .i64 20])) W from by rw [hRe]; exact ⟨none, 0, rfl, f⟩))
      have h1 := sB_dec13 xs bs
      rw [decide_eq_false heq] at h1
      have h3 : (xs == bs) = false := by simpa using heq
      clear heq hRe HD
      refine wp_calm fun K hK => ?_
      refine wp_region_held_drew (S := fun W => (convert 22 9 (.slice A m c)).run Tryz.prog W = .ok (.string ⟨bs.toArray⟩) W) (by kernel_rfl) HC0.out (fun hHeld => ?_)
      refine wpAnyH_take (i := 0) (v := ?_) rfl (by kernel_rfl) (by kernel_rfl) (by kernel_rfl) (fun _ _ _ h => h) (Or.inl ⟨by kernel_rfl, ?_⟩) hHeld ?_
      rotate_left 1
      · (intro w' hSw; (try dsimp only at hSw); go_simp; try with_reducible rfl)
      try simp only [Act.put, List.setIfInBounds_toArray, List.set_cons_zero, List.set_cons_succ]
      refine wpAnyH_ready (rs := [1]) (by kernel_rfl) (by simp) ?_
      refine AllReadyH.cons rfl (fun K1 hK1 => ?_) AllReadyH.nil
      go_simp
      go_at_call 29; refine (HEnd.out _ HL3d.out.rs).mono ?_; rintro en w20 ⟨rfl, hrs, hfr⟩; have HL20 := hide (HL3d.out.read hfr hrs); have HF20 := hide (HF3d.out.trans hfr (fun i hi e => by have e : i = g := e; have := HGs.out; omega)); have hc20 := HCv.out w20 HF20.out; clear hrs hfr
      refine hK1.out _ _ hc20 (fun hHeld => ?_)
      clear hK1 K1
      try simp only [Act.put, List.setIfInBounds_toArray, List.set_cons_zero, List.set_cons_succ]
      refine wpAnyH_take (i := 2) (v := ?_) rfl (by kernel_rfl) (by kernel_rfl) (by kernel_rfl) (fun _ _ _ h => h) (Or.inl ⟨by kernel_rfl, ?_⟩) hHeld ?_
      rotate_left 1
      · (intro w' hSw; (try dsimp only at hSw); go_simp; try with_reducible rfl)
      try simp only [Act.put, List.setIfInBounds_toArray, List.set_cons_zero, List.set_cons_succ]
      refine wpAnyH_take (i := 3) (v := ?_) rfl (by kernel_rfl) (by kernel_rfl) (by kernel_rfl) (fun _ _ _ h => h) (Or.inl ⟨by kernel_rfl, ?_⟩) hHeld ?_
      rotate_left 1
      · (intro w' hSw; (try dsimp only at hSw); go_simp; try with_reducible rfl)
      try simp only [Act.put, List.setIfInBounds_toArray, List.set_cons_zero, List.set_cons_succ]
      refine wpAnyH_take (i := 4) (v := ?_) rfl (by kernel_rfl) (by kernel_rfl) (by kernel_rfl) (fun _ _ _ h => h) (Or.inl ⟨by kernel_rfl, ?_⟩) hHeld ?_
      rotate_left 1
      · (intro w' hSw; (try dsimp only at hSw); go_simp; try with_reducible rfl)
      try simp only [Act.put, List.setIfInBounds_toArray, List.set_cons_zero, List.set_cons_succ]
      refine wpAnyH_take (i := 5) (v := ?_) rfl (by kernel_rfl) (by kernel_rfl) (by kernel_rfl) (fun _ _ _ h => h) (Or.inl ⟨by kernel_rfl, ?_⟩) hHeld ?_
      rotate_left 1
      · (intro w' hSw; (try dsimp only at hSw); go_simp; try with_reducible rfl)
      try simp only [Act.put, List.setIfInBounds_toArray, List.set_cons_zero, List.set_cons_succ]
      refine wpAnyH_take (i := 8) (v := ?_) rfl (by kernel_rfl) (by kernel_rfl) (by kernel_rfl) (fun _ _ _ h => h) (Or.inl ⟨by kernel_rfl, ?_⟩) hHeld ?_
      rotate_left 1
      · (intro w' hSw; (try dsimp only at hSw); go_simp; try with_reducible rfl)
      try simp only [Act.put, List.setIfInBounds_toArray, List.set_cons_zero, List.set_cons_succ]
      refine wpAnyH_take (i := 9) (v := ?_) rfl (by kernel_rfl) (by kernel_rfl) (by kernel_rfl) (fun _ _ _ h => h) (Or.inl ⟨by kernel_rfl, ?_⟩) hHeld ?_
      rotate_left 1
      · (intro w' hSw; (try dsimp only at hSw); go_simp; try with_reducible rfl)
      try simp only [Act.put, List.setIfInBounds_toArray, List.set_cons_zero, List.set_cons_succ]
      refine wpAnyH_ready (rs := [6]) (by kernel_rfl) (by simp) ?_
      refine AllReadyH.cons rfl (fun K1 hK1 => ?_) AllReadyH.nil
      go_simp
      go_at_call 30; refine (HBd.out w20 HL20.out).mono ?_; rintro en w21 ⟨v21, rfl, hown, hfr⟩; rw [← HXl.out] at hown; obtain ⟨A21, c21, rfl, _, _, _, hr21, _⟩ := hown.form; have HF21 := hide (HF20.out.tr hfr); have hc21 := HCv.out w21 HF21.out; have hcx := conv_rd w21 A21 xl c21 xs HXl.out.symm hr21; clear hown hfr hr21
      refine hK1.out _ _ hc21 (fun hHeld => ?_)
      clear hK1 K1
      try simp only [Act.put, List.setIfInBounds_toArray, List.set_cons_zero, List.set_cons_succ]
      refine wpAnyH_ready (rs := [7]) (by kernel_rfl) (by simp) ?_
      refine AllReadyH.cons rfl (fun K1 hK1 => ?_) AllReadyH.nil
      go_simp
      refine hK1.out _ _ hc21 (fun hHeld => ?_)
      clear hK1 K1
      try simp only [Act.put, List.setIfInBounds_toArray, List.set_cons_zero, List.set_cons_succ]
      refine wpAnyH_take (i := 10) (v := ?_) rfl (by kernel_rfl) (by kernel_rfl) (by kernel_rfl) (fun _ _ _ h => h) (Or.inl ⟨by kernel_rfl, ?_⟩) hHeld ?_
      rotate_left 1
      · (intro w' hSw; (try dsimp only at hSw); go_simp; try with_reducible rfl)
      try simp only [Act.put, List.setIfInBounds_toArray, List.set_cons_zero, List.set_cons_succ]
      refine wpAnyH_take (i := 11) (v := ?_) rfl (by kernel_rfl) (by kernel_rfl) (by kernel_rfl) (fun _ _ _ h => h) (Or.inl ⟨by kernel_rfl, ?_⟩) hHeld ?_
      rotate_left 1
      · (intro w' hSw; (try dsimp only at hSw); go_simp; try with_reducible rfl)
      try simp only [Act.put, List.setIfInBounds_toArray, List.set_cons_zero, List.set_cons_succ]
      refine wpAnyH_done (by kernel_rfl) ?_ _
      go_simp
      refine hK _ _ ?_
      clear hK K
      go_wp2_with (fail)
      (try simp only [Exit.inBlock, Exit.then])
      refine bodyPost_ret (results_tmp3 rfl _ _ _) rfl ?_
      exact HFin.out _ HF21.out
  · have hRe : R = (0, [], 20) := by rw [HD.out, if_neg (fun h => hee h.1)]
    have HFin := hide (fun W (f : Fr No w W) => (show GivesD w R (.returned (.tuple #[.int .i64 0, .slice none 0 0, .int .i64 20])) W from by rw [hRe]; exact ⟨none, 0, rfl, f⟩))
    have d0 : (ev != 0) = true := by simpa using hee
    clear hee hRe HD
    refine wp_calm fun K hK => ?_
    refine wp_region_held_drew (S := fun W => (convert 22 9 (.slice A m c)).run Tryz.prog W = .ok (.string ⟨bs.toArray⟩) W) (by kernel_rfl) HC0.out (fun hHeld => ?_)
    refine wpAnyH_take (i := 0) (v := ?_) rfl (by kernel_rfl) (by kernel_rfl) (by kernel_rfl) (fun _ _ _ h => h) (Or.inl ⟨by kernel_rfl, ?_⟩) hHeld ?_
    rotate_left 1
    · (intro w' hSw; (try dsimp only at hSw); go_simp; try with_reducible rfl)
    try simp only [Act.put, List.setIfInBounds_toArray, List.set_cons_zero, List.set_cons_succ]
    refine wpAnyH_ready (rs := [1]) (by kernel_rfl) (by simp) ?_
    refine AllReadyH.cons rfl (fun K1 hK1 => ?_) AllReadyH.nil
    go_simp
    go_at_call 29; refine (HEnd.out _ HL3d.out.rs).mono ?_; rintro en w20 ⟨rfl, hrs, hfr⟩; have HL20 := hide (HL3d.out.read hfr hrs); have HF20 := hide (HF3d.out.trans hfr (fun i hi e => by have e : i = g := e; have := HGs.out; omega)); have hc20 := HCv.out w20 HF20.out; clear hrs hfr
    refine hK1.out _ _ hc20 (fun hHeld => ?_)
    clear hK1 K1
    try simp only [Act.put, List.setIfInBounds_toArray, List.set_cons_zero, List.set_cons_succ]
    refine wpAnyH_take (i := 2) (v := ?_) rfl (by kernel_rfl) (by kernel_rfl) (by kernel_rfl) (fun _ _ _ h => h) (Or.inl ⟨by kernel_rfl, ?_⟩) hHeld ?_
    rotate_left 1
    · (intro w' hSw; (try dsimp only at hSw); go_simp; try with_reducible rfl)
    try simp only [Act.put, List.setIfInBounds_toArray, List.set_cons_zero, List.set_cons_succ]
    refine wpAnyH_take (i := 3) (v := ?_) rfl (by kernel_rfl) (by kernel_rfl) (by kernel_rfl) (fun _ _ _ h => h) (Or.inl ⟨by kernel_rfl, ?_⟩) hHeld ?_
    rotate_left 1
    · (intro w' hSw; (try dsimp only at hSw); go_simp; try with_reducible rfl)
    try simp only [Act.put, List.setIfInBounds_toArray, List.set_cons_zero, List.set_cons_succ]
    refine wpAnyH_take (i := 4) (v := undef) rfl (by kernel_rfl) (by kernel_rfl) (by kernel_rfl) (fun _ _ _ h => h) (Or.inr ⟨by kernel_rfl, rfl⟩) hHeld ?_
    try simp only [Act.put, List.setIfInBounds_toArray, List.set_cons_zero, List.set_cons_succ]
    refine wpAnyH_take (i := 5) (v := undef) rfl (by kernel_rfl) (by kernel_rfl) (by kernel_rfl) (fun _ _ _ h => h) (Or.inr ⟨by kernel_rfl, rfl⟩) hHeld ?_
    try simp only [Act.put, List.setIfInBounds_toArray, List.set_cons_zero, List.set_cons_succ]
    refine wpAnyH_take (i := 6) (v := undef) rfl (by kernel_rfl) (by kernel_rfl) (by kernel_rfl) (fun _ _ _ h => h) (Or.inr ⟨by kernel_rfl, rfl⟩) hHeld ?_
    try simp only [Act.put, List.setIfInBounds_toArray, List.set_cons_zero, List.set_cons_succ]
    refine wpAnyH_take (i := 7) (v := undef) rfl (by kernel_rfl) (by kernel_rfl) (by kernel_rfl) (fun _ _ _ h => h) (Or.inr ⟨by kernel_rfl, rfl⟩) hHeld ?_
    try simp only [Act.put, List.setIfInBounds_toArray, List.set_cons_zero, List.set_cons_succ]
    refine wpAnyH_take (i := 8) (v := undef) rfl (by kernel_rfl) (by kernel_rfl) (by kernel_rfl) (fun _ _ _ h => h) (Or.inr ⟨by kernel_rfl, rfl⟩) hHeld ?_
    try simp only [Act.put, List.setIfInBounds_toArray, List.set_cons_zero, List.set_cons_succ]
    refine wpAnyH_take (i := 9) (v := undef) rfl (by kernel_rfl) (by kernel_rfl) (by kernel_rfl) (fun _ _ _ h => h) (Or.inr ⟨by kernel_rfl, rfl⟩) hHeld ?_
    try simp only [Act.put, List.setIfInBounds_toArray, List.set_cons_zero, List.set_cons_succ]
    refine wpAnyH_take (i := 10) (v := undef) rfl (by kernel_rfl) (by kernel_rfl) (by kernel_rfl) (fun _ _ _ h => h) (Or.inr ⟨by kernel_rfl, rfl⟩) hHeld ?_
    try simp only [Act.put, List.setIfInBounds_toArray, List.set_cons_zero, List.set_cons_succ]
    refine wpAnyH_take (i := 11) (v := ?_) rfl (by kernel_rfl) (by kernel_rfl) (by kernel_rfl) (fun _ _ _ h => h) (Or.inl ⟨by kernel_rfl, ?_⟩) hHeld ?_
    rotate_left 1
    · (intro w' hSw; (try dsimp only at hSw); go_simp; try with_reducible rfl)
    try simp only [Act.put, List.setIfInBounds_toArray, List.set_cons_zero, List.set_cons_succ]
    refine wpAnyH_done (by kernel_rfl) ?_ _
    go_simp
    refine hK _ _ ?_
    clear hK K
    go_wp2_with (fail)
    (try simp only [Exit.inBlock, Exit.then])
    refine bodyPost_ret (results_tmp3 rfl _ _ _) rfl ?_
    exact HFin.out _ HF20.out
end Go.Proofs.YtpopbkcbplmcaaaGreat
namespace Go.Proofs.YtpopbkcbplmcaaaGreat
set_option linter.unusedVariables false
set_option linter.unusedSimpArgs false
open Go.RowKit

/-- blocks that what is done with a point may write. -/
def DoS (base : Nat) (W : World) (k : Nat) : Prop := base ≤ k ∧ ∃ cs fz t, W.heap[k]? = some (.cells cs t fz) ∧ (t = 3 ∨ t = 28)
theorem Fr.dos {base : Nat} {W W' W'' : World} (h : Fr (DoS base W) W W') (k : Fr (DoS base W') W' W'') : Fr (DoS base W) W W'' := h.trans k (fun i hi hs => by
  by_cases hd : DoS base W i
  · exact hd
  · obtain ⟨h1, cs, fz, t, h2, h3⟩ := hs
    exact ⟨h1, cs, fz, t, by rw [← h.block i hi hd]; exact h2, h3⟩)
theorem Fr.dos0 {base : Nat} {W W' W'' : World} (h : Fr No W W') (k : Fr (DoS base W') W' W'') : Fr (DoS base W) W W'' := (h.any (DoS base W)).dos k
theorem dos_low {base : Nat} {W : World} {k : Nat} (h : k < base) : ¬ DoS base W k := fun e => by have := e.1; omega
theorem dos_off {base : Nat} {W : World} {k : Nat} {cs : Array Value} {t : TypeId} {fz : Nat × Nat} (h : W.heap[k]? = some (.cells cs t fz)) (h1 : t ≠ 3) (h2 : t ≠ 28) : ¬ DoS base W k := fun e => by
  obtain ⟨_, cs', fz', t', e1, e2⟩ := e
  rw [h] at e1
  injection e1 with e1
  injection e1 with _ e1 _
  rcases e2 with e2 | e2
  · exact h1 (e1.trans e2)
  · exact h2 (e1.trans e2)
/-- what a going through a tree holds. -/
structure EB (W : World) (base b5 b6 b7 b8 : Nat) (F : FuncId) (g0 : Nat) (Al Ah : Option Addr) (m cl ch : Nat) (low high : List Int) : Prop where
  e5 : W.heap[b5]? = some (.cells #[.slice Al m cl] 24 (0, 0))
  e6 : W.heap[b6]? = some (.cells #[.slice Ah m ch] 24 (0, 0))
  e7 : W.heap[b7]? = some (.cells #[.func (.func F) #[] #[.pointer (some ⟨g0, 0, none⟩)]] 47 (0, 0))
  e8 : W.heap[b8]? = some (.cells #[.func (.func 32) #[] #[.pointer (some ⟨b5, 0, none⟩), .pointer (some ⟨b6, 0, none⟩), .pointer (some ⟨b7, 0, none⟩), .pointer (some ⟨b8, 0, none⟩)]] 69 (0, 0))
  lo : Rd W base Al (iz .i64 low)
  hi : Rd W base Ah (iz .i64 high)
section
variable {W W' : World} {base b5 b6 b7 b8 g0 m cl ch : Nat} {F : FuncId} {Al Ah : Option Addr} {low high : List Int}
theorem EB.fr (h : EB W base b5 b6 b7 b8 F g0 Al Ah m cl ch low high) (f : Fr (DoS base W) W W') : EB W' base b5 b6 b7 b8 F g0 Al Ah m cl ch low high :=
  ⟨f.blk h.e5 (dos_off h.e5 (by decide) (by decide)), f.blk h.e6 (dos_off h.e6 (by decide) (by decide)), f.blk h.e7 (dos_off h.e7 (by decide) (by decide)), f.blk h.e8 (dos_off h.e8 (by decide) (by decide)), h.lo.fr f (fun k hk => dos_low hk), h.hi.fr f (fun k hk => dos_low hk)⟩
theorem EB.fr0 (h : EB W base b5 b6 b7 b8 F g0 Al Ah m cl ch low high) (f : Fr No W W') : EB W' base b5 b6 b7 b8 F g0 Al Ah m cl ch low high := h.fr (f.any _)
end
theorem RdPo.dos {W W' : World} {base : Nat} {A : Option Addr} {l : List Po} (h : RdPo W base A l) (f : Fr (DoS base W) W W') : RdPo W' base A l := h.fr f (fun k hk => dos_low hk)
theorem TreeM.dos {W W' : World} {base : Nat} {t : TreeT} {g : Nat} (h : TreeM W (fun k => k < base) t g) (f : Fr (DoS base W) W W') : TreeM W' (fun k => k < base) t g := TreeM.fr f (fun k hk => dos_low hk) h
/-- a leaf's points are read. -/
theorem TreeM.leaf {W : World} {base : Nat} {l : List Pt} {g : Nat} (h : TreeM W (fun k => k < base) (.leaf l) g) : ∃ A c, W.heap[g]? = some (.cells #[.slice A l.length c, .int .i64 0, .int .i64 0, .pointer none, .pointer none] 71 (0, 0)) ∧ l.length ≤ c ∧ c ≤ maxLen ∧ RdPo W base A l := by
  obtain ⟨h1, A, c, ps, h2, h3, h4, h5, h6, h7⟩ := h
  exact ⟨A, c, h2, h3, h4, ⟨ps, h5, h6, fun p hp => h7 p hp⟩⟩
/-- a tree that may be gone through. -/
def OkT (dims : Nat) : TreeT → Prop
  | .leaf l => ∀ p ∈ l, p.2.length = dims
  | .cut d _ a b => d < dims ∧ OkT dims a ∧ OkT dims b
theorem okT_tree {dims : Nat} (h1 : 1 ≤ dims) : ∀ (n : Nat) (l : List Pt), l.length = n → (∀ p ∈ l, p.2.length = dims) → OkT dims (treeT dims l) := by
  intro n
  induction n using Nat.strongRecOn with
  | ind n ih =>
    intro l hl hp
    by_cases h8 : l.length ≤ 8
    · rw [treeT_leaf h8, OkT]; exact fun p h => hp p (sortP_mem.1 h)
    · obtain ⟨d, hd⟩ : ∃ d, d = widF l dims := ⟨_, rfl⟩
      obtain ⟨s, hs⟩ : ∃ s, s = sortP d l := ⟨_, rfl⟩
      obtain ⟨k, hk⟩ : ∃ k, k = (l.length + 1) / 2 := ⟨_, rfl⟩
      have hsl : s.length = l.length := by rw [hs, sortP_len]
      have hsm : ∀ p ∈ s, p.2.length = dims := fun p h => hp p (sortP_mem.1 (by rw [← hs]; exact h))
      have hdd : d < dims := by rw [hd]; exact widF_lt l dims (by omega)
      rw [treeT_cut h8 hd hs hk, OkT]
      exact ⟨hdd, ih k (by omega) (s.take k) (by rw [List.length_take]; omega) (fun p h => hsm p (List.mem_of_mem_take h)), ih (n - k) (by omega) (s.drop k) (by rw [List.length_drop]; omega) (fun p h => hsm p (List.mem_of_mem_drop h))⟩
theorem eachT_len (low high : List Int) : ∀ t : TreeT, (eachT low high t).length ≤ (flatT t).length
  | .leaf l => by rw [eachT, flatT]; exact List.length_filter_le _ _
  | .cut d c a b => by
    have h1 := eachT_len low high a
    have h2 := eachT_len low high b
    rw [eachT, flatT, List.length_append, List.length_append]
    split <;> split <;> (try simp only [List.length_nil]) <;> omega
theorem inB_no {low high : List Int} {p : Pt} {d : Nat} (hd : d < p.2.length) (h : p.2.getD d 0 < low.getD d 0 ∨ high.getD d 0 < p.2.getD d 0) : inB low high p = false := by
  cases hb : inB low high p with
  | false => rfl
  | true => have := inB_iff.1 hb d hd; omega
theorem filt_snoc {f : Pt → Bool} {l : List Pt} {k : Nat} (h : k < l.length) : (l.take (k + 1)).filter f = (l.take k).filter f ++ (if f (l.getD k noPt) then [l.getD k noPt] else []) := by
  rw [takeP_1 h, List.filter_append]
  have e : l.getD k noPt = l[k] := by simp [List.getD, List.getElem?_eq_getElem h]
  rw [e]
  cases hb : f l[k] <;> simp [hb]
end Go.Proofs.YtpopbkcbplmcaaaGreat
namespace Go.Proofs.YtpopbkcbplmcaaaGreat
set_option linter.unusedVariables false
set_option linter.unusedSimpArgs false
open Go.RowKit

/-- a point is told. -/
def Told (base : Nat) (I : List Pt → World → Prop) (l : List Pt) (W : World) (en : Ending) (W' : World) : Prop := (∃ r, en = .returned r) ∧ Fr (DoS base W) W W' ∧ I l W'
/-- what is done with a point. -/
structure DoC (base : Nat) (F : FuncId) (g0 : Nat) (I : List Pt → World → Prop) : Prop where
  ok : F = 18 ∨ F = 15
  up : ∀ l W W', I l W → Fr No W W' → I l W'
  call : ∀ l (p : Pt) A c W, I l W → l.length < 1048576 → Calls Tryz.prog F #[.agg #[.int .i64 p.1, .slice A p.2.length c], .pointer (some ⟨g0, 0, none⟩)] W (Told base I (l ++ [p]) W)
def TellP (base b5 b6 b7 b8 : Nat) (F : FuncId) (g0 : Nat) (Al Ah : Option Addr) (m cl ch : Nat) (low high : List Int) (I : List Pt → World → Prop) (l : List Pt) (W : World) (en : Ending) (W' : World) : Prop := Told base I l W en W' ∧ EB W' base b5 b6 b7 b8 F g0 Al Ah m cl ch low high
set_option maxRecDepth 100000 in
set_option maxHeartbeats 8000000 in
theorem down_leaf (base b5 b6 b7 b8 : Nat) (F : FuncId) (g0 : Nat) (Al Ah : Option Addr) (m cl ch : Nat) (low high : List Int) (I : List Pt → World → Prop) (hd : DoC base F g0 I) (hl1 : low.length = m) (hl2 : high.length = m) (hm4 : m ≤ 4) (hcl : m ≤ cl) (hch : m ≤ ch) (hbase : ∀ k, k < base → k < base) (l : List Pt) (gx : Nat) (W : World) (l0 : List Pt) (he : EB W base b5 b6 b7 b8 F g0 Al Ah m cl ch low high) (ht : TreeM W (fun k => k < base) (.leaf l) gx) (hok : OkT m (.leaf l)) (hI : I l0 W) (hn : l0.length + l.length ≤ 1048576) :
    Calls Tryz.prog 32 #[.pointer (some ⟨gx, 0, none⟩), .pointer (some ⟨b5, 0, none⟩), .pointer (some ⟨b6, 0, none⟩), .pointer (some ⟨b7, 0, none⟩), .pointer (some ⟨b8, 0, none⟩)] W (TellP base b5 b6 b7 b8 F g0 Al Ah m cl ch low high I (l0 ++ l.filter (inB low high)) W) := by
  obtain ⟨A, c, hx, hlc, hcm, hrd⟩ := ht.leaf
  have HN := hide hn
  have HI := hide hI
  have HE := hide he
  have HOk := hide hok
  have HRd := hide hrd
  have HD := hide hd
  have HL1 := hide hl1
  have HL2 := hide hl2
  have k0 : W.cell? ⟨gx, 0, none⟩ = some (.slice A l.length c) := cell_of_row W _ 0 _ _ _ hx
  have k3 : W.cell? ⟨gx, 3, none⟩ = some (.pointer none) := cell_of_row W _ 3 _ _ _ hx
  obtain ⟨n, hnl⟩ : ∃ n, n = l.length := ⟨_, rfl⟩
  rw [← hnl] at k0 hlc HN
  have HNl := hide hnl
  unfold maxLen at hcm
  clear hn hI he hok hrd hd hl1 hl2 hx hnl ht hbase
  go_enter Tryz.func32, Tryz.ntmps32
  go_wp2_with (fail)
  go_step3
  go_wp2_with (fail)
  go_step3
  go_wp2_with (fail)
  clear k0 k3
  go_loopg [7, 8, 9, 20] n (fun gk s7 s8 s9 i wr => ∃ k : Nat, k + gk = n ∧ i = .int .i64 (k : Nat) ∧ Hid (EB wr base b5 b6 b7 b8 F g0 Al Ah m cl ch low high) ∧ Hid (RdPo wr base A l) ∧ Hid (I (l0 ++ (l.take k).filter (inB low high)) wr) ∧ Hid (Fr (DoS base W) W wr))
  case atStart => exact ⟨0, by omega, rfl, HE, HRd, hide (by simpa using HI.out), hide (Fr.refl _ _)⟩
  case round =>
    clear HE HRd HI
    obtain ⟨k, hk, rfl, HE, HRd, HI, HF⟩ := hrel
    by_cases hlk : k < n
    · have hkl : k < l.length := by rw [← HNl.out]; exact hlk
      obtain ⟨ad, Ak, cp, rfl, _, kc0, kc1, hpc, hpm, hrp⟩ := HRd.out.at hkl
      have hpl : (l.getD k noPo).2.length = m := HOk.out _ (getP_mem hkl)
      have HS := hide (filt_snoc (f := inB low high) hkl)
      obtain ⟨p, hp⟩ : ∃ p, p = l.getD k noPo := ⟨_, rfl⟩
      have hp' : l.getD k noPt = p := hp.symm
      rw [← hp] at kc0 kc1 hpc hrp hpl
      rw [hp'] at HS
      obtain ⟨g', rfl⟩ : ∃ g', gk = g' + 1 := ⟨gk - 1, by omega⟩
      obtain ⟨pd, P⟩ := p
      dsimp only at kc0 kc1 hpc hrp hpl
      rw [hpl] at kc1 hpc
      have HPl := hide hpl
      have HRp := hide hrp
      have HK := hide hk
      have hl20 : l0.length + ((l.take k).filter (inB low high)).length < 1048576 := by
        have h1 := List.length_filter_le (inB low high) (l.take k)
        rw [List.length_take] at h1
        have := HN.out
        omega
      have HL20 := hide hl20
      unfold maxLen at hpm
      clear hkl hp hp' hpl hrp hk hl20
      go_upto_region 4 with (fail)
      obtain ⟨wB, hwB⟩ : ∃ x, x = wr.alloc (.cells #[.int .i64 pd, .slice Ak m cp] 46) := ⟨_, rfl⟩
      obtain ⟨gp, hgp⟩ : ∃ x, x = wr.heap.size := ⟨_, rfl⟩
      have f1 : Fr No wr wB := by rw [hwB]; exact (Fr.refl No wr).alloc _
      have hpb : wB.heap[gp]? = some (.cells #[.int .i64 pd, .slice Ak m cp] 46 (0, 0)) := by rw [hwB, hgp]; exact heap_alloc_new wr _
      rw [← hwB, ← hgp]
      have HEb := hide (HE.out.fr0 f1)
      have HRb := hide (HRd.out.fr0 f1)
      have HIb := hide (HD.out.up _ _ _ HI.out f1)
      have HFb := hide (HF.out.tr f1)
      have HRq := hide (HRp.out.fr0 f1)
      have HPb := hide hpb
      have kb1 : wB.cell? ⟨gp, 1, none⟩ = some (.slice Ak m cp) := cell_of_row wB _ 1 _ _ _ hpb
      clear hwB hgp f1 hpb HE HRd HI HF HRp kc0 kc1
      go_wp2_with (fail)
      go_loopg [8, 9, 27] m (fun g2 s8 s9 i wx => ∃ q : Nat, q + g2 = m ∧ i = .int .i64 (q : Nat) ∧ Hid (wx = wB) ∧ Hid (∀ d, d < q → low.getD d 0 ≤ P.getD d 0 ∧ P.getD d 0 ≤ high.getD d 0))
      case atStart => exact ⟨0, by omega, rfl, hide rfl, hide (fun d hd => absurd hd (Nat.not_lt_zero d))⟩
      case round =>
        obtain ⟨q, hq, rfl, HW, HB⟩ := hrel
        have hw := HW.out.symm
        subst hw
        clear HW kb1
        by_cases hlq : q < m
        · obtain ⟨adp, rfl, _, hxp⟩ := cellInt HRq.out (k := q) (by rw [HPl.out]; exact hlq)
          obtain ⟨adl, rfl, _, hxl⟩ := cellInt HEb.out.lo (k := q) (by rw [HL1.out]; exact hlq)
          obtain ⟨adh, rfl, _, hxh⟩ := cellInt HEb.out.hi (k := q) (by rw [HL2.out]; exact hlq)
          have k5 : wB.cell? ⟨b5, 0, none⟩ = some (.slice (some adl) m cl) := cell_of_row wB _ 0 _ _ _ HEb.out.e5
          have k6 : wB.cell? ⟨b6, 0, none⟩ = some (.slice (some adh) m ch) := cell_of_row wB _ 0 _ _ _ HEb.out.e6
          obtain ⟨g3, rfl⟩ : ∃ g', gk = g' + 1 := ⟨gk - 1, by omega⟩
          obtain ⟨x, hx⟩ : ∃ x, x = P.getD q 0 := ⟨_, rfl⟩
          obtain ⟨y, hy⟩ : ∃ x, x = low.getD q 0 := ⟨_, rfl⟩
          obtain ⟨z, hz⟩ : ∃ x, x = high.getD q 0 := ⟨_, rfl⟩
          rw [← hx] at hxp
          rw [← hy] at hxl
          rw [← hz] at hxh
          have HX := hide hx
          have HY := hide hy
          have HZ := hide hz
          have HQ := hide hq
          clear hx hy hz hq
          by_cases hlo : x < y
          · have hb := inB_no (low := low) (high := high) (p := (pd, P)) (d := q) (by rw [HPl.out]; exact hlq) (.inl (by rw [← HX.out, ← HY.out]; exact hlo))
            have HBn := hide hb
            clear hb
            go_wp2_with (fail)
            go_roundg g'
            case measure => omega
            case rel => exact ⟨k + 1, by have := HK.out; omega, by go_num, HEb, HRb, hide (by rw [HS.out, HBn.out, if_neg Bool.false_ne_true, List.append_nil]; exact HIb.out), HFb⟩
          · by_cases hhi : z < x
            · have hb := inB_no (low := low) (high := high) (p := (pd, P)) (d := q) (by rw [HPl.out]; exact hlq) (.inr (by rw [← HX.out, ← HZ.out]; exact hhi))
              have HBn := hide hb
              clear hb
              go_wp2_with (fail)
              go_roundg g'
              case measure => omega
              case rel => exact ⟨k + 1, by have := HK.out; omega, by go_num, HEb, HRb, hide (by rw [HS.out, HBn.out, if_neg Bool.false_ne_true, List.append_nil]; exact HIb.out), HFb⟩
            · have HB2 : Hid (∀ d, d < q + 1 → low.getD d 0 ≤ P.getD d 0 ∧ P.getD d 0 ≤ high.getD d 0) := hide (fun d hd => by
                by_cases h : d < q
                · exact HB.out d h
                · obtain rfl : d = q := by omega
                  rw [← HX.out, ← HY.out, ← HZ.out]
                  omega)
              clear HB
              go_wp2_with (fail)
              go_roundg g3
              case measure => omega
              case rel => exact ⟨q + 1, by have := HQ.out; omega, by go_num, hide rfl, HB2⟩
        · obtain rfl : q = m := by omega
          have HBn : Hid (inB low high (pd, P) = true) := hide (inB_iff.2 (fun d hd => HB.out d (by rw [HPl.out] at hd; exact hd)))
          have k7 : wB.cell? ⟨b7, 0, none⟩ = some (.func (.func F) #[] #[.pointer (some ⟨g0, 0, none⟩)]) := cell_of_row wB _ 0 _ _ _ HEb.out.e7
          have kp0 : wB.cell? ⟨gp, 0, none⟩ = some (.int .i64 pd) := cell_of_row wB _ 0 _ _ _ HPb.out
          have kp1 : wB.cell? ⟨gp, 1, none⟩ = some (.slice Ak q cp) := cell_of_row wB _ 1 _ _ _ HPb.out
          have hc := HD.out.call (l0 ++ (l.take k).filter (inB low high)) (pd, P) Ak cp wB HIb.out (by rw [List.length_append]; exact HL20.out)
          dsimp only at hc
          rw [HPl.out] at hc
          have HC := hide hc
          have hF := HD.out.ok
          clear hc hlq HB
          rcases hF with rfl | rfl
          · go_wp2_with (go_at_call 18; refine HC.out.mono ?_; rintro en w' ⟨⟨r, rfl⟩, f, hi⟩; have HFn := hide f; have HIn := hide hi; clear f hi)
            go_roundg g'
            case measure => omega
            case rel => exact ⟨k + 1, by have := HK.out; omega, by go_num, hide (HEb.out.fr HFn.out), hide (HRb.out.dos HFn.out), hide (by rw [HS.out, HBn.out, if_pos rfl, ← List.append_assoc]; exact HIn.out), hide (HFb.out.dos HFn.out)⟩
          · go_wp2_with (go_at_call 15; refine HC.out.mono ?_; rintro en w' ⟨⟨r, rfl⟩, f, hi⟩; have HFn := hide f; have HIn := hide hi; clear f hi)
            go_roundg g'
            case measure => omega
            case rel => exact ⟨k + 1, by have := HK.out; omega, by go_num, hide (HEb.out.fr HFn.out), hide (HRb.out.dos HFn.out), hide (by rw [HS.out, HBn.out, if_pos rfl, ← List.append_assoc]; exact HIn.out), hide (HFb.out.dos HFn.out)⟩
    · obtain rfl : k = n := by omega
      have hall : l.take k = l := List.take_of_length_le (by rw [HNl.out]; exact Nat.le_refl _)
      rw [hall] at HI
      have HR := hide (show TellP base b5 b6 b7 b8 F g0 Al Ah m cl ch low high I (l0 ++ l.filter (inB low high)) W (.returned (.tuple #[])) wr from ⟨⟨⟨_, rfl⟩, HF.out, HI.out⟩, HE.out⟩)
      clear hall hk HE HRd HI HF
      go_wp2_with (fail)
      try rw [Exit.noGoto_ret]
      go_end0
      exact HR.out
end Go.Proofs.YtpopbkcbplmcaaaGreat
namespace Go.Proofs.YtpopbkcbplmcaaaGreat
set_option linter.unusedVariables false
set_option linter.unusedSimpArgs false
open Go.RowKit

/-- a node is gone through. -/
def DownC (base b5 b6 b7 b8 : Nat) (F : FuncId) (g0 : Nat) (Al Ah : Option Addr) (m cl ch : Nat) (low high : List Int) (I : List Pt → World → Prop) (t : TreeT) : Prop :=
  ∀ (gx : Nat) (W : World) (l0 : List Pt), EB W base b5 b6 b7 b8 F g0 Al Ah m cl ch low high → TreeM W (fun k => k < base) t gx → OkT m t → I l0 W → l0.length + (flatT t).length ≤ 1048576 →
    Calls Tryz.prog 32 #[.pointer (some ⟨gx, 0, none⟩), .pointer (some ⟨b5, 0, none⟩), .pointer (some ⟨b6, 0, none⟩), .pointer (some ⟨b7, 0, none⟩), .pointer (some ⟨b8, 0, none⟩)] W (TellP base b5 b6 b7 b8 F g0 Al Ah m cl ch low high I (l0 ++ eachT low high t) W)
set_option maxRecDepth 100000 in
set_option maxHeartbeats 8000000 in
theorem down_cut (base b5 b6 b7 b8 : Nat) (F : FuncId) (g0 : Nat) (Al Ah : Option Addr) (m cl ch : Nat) (low high : List Int) (I : List Pt → World → Prop) (hd : DoC base F g0 I) (hl1 : low.length = m) (hl2 : high.length = m) (hm4 : m ≤ 4) (hcl : m ≤ cl) (hch : m ≤ ch) (d : Nat) (c : Int) (a b : TreeT) (ha : DownC base b5 b6 b7 b8 F g0 Al Ah m cl ch low high I a) (hb : DownC base b5 b6 b7 b8 F g0 Al Ah m cl ch low high I b) : DownC base b5 b6 b7 b8 F g0 Al Ah m cl ch low high I (.cut d c a b) := by
  intro gx W l0 he ht hok hI hn
  obtain ⟨hgx, ga, gb, hx, hta, htb⟩ := ht
  obtain ⟨hdm, hoa, hob⟩ := hok
  rw [flatT, List.length_append] at hn
  have hea := eachT_len low high a
  have HN := hide hn
  have HEa := hide hea
  have HI := hide hI
  have HE := hide he
  have HA := hide ha
  have HB := hide hb
  have HOa := hide hoa
  have HOb := hide hob
  have HTa := hide hta
  have HTb := hide htb
  have HX := hide hx
  have HGx := hide hgx
  have HD := hide hd
  obtain ⟨adl, rfl, _, hxl⟩ := cellInt HE.out.lo (k := d) (by rw [hl1]; exact hdm)
  obtain ⟨adh, rfl, _, hxh⟩ := cellInt HE.out.hi (k := d) (by rw [hl2]; exact hdm)
  obtain ⟨y, hy⟩ : ∃ x, x = low.getD d 0 := ⟨_, rfl⟩
  obtain ⟨z, hz⟩ : ∃ x, x = high.getD d 0 := ⟨_, rfl⟩
  rw [← hy] at hxl
  rw [← hz] at hxh
  have HY := hide hy
  have HZ := hide hz
  have HL1 := hide hl1
  have HL2 := hide hl2
  have k1 : W.cell? ⟨gx, 1, none⟩ = some (.int .i64 (d : Nat)) := cell_of_row W _ 1 _ _ _ hx
  have k2 : W.cell? ⟨gx, 2, none⟩ = some (.int .i64 c) := cell_of_row W _ 2 _ _ _ hx
  have k3 : W.cell? ⟨gx, 3, none⟩ = some (.pointer (some ⟨ga, 0, none⟩)) := cell_of_row W _ 3 _ _ _ hx
  have k5 : W.cell? ⟨b5, 0, none⟩ = some (.slice (some adl) m cl) := cell_of_row W _ 0 _ _ _ he.e5
  have HFW := hide (Fr.refl (DoS base W) W)
  have HEW := HE
  have HIW := HI
  have HXW := HX
  clear hn hea hI he ha hb hoa hob hta htb hx hgx hd hy hz hxh hl1 hl2 HE HI HX
  go_enter Tryz.func32, Tryz.ntmps32
  by_cases hyc : y ≤ c
  · have HYc := hide hyc
    go_upto_region 11 with (fail)
    go_quiet (fail)
    obtain ⟨wa, hwa⟩ : ∃ x, x = W.drewN nq := ⟨_, rfl⟩
    rw [← hwa]
    have fwa : Fr No W wa := by rw [hwa]; exact (Fr.refl No W).drewN nq
    have HEwa := hide (HEW.out.fr0 fwa)
    have HIwa := hide (HD.out.up _ _ _ HIW.out fwa)
    have HFwa := hide (HFW.out.tr fwa)
    have HXwa := hide (fwa.blk HXW.out (fun h => h))
    clear hwa fwa HEW HIW HFW HXW
    clear k1 k2 k3 k5 hxl hyc
    have HEd := hide (HEwa.out.fr0 (Fr.refl No wa).drew)
    have HId := hide (HD.out.up _ _ _ HIwa.out (Fr.refl No wa).drew)
    have HTd := hide (TreeM.dos HTa.out HFwa.out.drew)
    have HCd := hide (HA.out ga wa.drew _ HEd.out HTd.out HOa.out HId.out (by have := HN.out; omega))
    have kd : wa.drew.cell? ⟨b8, 0, none⟩ = some (.func (.func 32) #[] #[.pointer (some ⟨b5, 0, none⟩), .pointer (some ⟨b6, 0, none⟩), .pointer (some ⟨b7, 0, none⟩), .pointer (some ⟨b8, 0, none⟩)]) := cell_of_row _ _ 0 _ _ _ HEd.out.e8
    have kg : wa.drew.cell? ⟨gx, 3, none⟩ = some (.pointer (some ⟨ga, 0, none⟩)) := cell_of_row wa _ 3 _ _ _ HXwa.out
    clear HEd HId HTd
    go_upto_region 12 with (fail)
    go_region_held3 (fun W => W.cell? ⟨b8, 0, none⟩ = some (.func (.func 32) #[] #[.pointer (some ⟨b5, 0, none⟩), .pointer (some ⟨b6, 0, none⟩), .pointer (some ⟨b7, 0, none⟩), .pointer (some ⟨b8, 0, none⟩)]) ∧ W.cell? ⟨gx, 3, none⟩ = some (.pointer (some ⟨ga, 0, none⟩))) (first | exact HKwb.out | exact ⟨kd, kg⟩) (first
      | (go_at_call 32; refine HCd.out.mono ?_; rintro en wb ⟨⟨⟨rwb, rfl⟩, f, hi⟩, he⟩; have f' := Fr.dos0 (Fr.refl No wa).drew f; have HFwb := hide (HFwa.out.dos f'); have HIwb := hide hi; have HEwb := hide he; have HXwb := hide (f'.blk HXwa.out (dos_low HGx.out)); have HKwb : Hid (wb.cell? ⟨b8, 0, none⟩ = some (.func (.func 32) #[] #[.pointer (some ⟨b5, 0, none⟩), .pointer (some ⟨b6, 0, none⟩), .pointer (some ⟨b7, 0, none⟩), .pointer (some ⟨b8, 0, none⟩)]) ∧ wb.cell? ⟨gx, 3, none⟩ = some (.pointer (some ⟨ga, 0, none⟩))) := hide (And.intro (cell_of_row wb _ 0 _ _ _ HEwb.out.e8) (cell_of_row wb _ 3 _ _ _ HXwb.out)); clear f f' hi he))
    clear kd kg HCd HEwa HIwa HFwa HXwa
    have k6 : wb.cell? ⟨b6, 0, none⟩ = some (.slice (some adh) m ch) := cell_of_row wb _ 0 _ _ _ HEwb.out.e6
    have k1 : wb.cell? ⟨gx, 1, none⟩ = some (.int .i64 (d : Nat)) := cell_of_row wb _ 1 _ _ _ HXwb.out
    have k2 : wb.cell? ⟨gx, 2, none⟩ = some (.int .i64 c) := cell_of_row wb _ 2 _ _ _ HXwb.out
    obtain ⟨adh', e', _, hxh⟩ := cellInt HEwb.out.hi (k := d) (by rw [HL2.out]; exact hdm)
    cases e'
    rw [← HZ.out] at hxh
    by_cases hzc : c ≤ z
    · have HZc := hide hzc
      go_upto_region 13 with (fail)
      go_quiet (fail)
      obtain ⟨wbq, hwbq⟩ : ∃ x, x = wb.drewN nq := ⟨_, rfl⟩
      rw [← hwbq]
      have fwbq : Fr No wb wbq := by rw [hwbq]; exact (Fr.refl No wb).drewN nq
      have HEwbq := hide (HEwb.out.fr0 fwbq)
      have HIwbq := hide (HD.out.up _ _ _ HIwb.out fwbq)
      have HFwbq := hide (HFwb.out.tr fwbq)
      have HXwbq := hide (fwbq.blk HXwb.out (fun h => h))
      clear hwbq fwbq HEwb HIwb HFwb HXwb
      clear k6 k1 k2 hxh hzc
      have HEd := hide (HEwbq.out.fr0 (Fr.refl No wbq).drew)
      have HId := hide (HD.out.up _ _ _ HIwbq.out (Fr.refl No wbq).drew)
      have HTd := hide (TreeM.dos HTb.out HFwbq.out.drew)
      have HCd := hide (HB.out gb wbq.drew _ HEd.out HTd.out HOb.out HId.out (by have := HN.out; have := HEa.out; rw [List.length_append]; omega))
      have kd : wbq.drew.cell? ⟨b8, 0, none⟩ = some (.func (.func 32) #[] #[.pointer (some ⟨b5, 0, none⟩), .pointer (some ⟨b6, 0, none⟩), .pointer (some ⟨b7, 0, none⟩), .pointer (some ⟨b8, 0, none⟩)]) := cell_of_row _ _ 0 _ _ _ HEd.out.e8
      have kg : wbq.drew.cell? ⟨gx, 4, none⟩ = some (.pointer (some ⟨gb, 0, none⟩)) := cell_of_row wbq _ 4 _ _ _ HXwbq.out
      clear HEd HId HTd
      go_upto_region 14 with (fail)
      go_region_held3 (fun W => W.cell? ⟨b8, 0, none⟩ = some (.func (.func 32) #[] #[.pointer (some ⟨b5, 0, none⟩), .pointer (some ⟨b6, 0, none⟩), .pointer (some ⟨b7, 0, none⟩), .pointer (some ⟨b8, 0, none⟩)]) ∧ W.cell? ⟨gx, 4, none⟩ = some (.pointer (some ⟨gb, 0, none⟩))) (first | exact HKwbr.out | exact ⟨kd, kg⟩) (first
        | (go_at_call 32; refine HCd.out.mono ?_; rintro en wbr ⟨⟨⟨rwbr, rfl⟩, f, hi⟩, he⟩; have f' := Fr.dos0 (Fr.refl No wbq).drew f; have HFwbr := hide (HFwbq.out.dos f'); have HIwbr := hide hi; have HEwbr := hide he; have HXwbr := hide (f'.blk HXwbq.out (dos_low HGx.out)); have HKwbr : Hid (wbr.cell? ⟨b8, 0, none⟩ = some (.func (.func 32) #[] #[.pointer (some ⟨b5, 0, none⟩), .pointer (some ⟨b6, 0, none⟩), .pointer (some ⟨b7, 0, none⟩), .pointer (some ⟨b8, 0, none⟩)]) ∧ wbr.cell? ⟨gx, 4, none⟩ = some (.pointer (some ⟨gb, 0, none⟩))) := hide (And.intro (cell_of_row wbr _ 0 _ _ _ HEwbr.out.e8) (cell_of_row wbr _ 4 _ _ _ HXwbr.out)); clear f f' hi he))
      clear kd kg HCd HEwbq HIwbq HFwbq HXwbq
      go_end0
      have e : l0 ++ eachT low high (.cut d c a b) = (l0 ++ eachT low high a) ++ eachT low high b := by rw [eachT, ← HY.out, ← HZ.out, if_pos HYc.out, if_pos HZc.out, List.append_assoc]
      rw [e]
      exact ⟨⟨⟨_, rfl⟩, HFwbr.out, HIwbr.out⟩, HEwbr.out⟩
    · have HZc := hide hzc
      go_upto_region 13 with (fail)
      go_quiet (fail)
      obtain ⟨wbq, hwbq⟩ : ∃ x, x = wb.drewN nq := ⟨_, rfl⟩
      rw [← hwbq]
      have fwbq : Fr No wb wbq := by rw [hwbq]; exact (Fr.refl No wb).drewN nq
      have HEwbq := hide (HEwb.out.fr0 fwbq)
      have HIwbq := hide (HD.out.up _ _ _ HIwb.out fwbq)
      have HFwbq := hide (HFwb.out.tr fwbq)
      have HXwbq := hide (fwbq.blk HXwb.out (fun h => h))
      clear hwbq fwbq HEwb HIwb HFwb HXwb
      clear k6 k1 k2 hxh hzc
      go_wp2_with (fail)
      go_end0
      have e : l0 ++ eachT low high (.cut d c a b) = l0 ++ eachT low high a := by rw [eachT, ← HY.out, ← HZ.out, if_pos HYc.out, if_neg (Int.not_le.2 HZc.out), List.append_nil]
      rw [e]
      exact ⟨⟨⟨_, rfl⟩, HFwbq.out, HIwbq.out⟩, HEwbq.out⟩
  · have HYc := hide hyc
    go_upto_region 11 with (fail)
    go_quiet (fail)
    obtain ⟨wa, hwa⟩ : ∃ x, x = W.drewN nq := ⟨_, rfl⟩
    rw [← hwa]
    have fwa : Fr No W wa := by rw [hwa]; exact (Fr.refl No W).drewN nq
    have HEwa := hide (HEW.out.fr0 fwa)
    have HIwa := hide (HD.out.up _ _ _ HIW.out fwa)
    have HFwa := hide (HFW.out.tr fwa)
    have HXwa := hide (fwa.blk HXW.out (fun h => h))
    clear hwa fwa HEW HIW HFW HXW
    clear k1 k2 k3 k5 hxl hyc
    have k6 : wa.cell? ⟨b6, 0, none⟩ = some (.slice (some adh) m ch) := cell_of_row wa _ 0 _ _ _ HEwa.out.e6
    have k1 : wa.cell? ⟨gx, 1, none⟩ = some (.int .i64 (d : Nat)) := cell_of_row wa _ 1 _ _ _ HXwa.out
    have k2 : wa.cell? ⟨gx, 2, none⟩ = some (.int .i64 c) := cell_of_row wa _ 2 _ _ _ HXwa.out
    obtain ⟨adh', e', _, hxh⟩ := cellInt HEwa.out.hi (k := d) (by rw [HL2.out]; exact hdm)
    cases e'
    rw [← HZ.out] at hxh
    by_cases hzc : c ≤ z
    · have HZc := hide hzc
      go_upto_region 13 with (fail)
      go_quiet (fail)
      obtain ⟨waq, hwaq⟩ : ∃ x, x = wa.drewN nq := ⟨_, rfl⟩
      rw [← hwaq]
      have fwaq : Fr No wa waq := by rw [hwaq]; exact (Fr.refl No wa).drewN nq
      have HEwaq := hide (HEwa.out.fr0 fwaq)
      have HIwaq := hide (HD.out.up _ _ _ HIwa.out fwaq)
      have HFwaq := hide (HFwa.out.tr fwaq)
      have HXwaq := hide (fwaq.blk HXwa.out (fun h => h))
      clear hwaq fwaq HEwa HIwa HFwa HXwa
      clear k6 k1 k2 hxh hzc
      have HEd := hide (HEwaq.out.fr0 (Fr.refl No waq).drew)
      have HId := hide (HD.out.up _ _ _ HIwaq.out (Fr.refl No waq).drew)
      have HTd := hide (TreeM.dos HTb.out HFwaq.out.drew)
      have HCd := hide (HB.out gb waq.drew _ HEd.out HTd.out HOb.out HId.out (by have := HN.out; have := HEa.out; omega))
      have kd : waq.drew.cell? ⟨b8, 0, none⟩ = some (.func (.func 32) #[] #[.pointer (some ⟨b5, 0, none⟩), .pointer (some ⟨b6, 0, none⟩), .pointer (some ⟨b7, 0, none⟩), .pointer (some ⟨b8, 0, none⟩)]) := cell_of_row _ _ 0 _ _ _ HEd.out.e8
      have kg : waq.drew.cell? ⟨gx, 4, none⟩ = some (.pointer (some ⟨gb, 0, none⟩)) := cell_of_row waq _ 4 _ _ _ HXwaq.out
      clear HEd HId HTd
      go_upto_region 14 with (fail)
      go_region_held3 (fun W => W.cell? ⟨b8, 0, none⟩ = some (.func (.func 32) #[] #[.pointer (some ⟨b5, 0, none⟩), .pointer (some ⟨b6, 0, none⟩), .pointer (some ⟨b7, 0, none⟩), .pointer (some ⟨b8, 0, none⟩)]) ∧ W.cell? ⟨gx, 4, none⟩ = some (.pointer (some ⟨gb, 0, none⟩))) (first | exact HKwar.out | exact ⟨kd, kg⟩) (first
        | (go_at_call 32; refine HCd.out.mono ?_; rintro en war ⟨⟨⟨rwar, rfl⟩, f, hi⟩, he⟩; have f' := Fr.dos0 (Fr.refl No waq).drew f; have HFwar := hide (HFwaq.out.dos f'); have HIwar := hide hi; have HEwar := hide he; have HXwar := hide (f'.blk HXwaq.out (dos_low HGx.out)); have HKwar : Hid (war.cell? ⟨b8, 0, none⟩ = some (.func (.func 32) #[] #[.pointer (some ⟨b5, 0, none⟩), .pointer (some ⟨b6, 0, none⟩), .pointer (some ⟨b7, 0, none⟩), .pointer (some ⟨b8, 0, none⟩)]) ∧ war.cell? ⟨gx, 4, none⟩ = some (.pointer (some ⟨gb, 0, none⟩))) := hide (And.intro (cell_of_row war _ 0 _ _ _ HEwar.out.e8) (cell_of_row war _ 4 _ _ _ HXwar.out)); clear f f' hi he))
      clear kd kg HCd HEwaq HIwaq HFwaq HXwaq
      go_end0
      have e : l0 ++ eachT low high (.cut d c a b) = l0 ++ eachT low high b := by rw [eachT, ← HY.out, ← HZ.out, if_neg (Int.not_le.2 HYc.out), if_pos HZc.out, List.nil_append]
      rw [e]
      exact ⟨⟨⟨_, rfl⟩, HFwar.out, HIwar.out⟩, HEwar.out⟩
    · have HZc := hide hzc
      go_upto_region 13 with (fail)
      go_quiet (fail)
      obtain ⟨waq, hwaq⟩ : ∃ x, x = wa.drewN nq := ⟨_, rfl⟩
      rw [← hwaq]
      have fwaq : Fr No wa waq := by rw [hwaq]; exact (Fr.refl No wa).drewN nq
      have HEwaq := hide (HEwa.out.fr0 fwaq)
      have HIwaq := hide (HD.out.up _ _ _ HIwa.out fwaq)
      have HFwaq := hide (HFwa.out.tr fwaq)
      have HXwaq := hide (fwaq.blk HXwa.out (fun h => h))
      clear hwaq fwaq HEwa HIwa HFwa HXwa
      clear k6 k1 k2 hxh hzc
      go_wp2_with (fail)
      go_end0
      have e : l0 ++ eachT low high (.cut d c a b) = l0 := by rw [eachT, ← HY.out, ← HZ.out, if_neg (Int.not_le.2 HYc.out), if_neg (Int.not_le.2 HZc.out), List.append_nil, List.append_nil]
      rw [e]
      exact ⟨⟨⟨_, rfl⟩, HFwaq.out, HIwaq.out⟩, HEwaq.out⟩
end Go.Proofs.YtpopbkcbplmcaaaGreat
