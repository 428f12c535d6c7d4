/- Several texts in one: KitInt, PoAw, PoLe, PoKe, PoPl, Apart8b, Open, OpenPo. -/
import Derived.Test.YthlbfnoahdjdeaaK17
import Derived.Deep.RegionLaw
import Derived.Deep.DeepCutAuto
import Derived.BigQuiet
import Derived.Test.YthlbfnoahdjdeaaRows
import Derived.ProofKit
import Derived.OpenShut
import Derived.ShutString
import Derived.ChangeOld
import Derived.Below
import Derived.SizedLaws
import Derived.HandedShaped
import Derived.Deep.Slices
import Derived.Deep.Fields
import Derived.ChangeSame
import Derived.IntWalk
namespace Go.Proofs.Ythlbfnoahdjdeaa
set_option linter.unusedVariables false
set_option linter.unusedSimpArgs false
open Go.RowKit

set_option maxRecDepth 100000 in
set_option maxHeartbeats 800000 in
theorem sameInt_any (A B : Option Addr) (n c m d b1 b2 : Nat) (xs ys : List Int) (w : World) (hx : xs.length = n) (hy : ys.length = m) (hn : n ≤ c) (hc : c ≤ maxLen) (hm : m ≤ d) (hd : d ≤ maxLen) (hr : Rd w b1 A (iz .i64 xs)) (hs : Rd w b2 B (iz .i64 ys)) :
    Calls Try.prog 28 #[.slice A n c, .slice B m d] w (RetQ (.bool (decide (xs = ys))) w) := by
  unfold maxLen at hc hd
  have HX := hide hx
  have HY := hide hy
  have HR := hide hr
  have HS := hide hs
  clear hx hy hr hs
  by_cases hnm : n = m
  · subst hnm
    have hb : ((n : Int) != n) = false := by simp
    go_enter Try.func28, Try.ntmps28
    go_wp2
    go_loopw [5] (fun i wr => ∃ k nq : Nat, k ≤ n ∧ i = .int .i64 k ∧ wr = w.drewN nq ∧ Hid (xs.take k = ys.take k)) (fun i _ => n - (intOf i).toNat)
    case atStart => exact ⟨0, 0, by omega, rfl, rfl, hide rfl⟩
    case round =>
      obtain ⟨k, nq, hk, rfl, rfl, HT⟩ := hrel
      by_cases hlt : k < n
      · have h1 : k < xs.length := by rw [HX.out]; exact hlt
        have h2 : k < ys.length := by rw [HY.out]; exact hlt
        obtain ⟨ad, rfl, _, hcell⟩ := HR.out.intAt h1
        obtain ⟨bd, rfl, _, hcell2⟩ := HS.out.intAt h2
        have HE := hide (fun he => take_succ_int h1 h2 HT.out he)
        have HN := hide (show xs.getD k 0 ≠ ys.getD k 0 → xs ≠ ys from fun h e => h (by rw [e]))
        clear h1 h2
        generalize xs.getD k 0 = x at hcell HE HN
        generalize ys.getD k 0 = y at hcell2 HE HN
        by_cases he : x = y
        · subst he
          have HE' := hide (HE.out rfl)
          clear HE
          have hb2 : (x != x) = false := by simp
          go_wp2
          go_quiet (fail)
          go_wp2
          go_round
          case rel => exact ⟨k + 1, _, by omega, by go_num, rfl, HE'⟩
          case measure => simp [intOf]; omega
        · have hb2 : (x != y) = true := by simpa using he
          have HF := hide (HN.out he)
          clear HN HE he
          go_wp2
          go_quiet (fail)
          go_wp2
          go_ret
          exact ⟨by simp [HF.out], _, World.drewN_drewN _ _ _⟩
      · have HF := hide (show xs = ys by
          have h := HT.out
          rwa [List.take_of_length_le (by rw [HX.out]; omega), List.take_of_length_le (by rw [HY.out]; omega)] at h)
        go_wp2
        go_ret
        exact ⟨by simp [HF.out], _, rfl⟩
  · have hb : ((n : Int) != m) = true := by simp; omega
    have HF := hide (show xs ≠ ys from fun e => hnm (by rw [← HX.out, ← HY.out, e]))
    go_enter Try.func28, Try.ntmps28
    go_wp2
    go_ret
    exact ⟨by simp [HF.out], 0, rfl⟩

theorem Try.infoKInt : (Try.prog.info? 3).map (fun i => (i.zero, i.size, i.bytes)) = some (some (.int .i64 0), 1, 8) := by kernel_rfl
def GivesLentInt (w : World) (xs : List Int) (en : Ending) (w' : World) : Prop :=
  ∃ A c, en = .returned (.slice A xs.length c) ∧ Own w' w.heap.size 3 1 (.slice A (xs.length + 1) c) (xs.length + 1) (iz .i64 (xs ++ [-7171])) ∧ Fr No w w'

set_option maxRecDepth 100000 in
set_option maxHeartbeats 800000 in
theorem lentInt_any (A : Option Addr) (n c B : Nat) (xs : List Int) (w : World) (hl : xs.length = n) (hb : (n + 1) * 8 ≤ 140737488355328) (hr : Rd w B A (iz .i64 xs)) :
    Calls Try.prog 39 #[.slice A n c] w (GivesLentInt w xs) := by
  obtain ⟨i0, hi, hz, hsz, hby⟩ := info_parts Try.infoKInt
  have HS := hide (Src.ofRd (P := Try.prog) (size := 1) w Try.underlying52 A n c (iz .i64 xs) (by rw [iz_len, hl]; omega) (by omega) hr (iz_one _ _))
  have HL := hide hl
  clear hr hl
  have b1 : (0 + n) * 8 ≤ 140737488355328 := by omega
  have b2 : 0 + n ≤ maxLen := by unfold maxLen; omega
  have c1 : (0 + n + 1) * 8 ≤ 140737488355328 := by omega
  have c2 : 0 + n + 1 ≤ maxLen := by unfold maxLen; omega
  have HO0 := hide (Own.nil w w.heap.size 3 1)
  go_enter Try.func39, Try.ntmps39
  go_wp2_with (first
    | (at_builtin; refine wpList_append_gen _ rfl (.tmp 4) (.tmp 5) 52 52 rfl w.heap.size 3 i0 (.int .i64 0) 1 8 Try.underlying52 hi hz hsz hby rfl (.slice none 0 0) 0 [] rfl HO0.out _ n (iz .i64 xs) rfl HS.out b1 b2 (Nat.le_refl _) ?_; intro v1 w1 hown hfr hat; have HO1 := hide hown; have HF1 : Hid (Fr No w w1) := hide ((Fr.refl No w).own hfr (fun g h => by cases h)); have hz1 := hfr.size; clear hown hfr hat)
    | (at_builtin; refine wpList_append_gen _ rfl (.tmp 7) (.tmp 8) 52 52 rfl w.heap.size 3 i0 (.int .i64 0) 1 8 Try.underlying52 hi hz hsz hby rfl v1 (0 + n) _ rfl (HO1.out.fr0 ((Fr.refl No w1).alloc (.cells #[.int .i64 (-7171)] 3))) _ 1 [.int .i64 (-7171)] rfl (Src.one (P := Try.prog) w1 (e := 3) Try.underlying52 (.int .i64 (-7171)) rfl) c1 c2 (by simp; omega) ?_; intro v2 w2 hown hfr hat; obtain ⟨A2, k2, rfl, hc1, hc2, _⟩ := hown.form; unfold maxLen at hc2; have HO2 := hide hown; have HF2 : Hid (Fr No w w2) := hide ((HF1.out.alloc _).own hfr (fun g hg => .inl (HO1.out.lt g hg).1)); clear hown hfr hat))
  go_ret
  refine ⟨A2, k2, ?_, ?_, HF2.out⟩
  · rw [HL.out]; first | rfl | simp
  · have h := HO2.out
    rw [HL.out, iz_append]
    simpa [iz] using h

set_option maxRecDepth 100000 in
set_option maxHeartbeats 800000 in
theorem keptInt_any (A B : Option Addr) (n c m d b1 b2 : Nat) (xs : List Int) (w : World) (hx : xs.length = n) (hm : xs.length = m) (hn : n + 1 ≤ c) (hc : c ≤ maxLen) (hmd : m ≤ d) (hd : d ≤ maxLen) (hr : Rd w b1 A (iz .i64 (xs ++ [-7171]))) (hs : Rd w b2 B (iz .i64 xs)) :
    Calls Try.prog 48 #[.slice A n c, .slice B m d] w (RetQ (.bool true) w) := by
  have hr1 : Rd w b1 A (iz .i64 xs) := by
    have h := hr.tk xs.length
    rw [← iz_take, List.take_left] at h
    exact h
  have HK := hide (sameInt_any A B n c m d b1 b2 xs xs w hx hm (by omega) hc hmd hd hr1 hs)
  rw [decide_eq_true rfl] at HK
  obtain ⟨ad, rfl, _, hcell⟩ := hr.intAt (j := n) (by simp; omega)
  have e1 : (xs ++ [-7171]).getD n 0 = -7171 := by rw [← hx]; simp
  rw [e1] at hcell
  unfold maxLen at hc
  clear hr hs hr1 hx hm e1
  go_enter Try.func48, Try.ntmps48
  go_wp2_with (go_at_call 28; refine HK.out.mono ?_; rintro en w2 ⟨rfl, nq, rfl⟩)
  go_ret
  exact ⟨rfl, _, rfl⟩

end Go.Proofs.Ythlbfnoahdjdeaa
namespace Go.Proofs.Ythlbfnoahdjdeaa
set_option linter.unusedVariables false
set_option linter.unusedSimpArgs false
open Go.RowKit

def litPo : List Po := [(2, [0, 5]), (4, [1])]
def litF10 : List UInt8 := [2, 10, 5, 2, 1, 1, 0, 1, 1, 0, 3, 104, 0]
theorem upL_of2 {a b : Int} (h : a ≤ b) : upL [a, b] := by
  intro k hk
  have hk : k + 1 < 2 := hk
  obtain rfl : k = 0 := by omega
  exact h
theorem upL_one (a : Int) : upL [a] := by
  intro k hk
  have hk : k + 1 < 1 := hk
  omega
theorem right_lit : rightP litPo := by
  intro i hi
  have hi : i < 2 := hi
  rcases i with _ | _ | i
  · exact ⟨by decide, by decide, by decide, by decide, upL_of2 (by decide), by decide⟩
  · exact ⟨by decide, by decide, by decide, by decide, upL_one _, by decide⟩
  · omega
theorem form_lit : FormP litF10 litPo := ⟨right_lit, by decide⟩

set_option maxRecDepth 100000 in
theorem form10_any (w : World) : Calls Try.prog 35 #[] w (fun en w' => ∃ g, en = .returned (.slice (some ⟨g, 0, none⟩) 13 13) ∧ w.heap.size ≤ g ∧ Rd w' w'.heap.size (some ⟨g, 0, none⟩) (by8 litF10) ∧ Fr No w w') := by
  go_enter Try.func35, Try.ntmps35
  go_wp2
  go_ret
  refine ⟨w.heap.size, rfl, Nat.le_refl _, ?_, (Fr.refl No w).alloc _⟩
  have h := Rd.block (heap_alloc_new w (.cells #[.int .u8 2, .int .u8 10, .int .u8 5, .int .u8 2, .int .u8 1, .int .u8 1, .int .u8 0, .int .u8 1, .int .u8 1, .int .u8 0, .int .u8 3, .int .u8 104, .int .u8 0] 5))
  exact h.more (by simp)

set_option maxRecDepth 100000 in
theorem given10_any (w : World) : Calls Try.prog 38 #[] w (fun en w' => ∃ A, en = .returned (.slice A 2 2) ∧ RdPo w' w'.heap.size A litPo ∧ Fr No w w') := by
  obtain ⟨w1, hw1⟩ : ∃ W, W = w.alloc (.cells #[.int .i64 0, .int .i64 5] 3) := ⟨_, rfl⟩
  obtain ⟨w2, hw2⟩ : ∃ W, W = w1.alloc (.cells #[.int .i64 1] 3) := ⟨_, rfl⟩
  have s1 : w1.heap.size = w.heap.size + 1 := by rw [hw1]; simp
  have s2 : w2.heap.size = w.heap.size + 2 := by rw [hw2]; simp [s1]
  obtain ⟨w3, hw3⟩ : ∃ W, W = w2.alloc (.cells #[.int .i64 2, .slice (some ⟨w.heap.size, 0, none⟩) 2 2, .int .i64 4, .slice (some ⟨w.heap.size + 1, 0, none⟩) 1 1] 58) := ⟨_, rfl⟩
  have s3 : w3.heap.size = w.heap.size + 3 := by rw [hw3]; simp [s2]
  have f12 : Fr No w1 w2 := by rw [hw2]; exact (Fr.refl No w1).alloc _
  have f23 : Fr No w2 w3 := by rw [hw3]; exact (Fr.refl No w2).alloc _
  have f3 : Fr No w w3 := (by rw [hw1]; exact (Fr.refl No w).alloc _ : Fr No w w1).tr (f12.tr f23)
  have r1 : Rd w3 w3.heap.size (some ⟨w.heap.size, 0, none⟩) (iz .i64 [0, 5]) := by
    have h := Rd.block (heap_alloc_new w (.cells #[.int .i64 0, .int .i64 5] 3))
    rw [← hw1] at h
    exact (h.fr0 (f12.tr f23)).more (by omega)
  have r2 : Rd w3 w3.heap.size (some ⟨w.heap.size + 1, 0, none⟩) (iz .i64 [1]) := by
    have h := Rd.block (heap_alloc_new w1 (.cells #[.int .i64 1] 3))
    rw [← hw2, s1] at h
    exact (h.fr0 f23).more (by omega)
  have r3 : Rd w3 w3.heap.size (some ⟨w.heap.size + 2, 0, none⟩) (pFlat [((2, [0, 5]), some ⟨w.heap.size, 0, none⟩, 2), ((4, [1]), some ⟨w.heap.size + 1, 0, none⟩, 1)]) := by
    have h := Rd.block (heap_alloc_new w2 (.cells #[.int .i64 2, .slice (some ⟨w.heap.size, 0, none⟩) 2 2, .int .i64 4, .slice (some ⟨w.heap.size + 1, 0, none⟩) 1 1] 58))
    rw [← hw3, s2] at h
    exact h.more (by omega)
  have HP : Hid (RdPo w3 w3.heap.size (some ⟨w.heap.size + 2, 0, none⟩) litPo) := hide ⟨[((2, [0, 5]), some ⟨w.heap.size, 0, none⟩, 2), ((4, [1]), some ⟨w.heap.size + 1, 0, none⟩, 1)], rfl, r3, fun p hp => by
    rcases List.mem_cons.1 hp with rfl | hp
    · exact ⟨Nat.le_refl _, (show 2 ≤ maxLen by unfold maxLen; decide), r1⟩
    · rw [List.mem_singleton.1 hp]
      exact ⟨Nat.le_refl _, (show 1 ≤ maxLen by unfold maxLen; decide), r2⟩⟩
  have HF := hide f3
  have HW := hide (And.intro hw1 (And.intro hw2 hw3))
  clear r1 r2 r3 f12 f23 f3 s1 s2 s3 hw1 hw2 hw3
  go_enter Try.func38, Try.ntmps38
  go_wp2
  rw [← HW.out.1, ← HW.out.2.1, ← HW.out.2.2]
  go_ret
  exact ⟨_, rfl, HP.out, HF.out⟩

set_option maxRecDepth 100000 in
set_option maxHeartbeats 400000 in
theorem newIt_any (lv : Value) (hlv : ∃ o, lv = .pointer o) (l : List Po) (w : World) : Calls Try.prog 18 #[lv] w (fun en w' => ∃ X, en = .returned (.pointer (some ⟨X, 0, none⟩)) ∧ ItM w' w.heap.size X lv l .start ∧ Fr No w w') := by
  obtain ⟨o, rfl⟩ := hlv
  go_enter Try.func18, Try.ntmps18
  go_wp2
  go_ret
  exact ⟨w.heap.size, rfl, ⟨⟨_, [], heap_alloc_new w _, OwnPs.nil _ _, rfl⟩, Nat.le_refl _, fun i hi => by cases hi⟩, (Fr.refl No w).alloc _⟩
/-- a walk, its list, what was there before. -/
structure WkM (w0 W : World) (b B X : Nat) (lv : Value) (l : List Po) (s : ItS) : Prop where
  it : ItM W b X lv l s
  lv : LvM W B lv l
  fr : Fr No w0 W
  lo : w0.heap.size ≤ X
theorem WkM.go {w0 W w' : World} {b B X : Nat} {lv : Value} {l : List Po} {s s' : ItS} (h : WkM w0 W b B X lv l s) (f : Fr (Is X) W w') (hi : ItM w' b X lv l s') : WkM w0 w' b B X lv l s' :=
  ⟨hi, h.lv.off f (h.it.offIs (by decide)) (h.it.offIs (by decide)) (h.it.offIs (by decide)), h.fr.trans f (fun i hi e => by have e : i = X := e; have := h.lo; omega), h.lo⟩
theorem WkM.fr0 {w0 W w' : World} {b B X : Nat} {lv : Value} {l : List Po} {s : ItS} (h : WkM w0 W b B X lv l s) (f : Fr No W w') : WkM w0 w' b B X lv l s := ⟨h.it.fr0 f, h.lv.fr0 f, h.fr.tr f, h.lo⟩
theorem WkM.q {w0 W w' : World} {b B X : Nat} {lv : Value} {l : List Po} {s : ItS} (h : WkM w0 W b B X lv l s) (hq : ∃ q, w' = W.drewN q) : WkM w0 w' b B X lv l s := by
  obtain ⟨q, rfl⟩ := hq
  exact h.fr0 ((Fr.refl No W).drewN q)
theorem lit_in : InI2 litPo ∧ ∀ x ∈ litPo, x.2.length ≤ 140737488351232 := by
  refine ⟨fun x hx => ?_, fun x hx => ?_⟩
  · rcases List.mem_cons.1 hx with rfl | hx
    · exact ⟨by intro y hy; revert y; decide, by decide, by decide⟩
    · rw [List.mem_singleton.1 hx]
      exact ⟨by intro y hy; revert y; decide, by decide, by decide⟩
  · rcases List.mem_cons.1 hx with rfl | hx
    · decide
    · rw [List.mem_singleton.1 hx]; decide
theorem lit_f1 : IsF litPo 3 0 1 := by
  refine ⟨by decide, by decide, fun t h1 h2 => ?_, fun _ => by decide⟩
  obtain rfl : t = 0 := by omega
  decide
theorem lit_f2 : IsF litPo 4 1 1 := ⟨by decide, by decide, fun t h1 h2 => by omega, fun _ => by decide⟩

set_option maxRecDepth 100000 in
set_option maxHeartbeats 1600000 in
theorem awake10_any (w : World) : Calls Try.prog 9 #[] w (RetB true w) := by
  go_enter Try.func9, Try.ntmps9
  go_wp2_with (fail)
  refine (given10_any w).mono ?_
  rintro en w1 ⟨A, rfl, hrd, hfr⟩
  have HB := hide (pbuild_any A 2 2 w1.heap.size litPo w1 rfl (Nat.le_refl _) (by unfold maxLen; decide) (Nat.le_refl _) hrd lit_in.1 lit_in.2)
  have HF1 := hide hfr
  clear hrd hfr
  go_wp2_with (fail)
  refine HB.out.mono ?_
  rintro en w2 ⟨hfr, (⟨_, A2, m, hm, rfl, hO⟩ | ⟨hno, _⟩)⟩
  rotate_left
  · exact absurd right_lit hno
  rw [form_lit.2] at hm hO
  obtain rfl : m = 13 := hm
  have HF2 := hide (HF1.out.tr hfr)
  have HO2 := hide hO
  have HOp := hide (popen_any A2 13 13 w2.heap.size litF10 w2 rfl (Nat.le_refl _) (by unfold maxLen; decide) (by decide) (Nat.le_refl _) hO.rd)
  clear hfr hO HB
  go_wp2_with (fail)
  refine HOp.out.mono ?_
  rintro en w3 ⟨hfr, (⟨G, l, hf, rfl, hl⟩ | ⟨hno, _⟩)⟩
  rotate_left
  · exact absurd form_lit (hno _)
  obtain rfl := buildP_inj hf form_lit
  have HF3 := hide (HF2.out.tr hfr)
  have HO3 := hide (HO2.out.fr0 hfr)
  have HL3 := hide hl
  have HNi := hide (newIt_any (.pointer (some ⟨G, 0, none⟩)) ⟨_, rfl⟩ litPo w3)
  clear hfr hf hl HOp HO2
  go_wp2_with (fail)
  refine HNi.out.mono ?_
  rintro en w4 ⟨X, rfl, hit, hfr⟩
  have HK4 : Hid (WkM w w4 w3.heap.size w2.heap.size X (.pointer (some ⟨G, 0, none⟩)) litPo .start) := hide ⟨hit, .inr ⟨G, _, rfl, HL3.out.fr0 hfr⟩, HF3.out.tr hfr, Nat.le_trans HF3.out.size hit.lo⟩
  have HO4 := hide (HO3.out.fr0 hfr)
  clear hfr hit HNi HO3 HL3
  go_wp2_with (fail)
  refine (form10_any w4).mono ?_
  rintro en w5 ⟨g, rfl, _, hrd, hfr⟩
  have HK5 := hide (HK4.out.fr0 hfr)
  have HKb := hide (kbytes_any A2 (some ⟨g, 0, none⟩) 13 13 13 13 w5.heap.size w5.heap.size litF10 litF10 w5 rfl rfl (Nat.le_refl _) (by unfold maxLen; decide) (Nat.le_refl _) (by unfold maxLen; decide) (HO4.out.fr0 hfr).rd hrd)
  rw [decide_eq_true rfl] at HKb
  clear hfr hrd
  go_wp2_with (fail)
  refine HKb.out.mono ?_
  rintro en w6 ⟨rfl, hq⟩
  have HK6 := hide (HK5.out.q hq)
  clear hq HKb HK5 HK4
  have HNx := hide (next_any _ _ X _ litPo .start w6 HK6.out.it HK6.out.lv right_lit)
  rw [show nxS litPo .start = .here 0 from rfl] at HNx
  go_wp2_with (fail)
  refine HNx.out.mono ?_
  rintro en w7 ⟨hfr, rfl, hit⟩
  have HK7 := hide (HK6.out.go hfr hit)
  clear hfr hit HNx HK6
  have HD := hide (itDoc_any _ X _ litPo _ w7 HK7.out.it)
  rw [show docS litPo (.here 0) = 2 from rfl] at HD
  go_wp2_with (fail)
  refine HD.out.mono ?_
  rintro en w8 ⟨rfl, hq⟩
  have HK8 := hide (HK7.out.q hq)
  clear hq HD HK7
  have HFq := hide (itFreq_any _ X _ litPo _ w8 HK8.out.it)
  rw [show (posnS litPo (.here 0)).length = 2 from rfl] at HFq
  go_wp2_with (fail)
  refine HFq.out.mono ?_
  rintro en w9 ⟨rfl, hq⟩
  have HK9 := hide (HK8.out.q hq)
  clear hq HFq HK8
  have HAd := hide (adv_any _ _ X _ litPo _ 3 w9 HK9.out.it HK9.out.lv right_lit)
  go_wp2_with (fail)
  refine HAd.out.mono ?_
  rintro en w10 ⟨hfr, k, hk, rfl, hit⟩
  obtain rfl := hk.uniq lit_f1
  rw [show stS litPo 1 = .here 1 from rfl] at hit
  have HK10 := hide (HK9.out.go hfr hit)
  clear hfr hit HAd HK9 hk
  have HD := hide (itDoc_any _ X _ litPo _ w10 HK10.out.it)
  rw [show docS litPo (.here 1) = 4 from rfl] at HD
  rw [show decide (1 < litPo.length) = true from rfl]
  go_wp2_with (fail)
  refine HD.out.mono ?_
  rintro en w11 ⟨rfl, hq⟩
  have HK11 := hide (HK10.out.q hq)
  clear hq HD HK10
  have HAd := hide (adv_any _ _ X _ litPo _ 4 w11 HK11.out.it HK11.out.lv right_lit)
  go_wp2_with (fail)
  refine HAd.out.mono ?_
  rintro en w12 ⟨hfr, k, hk, rfl, hit⟩
  obtain rfl := hk.uniq lit_f2
  rw [show stS litPo 1 = .here 1 from rfl] at hit
  have HK12 := hide (HK11.out.go hfr hit)
  clear hfr hit HAd HK11 hk
  have HNx := hide (next_any _ _ X _ litPo _ w12 HK12.out.it HK12.out.lv right_lit)
  rw [show nxS litPo (.here 1) = .done from rfl] at HNx
  rw [show decide (1 < litPo.length) = true from rfl]
  go_wp2_with (fail)
  refine HNx.out.mono ?_
  rintro en w13 ⟨hfr, rfl, hit⟩
  have HK13 := hide (HK12.out.go hfr hit)
  clear hfr hit HNx HK12
  have HD := hide (itDoc_any _ X _ litPo _ w13 HK13.out.it)
  rw [show docS litPo .done = 16384 from rfl] at HD
  go_wp2_with (fail)
  refine HD.out.mono ?_
  rintro en w14 ⟨rfl, hq⟩
  have HK14 := hide (HK13.out.q hq)
  clear hq HD HK13
  go_wp2_with (fail)
  go_ret
  exact ⟨rfl, HK14.out.fr⟩
end Go.Proofs.Ythlbfnoahdjdeaa
namespace Go.Proofs.Ythlbfnoahdjdeaa
set_option linter.unusedVariables false
set_option linter.unusedSimpArgs false
open Go.RowKit

theorem add_litP (ad : Addr) (k : Nat) : ad.add (k * 2 + 1) = ⟨(ad.add (k * 2)).block, (ad.add (k * 2)).off + 1, none⟩ := by
  rw [← lit_add ad (k * 2) 1 (by omega)]
  rw [show (ad.add (k * 2)).add 1 = ad.add (k * 2 + 1) from ?_]
  unfold Addr.add
  split <;> split <;> simp_all <;> omega
def LentN10 (w : World) (base : Nat) (p : PoL) : Prop := Own w base 3 1 (.slice p.2.1 (p.1.2.length + 1) p.2.2) (p.1.2.length + 1) (iz .i64 (p.1.2 ++ [-7171]))
def markPo : Po := (-71, [])
structure LentPo (w : World) (base : Nat) (A : Option Addr) (c : Nat) (l : List Po) : Prop where
  ex : ∃ ps : List PoL, ps.map (·.1) = l ∧ Own w base 58 2 (.slice A (l.length + 1) c) (l.length + 1) (pFlat ps ++ pRow (markPo, none, 0)) ∧ ∀ p ∈ ps, LentN10 w base p
theorem LentPo.off {S : Nat → Prop} {w w' : World} {base c : Nat} {A : Option Addr} {l : List Po} (h : LentPo w base A c l) (f : Fr S w w') (h1 : Off S w 58) (h2 : Off S w 3) : LentPo w' base A c l := by
  obtain ⟨ps, q1, q2, q3⟩ := h.ex
  exact ⟨ps, q1, q2.off f h1, fun p hp => Own.off (q3 p hp) f h2⟩
theorem LentPo.fr0 {w w' : World} {base c : Nat} {A : Option Addr} {l : List Po} (h : LentPo w base A c l) (f : Fr No w w') : LentPo w' base A c l := h.off f (fun _ _ _ _ h => h) (fun _ _ _ _ h => h)
/-- lent posts, read. -/
theorem LentPo.rd {w : World} {base c : Nat} {A : Option Addr} {l : List Po} (h : LentPo w base A c l) : RdPo w w.heap.size A l ∧ l.length + 1 ≤ c ∧ c ≤ maxLen := by
  obtain ⟨ps, q1, q2, q3⟩ := h.ex
  have hl : ps.length = l.length := by rw [← q1, List.length_map]
  refine ⟨⟨ps, q1, ?_, fun p hp => ?_⟩, q2.le.2.1, q2.le.2.2⟩
  · have h2 := q2.rd.tk (pFlat ps).length
    rw [List.take_left] at h2
    exact h2
  · have h3 := q3 p hp
    have h4 := h3.le
    refine ⟨by omega, h4.2.2, ?_⟩
    have h5 := (Own.rd h3).tk p.1.2.length
    rw [← iz_take, List.take_left] at h5
    exact h5

set_option maxRecDepth 100000 in
set_option maxHeartbeats 2000000 in
theorem lentPo_any (A : Option Addr) (n c B : Nat) (l : List Po) (w : World) (hl : l.length = n) (hn : n ≤ c) (hc : c ≤ maxLen) (hc2 : (n + 1) * 32 ≤ 140737488355328) (hns : ∀ e ∈ l, (e.2.length + 1) * 8 ≤ 140737488355328) (hB : B ≤ w.heap.size) (hr : RdPo w B A l) :
    Calls Try.prog 10 #[.slice A n c] w (fun en w' => ∃ A' c', en = .returned (.slice A' n c') ∧ LentPo w' w.heap.size A' c' l ∧ Fr No w w') := by
  obtain ⟨ip, hip, hipz, hipsz, hipby⟩ := info_parts Try.infoPo
  have HL := hide hl
  have HR := hide hr
  have HNS := hide hns
  have HF0 := hide (Fr.refl No w)
  clear hl hr hns
  go_enter Try.func10, Try.ntmps10
  go_wp2
  go_loopw [3, 4] (fun v ix wr => ∃ (j : Nat) (ps : List PoL), j ≤ n ∧ ix = .int .i64 j ∧ Hid (ps.map (·.1) = l.take j) ∧ Hid (Own wr w.heap.size 58 2 v j (pFlat ps)) ∧ Hid (∀ p ∈ ps, LentN10 wr w.heap.size p) ∧ Hid (Fr No w wr)) (fun _ ix _ => n - (intOf ix).toNat)
  case atStart => exact ⟨0, [], by omega, rfl, hide (by simp), hide (Own.nil _ _ _ _), hide (fun p hp => by simp at hp), HF0⟩
  case round =>
    obtain ⟨wo, rfl⟩ : ∃ wo : World, wo = wr := ⟨_, rfl⟩
    obtain ⟨j, ps, hj, rfl, HPs, HO, HN, HFr⟩ := hrel
    clear HF0
    by_cases hlt : j < n
    · have hjl : j < l.length := by rw [HL.out]; exact hlt
      obtain ⟨ad, Ak, ck, rfl, _, k0, k1, e1, e2, hrk⟩ := (HR.out.fr0 HFr.out).at hjl
      have hmem : l.getD j noPo ∈ l := getP_mem hjl
      have hsz := HNS.out _ hmem
      have HTk := hide (take_snocP hjl)
      obtain ⟨E, hE⟩ : ∃ E, l.getD j noPo = E := ⟨_, rfl⟩
      rw [hE] at k0 k1 e1 hrk hsz HTk
      obtain ⟨m, hm⟩ : ∃ m, E.2.length = m := ⟨_, rfl⟩
      obtain ⟨d, hd⟩ : ∃ d, E.1 = d := ⟨_, rfl⟩
      rw [hm] at k1 e1 hsz
      rw [hd] at k0
      have HM := hide hm
      have HD := hide hd
      have HLe := hide (lentInt_any Ak m ck B E.2 wo.drew hm hsz (hrk.fr0 (Fr.refl No wo).drew))
      have k0d : wo.drew.cell? (ad.add (j * 2)) = some (.int .i64 d) := k0
      have k1d : wo.drew.cell? ⟨(ad.add (j * 2)).block, (ad.add (j * 2)).off + 1, none⟩ = some (.slice Ak m ck) := k1
      have i0 : (0 : Int) ≤ (j : Int) := by omega
      have i1 : (j : Int) < (n : Int) := by omega
      have b1 : (j + 1) * 32 ≤ 140737488355328 := by omega
      have b2 : j + 1 ≤ maxLen := by unfold maxLen; omega
      clear hE hm hd hmem hrk hjl k0 k1 hsz
      go_upto_region 5 with (fail)
      refine wp_named fun K hK => ?_
      go_cut [3] from 5 to 25 (fun v wx => ∃ ps2 : List PoL, Hid (ps2.map (·.1) = l.take (j + 1)) ∧ Hid (Own wx w.heap.size 58 2 v (j + 1) (pFlat ps2)) ∧ Hid (∀ p ∈ ps2, LentN10 wx w.heap.size p) ∧ Hid (Fr No w wx))
      case first =>
        go_region_law (first
          | (refine step_append_any rfl (.tmp 11) (.tmp 24) 22 22 rfl w.heap.size 58 ip (.agg #[.int .i64 0, .slice none 0 0]) 2 32 Try.underlying22 hip hipz hipsz hipby rfl u3 j (pFlat ps) rfl HO5.out _ 1 [.int .i64 d, .slice A3 m c3] rfl HS5.out b1 b2 b3 ?_; intro v6 w6 hown hfr; have HO6 := hide hown; have HF6 := hide hfr; clear hown hfr)
          | (go_simp; go_at_call 39; refine HLe.out.mono ?_; rintro en w3 ⟨A3, c3, he, hown, hfr⟩; rw [HM.out] at he hown; subst he; have HO3 := hide hown; have hfr3 : Fr No wo w3 := (Fr.refl No wo).drew.tr hfr; have HF3 := hide hfr3; have k03 := hfr3.cell k0d (fun h => h); have HO5 := hide (HO.out.fr0 (hfr3.alloc (.cells #[.int .i64 d, .slice A3 m c3] 58))); have HS5 := hide (Src.ofRd (P := Try.prog) (size := 2) _ Try.underlying22 (some ⟨w3.heap.size, 0, none⟩) 1 1 [.int .i64 d, .slice A3 m c3] rfl (by omega) (Rd.block (heap_alloc_new w3 (.cells #[.int .i64 d, .slice A3 m c3] 58))) (by simp [Value.oneCell'])); have b3 : w.heap.size ≤ (w3.alloc (.cells #[.int .i64 d, .slice A3 m c3] 58)).heap.size := (by have h1 := HFr.out.size; have h2 := hfr3.size; simp; omega); clear hown hfr hfr3))
        all_goals (go_wp2; go_meet)
        all_goals (
          have fA : Fr No w3 (w3.alloc (.cells #[.int .i64 d, .slice A3 m c3] 58)) := (Fr.refl No w3).alloc _
          refine ⟨ps ++ [(E, A3, c3)], hide ?_, hide ?_, hide ?_, hide ?_⟩
          · rw [List.map_append, HPs.out, HTk.out]; rfl
          · rw [pFlat_snoc]
            unfold pRow
            dsimp only
            rw [HM.out, HD.out]
            exact HO6.out
          · intro p hp
            rcases List.mem_append.1 hp with hp | hp
            · exact ((Own.fr0 (HN.out p hp) HF3.out).fr0 fA).off HF6.out (off_own HO5.out (by decide))
            · rw [List.mem_singleton.1 hp]
              unfold LentN10
              dsimp only
              rw [HM.out]
              exact ((HO3.out.lower HFr.out.size).fr0 fA).off HF6.out (off_own HO5.out (by decide))
          · exact ((HFr.out.tr HF3.out).tr fA).own HF6.out (fun k hk => .inl (HO5.out.lt k hk).1))
      case rest =>
      obtain ⟨ps2, HP2, HO2, HN2, HF2⟩ := hcut
      obtain ⟨w7, rfl⟩ : ∃ W : World, W = wc := ⟨_, rfl⟩
      refine hK _ _ ?_
      clear hK K k0d k1d
      go_wp2_with (fail)
      go_roundw
      case rel => exact ⟨j + 1, ps2, by omega, by go_num, HP2, HO2, HN2, HF2⟩
      case measure => simp [intOf]; omega
    · obtain rfl : j = n := by omega
      have HPl : Hid (ps.map (·.1) = l) := hide (by rw [HPs.out, List.take_of_length_le (by rw [HL.out]; exact Nat.le_refl _)])
      have fA : Fr No wo (wo.alloc (.cells #[.int .i64 (-71), .slice none 0 0] 58)) := (Fr.refl No wo).alloc _
      have O4 := hide (HO.out.fr0 fA)
      have HS5 := hide (Src.ofRd (P := Try.prog) (size := 2) _ Try.underlying22 (some ⟨wo.heap.size, 0, none⟩) 1 1 [.int .i64 (-71), .slice none 0 0] rfl (by omega) (Rd.block (heap_alloc_new wo (.cells #[.int .i64 (-71), .slice none 0 0] 58))) (by simp [Value.oneCell']))
      have b1 : (j + 1) * 32 ≤ 140737488355328 := by omega
      have b2 : j + 1 ≤ maxLen := by unfold maxLen; omega
      have b3 : w.heap.size ≤ (wo.alloc (.cells #[.int .i64 (-71), .slice none 0 0] 58)).heap.size := by
        have h1 := HFr.out.size
        simp
        omega
      have HFA := hide fA
      clear hlt fA
      go_wp2_with (first | (at_builtin; refine wpList_append_gen _ rfl (.tmp 26) (.tmp 28) 22 22 rfl w.heap.size 58 ip (.agg #[.int .i64 0, .slice none 0 0]) 2 32 Try.underlying22 hip hipz hipsz hipby rfl u3 j (pFlat ps) rfl O4.out _ 1 [.int .i64 (-71), .slice none 0 0] rfl HS5.out b1 b2 b3 ?_; intro v6 w6 hown2 hfr2 hat; have O6 := hide hown2; have F6 := hide hfr2; obtain ⟨A6, c6, rfl, z1, z2, _⟩ := hown2.form; clear hown2 hfr2 hat) | fail)
      go_ret
      refine ⟨A6, c6, rfl, ⟨ps, HPl.out, ?_, ?_⟩, (HFr.out.tr HFA.out).own F6.out (fun g hg => .inl (O4.out.lt g hg).1)⟩
      · rw [HL.out]
        exact O6.out
      · intro p hp
        exact (Own.fr0 (HN.out p hp) HFA.out).off F6.out (off_own O4.out (by decide))
end Go.Proofs.Ythlbfnoahdjdeaa
namespace Go.Proofs.Ythlbfnoahdjdeaa
set_option linter.unusedVariables false
set_option linter.unusedSimpArgs false
open Go.RowKit

/-- a lent post's two cells. -/
theorem LentPo.at {w : World} {base c n : Nat} {A : Option Addr} {l : List Po} (h : LentPo w base A c l) (hl : l.length = n) {k : Nat} (hk : k < n) :
    ∃ (ad : Addr) (Ak : Option Addr) (ck : Nat), A = some ad ∧ w.cell? (ad.add (k * 2)) = some (.int .i64 (l.getD k noPo).1) ∧
      w.cell? ⟨(ad.add (k * 2)).block, (ad.add (k * 2)).off + 1, none⟩ = some (.slice Ak (l.getD k noPo).2.length ck) ∧ (l.getD k noPo).2.length + 1 ≤ ck ∧ ck ≤ maxLen ∧ Rd w w.heap.size Ak (iz .i64 ((l.getD k noPo).2 ++ [-7171])) := by
  obtain ⟨ps, rfl, h2, h3⟩ := h.ex
  rw [List.length_map] at hl
  obtain ⟨p, hp⟩ : ∃ p, ps[k]? = some p := ⟨_, List.getElem?_eq_getElem (by omega)⟩
  have e : (ps.map (·.1)).getD k noPo = p.1 := by simp [hp]
  rw [e]
  obtain ⟨a1, a2⟩ := pFlat_at hp
  have hlt := (List.getElem?_eq_some_iff.1 a1).1
  have hlt2 := (List.getElem?_eq_some_iff.1 a2).1
  obtain ⟨ad, h4, h5, h6⟩ := h2.rd _ _ (by rw [List.getElem?_append_left hlt]; exact a1)
  obtain ⟨ad', h7, h8, h9⟩ := h2.rd _ _ (by rw [List.getElem?_append_left hlt2]; exact a2)
  rw [h4] at h7
  injection h7 with h7
  subst h7
  have h10 := h3 p (List.mem_of_getElem? hp)
  have h11 := h10.le
  rw [add_litP] at h9
  exact ⟨ad, p.2.1, p.2.2, h4, h6, h9, h11.2.1, h11.2.2, Own.rd h10⟩
theorem LentPo.mark {w : World} {base c n : Nat} {A : Option Addr} {l : List Po} (h : LentPo w base A c l) (hl : l.length = n) : ∃ ad, A = some ad ∧ w.cell? (ad.add (n * 2)) = some (.int .i64 (-71)) := by
  obtain ⟨ps, rfl, h2, h3⟩ := h.ex
  rw [List.length_map] at hl h2
  obtain ⟨ad, h4, h5, h6⟩ := h2.rd (n * 2) (.int .i64 (-71)) (by
    rw [List.getElem?_append_right (by rw [pFlat_len, hl]; exact Nat.le_refl _), pFlat_len, hl, Nat.sub_self]
    rfl)
  exact ⟨ad, h4, h6⟩

set_option maxRecDepth 100000 in
set_option maxHeartbeats 2000000 in
theorem keptPo_any (A B : Option Addr) (n c m d base b2 : Nat) (l : List Po) (w : World) (hl : l.length = n) (hl2 : l.length = m) (hm : m ≤ d) (hd : d ≤ maxLen) (h : LentPo w base A c l) (hr : RdPo w b2 B l) :
    Calls Try.prog 15 #[.slice A n c, .slice B m d] w (RetQ (.bool true) w) := by
  obtain rfl : n = m := by omega
  obtain ⟨-, hnc, hcm⟩ := h.rd
  rw [hl] at hnc
  have HL := hide hl
  have HH := hide h
  have HR := hide hr
  unfold maxLen at hcm hd
  clear hl hl2 h hr
  go_enter Try.func15, Try.ntmps15
  go_wp2
  go_loopw [5] (fun ix wr => ∃ k : Nat, k ≤ n ∧ ix = .int .i64 k ∧ Hid (∃ q, wr = w.drewN q)) (fun ix _ => n - (intOf ix).toNat)
  case atStart => exact ⟨0, by omega, rfl, hide ⟨0, rfl⟩⟩
  case round =>
    obtain ⟨wo, rfl⟩ : ∃ wo : World, wo = wr := ⟨_, rfl⟩
    obtain ⟨k, hk, rfl, HW⟩ := hrel
    have HFw : Hid (Fr No w wo) := hide (by obtain ⟨q, rfl⟩ := HW.out; exact (Fr.refl No w).drewN q)
    by_cases hlt : k < n
    · have h1 : k < l.length := by rw [HL.out]; exact hlt
      obtain ⟨ad, Ak, ck, rfl, c0, c1, o1, o2, o3⟩ := (HH.out.fr0 HFw.out).at HL.out hlt
      obtain ⟨bd, Bk, dk, rfl, -, d0, d1, p1, p2, p3⟩ := (HR.out.fr0 HFw.out).at h1
      obtain ⟨E, hE⟩ : ∃ E, l.getD k noPo = E := ⟨_, rfl⟩
      rw [hE] at c0 c1 o1 o3 d0 d1 p1 p3
      obtain ⟨pm, hpm⟩ : ∃ pm, E.2.length = pm := ⟨_, rfl⟩
      rw [hpm] at c1 o1 d1 p1
      obtain ⟨dd, hdd⟩ : ∃ x, E.1 = x := ⟨_, rfl⟩
      rw [hdd] at c0 d0
      have HKp := hide (fun t => keptInt_any Ak Bk pm ck pm dk wo.heap.size b2 E.2 (wo.drewN t) hpm hpm o1 o2 p1 p2 (o3.fr0 ((Fr.refl No wo).drewN t)) (p3.fr0 ((Fr.refl No wo).drewN t)))
      have hb : (dd != dd) = false := by simp
      have i0 : (0 : Int) ≤ (k : Int) := by omega
      have i1 : (k : Int) < (n : Int) := by omega
      clear h1 hE hpm hdd o1 o2 o3 p1 p2 p3
      go_wp2
      go_quiet ((go_at_call 48; exact Calls.quiet_of (HKp.out _)))
      go_wp2
      go_round
      case rel => exact ⟨k + 1, by omega, by go_num, hide (by obtain ⟨q, hq⟩ := HW.out; exact ⟨_, by rw [hq]; exact World.drewN_drewN _ _ _⟩)⟩
      case measure => simp [intOf]; omega
    · obtain rfl : k = n := by omega
      obtain ⟨ad, rfl, cm⟩ := (HH.out.fr0 HFw.out).mark HL.out
      clear hlt
      go_wp2
      go_ret
      exact ⟨by simp, HW.out⟩
end Go.Proofs.Ythlbfnoahdjdeaa
namespace Go.Proofs.Ythlbfnoahdjdeaa
set_option linter.unusedVariables false
set_option linter.unusedSimpArgs false
open Go.RowKit

theorem Try.infoPr : (Try.prog.info? 80).map (fun i => (i.zero, i.size, i.bytes)) = some (some (.agg #[.int .i64 0, .slice none 0 0]), 2, 32) := by kernel_rfl
theorem pFlat_take_at {ps : List PoL} {k : Nat} {p : PoL} (h : ps[k]? = some p) : pFlat (ps.take (k + 1)) = pFlat (ps.take k) ++ pRow p := by
  obtain ⟨h1, rfl⟩ := List.getElem?_eq_some_iff.1 h
  rw [List.take_succ_eq_append_getElem h1, pFlat_snoc]
def PlainQ (w : World) (l : List Po) (n : Nat) (en : Ending) (w' : World) : Prop := ∃ A c, en = .returned (.slice A n c) ∧ n ≤ c ∧ c ≤ maxLen ∧ RdPo w' w'.heap.size A l ∧ Fr No w w'

set_option maxRecDepth 100000 in
set_option maxHeartbeats 2000000 in
theorem plainPo_any (A : Option Addr) (n c B : Nat) (l : List Po) (w : World) (hl : l.length = n) (hn : n ≤ c) (hc : c ≤ maxLen) (hc2 : n * 32 ≤ 140737488355328) (hB : B ≤ w.heap.size) (hr : RdPo w B A l) :
    Calls Try.prog 13 #[.slice A n c] w (PlainQ w l n) := by
  obtain ⟨ip, hip, hipz, hipsz, hipby⟩ := info_parts Try.infoPr
  obtain ⟨ps, hp1, hp2, hp3⟩ := hr.ex
  have hpl : ps.length = n := by rw [← hl, ← hp1, List.length_map]
  have HPl := hide hpl
  have HP1 := hide hp1
  have HP2 := hide hp2
  have HP3 := hide hp3
  have HF0 := hide (Fr.refl No w)
  clear hl hr hp1 hp2 hp3 hpl
  go_enter Try.func13, Try.ntmps13
  go_wp2
  go_loopw [3, 4] (fun v ix wr => ∃ j : Nat, j ≤ n ∧ ix = .int .i64 j ∧ Hid (Own wr w.heap.size 80 2 v j (pFlat (ps.take j))) ∧ Hid (Fr No w wr)) (fun _ ix _ => n - (intOf ix).toNat)
  case atStart => exact ⟨0, by omega, rfl, hide (Own.nil _ _ _ _), HF0⟩
  case round =>
    obtain ⟨wo, rfl⟩ : ∃ wo : World, wo = wr := ⟨_, rfl⟩
    obtain ⟨j, hj, rfl, HO, HFr⟩ := hrel
    clear HF0
    by_cases hlt : j < n
    · have hjl : j < ps.length := by rw [HPl.out]; exact hlt
      have hpj : ps[j]? = some ps[j] := List.getElem?_eq_getElem hjl
      generalize ps[j] = p at hpj
      obtain ⟨⟨d, pos⟩, Ak, ck⟩ := p
      obtain ⟨a1, a2⟩ := pFlat_at hpj
      obtain ⟨ad, rfl, _, k0⟩ := (HP2.out.fr0 HFr.out) _ _ a1
      obtain ⟨ad', h7, _, k1⟩ := (HP2.out.fr0 HFr.out) _ _ a2
      injection h7 with h7
      subst h7
      have e1 := add_litP ad j
      rw [e1] at k1
      dsimp only at k0 k1
      obtain ⟨m, hm⟩ : ∃ m, pos.length = m := ⟨_, rfl⟩
      rw [hm] at k1
      have HTk := hide (pFlat_take_at hpj)
      unfold pRow at HTk
      dsimp only at HTk
      rw [hm] at HTk
      have k0d : wo.drew.cell? (ad.add (j * 2)) = some (.int .i64 d) := k0
      have k1d : wo.drew.cell? ⟨(ad.add (j * 2)).block, (ad.add (j * 2)).off + 1, none⟩ = some (.slice Ak m ck) := k1
      have HO5 := hide (HO.out.fr0 ((Fr.refl No wo).drew.alloc (.cells #[.int .i64 d, .slice Ak m ck] 80)))
      have HS5 := hide (Src.ofRd (P := Try.prog) (size := 2) _ Try.underlying31 (some ⟨wo.drew.heap.size, 0, none⟩) 1 1 [.int .i64 d, .slice Ak m ck] rfl (by omega) (Rd.block (heap_alloc_new wo.drew (.cells #[.int .i64 d, .slice Ak m ck] 80))) (by simp [Value.oneCell']))
      have i0 : (0 : Int) ≤ (j : Int) := by omega
      have i1 : (j : Int) < (n : Int) := by omega
      have b1 : (j + 1) * 32 ≤ 140737488355328 := by omega
      have b2 : j + 1 ≤ maxLen := by unfold maxLen; omega
      have b3 : w.heap.size ≤ (wo.drew.alloc (.cells #[.int .i64 d, .slice Ak m ck] 80)).heap.size := by
        have h1 := HFr.out.size
        simp
        omega
      clear e1 a1 a2 hjl hpj hm k0 k1
      go_upto_region 5 with (fail)
      refine wp_named fun K hK => ?_
      go_cut [3] from 5 to 24 (fun v wx => Hid (Own wx w.heap.size 80 2 v (j + 1) (pFlat (ps.take (j + 1)))) ∧ Hid (Fr No w wx))
      case first =>
        go_region_law (first
          | (refine step_append_any rfl (.tmp 11) (.tmp 23) 31 31 rfl w.heap.size 80 ip (.agg #[.int .i64 0, .slice none 0 0]) 2 32 Try.underlying31 hip hipz hipsz hipby rfl u3 j (pFlat (ps.take j)) rfl HO5.out _ 1 [.int .i64 d, .slice Ak m ck] rfl HS5.out b1 b2 b3 ?_; intro v6 w6 hown hfr; have HO6 := hide hown; have HF6 := hide hfr; clear hown hfr))
        all_goals (go_wp2; go_meet)
        all_goals (
          have fA : Fr No wo (wo.drew.alloc (.cells #[.int .i64 d, .slice Ak m ck] 80)) := ((Fr.refl No wo).drew).alloc _
          exact ⟨hide (by rw [HTk.out]; exact HO6.out), hide ((HFr.out.tr fA).own HF6.out (fun k hk => .inl (HO5.out.lt k hk).1))⟩)
      case rest =>
      obtain ⟨HO2, HF2⟩ := hcut
      obtain ⟨w7, rfl⟩ : ∃ W : World, W = wc := ⟨_, rfl⟩
      refine hK _ _ ?_
      clear hK K k0d k1d
      go_wp2_with (fail)
      go_roundw
      case rel => exact ⟨j + 1, by omega, by go_num, HO2, HF2⟩
      case measure => simp [intOf]; omega
    · obtain rfl : j = n := by omega
      obtain ⟨A6, c6, rfl, z1, z2, -, z3, -⟩ := HO.out.form
      have HZ := hide (And.intro z1 z2)
      have HRd : Hid (RdPo wo wo.heap.size A6 l) := hide (by
        rw [List.take_of_length_le (by rw [HPl.out]; exact Nat.le_refl _)] at z3
        exact ⟨ps, HP1.out, z3, fun p hp => ⟨(HP3.out p hp).1, (HP3.out p hp).2.1, ((HP3.out p hp).2.2.fr0 HFr.out).more (Nat.le_trans hB HFr.out.size)⟩⟩)
      clear hlt z1 z2 z3
      go_wp2_with (fail)
      go_ret
      exact ⟨A6, c6, rfl, HZ.out.1, HZ.out.2, HRd.out, HFr.out⟩
end Go.Proofs.Ythlbfnoahdjdeaa
namespace Go.Proofs.Ythlbfnoahdjdeaa
set_option linter.unusedVariables false
set_option linter.unusedSimpArgs false
open Go.RowKit

def pick2 {α : Type} (a b : α) : Nat → α | 0 => a | _ => b
def pick3 {α : Type} (a b c : α) : Nat → α | 0 => a | 1 => b | _ => c

theorem apart8_two (q : Nat) (A1 A2 : Option Addr) (n1 n2 c1 c2 : Nat) (x1 x2 : List Value) (W : World) (h1 : n1 ≤ 140737488350000) (h2 : n2 ≤ 140737488350000)
    (hq : W.heap[q]? = some (.cells #[.slice A1 n1 c1, .slice A2 n2 c2] 25 (0, 0))) (o1 : Own W 0 5 1 (.slice A1 n1 c1) n1 x1) (o2 : Own W 0 5 1 (.slice A2 n2 c2) n2 x2)
    (d12 : ∀ k, (Value.slice A1 n1 c1).ownBlock = some k → (Value.slice A2 n2 c2).ownBlock ≠ some k) :
    Calls Try.prog 16 #[.slice (some ⟨q, 0, none⟩) 2 2] W (fun en w' => en = .returned (.bool true) ∧ Fr (fun k => (Value.slice A1 n1 c1).ownBlock = some k ∨ (Value.slice A2 n2 c2).ownBlock = some k) W w') := by
  refine (apart8_any q 2 2 (pick2 A1 A2) (pick2 n1 n2) (pick2 c1 c2) _ W 0 (pick2 x1 x2) (by omega) ?_ (Nat.le_refl _) (by unfold maxLen; omega) hq ?_ ?_ ⟨?_⟩).mono ?_
  · intro j hj
    match j, hj with
    | 0, _ => exact h1
    | 1, _ => exact h2
  · intro j hj
    match j, hj with
    | 0, _ => rfl
    | 1, _ => rfl
  · intro j hj
    match j, hj with
    | 0, _ => exact o1
    | 1, _ => exact o2
  · intro i j hi hj hij k hk
    match i, hi, j, hj, hij with
    | 0, _, 1, _, _ => exact d12 k hk
    | 1, _, 0, _, _ => exact fun h => d12 k h hk
    | 0, _, 0, _, h => exact absurd rfl h
    | 1, _, 1, _, h => exact absurd rfl h
  · rintro en w' ⟨he, hf⟩
    refine ⟨he, hf.mono ?_⟩
    rintro k _ ⟨j, hj, hk⟩
    match j, hj with
    | 0, _ => exact .inl hk
    | 1, _ => exact .inr hk

theorem apart8_three (q : Nat) (A1 A2 A3 : Option Addr) (n1 n2 n3 c1 c2 c3 : Nat) (x1 x2 x3 : List Value) (W : World) (h1 : n1 ≤ 140737488350000) (h2 : n2 ≤ 140737488350000) (h3 : n3 ≤ 140737488350000)
    (hq : W.heap[q]? = some (.cells #[.slice A1 n1 c1, .slice A2 n2 c2, .slice A3 n3 c3] 25 (0, 0))) (o1 : Own W 0 5 1 (.slice A1 n1 c1) n1 x1) (o2 : Own W 0 5 1 (.slice A2 n2 c2) n2 x2) (o3 : Own W 0 5 1 (.slice A3 n3 c3) n3 x3)
    (d12 : ∀ k, (Value.slice A1 n1 c1).ownBlock = some k → (Value.slice A2 n2 c2).ownBlock ≠ some k) (d13 : ∀ k, (Value.slice A1 n1 c1).ownBlock = some k → (Value.slice A3 n3 c3).ownBlock ≠ some k) (d23 : ∀ k, (Value.slice A2 n2 c2).ownBlock = some k → (Value.slice A3 n3 c3).ownBlock ≠ some k) :
    Calls Try.prog 16 #[.slice (some ⟨q, 0, none⟩) 3 3] W (fun en w' => en = .returned (.bool true) ∧ Fr (fun k => (Value.slice A1 n1 c1).ownBlock = some k ∨ (Value.slice A2 n2 c2).ownBlock = some k ∨ (Value.slice A3 n3 c3).ownBlock = some k) W w') := by
  refine (apart8_any q 3 3 (pick3 A1 A2 A3) (pick3 n1 n2 n3) (pick3 c1 c2 c3) _ W 0 (pick3 x1 x2 x3) (by omega) ?_ (Nat.le_refl _) (by unfold maxLen; omega) hq ?_ ?_ ⟨?_⟩).mono ?_
  · intro j hj
    match j, hj with
    | 0, _ => exact h1
    | 1, _ => exact h2
    | 2, _ => exact h3
  · intro j hj
    match j, hj with
    | 0, _ => rfl
    | 1, _ => rfl
    | 2, _ => rfl
  · intro j hj
    match j, hj with
    | 0, _ => exact o1
    | 1, _ => exact o2
    | 2, _ => exact o3
  · intro i j hi hj hij k hk
    match i, hi, j, hj, hij with
    | 0, _, 1, _, _ => exact d12 k hk
    | 0, _, 2, _, _ => exact d13 k hk
    | 1, _, 2, _, _ => exact d23 k hk
    | 1, _, 0, _, _ => exact fun h => d12 k h hk
    | 2, _, 0, _, _ => exact fun h => d13 k h hk
    | 2, _, 1, _, _ => exact fun h => d23 k h hk
    | 0, _, 0, _, h => exact absurd rfl h
    | 1, _, 1, _, h => exact absurd rfl h
    | 2, _, 2, _, h => exact absurd rfl h
  · rintro en w' ⟨he, hf⟩
    refine ⟨he, hf.mono ?_⟩
    rintro k _ ⟨j, hj, hk⟩
    match j, hj with
    | 0, _ => exact .inl hk
    | 1, _ => exact .inr (.inl hk)
    | 2, _ => exact .inr (.inr hk)
end Go.Proofs.Ythlbfnoahdjdeaa
namespace Go.Proofs.Ythlbfnoahdjdeaa
set_option linter.unusedVariables false
set_option linter.unusedSimpArgs false
open Go.ChangeShapes Go.WideShapes Go.ChangeAt Go.RowKit

theorem Try.own : ownKnob Try.prog.godebug = none := by kernel_rfl
theorem Try.laidOut : laidOutB Try.prog = true := by kernel_rfl

/-- bytes that came in. -/
theorem open8 {H : Type} {enc : TypeId × Value → H} {W : World} {a : Option Addr} {len cap : Nat} {d : DataW H} {p : List MemPlace}
    (h : DataW.Trod enc Try.prog W 0 (fun _ => true) true 25 (.slice a len cap) d p)
    (hsz : ∀ elems spare, d = .slice elems spare → (elems.length + spare.length) * Try.prog.bytesOf 5 ≤ reachBytes) :
    ∃ bs : List UInt8, bs.length = len ∧ len ≤ cap ∧ cap ≤ maxLen ∧ cap ≤ 140737488351232 ∧ Rd W W.heap.size a (by8 bs) := by
  obtain ⟨fuel, hf⟩ := h
  rcases open_ints Try.underlying25 Try.underlying5 (by kernel_rfl) hf with ⟨hcs, _⟩ | ⟨x, l, c, zs, hcs, _, hl, hm, hz, hd, hcell, hwz⟩
  · simp [Value.cells] at hcs
    obtain ⟨rfl, rfl, rfl⟩ := hcs
    exact ⟨[], rfl, Nat.le_refl _, Nat.zero_le _, Nat.zero_le _, Rd.nil _ _ _⟩
  · simp [Value.cells] at hcs
    obtain ⟨rfl, rfl, rfl⟩ := hcs
    injection hd with hd _
    have hz : zs.length = cap := by simpa using hz
    have hs := hsz _ _ hd
    have hby : Try.prog.bytesOf 5 = 1 := by kernel_rfl
    rw [hby] at hs
    have hlen : (lits (H := H) .u8 (zs.take len)).length + (lits (H := H) .u8 (zs.drop len)).length = cap := by simp [lits]; omega
    rw [hlen] at hs
    refine ⟨(zs.take len).map fun n => UInt8.ofNat n.toNat, by simp; omega, hl, hm, by simpa [reachBytes] using hs, ?_⟩
    intro j u hu
    simp only [by8, List.map_map, List.getElem?_map, List.getElem?_take] at hu
    split at hu
    · rename_i hj
      have hjz : j < zs.length := by omega
      rw [List.getElem?_eq_getElem hjz] at hu
      injection hu with hu
      have hc := hcell j hjz
      have hw := hwz zs[j] (List.getElem_mem hjz)
      have hb : 0 ≤ zs[j] ∧ zs[j] ≤ 255 := by simpa [Lit.wf, IntKind.min, IntKind.max, IntKind.signed, IntKind.bits] using hw
      have hv : (((UInt8.ofNat zs[j].toNat).toNat : Nat) : Int) = zs[j] := by
        have h1 : (UInt8.ofNat zs[j].toNat).toNat = zs[j].toNat := by simp [UInt8.toNat_ofNat]; omega
        rw [h1]; omega
      have he : zs.getD j 0 = zs[j] := by simp [List.getElem?_eq_getElem hjz]
      rw [he] at hc
      refine ⟨x, rfl, ?_, ?_⟩
      · have := World.block_lt_of_cell? W _ hc
        rwa [block_of_add] at this
      · rw [hc, ← hu]
        simp only [Function.comp_apply, hv]
    · cases hu
end Go.Proofs.Ythlbfnoahdjdeaa
namespace Go.Proofs.Ythlbfnoahdjdeaa
set_option linter.unusedVariables false
set_option linter.unusedSimpArgs false
open Go.ChangeShapes Go.WideShapes Go.ChangeAt Go.RowKit

theorem weights_all {H : Type} {e : TypeId} {l : List (DataW H)} {d : DataW H} (h : d ∈ l) : ∀ n ∈ d.weights Try.prog e, n ∈ DataW.weightsAll Try.prog e l := by
  induction l with
  | nil => cases h
  | cons x r ih =>
    intro n hn
    simp only [DataW.weightsAll, List.mem_append]
    rcases List.mem_cons.1 h with rfl | h
    · exact .inl hn
    · exact .inr (ih h n hn)
/-- the fields of a struct's type. -/
def fsOf : Option TypeDesc → Array Field
  | some (.struct fs) => fs
  | _ => #[]
noncomputable def poFs : Array Field := fsOf (Try.prog.underlying 58)
theorem po_desc : Try.prog.underlying 58 = some (.struct poFs) := by kernel_rfl
theorem po_one : Go.Deep.oneCellFields Try.prog poFs = true := by kernel_rfl
theorem po_cells : Try.prog.cellsOf 58 = 2 := by kernel_rfl
theorem po_types : poFs.toList.map (·.type) = [3, 52] := by kernel_rfl
theorem po_field {j : Nat} {t : TypeId} (h : [3, 52][j]? = some t) : ∃ f, poFs[j]? = some f ∧ f.type = t := by
  rw [← po_types, List.getElem?_map] at h
  obtain ⟨f, hf, rfl⟩ := Option.map_eq_some_iff.1 h
  exact ⟨f, by simpa using hf, rfl⟩
theorem int_of_trod {H : Type} {enc : TypeId × Value → H} {W : World} {fuel : Nat} {v : Value} {y : DataW H × List MemPlace}
    (h : DataW.trod enc Try.prog W 0 (fun _ => true) true fuel 3 [v] = some y) : ∃ n : Int, v = .int .i64 n ∧ -9223372036854775808 ≤ n ∧ n ≤ 9223372036854775807 := by
  obtain ⟨n, e1, _, e3⟩ := DataW.trod_int Try.underlying3 h
  injection e1 with e1
  exact ⟨n, e1, by simpa [Lit.wf, IntKind.min, IntKind.max, IntKind.signed, IntKind.bits] using e3⟩
theorem openInt {H : Type} {enc : TypeId × Value → H} {W : World} {a : Option Addr} {len cap : Nat} {d : DataW H} {p : List MemPlace}
    (h : DataW.Trod enc Try.prog W 0 (fun _ => true) true 52 (.slice a len cap) d p)
    (hsz : ∀ elems spare, d = .slice elems spare → (elems.length + spare.length) * Try.prog.bytesOf 3 ≤ reachBytes) :
    ∃ zs : List Int, zs.length = len ∧ len ≤ cap ∧ cap ≤ maxLen ∧ cap * 8 ≤ 140737488351232 ∧ Rd W W.heap.size a (iz .i64 zs) ∧ ∀ z ∈ zs, -9223372036854775808 ≤ z ∧ z ≤ 9223372036854775807 := by
  obtain ⟨fuel, hf⟩ := h
  rcases open_ints Try.underlying52 Try.underlying3 (by kernel_rfl) hf with ⟨hcs, _⟩ | ⟨x, l, c, zs, hcs, _, hl, hm, hz, hd, hcell, hwz⟩
  · simp [Value.cells] at hcs
    obtain ⟨rfl, rfl, rfl⟩ := hcs
    exact ⟨[], rfl, Nat.le_refl _, Nat.zero_le _, Nat.zero_le _, Rd.nil _ _ _, fun z hz => by cases hz⟩
  · simp [Value.cells] at hcs
    obtain ⟨rfl, rfl, rfl⟩ := hcs
    injection hd with hd _
    have hz : zs.length = cap := by simpa using hz
    have hs := hsz _ _ hd
    have hby : Try.prog.bytesOf 3 = 8 := by kernel_rfl
    rw [hby] at hs
    have hlen : (lits (H := H) .i64 (zs.take len)).length + (lits (H := H) .i64 (zs.drop len)).length = cap := by simp [lits]; omega
    rw [hlen] at hs
    refine ⟨zs.take len, by simp; omega, hl, hm, by simpa [reachBytes] using hs, ?_, ?_⟩
    · intro j u hu
      simp only [iz, List.getElem?_map, List.getElem?_take] at hu
      split at hu
      · rename_i hj
        have hjz : j < zs.length := by omega
        rw [List.getElem?_eq_getElem hjz] at hu
        injection hu with hu
        have hc := hcell j hjz
        have he : zs.getD j 0 = zs[j] := by simp [List.getElem?_eq_getElem hjz]
        rw [he] at hc
        refine ⟨x, rfl, ?_, by rw [hc, ← hu]⟩
        have := World.block_lt_of_cell? W _ hc
        rwa [block_of_add] at this
      · cases hu
    · intro z hz2
      have hw := hwz z (List.mem_of_mem_take hz2)
      simpa [Lit.wf, IntKind.min, IntKind.max, IntKind.signed, IntKind.bits] using hw

theorem weights_each {H : Type} : ∀ (ts : List TypeId) (ds : List (DataW H)) (j : Nat) (t : TypeId) (d : DataW H), ts[j]? = some t → ds[j]? = some d → ∀ n ∈ d.weights Try.prog t, n ∈ DataW.weightsEach Try.prog ts ds
  | [], _, j, t, d, h, _ => by simp at h
  | _ :: _, [], j, t, d, _, h => by simp at h
  | t0 :: ts, d0 :: ds, 0, t, d, h1, h2 => by
    simp at h1 h2
    subst h1 h2
    intro n hn
    simp only [DataW.weightsEach, List.mem_append]
    exact .inl hn
  | t0 :: ts, d0 :: ds, j + 1, t, d, h1, h2 => by
    simp at h1 h2
    intro n hn
    simp only [DataW.weightsEach, List.mem_append]
    exact .inr (weights_each ts ds j t d h1 h2 n hn)

/-- one post that came in. -/
theorem open_po {H : Type} {enc : TypeId × Value → H} {W : World} {a : Addr} {i n : Nat} {cs' : List Value} {y : DataW H × List MemPlace}
    (hc : W.cells? 0 (a.add (i * 2)) 2 = some cs') (h : DataW.trod enc Try.prog W 0 (fun _ => true) true n 58 cs' = some y) (hsz : ∀ n ∈ y.1.weights Try.prog 58, n ≤ reachBytes) :
    ∃ p : PoL, (W.cell? (a.add (i * 2)) = some (.int .i64 p.1.1) ∧ W.cell? (a.add (i * 2 + 1)) = some (.slice p.2.1 p.1.2.length p.2.2)) ∧ (p.1.2.length ≤ p.2.2 ∧ p.2.2 ≤ maxLen ∧ Rd W W.heap.size p.2.1 (iz .i64 p.1.2)) ∧ p.1.2.length * 8 ≤ 140737488351232 ∧ InI p.1.2 ∧ -9223372036854775808 ≤ p.1.1 ∧ p.1.1 ≤ 9223372036854775807 := by
  obtain ⟨_, hcl, hat⟩ := World.cells?_some hc
  obtain ⟨xs, m, _, hy, _, hlen, hf⟩ := DataW.trod_struct po_desc h
  have one : ∀ (j : Nat) (t : TypeId), [3, 52][j]? = some t → j < 2 → ∃ v z, W.cell? ((a.add (i * 2)).add j) = some v ∧ xs[j]? = some z ∧ DataW.trod enc Try.prog W 0 (fun _ => true) true m t [v] = some z := by
    intro j t ht hj
    obtain ⟨f, hfj, rfl⟩ := po_field ht
    obtain ⟨ho, hk⟩ := Go.Deep.hone_of po_one j f hfj
    have h1 := hf j f hfj
    rw [ho, hk] at h1
    have hd : (cs'.drop j).take 1 = [cs'[j]'(by omega)] := by
      rw [List.drop_eq_getElem_cons (by omega)]
      rfl
    rw [hd] at h1
    have hjs : j < poFs.size := (Array.getElem?_eq_some_iff.1 hfj).1
    have hx : xs[j]? = some (xs[j]'(by omega)) := List.getElem?_eq_getElem (by omega)
    exact ⟨_, _, (hat j hj).trans (List.getElem?_eq_getElem (by omega)), hx, h1.trans hx⟩
  obtain ⟨v0, z0, c0, _, t0⟩ := one 0 _ rfl (by omega)
  obtain ⟨v2, z2, c2, x2, t2⟩ := one 1 _ rfl (by omega)
  obtain ⟨d0, rfl, hd1, hd2⟩ := int_of_trod t0
  have hw : ∀ n ∈ z2.1.weights Try.prog 52, n ≤ reachBytes := fun n hn => hsz n (by
    rw [hy]
    simp only [DataW.weights, po_desc, po_types]
    exact weights_each _ _ 1 52 z2.1 rfl (by rw [List.getElem?_map, x2]; rfl) n hn)
  obtain ⟨A, ln, cp, rfl⟩ : ∃ A ln cp, v2 = .slice A ln cp := by
    rcases open_ints Try.underlying52 Try.underlying3 (by kernel_rfl) t2 with ⟨hcs, _⟩ | ⟨x, l, c, zs, hcs, _⟩
    · injection hcs with hcs; exact ⟨_, _, _, hcs⟩
    · injection hcs with hcs; exact ⟨_, _, _, hcs⟩
  obtain ⟨d2, p2⟩ := z2
  obtain ⟨zs, q1, q2, q3, q4, q5, q6⟩ := openInt (enc := enc) (W := W) (a := A) (len := ln) (cap := cp) (d := d2) (p := p2) ⟨m, t2⟩ (fun elems sp e => hw _ (by
    show _ ∈ d2.weights _ _
    rw [e]
    simp only [DataW.weights, Try.underlying52]
    exact List.mem_cons_self))
  have e0 : (a.add (i * 2)).add 0 = a.add (i * 2) := by rw [add_of_add]; rfl
  rw [e0] at c0
  rw [add_of_add] at c2
  refine ⟨((d0, zs), A, cp), ⟨c0, ?_⟩, ⟨?_, q3, q5⟩, ?_, q6, hd1, hd2⟩
  · show _ = some (Value.slice A zs.length cp)
    rw [q1]; exact c2
  · show zs.length ≤ cp
    omega
  · show zs.length * 8 ≤ _
    omega
/-- posts that came in. -/
theorem openPo {H : Type} {enc : TypeId × Value → H} {W : World} {a : Option Addr} {len cap : Nat} {d : DataW H} {p : List MemPlace}
    (h : DataW.Trod enc Try.prog W 0 (fun _ => true) true 22 (.slice a len cap) d p) (hsz : ∀ n ∈ d.weights Try.prog 22, n ≤ reachBytes) :
    ∃ l : List Po, l.length = len ∧ len ≤ cap ∧ cap ≤ maxLen ∧ len * 32 ≤ 140737488351232 ∧ RdPo W W.heap.size a l ∧ InI2 l ∧ ∀ e ∈ l, (e.2.length + 1) * 8 ≤ 140737488355328 := by
  obtain ⟨fuel, hf⟩ := h
  rcases Go.Deep.open_slice Try.underlying22 hf with ⟨hcs, _⟩ | ⟨x, l, c, m, f, D, Pl, hcs, _, hl, hm, hmm, hy, hel⟩
  · simp [Value.cells] at hcs
    obtain ⟨rfl, rfl, rfl⟩ := hcs
    exact ⟨[], rfl, Nat.le_refl _, Nat.zero_le _, by simp, RdPo.nil _ _, fun e he => (by cases he), fun e he => (by cases he)⟩
  · simp [Value.cells] at hcs
    obtain ⟨rfl, rfl, rfl⟩ := hcs
    have hmc : m = cap := hmm
    rw [po_cells] at hel
    have hby : Try.prog.bytesOf 58 = 32 := by kernel_rfl
    injection hy with hy _
    have hall : ∀ i, i < len → ∃ p : PoL, (W.cell? (x.add (i * 2)) = some (.int .i64 p.1.1) ∧ W.cell? (x.add (i * 2 + 1)) = some (.slice p.2.1 p.1.2.length p.2.2)) ∧ (p.1.2.length ≤ p.2.2 ∧ p.2.2 ≤ maxLen ∧ Rd W W.heap.size p.2.1 (iz .i64 p.1.2)) ∧ p.1.2.length * 8 ≤ 140737488351232 ∧ InI p.1.2 ∧ -9223372036854775808 ≤ p.1.1 ∧ p.1.1 ≤ 9223372036854775807 := by
      intro i hi
      obtain ⟨cs', h1, h2⟩ := hel i (by omega)
      refine open_po h1 h2 (fun k hk => hsz k ?_)
      rw [hy]
      simp only [DataW.weights, Try.underlying22, List.mem_cons, List.mem_append]
      exact .inr (.inl (weights_all (List.mem_map.2 ⟨i, List.mem_range.2 hi, rfl⟩) k hk))
    obtain ⟨g, hg⟩ := Go.Deep.choose_lt hall
    have hpl : ((List.range len).map g).length = len := by simp
    refine ⟨((List.range len).map g).map (·.1), by simp, hl, hm, ?_, ⟨(List.range len).map g, rfl, ?_, fun p hp => ?_⟩, fun e he => ?_, fun e he => ?_⟩
    · have h1 := hsz ((((List.range len).map D).length + ((List.range (m - len)).map fun j => D (len + j)).length) * Try.prog.bytesOf 58) (by
        rw [hy]
        simp only [DataW.weights, Try.underlying22]
        exact List.mem_cons_self)
      rw [hby] at h1
      simp only [List.length_map, List.length_range] at h1
      unfold reachBytes at h1
      omega
    · intro j u hu
      have hj := (List.getElem?_eq_some_iff.1 hu).1
      rw [pFlat_len, hpl] at hj
      have hk : j / 2 < len := by omega
      have hp : ((List.range len).map g)[j / 2]? = some (g (j / 2)) := by rw [List.getElem?_map, List.getElem?_range hk]; rfl
      obtain ⟨a1, a2⟩ := pFlat_at hp
      obtain ⟨⟨g1, g2⟩, _⟩ := hg _ hk
      rcases Nat.mod_two_eq_zero_or_one j with e | e
      · rw [show j = j / 2 * 2 by omega] at hu ⊢
        rw [a1] at hu
        injection hu with hu
        subst hu
        refine ⟨x, rfl, ?_, g1⟩
        have := World.block_lt_of_cell? W _ g1
        rwa [block_of_add] at this
      · rw [show j = j / 2 * 2 + 1 by omega] at hu ⊢
        rw [a2] at hu
        injection hu with hu
        subst hu
        refine ⟨x, rfl, ?_, g2⟩
        have := World.block_lt_of_cell? W _ g2
        rwa [block_of_add] at this
    · obtain ⟨k, hk, rfl⟩ := List.mem_map.1 hp
      exact (hg k (List.mem_range.1 hk)).2.1
    · obtain ⟨p, hp, rfl⟩ := List.mem_map.1 he
      obtain ⟨k, hk, rfl⟩ := List.mem_map.1 hp
      exact (hg k (List.mem_range.1 hk)).2.2.2
    · obtain ⟨p, hp, rfl⟩ := List.mem_map.1 he
      obtain ⟨k, hk, rfl⟩ := List.mem_map.1 hp
      have := (hg k (List.mem_range.1 hk)).2.2.1
      omega
end Go.Proofs.Ythlbfnoahdjdeaa
