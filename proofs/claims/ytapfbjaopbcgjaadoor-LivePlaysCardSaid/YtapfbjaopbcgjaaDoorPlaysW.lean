/- The walk of LivePlays: it answers true; nothing that was there has changed. Condition: the library's table lies as laid. -/
import Derived.Test.YtapfbjaopbcgjaaDoorPlaysP
import Derived.Test.YtapfbjaopbcgjaaDoorFullW
import Derived.Test.YtapfbjaopbcgjaaDoorAndW
import Derived.Test.YtapfbjaopbcgjaaDoorAwake14
import Derived.Deep.LoopGhost
import Derived.Deep.CutBlock
import Derived.Deep.CutRange
import Derived.Deep.DeepCutAuto
import Derived.Deep.RegionHeld3
namespace Go.Proofs.YtapfbjaopbcgjaaDoor
set_option linter.unusedVariables false
set_option linter.unusedSimpArgs false
open Go.RowKit

set_option maxRecDepth 100000 in
set_option maxHeartbeats 4000000 in
theorem livePlays_any (A : Option Addr) (len cap : Nat) (l : List StepV) (w : World) (hT : Tab w) (hl : l.length = len) (h1 : len ≤ cap) (h2 : cap ≤ maxLen) (hr : StRd w w.heap.size A l) (hn : ∀ s ∈ l, -9223372036854775808 ≤ s.n ∧ s.n ≤ 9223372036854775807) :
    Calls Tryd.prog 5 #[.slice A len cap] w (RetB true w) := by
  have HAw := hide (fun W (f : Fr No w W) => awake14_any W (hT.fr0 f))
  have HT := hide hT
  have HL := hide hl
  have HR := hide hr
  have HN := hide hn
  have HC := hide h2
  unfold maxLen at h2
  clear hT hl hr hn
  by_cases hbig : 200 < len
  · have hd : decide ((200 : Int) < (len : Int)) = true := decide_eq_true (by omega)
    go_enter Tryd.func5, Tryd.ntmps5
    go_wp2_with (go_at_call 9; refine (HAw.out w (Fr.refl _ _)).mono ?_; rintro en w1 ⟨rfl, hfr⟩; have F1 := hide hfr; clear hfr)
    go_ret
    exact ⟨rfl, F1.out⟩
  · have hd : decide ((200 : Int) < (len : Int)) = false := decide_eq_false (by omega)
    obtain ⟨z1, hz1, hm1⟩ := make3p w
    obtain ⟨z2, hz2, hm2⟩ := make3b (w.alloc (.cells z1 26))
    have HP : Hid (PI w (fun _ => .pointer none) (fun _ => .slice none 0 0) ((w.alloc (.cells z1 26)).alloc (.cells z2 29))) := hide (by
      have a := made_own w 3 26 (.pointer none) _ rfl (by unfold maxLen; omega)
      have b := made_own (w.alloc (.cells z1 26)) 3 29 (.slice none 0 0) _ rfl (by unfold maxLen; omega)
      rw [← hz1] at a
      rw [← hz2] at b
      have e : (w.alloc (.cells z1 26)).heap.size = w.heap.size + 1 := by simp
      rw [e] at b
      exact ⟨((Fr.refl No w).alloc _).alloc _, a.fr0 ((Fr.refl No _).alloc _), b.lower (by omega)⟩)
    have e1 : (w.alloc (.cells z1 26)).heap.size = w.heap.size + 1 := by simp
    rw [e1] at hm2
    clear hz1 hz2 e1
    go_enter Tryd.func5, Tryd.ntmps5
    go_wp2_with (fail)
    clear hm1 hm2
    go_loopg [5] len (fun gk i wr => ∃ (k : Nat) (v r : Nat → Value) (L : Nat → List Bool) (g gw : Nat → Nat), k + gk = len ∧ i = .int .i64 k ∧ Hid (Trio wr w.heap.size v r L g gw) ∧ Hid (PI w v r wr))
    case atStart => exact ⟨0, _, _, _, _, _, by omega, rfl, hide (trio_none _ _), HP⟩
    case round =>
      clear HP
      obtain ⟨k, v, r, L, g, gw, hk, rfl, TW, PW⟩ := hrel
      by_cases hlt : k < len
      · obtain ⟨⟨kind, who, other, n, all⟩, hs⟩ : ∃ s, l[k]? = some s := ⟨_, List.getElem?_eq_getElem (by rw [HL.out]; exact hlt)⟩
        obtain ⟨ad, rfl, had, c0, c1, c2, c3, c4⟩ := (HR.out.fr0 PW.out.fr) k _ hs
        have HNn := hide (HN.out _ (List.mem_of_getElem? hs))
        simp only at c0 c1 c2 c3 c4
        clear hs
        have SBx : Hid (StB (wr.alloc (.cells #[.int .i64 kind, .int .i64 who, .int .i64 other, .int .i64 n, .bool all] 40)) wr.heap.size kind who other n all) := hide ⟨heap_alloc_new wr _⟩
        have T1 := hide (TW.out.fr0 ((Fr.refl No wr).alloc (.cells #[.int .i64 kind, .int .i64 who, .int .i64 other, .int .i64 n, .bool all] 40)))
        have P1 := hide (PW.out.fr0 ((Fr.refl No wr).alloc (.cells #[.int .i64 kind, .int .i64 who, .int .i64 other, .int .i64 n, .bool all] 40)))
        go_upto_region 9 with (fail)
        clear c0 c1 c2 c3 c4
        obtain ⟨W1, hW1⟩ : ∃ W1, W1 = wr.alloc (.cells #[.int .i64 kind, .int .i64 who, .int .i64 other, .int .i64 n, .bool all] 40) := ⟨_, rfl⟩
        rw [← hW1] at SBx T1 P1 ⊢
        clear hW1
        obtain ⟨sg, hsg⟩ : ∃ sg, sg = wr.heap.size := ⟨_, rfl⟩
        rw [← hsg] at SBx ⊢
        clear hsg
        clear TW PW
        obtain ⟨d0, d1, d2, d3, d4⟩ := SBx.out.cells
        by_cases hok : 0 ≤ who ∧ who ≤ 2 ∧ 0 ≤ other ∧ other ≤ 2
        · obtain ⟨ho1, ho2, ho3, ho4⟩ := hok
          obtain ⟨p, rfl⟩ : ∃ p : Nat, who = p := ⟨who.toNat, by omega⟩
          obtain ⟨q, rfl⟩ : ∃ q : Nat, other = q := ⟨other.toNat, by omega⟩
          have hp : p < 3 := by omega
          have hq : q < 3 := by omega
          have hp3 : (p : Int) < 3 := by omega
          have hq3 : (q : Int) < 3 := by omega
          have k1 : decide ((p : Int) < 0) = false := decide_eq_false (by omega)
          have k2 : decide ((2 : Int) < (p : Int)) = false := decide_eq_false (by omega)
          have k3 : decide ((q : Int) < 0) = false := decide_eq_false (by omega)
          have k4 : decide ((2 : Int) < (q : Int)) = false := decide_eq_false (by omega)
          clear ho1 ho2 ho3 ho4
          have HLp : Hid ((L p).length ≤ 16384) := hide (T1.out.most p hp)
          have HLq : Hid ((L q).length ≤ 16384) := hide (T1.out.most q hq)
          obtain ⟨mp, hmp⟩ : ∃ mp, (L p).length = mp := ⟨_, rfl⟩
          obtain ⟨mq, hmq⟩ : ∃ mq, (L q).length = mq := ⟨_, rfl⟩
          have ORp := T1.out.row p hp
          have ORq := T1.out.row q hq
          rw [hmp] at ORp
          rw [hmq] at ORq
          obtain ⟨Ap, cp, ep, x1, x2, _, rdp, _⟩ := ORp.form
          obtain ⟨Aq, cq, eq', y1, y2, _, rdq, _⟩ := ORq.form
          have HMP := hide hmp
          have HMQ := hide hmq
          have e1 := P1.out.cellv hp
          have e2 := P1.out.cellv hq
          have e3 := P1.out.cellr hp
          have e4 := P1.out.cellr hq
          rw [ep] at e3
          rw [eq'] at e4
          have HEP := hide ep
          have HEQ := hide eq'
          have RP := hide rdp
          have RQ := hide rdq
          have X2 := hide x2
          have Y2 := hide y2
          have hmp2 : mp ≤ 16384 := by rw [← hmp]; exact HLp.out
          have hmq2 : mq ≤ 16384 := by rw [← hmq]; exact HLq.out
          unfold maxLen at x2 y2
          have VP := hide (T1.out.bv p hp)
          have VQ := hide (T1.out.bv q hq)
          clear hmp hmq ORp ORq ep eq' rdp rdq
          obtain ⟨vp, hvp⟩ : ∃ vp, v p = vp := ⟨_, rfl⟩
          obtain ⟨vq, hvq⟩ : ∃ vq, v q = vq := ⟨_, rfl⟩
          have HVP := hide hvp
          have HVQ := hide hvq
          rw [hvp] at e1
          rw [hvq] at e2
          clear hvp hvq
          go_upto_block 2 with (fail)
          go_cut [7, 9] from 18 to 180 (fun b m wx => Hid (Mid w v r p sg kind p q n all b m wx))
          case first =>
            clear e1 e2 e3 e4
            by_cases q0 : kind = 0
            · subst q0
              as_aux_lemma =>
                clear d0
                cases all with
                | false =>
                  go_wp2_with (fail)
                  refine (new_any n W1 HNn.out.1 HNn.out.2).mono ?_
                  rintro en w2 ⟨ga, gwa, rfl, hbt, hfr⟩
                  have B2 := hide hbt
                  have F2 := hide hfr
                  have S2 := hide (SBx.out.fr0 hfr)
                  clear hbt hfr d1 d2 d3 d4
                  obtain ⟨d0, d1, d2, d3, d4⟩ := S2.out.cells
                  clear d0
                  go_wp2_with (fail)
                  refine (refNew_any n false w2 HNn.out.1 HNn.out.2).mono ?_
                  rintro en w4 ⟨m4, rfl, hown, hfr⟩
                  have O4 : Hid (Own w4 W1.heap.size 4 1 m4 (List.replicate (clampN n) false).length (bz (List.replicate (clampN n) false))) := hide (hown.lower F2.out.size)
                  have F4 := hide (F2.out.tr hfr)
                  have B4 := hide (B2.out.fr0 hfr)
                  clear hown hfr
                  go_wp2_with (fail)
                  go_meet
                  exact hide (Mid.fresh T1.out P1.out SBx.out F4.out hp (.inr ⟨rfl, B4.out⟩) O4.out (by rw [List.length_replicate]; exact clampN_le n))
                | true =>
                  go_wp2_with (fail)
                  refine (new_any n W1 HNn.out.1 HNn.out.2).mono ?_
                  rintro en w2 ⟨ga, gwa, rfl, hbt, hfr⟩
                  have B2 := hide hbt
                  have F2 := hide hfr
                  have S2 := hide (SBx.out.fr0 hfr)
                  clear hbt hfr d1 d2 d3 d4
                  obtain ⟨d0, d1, d2, d3, d4⟩ := S2.out.cells
                  clear d0
                  go_wp2_with (fail)
                  refine (full_any n w2 HNn.out.1 HNn.out.2).mono ?_
                  rintro en w3 ⟨gb, gwb, rfl, hbt, hfr⟩
                  have B3 : Hid (BT w3 W1.heap.size gb gwb (List.replicate (clampN n) true)) := hide (hbt.lower F2.out.size)
                  have F3 := hide (F2.out.tr hfr)
                  have S3 := hide (S2.out.fr0 hfr)
                  clear hbt hfr d1 d2 d3 d4
                  obtain ⟨d0, d1, d2, d3, d4⟩ := S3.out.cells
                  clear d0
                  go_wp2_with (fail)
                  refine (refNew_any n true w3 HNn.out.1 HNn.out.2).mono ?_
                  rintro en w4 ⟨m4, rfl, hown, hfr⟩
                  have O4 : Hid (Own w4 W1.heap.size 4 1 m4 (List.replicate (clampN n) true).length (bz (List.replicate (clampN n) true))) := hide (hown.lower F3.out.size)
                  have F4 := hide (F3.out.tr hfr)
                  have B4 := hide (B3.out.fr0 hfr)
                  clear hown hfr
                  go_wp2_with (fail)
                  go_meet
                  exact hide (Mid.fresh T1.out P1.out SBx.out F4.out hp (.inr ⟨rfl, B4.out⟩) O4.out (by rw [List.length_replicate]; exact clampN_le n))
            · have j0 : ((kind : Int) == 0) = false := by simpa using q0
              clear q0
              by_cases q1 : kind = 1
              · subst q1
                as_aux_lemma =>
                  rw [← HVP.out]
                  go_wp2_with (fail)
                  refine (set_g w.heap.size (v p) (g p) (gw p) (L p) n W1 VP.out).mono ?_
                  rintro en w2 ⟨⟨u2, rfl⟩, hbv, hfr⟩
                  have B2 := hide hbv
                  have F2 := hide hfr
                  have S2 := hide (SBx.out.words T1.out hp hfr)
                  have OR2 := (T1.out.words hp hfr).2 p hp
                  rw [HMP.out, HEP.out] at OR2
                  have OR := hide OR2
                  clear hbv hfr d0 d1 d2 d3 d4 OR2
                  obtain ⟨d0, d1, d2, d3, d4⟩ := S2.out.cells
                  clear d0
                  by_cases hin : 0 ≤ n ∧ n < (mp : Int)
                  · obtain ⟨i, rfl⟩ : ∃ i : Nat, n = i := ⟨n.toNat, by omega⟩
                    have hi : i < mp := by omega
                    have g1 : decide ((0 : Int) ≤ (i : Int)) = true := decide_eq_true (by omega)
                    have g2 : decide ((i : Int) < (mp : Int)) = true := decide_eq_true (by omega)
                    have g3 : (i : Int) < (mp : Int) := by omega
                    have g4 : (i : Int) < (cp : Int) := by omega
                    obtain ⟨gr, hA, hgr1, _, hcell, hfz, hst⟩ := OR.out.store hi
                    rw [bz_at _ (by rw [HMP.out]; exact hi)] at hcell
                    have HA := hide hA
                    have HS : Hid (Own (w2.setCell ⟨gr, i, none⟩ (.bool true)) w.heap.size 4 1 (.slice Ap mp cp) mp (bz (setI (L p) (i : Nat) true))) := hide (by
                      have h := hst (.bool true)
                      unfold setI
                      rw [if_pos ⟨by omega, by rw [HMP.out]; omega⟩, Int.toNat_natCast, bz, List.map_set]
                      exact h)
                    have HF : Hid (Fr (fun k => (r p).ownBlock = some k) w2 (w2.setCell ⟨gr, i, none⟩ (.bool true))) := hide (by
                      rw [HEP.out, hA]
                      exact Fr.putO w2 gr i mp cp _)
                    generalize hasN (L p) i = old at hcell
                    clear hst hin
                    subst hA
                    go_wp2_with (fail)
                    go_meet
                    rw [HVP.out] at B2 F2
                    exact hide (HVP.out ▸ Mid.put T1.out P1.out SBx.out hp (by rw [HVP.out]; exact F2.out) (by rw [HVP.out]; exact B2.out) HF.out HEP.out.symm (by rw [setI_len, HMP.out, HEP.out]; exact HS.out) (by rw [setI_len]; exact HLp.out))
                  · have HS : Hid (setI (L p) n true = L p) := hide (by unfold setI; rw [if_neg (by rw [HMP.out]; exact hin)])
                    have HM : Hid (∀ (m : Value), m = r p → Mid w v r p sg 1 p q n all (v p) m w2) := hide (fun m hm => by
                      have h := Mid.put T1.out P1.out SBx.out hp F2.out B2.out (Fr.refl _ _) hm (by rw [HS.out, HMP.out, HEP.out]; exact OR.out) (by rw [HS.out]; exact HLp.out)
                      exact h)
                    by_cases h0 : 0 ≤ n
                    · have g1 : decide ((0 : Int) ≤ n) = true := decide_eq_true h0
                      have g2 : decide (n < (mp : Int)) = false := decide_eq_false (by omega)
                      clear hin
                      go_wp2_with (fail)
                      go_meet
                      exact hide (HM.out _ HEP.out.symm)
                    · have g1 : decide ((0 : Int) ≤ n) = false := decide_eq_false h0
                      clear hin
                      go_wp2_with (fail)
                      go_meet
                      exact hide (HM.out _ HEP.out.symm)
              · have j1 : ((kind : Int) == 1) = false := by simpa using q1
                clear q1
                by_cases q2 : kind = 2
                · subst q2
                  as_aux_lemma =>
                    rw [← HVP.out]
                    go_wp2_with (fail)
                    refine (clr_g w.heap.size (v p) (g p) (gw p) (L p) n W1 VP.out).mono ?_
                    rintro en w2 ⟨⟨u2, rfl⟩, hbv, hfr⟩
                    have B2 := hide hbv
                    have F2 := hide hfr
                    have S2 := hide (SBx.out.words T1.out hp hfr)
                    have OR2 := (T1.out.words hp hfr).2 p hp
                    rw [HMP.out, HEP.out] at OR2
                    have OR := hide OR2
                    clear hbv hfr d0 d1 d2 d3 d4 OR2
                    obtain ⟨d0, d1, d2, d3, d4⟩ := S2.out.cells
                    clear d0
                    by_cases hin : 0 ≤ n ∧ n < (mp : Int)
                    · obtain ⟨i, rfl⟩ : ∃ i : Nat, n = i := ⟨n.toNat, by omega⟩
                      have hi : i < mp := by omega
                      have g1 : decide ((0 : Int) ≤ (i : Int)) = true := decide_eq_true (by omega)
                      have g2 : decide ((i : Int) < (mp : Int)) = true := decide_eq_true (by omega)
                      have g3 : (i : Int) < (mp : Int) := by omega
                      have g4 : (i : Int) < (cp : Int) := by omega
                      obtain ⟨gr, hA, hgr1, _, hcell, hfz, hst⟩ := OR.out.store hi
                      rw [bz_at _ (by rw [HMP.out]; exact hi)] at hcell
                      have HA := hide hA
                      have HS : Hid (Own (w2.setCell ⟨gr, i, none⟩ (.bool false)) w.heap.size 4 1 (.slice Ap mp cp) mp (bz (setI (L p) (i : Nat) false))) := hide (by
                        have h := hst (.bool false)
                        unfold setI
                        rw [if_pos ⟨by omega, by rw [HMP.out]; omega⟩, Int.toNat_natCast, bz, List.map_set]
                        exact h)
                      have HF : Hid (Fr (fun k => (r p).ownBlock = some k) w2 (w2.setCell ⟨gr, i, none⟩ (.bool false))) := hide (by
                        rw [HEP.out, hA]
                        exact Fr.putO w2 gr i mp cp _)
                      generalize hasN (L p) i = old at hcell
                      clear hst hin
                      subst hA
                      go_wp2_with (fail)
                      go_meet
                      rw [HVP.out] at B2 F2
                      exact hide (HVP.out ▸ Mid.put T1.out P1.out SBx.out hp (by rw [HVP.out]; exact F2.out) (by rw [HVP.out]; exact B2.out) HF.out HEP.out.symm (by rw [setI_len, HMP.out, HEP.out]; exact HS.out) (by rw [setI_len]; exact HLp.out))
                    · have HS : Hid (setI (L p) n false = L p) := hide (by unfold setI; rw [if_neg (by rw [HMP.out]; exact hin)])
                      have HM : Hid (∀ (m : Value), m = r p → Mid w v r p sg 2 p q n all (v p) m w2) := hide (fun m hm => by
                        have h := Mid.put T1.out P1.out SBx.out hp F2.out B2.out (Fr.refl _ _) hm (by rw [HS.out, HMP.out, HEP.out]; exact OR.out) (by rw [HS.out]; exact HLp.out)
                        exact h)
                      by_cases h0 : 0 ≤ n
                      · have g1 : decide ((0 : Int) ≤ n) = true := decide_eq_true h0
                        have g2 : decide (n < (mp : Int)) = false := decide_eq_false (by omega)
                        clear hin
                        go_wp2_with (fail)
                        go_meet
                        exact hide (HM.out _ HEP.out.symm)
                      · have g1 : decide ((0 : Int) ≤ n) = false := decide_eq_false h0
                        clear hin
                        go_wp2_with (fail)
                        go_meet
                        exact hide (HM.out _ HEP.out.symm)
                · have j2 : ((kind : Int) == 2) = false := by simpa using q2
                  clear q2
                  by_cases q3 : kind = 3
                  · subst q3
                    as_aux_lemma =>
                      go_wp2_with (fail)
                      refine (and_any (HVP.out ▸ VP.out.bv) (HVQ.out ▸ VQ.out.bv) HLp.out HLq.out).mono ?_
                      rintro en w2 ⟨ga, gwa, rfl, hbt, hfr⟩
                      have B2 := hide hbt
                      have F2 := hide hfr
                      clear hbt hfr
                      go_wp2_with (fail)
                      refine (joinAnd_any Ap Aq mp cp mq cq W1.heap.size W1.heap.size (L p) (L q) w2 HMP.out HMQ.out x1 X2.out y1 Y2.out hmp2 F2.out.size F2.out.size (RP.out.fr0 F2.out) (RQ.out.fr0 F2.out)).mono ?_
                      rintro en w3 ⟨m3, rfl, hown, hfr⟩
                      have O3 : Hid (Own w3 W1.heap.size 4 1 m3 (joinL (fun p q => p && q) (L p) (L q)).length (bz (joinL (fun p q => p && q) (L p) (L q)))) := hide (hown.lower F2.out.size)
                      have F3 := hide (F2.out.tr hfr)
                      have B3 := hide (B2.out.fr0 hfr)
                      clear hown hfr
                      go_wp2_with (fail)
                      go_meet
                      exact hide (Mid.fresh T1.out P1.out SBx.out F3.out hp (.inr ⟨rfl, B3.out⟩) O3.out (by rw [joinL_len]; exact HLp.out))
                  · have j3 : ((kind : Int) == 3) = false := by simpa using q3
                    clear q3
                    by_cases q4 : kind = 4
                    · subst q4
                      as_aux_lemma =>
                        go_wp2_with (fail)
                        refine (or_any (HVP.out ▸ VP.out.bv) (HVQ.out ▸ VQ.out.bv) HLp.out HLq.out).mono ?_
                        rintro en w2 ⟨ga, gwa, rfl, hbt, hfr⟩
                        have B2 := hide hbt
                        have F2 := hide hfr
                        clear hbt hfr
                        go_wp2_with (fail)
                        refine (joinOr_any Ap Aq mp cp mq cq W1.heap.size W1.heap.size (L p) (L q) w2 HMP.out HMQ.out x1 X2.out y1 Y2.out hmp2 F2.out.size F2.out.size (RP.out.fr0 F2.out) (RQ.out.fr0 F2.out)).mono ?_
                        rintro en w3 ⟨m3, rfl, hown, hfr⟩
                        have O3 : Hid (Own w3 W1.heap.size 4 1 m3 (joinL (fun p q => p || q) (L p) (L q)).length (bz (joinL (fun p q => p || q) (L p) (L q)))) := hide (hown.lower F2.out.size)
                        have F3 := hide (F2.out.tr hfr)
                        have B3 := hide (B2.out.fr0 hfr)
                        clear hown hfr
                        go_wp2_with (fail)
                        go_meet
                        exact hide (Mid.fresh T1.out P1.out SBx.out F3.out hp (.inr ⟨rfl, B3.out⟩) O3.out (by rw [joinL_len]; exact HLp.out))
                    · have j4 : ((kind : Int) == 4) = false := by simpa using q4
                      clear q4
                      by_cases q5 : kind = 5
                      · subst q5
                        as_aux_lemma =>
                          go_wp2_with (fail)
                          refine (minus_any (HVP.out ▸ VP.out.bv) (HVQ.out ▸ VQ.out.bv) HLp.out HLq.out).mono ?_
                          rintro en w2 ⟨ga, gwa, rfl, hbt, hfr⟩
                          have B2 := hide hbt
                          have F2 := hide hfr
                          clear hbt hfr
                          go_wp2_with (fail)
                          refine (joinMinus_any Ap Aq mp cp mq cq W1.heap.size W1.heap.size (L p) (L q) w2 HMP.out HMQ.out x1 X2.out y1 Y2.out hmp2 F2.out.size F2.out.size (RP.out.fr0 F2.out) (RQ.out.fr0 F2.out)).mono ?_
                          rintro en w3 ⟨m3, rfl, hown, hfr⟩
                          have O3 : Hid (Own w3 W1.heap.size 4 1 m3 (joinL (fun p q => p && !q) (L p) (L q)).length (bz (joinL (fun p q => p && !q) (L p) (L q)))) := hide (hown.lower F2.out.size)
                          have F3 := hide (F2.out.tr hfr)
                          have B3 := hide (B2.out.fr0 hfr)
                          clear hown hfr
                          go_wp2_with (fail)
                          go_meet
                          exact hide (Mid.fresh T1.out P1.out SBx.out F3.out hp (.inr ⟨rfl, B3.out⟩) O3.out (by rw [joinL_len]; exact HLp.out))
                      · have j5 : ((kind : Int) == 5) = false := by simpa using q5
                        clear q5
                        by_cases q6 : kind = 6
                        · subst q6
                          as_aux_lemma =>
                            go_wp2_with (fail)
                            refine (copy_any (HVQ.out ▸ VQ.out.bv) HLq.out).mono ?_
                            rintro en w2 ⟨ga, gwa, rfl, hbt, hfr⟩
                            have B2 := hide hbt
                            have F2 := hide hfr
                            clear hbt hfr
                            go_wp2_with (fail)
                            refine (joinOr_any Aq none mq cq 0 0 W1.heap.size W1.heap.size (L q) [] w2 HMQ.out rfl y1 Y2.out (Nat.le_refl _) (Nat.zero_le _) hmq2 F2.out.size F2.out.size (RQ.out.fr0 F2.out) (Rd.nil _ _ _)).mono ?_
                            rintro en w3 ⟨m3, rfl, hown, hfr⟩
                            rw [joinL_nil] at hown
                            have O3 : Hid (Own w3 W1.heap.size 4 1 m3 (L q).length (bz (L q))) := hide (hown.lower F2.out.size)
                            have F3 := hide (F2.out.tr hfr)
                            have B3 := hide (B2.out.fr0 hfr)
                            clear hown hfr
                            go_wp2_with (fail)
                            go_meet
                            exact hide (Mid.fresh T1.out P1.out SBx.out F3.out hp (.inr ⟨rfl, B3.out⟩) O3.out HLq.out)
                        · have j6 : ((kind : Int) == 6) = false := by simpa using q6
                          clear q6
                          by_cases q7 : kind = 7
                          · subst q7
                            as_aux_lemma =>
                              go_wp2_with (fail)
                              go_meet
                              exact hide (Mid.fresh (g' := 0) (gw' := 0) (l' := []) T1.out P1.out SBx.out (Fr.refl _ _) hp (.inl ⟨rfl, rfl⟩) (Own.nil _ _ _ _) (by simp))
                          · have j7 : ((kind : Int) == 7) = false := by simpa using q7
                            clear q7
                            clear d0
                            go_wp2_with (fail)
                            go_meet
                            exact hide ⟨L, g, gw, by rw [← HVP.out, ← HEP.out, up3_same, up3_same]; exact T1.out, P1.out, SBx.out⟩
          case rest =>
            clear e1 e2 e3 e4
            as_aux_lemma =>
              obtain ⟨L2, g2, gw2, T2, P2, S2⟩ := hcut.out
              have hb7 := T2.bv p hp
              rw [up3_at] at hb7
              obtain ⟨o7, h7⟩ := hb7.ptr
              have hb9 := T2.row p hp
              rw [up3_at] at hb9
              obtain ⟨A9, c9, h9, _⟩ := hb9.form
              clear hb7 hb9
              obtain ⟨m9, hm9⟩ : ∃ m9, m9 = (L2 p).length := ⟨_, rfl⟩
              rw [← hm9] at h9
              clear hm9
              subst h7 h9
              have PC := hide P2
              have TC := hide T2
              have SC := hide S2
              clear T2 P2 S2 hcut T1 P1 SBx VP VQ HVP HVQ RP RQ HMP HMQ HEP HEQ d0 d1 d2 d3 d4 x1 y1 x2 y2 X2 Y2
              obtain ⟨d0, d1, d2, d3, d4⟩ := SC.out.cells
              have fz := PC.out.fzv hp
              have cz := PC.out.cellv hp
              obtain ⟨P3, f3⟩ := PC.out.setv hp (.pointer o7)
              have P3 := hide P3
              have T3 := hide (TC.out.oth2 PC.out f3)
              have S3 := hide (SC.out.oth PC.out.sets (by decide) f3)
              clear f3 d0 d2 d3 d4
              go_upto_region 44 with (fail)
              obtain ⟨W3, hW3⟩ : ∃ W3, W3 = wc.setCell ⟨w.heap.size, p, none⟩ (.pointer o7) := ⟨_, rfl⟩
              rw [← hW3] at P3 T3 S3 ⊢
              clear hW3 fz cz d1
              obtain ⟨d0, d1, d2, d3, d4⟩ := S3.out.cells
              have fz := P3.out.fzr hp
              have cz := P3.out.cellr hp
              obtain ⟨P4, f4⟩ := P3.out.setr hp (.slice A9 m9 c9)
              have P4 := hide P4
              have T4 := hide (T3.out.other P3.out.rows (by decide) (by decide) (by decide) f4)
              clear f4 d0 d2 d3 d4
              go_upto_block 3 with (fail)
              obtain ⟨W4, hW4⟩ : ∃ W4, W4 = W3.setCell ⟨w.heap.size + 1, p, none⟩ (.slice A9 m9 c9) := ⟨_, rfl⟩
              rw [← hW4] at P4 T4 ⊢
              clear hW4 fz cz d1 P3 T3 S3 PC TC SC
              obtain ⟨v2, hv2⟩ : ∃ v2, v2 = up3 v p (.pointer o7) := ⟨_, rfl⟩
              obtain ⟨r2, hr2⟩ : ∃ r2, r2 = up3 r p (.slice A9 m9 c9) := ⟨_, rfl⟩
              rw [← hv2, ← hr2] at P4 T4
              clear hv2 hr2
              obtain ⟨gko, hgo1, hgo2⟩ : ∃ x, x < gk ∧ k + 1 + x = len := ⟨gk - 1, by omega, by omega⟩
              go_wp2_with (fail)
              go_loopg [11] 3 (fun gj i wx => ∃ (j : Nat), j + gj = 3 ∧ i = .int .i64 j ∧ Hid (Trio wx w.heap.size v2 r2 L2 g2 gw2) ∧ Hid (PI w v2 r2 wx))
              case atStart => exact ⟨0, by omega, rfl, T4, P4⟩
              case round =>
                clear T4 P4
                obtain ⟨j, hj, rfl, TJ, PJ⟩ := hrel
                by_cases hlj : j < 3
                · have hj3 : (j : Int) < 3 := by omega
                  have e1 := PJ.out.cellv hlj
                  have e2 := PJ.out.cellr hlj
                  have ORj := TJ.out.row j hlj
                  have HM := TJ.out.most j hlj
                  have HB := hide (TJ.out.bv j hlj).bv
                  obtain ⟨mj, hmj⟩ : ∃ mj, (L2 j).length = mj := ⟨_, rfl⟩
                  rw [hmj] at ORj HM
                  obtain ⟨Aj, cj, ej, x1, x2, _, rdj, _⟩ := ORj.form
                  rw [ej] at e2
                  have RJ := hide rdj
                  have X2 := hide x2
                  have HMJ := hide hmj
                  have HCo := hide (count_any w.heap.size (v2 j) (L2 j) wr.drew (HB.out.fr0 (Fr.refl No wr).drew))
                  have HLi := hide (refList_any Aj mj cj wr.heap.size (L2 j) wr.drew HMJ.out x1 X2.out HM (Nat.le_refl _) (RJ.out.fr0 (Fr.refl No wr).drew))
                  rw [held_count] at HCo
                  have hq1 : (held (L2 j)).length ≤ mj := by rw [← hmj]; exact upto_len _ _
                  obtain ⟨hd, hhd⟩ : ∃ hd, hd = held (L2 j) := ⟨_, rfl⟩
                  rw [← hhd] at HCo HLi hq1
                  obtain ⟨nq, hnq⟩ : ∃ nq, nq = hd.length := ⟨_, rfl⟩
                  rw [← hnq] at HCo hq1
                  have HNQ := hide hnq
                  unfold maxLen at x2
                  clear ORj ej rdj hmj hnq hhd
                  generalize v2 j = vj at e1 HCo
                  have hb : ((nq : Int) != (nq : Int)) = false := by simp
                  have K0 : Hid (wr.drew.cell? ⟨w.heap.size, j, none⟩ = some vj ∧ wr.drew.cell? ⟨w.heap.size + 1, j, none⟩ = some (.slice Aj mj cj)) := hide ⟨e1, e2⟩
                  go_upto_region 48 with (fail)
                  go_region_held3 (fun W => W.cell? ⟨w.heap.size, j, none⟩ = some vj ∧ W.cell? ⟨w.heap.size + 1, j, none⟩ = some (.slice Aj mj cj)) (first | exact K1.out | exact K0.out) (first
                    | (go_at_call 27; refine HCo.out.mono ?_; rintro en wq ⟨rfl, rfl⟩)
                    | (go_at_call 28; refine HLi.out.mono ?_; rintro en w5 ⟨v5, rfl, hown, hfr⟩; rw [← HNQ.out] at hown; obtain ⟨A5, c5, rfl, y1, y2, _⟩ := hown.form; have F5 : Hid (Fr No wr w5) := hide (((Fr.refl No wr).drew).tr hfr); have K1 : Hid (w5.cell? ⟨w.heap.size, j, none⟩ = some vj ∧ w5.cell? ⟨w.heap.size + 1, j, none⟩ = some (.slice Aj mj cj)) := hide ⟨hfr.cell K0.out.1 (fun h => h), hfr.cell K0.out.2 (fun h => h)⟩; clear hown hfr))
                  go_wp2_with (fail)
                  go_roundg (gk - 1)
                  case measure => omega
                  case rel => exact ⟨j + 1, by omega, by go_num, hide (TJ.out.fr0 F5.out), hide (PJ.out.fr0 F5.out)⟩
                · obtain rfl : j = 3 := by omega
                  go_wp2_with (fail)
                  go_roundg gko
                  case measure => omega
                  case rel => exact ⟨k + 1, _, _, _, _, _, by omega, by go_num, TJ, PJ⟩
        · as_aux_lemma =>
            have HB : Hid (∃ (k' : Nat) (v r : Nat → Value) (L : Nat → List Bool) (g gw : Nat → Nat), k' + (gk - 1) = len ∧ Value.int .i64 ((k : Int) + 1) = .int .i64 k' ∧ Hid (Trio W1 w.heap.size v r L g gw) ∧ Hid (PI w v r W1)) := hide ⟨k + 1, _, _, _, _, _, by omega, by go_num, T1, P1⟩
            have b1 : (0 : Int) ≤ (k : Int) + 1 := by omega
            clear T1 P1 SBx
            by_cases a1 : who < 0
            · have k1 : decide (who < 0) = true := decide_eq_true a1
              go_wp2_with (fail)
              go_roundg (gk - 1)
              case measure => omega
              case rel => exact HB.out
            · have k1 : decide (who < 0) = false := decide_eq_false a1
              by_cases a2 : 2 < who
              · have k2 : decide (2 < who) = true := decide_eq_true a2
                go_wp2_with (fail)
                go_roundg (gk - 1)
                case measure => omega
                case rel => exact HB.out
              · have k2 : decide (2 < who) = false := decide_eq_false a2
                by_cases a3 : other < 0
                · have k3 : decide (other < 0) = true := decide_eq_true a3
                  go_wp2_with (fail)
                  go_roundg (gk - 1)
                  case measure => omega
                  case rel => exact HB.out
                · have k3 : decide (other < 0) = false := decide_eq_false a3
                  have k4 : decide (2 < other) = true := decide_eq_true (by omega)
                  go_wp2_with (fail)
                  go_roundg (gk - 1)
                  case measure => omega
                  case rel => exact HB.out
      · as_aux_lemma =>
          obtain rfl : k = len := by omega
          have HS : Hid (∀ i, i < 3 → ∃ o A m c, v i = .pointer o ∧ r i = .slice A m c ∧ ∀ W, Fr No wr W → Calls Tryd.prog 12 #[.pointer o, .slice A m c] W (RetB true W)) := hide (fun i hi => by
            obtain ⟨o, ho⟩ := (TW.out.bv i hi).ptr
            have h1 := (TW.out.bv i hi).bv
            have h2 := TW.out.row i hi
            obtain ⟨A, c, he, x1, x2, _, rd, _⟩ := h2.form
            rw [ho] at h1
            exact ⟨o, A, _, c, ho, he, fun W f => same_any w.heap.size o (L i) A _ c W (h1.fr0 f) (HT.out.fr0 (PW.out.fr.tr f)) rfl x1 x2 (TW.out.most i hi) ((rd.more f.size).fr0 f)⟩)
          have e0 := PW.out.cellv (p := 0) (by omega)
          have e1 := PW.out.cellv (p := 1) (by omega)
          have e2 := PW.out.cellv (p := 2) (by omega)
          have e3 := PW.out.cellr (p := 0) (by omega)
          have e4 := PW.out.cellr (p := 1) (by omega)
          have e5 := PW.out.cellr (p := 2) (by omega)
          obtain ⟨o0, A0, m0, c0, q0, s0, C0⟩ := HS.out 0 (by omega)
          obtain ⟨o1, A1, m1, c1, q1, s1, C1⟩ := HS.out 1 (by omega)
          obtain ⟨o2, A2, m2, c2, q2, s2, C2⟩ := HS.out 2 (by omega)
          rw [q0] at e0
          rw [q1] at e1
          rw [q2] at e2
          rw [s0] at e3
          rw [s1] at e4
          rw [s2] at e5
          have C0 := hide C0
          have C1 := hide C1
          have C2 := hide C2
          have FW := hide PW.out.fr
          clear q0 q1 q2 s0 s1 s2 HS TW PW
          go_upto_region 50 with (fail)
          have K0 : Hid (wr.drew.cell? ⟨w.heap.size, 0, none⟩ = some (.pointer o0) ∧ wr.drew.cell? ⟨w.heap.size, 1, none⟩ = some (.pointer o1) ∧ wr.drew.cell? ⟨w.heap.size, 2, none⟩ = some (.pointer o2) ∧ wr.drew.cell? ⟨w.heap.size + 1, 0, none⟩ = some (.slice A0 m0 c0) ∧ wr.drew.cell? ⟨w.heap.size + 1, 1, none⟩ = some (.slice A1 m1 c1) ∧ wr.drew.cell? ⟨w.heap.size + 1, 2, none⟩ = some (.slice A2 m2 c2)) := hide ⟨e0, e1, e2, e3, e4, e5⟩
          go_region_held3 (fun W => W.cell? ⟨w.heap.size, 0, none⟩ = some (.pointer o0) ∧ W.cell? ⟨w.heap.size, 1, none⟩ = some (.pointer o1) ∧ W.cell? ⟨w.heap.size, 2, none⟩ = some (.pointer o2) ∧ W.cell? ⟨w.heap.size + 1, 0, none⟩ = some (.slice A0 m0 c0) ∧ W.cell? ⟨w.heap.size + 1, 1, none⟩ = some (.slice A1 m1 c1) ∧ W.cell? ⟨w.heap.size + 1, 2, none⟩ = some (.slice A2 m2 c2)) (first | exact K4.out | exact K3.out | exact K2.out | exact K1.out | exact K0.out) (first
            | (go_at_call_of 12 (Value.pointer o0); refine (C0.out _ ((Fr.refl No wr).drew)).mono ?_; rintro en w1 ⟨rfl, hfr⟩; have F1 : Hid (Fr No wr w1) := hide (((Fr.refl No wr).drew).tr hfr); have K1 : Hid (w1.cell? ⟨w.heap.size, 0, none⟩ = some (.pointer o0) ∧ w1.cell? ⟨w.heap.size, 1, none⟩ = some (.pointer o1) ∧ w1.cell? ⟨w.heap.size, 2, none⟩ = some (.pointer o2) ∧ w1.cell? ⟨w.heap.size + 1, 0, none⟩ = some (.slice A0 m0 c0) ∧ w1.cell? ⟨w.heap.size + 1, 1, none⟩ = some (.slice A1 m1 c1) ∧ w1.cell? ⟨w.heap.size + 1, 2, none⟩ = some (.slice A2 m2 c2)) := hide ⟨hfr.cell K0.out.1 (fun h => h), hfr.cell K0.out.2.1 (fun h => h), hfr.cell K0.out.2.2.1 (fun h => h), hfr.cell K0.out.2.2.2.1 (fun h => h), hfr.cell K0.out.2.2.2.2.1 (fun h => h), hfr.cell K0.out.2.2.2.2.2 (fun h => h)⟩; clear hfr)
            | (go_at_call_of 12 (Value.pointer o1); refine (C1.out _ F1.out).mono ?_; rintro en w2 ⟨rfl, hfr⟩; have F2 : Hid (Fr No wr w2) := hide (F1.out.tr hfr); have K2 : Hid (w2.cell? ⟨w.heap.size, 0, none⟩ = some (.pointer o0) ∧ w2.cell? ⟨w.heap.size, 1, none⟩ = some (.pointer o1) ∧ w2.cell? ⟨w.heap.size, 2, none⟩ = some (.pointer o2) ∧ w2.cell? ⟨w.heap.size + 1, 0, none⟩ = some (.slice A0 m0 c0) ∧ w2.cell? ⟨w.heap.size + 1, 1, none⟩ = some (.slice A1 m1 c1) ∧ w2.cell? ⟨w.heap.size + 1, 2, none⟩ = some (.slice A2 m2 c2)) := hide ⟨hfr.cell K1.out.1 (fun h => h), hfr.cell K1.out.2.1 (fun h => h), hfr.cell K1.out.2.2.1 (fun h => h), hfr.cell K1.out.2.2.2.1 (fun h => h), hfr.cell K1.out.2.2.2.2.1 (fun h => h), hfr.cell K1.out.2.2.2.2.2 (fun h => h)⟩; clear hfr)
            | (go_at_call_of 12 (Value.pointer o2); refine (C2.out _ F2.out).mono ?_; rintro en w3 ⟨rfl, hfr⟩; have F3 : Hid (Fr No wr w3) := hide (F2.out.tr hfr); have K3 : Hid (w3.cell? ⟨w.heap.size, 0, none⟩ = some (.pointer o0) ∧ w3.cell? ⟨w.heap.size, 1, none⟩ = some (.pointer o1) ∧ w3.cell? ⟨w.heap.size, 2, none⟩ = some (.pointer o2) ∧ w3.cell? ⟨w.heap.size + 1, 0, none⟩ = some (.slice A0 m0 c0) ∧ w3.cell? ⟨w.heap.size + 1, 1, none⟩ = some (.slice A1 m1 c1) ∧ w3.cell? ⟨w.heap.size + 1, 2, none⟩ = some (.slice A2 m2 c2)) := hide ⟨hfr.cell K2.out.1 (fun h => h), hfr.cell K2.out.2.1 (fun h => h), hfr.cell K2.out.2.2.1 (fun h => h), hfr.cell K2.out.2.2.2.1 (fun h => h), hfr.cell K2.out.2.2.2.2.1 (fun h => h), hfr.cell K2.out.2.2.2.2.2 (fun h => h)⟩; clear hfr)
            | (go_at_call 9; refine (HAw.out w3 (FW.out.tr F3.out)).mono ?_; rintro en w4 ⟨rfl, hfr⟩; have F4 : Hid (Fr No wr w4) := hide (F3.out.tr hfr); have K4 : Hid (w4.cell? ⟨w.heap.size, 0, none⟩ = some (.pointer o0) ∧ w4.cell? ⟨w.heap.size, 1, none⟩ = some (.pointer o1) ∧ w4.cell? ⟨w.heap.size, 2, none⟩ = some (.pointer o2) ∧ w4.cell? ⟨w.heap.size + 1, 0, none⟩ = some (.slice A0 m0 c0) ∧ w4.cell? ⟨w.heap.size + 1, 1, none⟩ = some (.slice A1 m1 c1) ∧ w4.cell? ⟨w.heap.size + 1, 2, none⟩ = some (.slice A2 m2 c2)) := hide ⟨hfr.cell K3.out.1 (fun h => h), hfr.cell K3.out.2.1 (fun h => h), hfr.cell K3.out.2.2.1 (fun h => h), hfr.cell K3.out.2.2.2.1 (fun h => h), hfr.cell K3.out.2.2.2.2.1 (fun h => h), hfr.cell K3.out.2.2.2.2.2 (fun h => h)⟩; clear hfr))
          go_wp2_with (fail)
          go_ret
          exact ⟨rfl, FW.out.tr F4.out⟩
end Go.Proofs.YtapfbjaopbcgjaaDoor
