/- Several texts in one: TOpW, Kit8, Awake09, KitS, Open, OpenS, OpenUu, TBackP. -/
import Derived.Test.YtcdhbdhhknlbaaaK8
import Derived.Deep.RegionHeld3
import Derived.Deep.RegionLaw
import Derived.Deep.DeepCutAuto
import Derived.Test.YtcdhbdhhknlbaaaRows
import Derived.ProofKit
import Derived.OpenShut
import Derived.ShutString
import Derived.ChangeOld
import Derived.Below
import Derived.SizedLaws
import Derived.HandedShaped
import Derived.SliceStrings
namespace Go.Proofs.Ytcdhbdhhknlbaaa
set_option linter.unusedVariables false
set_option linter.unusedSimpArgs false
open Go.RowKit

set_option maxRecDepth 100000 in
set_option maxHeartbeats 8000000 in
theorem topen_any (A : Option Addr) (N c B : Nat) (bs : List UInt8) (w : World) (hl : bs.length = N) (hn : N ≤ c) (hc : c ≤ maxLen) (hb : N ≤ 140737488355328) (hB : B ≤ w.heap.size) (hr : Rd w B A (by8 bs)) :
    Calls Try.prog 11 #[.slice A N c] w (OpenP w bs) := by
  have HNew := hide (newReader_any A N c B bs w hl hn hc hb hB hr)
  have HL := hide hl
  have HR := hide hr
  have HBz := hide hB
  obtain ⟨n, a0, e0, hs⟩ : ∃ n a e, sizeS bs 0 0 1048576 = (n, a, e) := ⟨_, _, _, rfl⟩
  have HSz := hide (fun g2 W hW => sizeN_any g2 bs 0 0 1048576 W hW (by omega) (by omega))
  rw [hs] at HSz
  have HS := hide hs
  have hn2 : (n : Int) ≤ 1048576 := by have := sizeS_le (bs := bs) (a := 0) (e := 0) (most := 1048576) (by omega); rw [hs] at this; exact this
  have hn3 : n ≤ 1048576 := by omega
  have HZ0 := hide (show e0 ≠ 0 → n = 0 from fun h => by have := size_zero (bs := bs) (a := 0) (e := 0) (most := 1048576) (by rw [hs]; exact h); rw [hs] at this; exact this)
  unfold maxLen at hc
  clear hl hr hB hs hn2
  go_enter Try.func11, Try.ntmps11
  go_wp2_with (first
    | (go_at_call 40; refine HNew.out.mono ?_; rintro en w1 ⟨g, rfl, hg, hrd, hfr⟩; have HR1 := hide hrd; have HF1 := hide hfr; have HG := hide hg; clear hrd hfr hg)
    | (go_at_call 41; refine (HSz.out g w1 HR1.out).mono ?_; rintro en w2 ⟨rfl, hrd, hfr⟩; have HR2 := hide hrd; have HF2 : Hid (Fr No w w2) := hide (HF1.out.trans hfr (fun i hi e => by have e : i = g := e; have := HG.out; omega)); clear hrd hfr))
  obtain ⟨w3, hw3⟩ : ∃ W, W = w2.alloc (.cells #[.slice none 0 0, .slice none 0 0, .int .i64 n] 75) := ⟨_, rfl⟩
  have HM0 : Hid (OpM w w3 g w2.heap.size bs n 0 a0 e0 [] []) := hide (by
    rw [hw3]
    exact ⟨HR2.out.fr0 ((Fr.refl No w2).alloc _), HG.out, ⟨HF2.out.size, _, _, [], heap_alloc_new w2 _, Own.nil _ _ _ _, Vals.nil _ _, Own.nil _ _ _ _⟩, HF2.out.alloc _⟩)
  rw [← hw3]
  obtain ⟨G, hG⟩ : ∃ G, G = w2.heap.size := ⟨_, rfl⟩
  rw [← hG] at HM0 ⊢
  have HA0 : Hid (e0 = 0 → OpA bs n 0 a0 [] []) := hide (fun h => OpA.start (by rw [HS.out, h]))
  clear hw3 hG HNew HSz HR1 HF1 HR2 HF2
  go_loopw [7, 6] (fun i t wr => ∃ (j i' a : Nat) (l : List Tx) (vs : List Nat) (T : ByteArray), i = .int .i64 i' ∧ Hid (i' = 16 * j) ∧ i' ≤ n + 15 ∧ t = .string T ∧ Hid (0 < j → 16 * j ≤ n → T.toList = l.getD (16 * j - 1) []) ∧ Hid (OpM w wr g G bs n j a e0 l vs) ∧ Hid (e0 = 0 → OpA bs n j a l vs)) (fun i _ _ => n - (intOf i).toNat)
  case atStart => exact ⟨0, 0, a0, [], [], ⟨#[]⟩, rfl, hide rfl, by omega, rfl, hide (fun h _ => by omega), HM0, HA0⟩
  case round =>
    obtain ⟨wo, rfl⟩ : ∃ wo : World, wo = wr := ⟨_, rfl⟩
    obtain ⟨j, i', a, l, vs, T, rfl, HI, hib, rfl, HT, HM, HA⟩ := hrel
    clear HM0 HA0
    obtain ⟨glo, vb, vf, vals, gq, _⟩ := HM.out.dict
    have k2 : wo.cell? ⟨G, 2, none⟩ = some (.int .i64 n) := cell_of_row _ _ 2 _ _ _ gq
    clear glo gq
    by_cases hlt : i' < n
    · have hjn : 16 * j < n := by have := HI.out; omega
      have he0 : e0 = 0 := Classical.byContradiction (fun h => by have := HZ0.out h; omega)
      subst he0
      have HAA := hide (HA.out rfl)
      clear HA
      have hab : a ≤ N := by have := HAA.out.a_le; rw [HL.out] at this; exact this
      obtain ⟨r, hr⟩ : ∃ r, r = N - a := ⟨_, rfl⟩
      have HLf := hide (left_any g bs a 0 wo HM.out.rd)
      rw [HL.out, ← hr] at HLf
      have hsub : (N : Int) - (r : Int) = (a : Int) := by omega
      obtain ⟨m, hm⟩ : ∃ m, m = min 16 (n - 16 * j) := ⟨_, rfl⟩
      have hm0 : 0 < m := by omega
      have hm16 : m ≤ 16 := by omega
      have HMm := hide hm
      have HSi := hide (fun W hW => dsize_any G w.heap.size n j (bssJ l vs j) (fsJ l j) W hW hjn hn3)
      rw [← hm] at HSi
      have HRe := hide (fun W hW => read_any g bs a 0 m W hW hm0 hm16)
      have iq : (i' : Int) / 16 = (j : Int) := by have := HI.out; omega
      have iw : wrap64 (j : Int) = (j : Int) := by unfold wrap64; omega
      have HJn := hide hjn
      have hlt2 : (i' : Int) < (n : Int) := by omega
      clear hr hm hjn
      go_wp2_with (first
        | (go_at_call 42; refine HLf.out.mono ?_; rintro en w4 ⟨rfl, nq, rfl⟩; have HM4 : Hid (OpM w (wo.drewN nq) g G bs n j a 0 l vs) := hide (HM.out.fr0 ((Fr.refl No wo).drewN nq)))
        | (go_at_call 44; refine (HSi.out _ HM4.out.dict).mono ?_; rintro en w5 ⟨rfl, rfl⟩)
        | fail)
      refine (HRe.out _ HM4.out.rd).mono ?_
      rintro en w6 ⟨hfr, hres⟩
      rcases hres with ⟨b, L, V, us, a', r1, r2, rfl, ho1, ho2, hrd⟩ | ⟨hbad, v1, v2, rfl⟩
      · have HM6 := hide (HM4.out.read hfr hrd)
        have HO6 := hide ho1
        have hbl : b.length = m := by have := ho1.1; rw [svs_len] at this; omega
        have HBl := hide hbl
        have HR1 : Hid ((rdT bs (min 16 (n - 16 * j)) a 0).1 = some b) := hide (by rw [← HMm.out]; exact r1)
        have HR2 : Hid (rdV bs (min 16 (n - 16 * j)) [] (rdT bs (min 16 (n - 16 * j)) a 0).2.1 (rdT bs (min 16 (n - 16 * j)) a 0).2.2 = (us, a', 0)) := hide (by rw [← HMm.out]; exact r2)
        obtain ⟨L1, e1, _, _, kc0, _⟩ := ho1.store (k := 0) hm0
        injection e1 with e1
        injection e1 with e1 _ _
        subst e1
        obtain ⟨L1, e1, _, _, kcm, _⟩ := ho1.store (k := m - 1) (by omega)
        injection e1 with e1
        injection e1 with e1 _ _
        subst e1
        rw [svs_get (by omega)] at kc0 kcm
        obtain ⟨X, hX⟩ : ∃ X : ByteArray, (⟨(b.getD 0 []).toArray⟩ : ByteArray) = X := ⟨_, rfl⟩
        obtain ⟨Y, hY⟩ : ∃ Y : ByteArray, (⟨(b.getD (m - 1) []).toArray⟩ : ByteArray) = Y := ⟨_, rfl⟩
        have HX : Hid (X.toList = b.getD 0 []) := hide (by rw [← hX, tx_list])
        have HXv : Hid (Value.string X = sv (b.getD 0 [])) := hide (by rw [sv, hX])
        have HY : Hid (Y.toList = b.getD (m - 1) []) := hide (by rw [← hY, tx_list])
        rw [sv, hX] at kc0
        rw [sv, hY] at kcm
        obtain ⟨gb, hgb⟩ : ∃ gb : Bool, gb = decide (0 < j ∧ ¬ l.getD (16 * j - 1) [] < b.getD 0 []) := ⟨_, rfl⟩
        have HGb := hide hgb
        have im0 : (0 : Int) < (m : Int) := by omega
        clear hgb hX hY hfr ho1 ho2 hrd hbl r1 r2 HLf HSi HRe HM4 k2
        go_upto_region 9 with (fail)
        go_cut [53] from 41 to 53 (fun v wx => v = .bool gb ∧ wx = w6)
        case first =>
          by_cases hj0 : j = 0
          · have hi0 : i' = 0 := by have := HI.out; omega
            have d1 : decide ((0 : Int) < (i' : Int)) = false := decide_eq_false (by omega)
            have d1b : decide (0 < i') = false := decide_eq_false (by omega)
            have HX2 : Hid (gb = false) := hide (by rw [HGb.out]; simp [hj0])
            clear hi0 hj0
            go_wp2_with (fail)
            go_meet
            exact ⟨by rw [HX2.out], rfl⟩
          · have hi0 : 0 < i' := by have := HI.out; omega
            have d1 : decide ((0 : Int) < (i' : Int)) = true := decide_eq_true (by omega)
            have d1b : decide (0 < i') = true := decide_eq_true (by omega)
            have HG2 : Hid ((Op.bytesLess X.toList T.toList || X.toList == T.toList) = gb) := hide (by
              rw [HGb.out, HX.out, HT.out (by omega) (by have := HJn.out; omega), bytesLess_eq]
              rcases tl_total (b.getD 0 []) (l.getD (16 * j - 1) []) with h | h | h
              · have h2 : ¬ l.getD (16 * j - 1) [] < b.getD 0 [] := fun q => tl_irrefl _ (tl_trans h q)
                rw [decide_eq_true h, decide_eq_true ⟨by omega, h2⟩]; rfl
              · rw [h, decide_eq_false (tl_irrefl _), decide_eq_true ⟨by omega, tl_irrefl _⟩]; simp
              · have h2 : ¬ b.getD 0 [] < l.getD (16 * j - 1) [] := fun q => tl_irrefl _ (tl_trans h q)
                have h3 : ¬ b.getD 0 [] = l.getD (16 * j - 1) [] := fun q => by rw [q] at h; exact tl_irrefl _ h
                rw [decide_eq_false h2, decide_eq_false (fun q => q.2 h), beq_eq_false_iff_ne.2 h3]; rfl)
            clear hj0
            go_wp2_with (fail)
            go_meet
            exact ⟨by rw [HG2.out], rfl⟩
        case rest =>
          obtain ⟨rfl, rfl⟩ := hcut
          obtain ⟨w6, rfl⟩ : ∃ W : World, W = wc := ⟨_, rfl⟩
          cases hgb : gb with
          | true =>
            have hg0 := HGb.out
            rw [hgb] at hg0
            have hg := of_decide_eq_true hg0.symm
            have HNo := hide (HAA.out.falls HJn.out hg.1 HR1.out hg.2)
            clear hg0 hg
            subst hgb
            go_wp2_with (fail)
            go_ret2
            exact ⟨HM6.out.fr, .inr ⟨HNo.out, rfl⟩⟩
          | false =>
            have hg0 := HGb.out
            rw [hgb] at hg0
            have hg := of_decide_eq_false hg0.symm
            have HUp : Hid (0 < j → l.getD (16 * j - 1) [] < b.getD 0 []) := hide (fun h => Classical.not_not.1 (fun q => hg ⟨h, q⟩))
            clear hg0 hg HGb
            subst hgb
            have HSt := hide (HAA.out.step HJn.out HR1.out HR2.out HUp.out)
            have imm : IntKind.i64.wrap ((m : Int) - 1) = ((m - 1 : Nat) : Int) := by rw [show (m : Int) - 1 = ((m - 1 : Nat) : Int) by omega]; exact IntWalk.i64_in _ (by omega)
            have im1 : ((m - 1 : Nat) : Int) < (m : Int) := by omega
            have im2 : (m : Int) - 1 = ((m - 1 : Nat) : Int) := by omega
            go_upto_region 12 with (fail)
            obtain ⟨glo, vb, vf, vals, gq, go1, go2, go3⟩ := HM6.out.dict
            have HQ := hide gq
            have HVb := hide go1
            have HVs := hide go2
            have HVf := hide go3
            have HGl := hide glo
            rw [bssJ_len] at HVb
            rw [fsJ_len] at HVf
            have k1 : w6.drew.cell? ⟨G, 1, none⟩ = some vf := cell_of_row _ _ 1 _ _ _ gq
            have k3 : (w6.drew.alloc (.cells #[.string X] 9)).cell? ⟨G, 1, none⟩ = some vf := ((Fr.refl No w6.drew).alloc _).cell k1 (fun h => h)
            have k3b : (w6.alloc (.cells #[.string X] 9)).cell? ⟨G, 1, none⟩ = some vf := k3
            have kc1 : w6.drew.cell? ⟨L, 0, none⟩ = some (.string X) := kc0
            have HS7 := hide (Src.one (P := Try.prog) w6.drew (e := 9) Try.underlying22 (.string X) rfl)
            have HO7 := hide (HVf.out.fr0 ((Fr.refl No w6).drew.alloc (.cells #[.string X] 9)))
            obtain ⟨i0, hi, hz, hsz, hby⟩ := info_parts Try.infoS
            have hj20 : j ≤ 1048576 := by have := HI.out; omega
            have b1 : (j + 1) * 16 ≤ 140737488355328 := by omega
            have b2 : j + 1 ≤ maxLen := by unfold maxLen; omega
            have b3 : w.heap.size ≤ (w6.drew.alloc (.cells #[.string X] 9)).heap.size := by have := HM6.out.fr.size; simp; omega
            clear glo gq go1 go2 go3 imm im1 im2
            refine wp_named fun K hK => ?_
            go_cut [] from 60 to 71 (fun wz => ∃ vf', Hid (wz.heap[G]? = some (.cells #[vb, vf', .int .i64 n] 75 (0, 0))) ∧ Hid (Own wz w.heap.size 9 1 vf' (j + 1) (svs (fsJ l j) ++ [.string X])) ∧ Hid (Own wz w.heap.size 24 1 vb j vals) ∧ Hid (Vals wz w.heap.size vals (bssJ l vs j)) ∧ Hid (RD wz g bs a' 0) ∧ Hid (Fr No w wz))
            case first =>
              go_region_law (first
                | (refine step_append_any rfl (.tmp 64) (.tmp 68) 22 22 rfl w.heap.size 9 i0 (.string ⟨#[]⟩) 1 16 Try.underlying22 hi hz hsz hby rfl vf j (svs (fsJ l j)) rfl HO7.out _ 1 [.string X] rfl HS7.out b1 b2 b3 ?_; intro v8 w8 hown hfr; obtain ⟨A8, c8, rfl, _⟩ := hown.form; have HO8 := hide hown; have HF8 := hide hfr; have hb8 := hfr.blk (((Fr.refl No w6).drew.alloc (.cells #[.string X] 9)).blk HQ.out (fun h => h)) (fun e => HO7.out.ne_blk e (((Fr.refl No w6).drew.alloc (.cells #[.string X] 9)).blk HQ.out (fun h => h)) (by decide)); have HB8 := hide hb8; have k8 : w8.cell? ⟨G, 1, none⟩ = some vf := cell_of_row _ _ 1 _ _ _ hb8; have fz8 : w8.frozen? ⟨G, 1, none⟩ = false := frozen_of_row _ _ _ _ _ hb8; clear hown hfr hb8))
              all_goals (go_wp2; go_meet)
              all_goals (
                have q0 : Fr No w6 (w6.drew.alloc (.cells #[.string X] 9)) := ((Fr.refl No w6).drew).alloc _
                have f9 : Fr (Is G) w8 (w8.setCell ⟨G, 1, none⟩ (.slice A8 (j + 1) c8)) := (Fr.refl (Is G) w8).put 1 _
                have r9 : (w8.setCell ⟨G, 1, none⟩ (.slice A8 (j + 1) c8)).heap[G]? = some (.cells #[vb, .slice A8 (j + 1) c8, .int .i64 n] 75 (0, 0)) := by
                  have := heap_setCell_same w8 G 1 #[vb, vf, .int .i64 n] 75 (.slice A8 (j + 1) c8) HB8.out
                  simpa using this
                have o8 : ∀ t, t ≠ 9 → Off (fun k => vf.ownBlock = some k) (w6.drew.alloc (.cells #[.string X] 9)) t := fun t ht => off_own HO7.out ht
                have o9 : ∀ t, t ≠ 75 → Off (Is G) w8 t := fun t ht => off_is HB8.out ht
                refine ⟨.slice A8 (j + 1) c8, hide r9, hide (HO8.out.off f9 (o9 _ (by decide))), hide (((HVb.out.fr0 q0).off HF8.out (o8 _ (by decide))).off f9 (o9 _ (by decide))), hide (((HVs.out.fr0 q0).off HF8.out (o8 _ (by decide))).off f9 (o9 _ (by decide))), hide (((HM6.out.rd.fr0 q0).offT HF8.out (o8 _ (by decide)) (o8 _ (by decide))).offT f9 (o9 _ (by decide)) (o9 _ (by decide))), hide ?_⟩
                have h8 : Fr No w w8 := (HM6.out.fr.tr q0).own HF8.out (fun k hk => .inl (HO7.out.lt k hk).1)
                exact h8.trans f9 (fun i hi e => by have e : i = G := e; have := HGl.out; omega))
            case rest =>
              obtain ⟨vf', HQ8, HVf8, HVb8, HVs8, HRd8, HFr8⟩ := hcut
              clear k1 k3 k3b kc0 kc1 kcm HS7 HO7 hi hz hsz hby b1 b2 b3 HQ HVb HVs HVf
              refine hK _ _ ?_
              clear hK
              obtain ⟨w7, rfl⟩ : ∃ W : World, W = wc := ⟨_, rfl⟩
              obtain ⟨bl, hbl⟩ : ∃ k, k = (blkT b us).length := ⟨_, rfl⟩
              have hbl0 : 0 < bl := by
                have h1 := (txt_le (t := b.getD 0 [])) 
                have h2 := HBl.out
                cases hb0 : b with
                | nil => rw [hb0] at h2; simp at h2; omega
                | cons s r =>
                  rw [hbl, hb0, blkT, termsB, txt]
                  have := (enc_len s.length).1
                  simp
                  omega
              have ha' : a' = a + bl := by rw [hbl]; exact HSt.out.2.1
              have ha'N : a' ≤ N := by have := HSt.out.1.a_le; rw [HL.out] at this; exact this
              have hAs : ∃ ad, A = some ad := by
                obtain ⟨ad, h, _⟩ := HR.out 0 _ (by8_get bs 0 (by rw [HL.out]; omega))
                exact ⟨ad, h⟩
              obtain ⟨ad, rfl⟩ := hAs
              have HCl := hide (fun cap (h1 : bl ≤ cap) (h2 : cap ≤ maxLen) W (hW : Fr No w W) => clone_any (some (ad.add a)) bl cap B (blkT b us) W hbl.symm h1 h2 (by omega) (by have := hW.size; have := HBz.out; omega) (by
                have h3 := ((HR.out.fr0 hW).tk a').dr a
                rw [← by8_take, ← by8_drop, HSt.out.2.2.1] at h3
                exact h3))
              obtain ⟨r2, hr2⟩ : ∃ r, r = N - a' := ⟨_, rfl⟩
              have HLf := hide (left_any g bs a' 0 w7.drew (HRd8.out.drewN 1))
              rw [HL.out, ← hr2] at HLf
              have hs1 : (N : Int) - (r2 : Int) = (a' : Int) := by omega
              have hs2 : (a' : Int) - (a : Int) = (bl : Int) := by omega
              have hs3 : (a : Int) ≤ (a' : Int) := by omega
              have hs4 : (a' : Int) ≤ (c : Int) := by omega
              have hs5 : (0 : Int) ≤ (a : Int) := by omega
              have hs6 : a < c := by omega
              have hs7 : IntKind.i64.wrap (a' : Int) = (a' : Int) := IntWalk.i64_in _ (by omega)
              have hs8 : a' - a = bl := by omega
              have hs9 : ¬ c = a := by omega
              have hs10 : a ≤ a' := by omega
              have k1 : w7.drew.cell? ⟨G, 0, none⟩ = some vb := cell_of_row _ _ 0 _ _ _ HQ8.out
              obtain ⟨i0, hi, hz, hsz, hby⟩ := info_parts Try.infoB
              have b1 : (j + 1) * 24 ≤ 140737488355328 := by omega
              have b2 : j + 1 ≤ maxLen := by unfold maxLen; omega
              have HBL := hide hbl
              clear hr2 hbl hbl0 ha'
              go_upto_region 13 with (fail)
              refine wp_named fun K hK => ?_
              go_cut [] from 72 to 89 (fun wz => ∃ vb' vals', Hid (wz.heap[G]? = some (.cells #[vb', vf', .int .i64 n] 75 (0, 0))) ∧ Hid (Own wz w.heap.size 24 1 vb' (j + 1) vals') ∧ Hid (Vals wz w.heap.size vals' (bssJ l vs j ++ [blkT b us])) ∧ Hid (Own wz w.heap.size 9 1 vf' (j + 1) (svs (fsJ l j) ++ [.string X])) ∧ Hid (RD wz g bs a' 0) ∧ Hid (Fr No w wz))
              case first =>
                go_region_law (first
                  | (go_simp; go_at_call 45; refine (HCl.out _ hcb hcm w9 HFc.out).mono ?_; rintro en w10 ⟨v10, rfl, hown, hfr⟩; rw [← HBL.out] at hown; obtain ⟨A10, c10, rfl, _⟩ := hown.form; have HO10 := hide hown; have HF10 := hide hfr; have k10 : w10.cell? ⟨G, 0, none⟩ = some vb := hfr.cell k9 (fun h => h); have k11 : (w10.alloc (.cells #[.slice A10 bl c10] 24)).cell? ⟨G, 0, none⟩ = some vb := ((Fr.refl No w10).alloc _).cell k10 (fun h => h); have HF11 : Hid (Fr No w7 (w10.alloc (.cells #[.slice A10 bl c10] 24))) := hide ((HF9.out.tr hfr).alloc _); have HO11 := hide (HVb8.out.fr0 HF11.out); have HS11 := hide (src_slice w10 A10 bl c10); have b3 : w.heap.size ≤ (w10.alloc (.cells #[.slice A10 bl c10] 24)).heap.size := (by have h1 := HFr8.out.size; have h2 := HF11.out.size; omega); clear hown hfr)
                  | (go_simp; go_at_call 42; refine HLf.out.mono ?_; rintro en w9 ⟨rfl, hq⟩; have HF9 : Hid (Fr No w7 w9) := hide (by obtain ⟨nq, rfl⟩ := hq; exact ((Fr.refl No w7).drew).drewN nq); have k9 : w9.cell? ⟨G, 0, none⟩ = some vb := HF9.out.cell k1 (fun h => h); have HFc : Hid (Fr No w w9) := hide (HFr8.out.tr HF9.out); have hcb : bl ≤ c - a := (by omega); have hcm : c - a ≤ maxLen := (by unfold maxLen; omega); clear hq)
                  | (refine step_append_any rfl (.tmp 76) (.tmp 86) 49 49 rfl w.heap.size 24 i0 (.slice none 0 0) 1 24 Try.underlying49 hi hz hsz hby rfl vb j vals rfl HO11.out _ 1 [.slice A10 bl c10] rfl HS11.out b1 b2 b3 ?_; intro v12 w12 hown hfr; obtain ⟨A12, c12, rfl, _⟩ := hown.form; have HO12 := hide hown; have HF12 := hide hfr; have hb12 := hfr.blk (HF11.out.blk HQ8.out (fun h => h)) (fun e => HO11.out.ne_blk e (HF11.out.blk HQ8.out (fun h => h)) (by decide)); have HB12 := hide hb12; have k12 : w12.cell? ⟨G, 0, none⟩ = some vb := cell_of_row _ _ 0 _ _ _ hb12; have fz12 : w12.frozen? ⟨G, 0, none⟩ = false := frozen_of_row _ _ _ _ _ hb12; clear hown hfr hb12))
                all_goals (go_wp2; go_meet)
                all_goals (
                  have f9 : Fr (Is G) w12 (w12.setCell ⟨G, 0, none⟩ (.slice A12 (j + 1) c12)) := (Fr.refl (Is G) w12).put 0 _
                  have r9 : (w12.setCell ⟨G, 0, none⟩ (.slice A12 (j + 1) c12)).heap[G]? = some (.cells #[.slice A12 (j + 1) c12, vf', .int .i64 n] 75 (0, 0)) := by
                    have := heap_setCell_same w12 G 0 #[vb, vf', .int .i64 n] 75 (.slice A12 (j + 1) c12) HB12.out
                    simpa using this
                  have o8 : ∀ t, t ≠ 24 → Off (fun k => vb.ownBlock = some k) (w10.alloc (.cells #[.slice A10 bl c10] 24)) t := fun t ht => off_own HO11.out ht
                  have o9 : ∀ t, t ≠ 75 → Off (Is G) w12 t := fun t ht => off_is HB12.out ht
                  have hv9 := HVs8.out.fr0 HF9.out
                  have hv10 : Vals w10 w.heap.size (vals ++ [.slice A10 bl c10]) (bssJ l vs j ++ [blkT b us]) := hv9.snoc (hv9.fr0 HF10.out) (by rw [← HBL.out]; exact HO10.out) (by have h1 := HFr8.out.size; have h2 := HF9.out.size; omega)
                  refine ⟨.slice A12 (j + 1) c12, _, hide r9, hide (HO12.out.off f9 (o9 _ (by decide))), hide (((hv10.fr0 ((Fr.refl No w10).alloc _)).off HF12.out (o8 _ (by decide))).off f9 (o9 _ (by decide))), hide (((HVf8.out.fr0 HF11.out).off HF12.out (o8 _ (by decide))).off f9 (o9 _ (by decide))), hide (((HRd8.out.fr0 HF11.out).offT HF12.out (o8 _ (by decide)) (o8 _ (by decide))).offT f9 (o9 _ (by decide)) (o9 _ (by decide))), hide ?_⟩
                  have h8 : Fr No w w12 := (HFr8.out.tr HF11.out).own HF12.out (fun k hk => .inl (HO11.out.lt k hk).1)
                  exact h8.trans f9 (fun i hi e => by have e : i = G := e; have := HGl.out; omega))
              case rest =>
                obtain ⟨vb', vals', HQ9, HVb9, HVs9, HVf9, HRd9, HFr9⟩ := hcut
                clear k1 hi hz hsz hby b1 b2 HQ8 HVf8 HVb8 HVs8 HRd8 HFr8 HCl HLf hs1 hs2 hs3 hs4 hs5 hs6 hs7 hs8 hs9 hs10
                refine hK _ _ ?_
                clear hK
                have hml : vs.length = 16 * j := by have h1 := HAA.out.lenv; have h2 := HJn.out; omega
                have hll : l.length = 16 * j := by have h1 := HAA.out.len; have h2 := HJn.out; omega
                have HM9 : Hid (OpM w wc g G bs n (j + 1) a' 0 (l ++ b) (vs ++ us)) := hide (by
                  refine ⟨HRd9.out, HG.out, ⟨HGl.out, vb', vf', vals', HQ9.out, ?_, ?_, ?_⟩, HFr9.out⟩
                  · rw [bssJ_len]; exact HVb9.out
                  · rw [bssJ_snoc hll hml (by rw [HBl.out]; exact hm16) (by rw [HSt.out.2.2.2.2]; omega)]
                    exact HVs9.out
                  · rw [fsJ_len, fsJ_snoc hll (by rw [HBl.out]; exact hm0), svs_snoc, ← HXv.out]
                    exact HVf9.out)
                have HA9 := hide HSt.out.1
                have HY9 : Hid (16 * (j + 1) ≤ n → Y.toList = (l ++ b).getD (16 * (j + 1) - 1) []) := hide (fun h => by
                  have hmm : m = 16 := by have := HMm.out; omega
                  rw [HY.out, hmm, List.getD, List.getD, List.getElem?_append_right (by omega), hll, show 16 * (j + 1) - 1 - 16 * j = 16 - 1 by omega])
                clear hml hll
                go_wp2_with (fail)
                go_roundw
                case rel => exact ⟨j + 1, i' + 16, a', l ++ b, vs ++ us, Y, by go_num, hide (by rw [HI.out]; omega), by omega, rfl, hide (fun _ h => HY9.out h), HM9, hide (fun _ => HA9.out)⟩
                case measure => simp [intOf]; omega
      · have HNo := hide (HAA.out.bad HJn.out (by rw [← HMm.out]; exact hbad))
        have HF6 : Hid (Fr No w w6) := hide (HM4.out.fr.trans hfr (fun i hi e => by have e : i = g := e; have := HG.out; omega))
        clear hbad hfr HLf HSi HRe k2
        go_wp2_with (fail)
        go_ret2
        exact ⟨HF6.out, .inr ⟨HNo.out, rfl⟩⟩
    · have hj : n ≤ 16 * j := by have := HI.out; omega
      have HJn := hide hj
      have HEn := hide (end_any g bs a e0 wo HM.out.rd)
      have d1 : decide ((i' : Int) < (n : Int)) = false := decide_eq_false (by omega)
      obtain ⟨ε, hε⟩ : ∃ ε, ε = endE bs a e0 := ⟨_, rfl⟩
      rw [← hε] at HEn
      have HEps := hide hε
      clear hε hj
      by_cases he : ε = 0
      · have d2 : (ε != 0) = false := by simpa using he
        have HFin : Hid (e0 = 0 ∧ Form9 bs l vs ∧ l.length = n ∧ j = nbT n) := hide (by
          have h1 := HEps.out
          rw [he] at h1
          unfold endE at h1
          have h2 : e0 = 0 ∧ ¬ a < bs.length := by
            split at h1
            · exact absurd h1 (by decide)
            · rename_i h3
              exact ⟨h1.symm, fun h4 => h3 ⟨h1.symm, h4⟩⟩
          have hA := HA.out h2.1
          have hjb : j = nbT n := by have := HI.out; have := HJn.out; unfold nbT; omega
          have h3 := hA.fin HJn.out hjb (by have := hA.a_le; omega)
          exact ⟨h2.1, h3.1, h3.2, hjb⟩)
        clear he
        go_wp2_with (go_at_call 46; refine HEn.out.mono ?_; rintro en w6 ⟨rfl, hrd, hfr⟩; have HM6 := hide (HM.out.read hfr hrd); clear hrd hfr)
        go_ret2
        obtain ⟨f1, f2, f3, f4⟩ := HFin.out
        refine ⟨HM6.out.fr, .inl ⟨G, l, vs, f2, rfl, ⟨?_, f2.1, f2.2.1⟩⟩⟩
        have := HM6.out.dict
        rw [f4, bssJ_fin f3, fsJ_fin f3] at this
        rw [f3]
        exact this
      · have d2 : (ε != 0) = true := by simpa using he
        have HNo : Hid (∀ l vs, ¬ Form9 bs l vs) := hide (by
          by_cases h0 : e0 = 0
          · refine (HA.out h0).left HJn.out ?_
            have h1 := HEps.out
            unfold endE at h1
            split at h1
            · rename_i h3
              exact h3.2
            · exact absurd (h1.trans h0) he
          · exact form9_no_size (by rw [HS.out]; exact h0))
        clear he
        go_wp2_with (go_at_call 46; refine HEn.out.mono ?_; rintro en w6 ⟨rfl, hrd, hfr⟩; have HM6 := hide (HM.out.read hfr hrd); clear hrd hfr)
        go_ret2
        exact ⟨HM6.out.fr, .inr ⟨HNo.out, rfl⟩⟩
end Go.Proofs.Ytcdhbdhhknlbaaa
namespace Go.Proofs.Ytcdhbdhhknlbaaa
set_option linter.unusedVariables false
set_option linter.unusedSimpArgs false
open Go.RowKit

set_option maxRecDepth 100000 in
set_option maxHeartbeats 800000 in
theorem kbytes_any (A B : Option Addr) (n c m d b1 b2 : Nat) (xs ys : List UInt8) (w : World) (hx : xs.length = n) (hy : ys.length = m) (hn : n ≤ c) (hc : c ≤ maxLen) (hm : m ≤ d) (hd : d ≤ maxLen) (hr : Rd w b1 A (by8 xs)) (hs : Rd w b2 B (by8 ys)) :
    Calls Try.prog 17 #[.slice A n c, .slice B m d] w (RetQ (.bool (decide (xs = ys))) w) := by
  unfold maxLen at hc hd
  have HX := hide hx
  have HY := hide hy
  have HR := hide hr
  have HS := hide hs
  clear hx hy hr hs
  by_cases hnm : n = m
  · subst hnm
    have hb : ((n : Int) != n) = false := by simp
    go_enter Try.func17, Try.ntmps17
    go_wp2
    go_loopw [5] (fun i wr => ∃ k nq : Nat, k ≤ n ∧ i = .int .i64 k ∧ wr = w.drewN nq ∧ Hid (xs.take k = ys.take k)) (fun i _ => n - (intOf i).toNat)
    case atStart => exact ⟨0, 0, by omega, rfl, rfl, hide rfl⟩
    case round =>
      obtain ⟨k, nq, hk, rfl, rfl, HT⟩ := hrel
      by_cases hlt : k < n
      · have h1 : k < xs.length := by rw [HX.out]; exact hlt
        have h2 : k < ys.length := by rw [HY.out]; exact hlt
        obtain ⟨ad, rfl, _, hcell⟩ := HR.out.byte h1
        obtain ⟨bd, rfl, _, hcell2⟩ := HS.out.byte h2
        have HE := hide (fun he => take_succ_eq h1 h2 HT.out he)
        have HN := hide (show xs.getD k 0 ≠ ys.getD k 0 → xs ≠ ys from fun h e => h (by rw [e]))
        clear h1 h2
        generalize xs.getD k 0 = x at hcell HE HN
        generalize ys.getD k 0 = y at hcell2 HE HN
        by_cases he : x = y
        · subst he
          have HE' := hide (HE.out rfl)
          clear HE
          have hb2 : ((x.toNat : Int) != x.toNat) = false := by simp
          go_wp2
          go_quiet (fail)
          go_wp2
          go_round
          case rel => exact ⟨k + 1, _, by omega, by go_num, rfl, HE'⟩
          case measure => simp [intOf]; omega
        · have hb2 : ((x.toNat : Int) != y.toNat) = true := by
            simp
            intro h
            exact he (UInt8.toNat_inj.1 (by omega))
          go_wp2
          go_quiet (fail)
          go_wp2
          go_ret
          exact ⟨by simp [HN.out he], _, World.drewN_drewN _ _ _⟩
      · have HF := hide (show xs = ys by
          have h := HT.out
          rwa [List.take_of_length_le (by rw [HX.out]; omega), List.take_of_length_le (by rw [HY.out]; omega)] at h)
        go_wp2
        go_ret
        exact ⟨by simp [HF.out], _, rfl⟩
  · have hb : ((n : Int) != m) = true := by simp; omega
    have HF := hide (show xs ≠ ys from fun e => hnm (by rw [← HX.out, ← HY.out, e]))
    go_enter Try.func17, Try.ntmps17
    go_wp2
    go_ret
    exact ⟨by simp [HF.out], 0, rfl⟩

end Go.Proofs.Ytcdhbdhhknlbaaa
namespace Go.Proofs.Ytcdhbdhhknlbaaa
set_option linter.unusedVariables false
set_option linter.unusedSimpArgs false
open Go.RowKit

def litL : List Tx := [[97], [97, 98], [97, 98, 99], [98]]
def litV : List Nat := [5, 6, 7, 300]
def litF9 : List UInt8 := [4, 1, 97, 1, 1, 98, 2, 1, 99, 0, 1, 98, 5, 6, 7, 172, 2]
theorem form9_lit : Form9 litF9 litL litV := by
  refine ⟨⟨by decide, by decide, by decide, ?_⟩, ?_, by decide⟩
  · rw [asc_iff]
    intro i hi
    have hi : i + 1 < 4 := hi
    rcases i with _ | _ | _ | i
    · decide
    · decide
    · decide
    · omega
  · intro v hv
    simp [litV] at hv
    rcases hv with rfl | rfl | rfl | rfl <;> decide

set_option maxRecDepth 100000 in
theorem form_any (w : World) : Calls Try.prog 39 #[] w (fun en w' => ∃ g, en = .returned (.slice (some ⟨g, 0, none⟩) 17 17) ∧ w.heap.size ≤ g ∧ Rd w' w'.heap.size (some ⟨g, 0, none⟩) (by8 litF9) ∧ Fr No w w') := by
  go_enter Try.func39, Try.ntmps39
  go_wp2
  go_ret
  refine ⟨w.heap.size, rfl, Nat.le_refl _, ?_, (Fr.refl No w).alloc _⟩
  have h := Rd.block (heap_alloc_new w (.cells #[.int .u8 4, .int .u8 1, .int .u8 97, .int .u8 1, .int .u8 1, .int .u8 98, .int .u8 2, .int .u8 1, .int .u8 99, .int .u8 0, .int .u8 1, .int .u8 98, .int .u8 5, .int .u8 6, .int .u8 7, .int .u8 172, .int .u8 2] 5))
  exact h.more (by simp)

def GivesD (w : World) (l : List Tx) (vs : List Nat) (en : Ending) (w' : World) : Prop := ∃ G, en = .returned (.pointer (some ⟨G, 0, none⟩)) ∧ DictP w' w.heap.size (some ⟨G, 0, none⟩) l vs ∧ Fr No w w'
set_option maxRecDepth 100000 in
set_option maxHeartbeats 400000 in
theorem given_any (w : World) : Calls Try.prog 29 #[] w (GivesD w litL litV) := by
  go_enter Try.func29, Try.ntmps29
  go_wp2_with (fail)
  refine (form_any w).mono ?_
  rintro en w1 ⟨g, rfl, hg, hrd, hfr⟩
  have HO := hide (topen_any (some ⟨g, 0, none⟩) 17 17 w1.heap.size litF9 w1 rfl (Nat.le_refl _) (by unfold maxLen; omega) (by omega) (Nat.le_refl _) hrd)
  have HF := hide hfr
  clear hrd hfr hg
  go_wp2_with (fail)
  refine HO.out.mono ?_
  rintro en w2 ⟨hfr, (⟨G, l, vs, hf, rfl, hd⟩ | ⟨hno, rfl⟩)⟩
  · obtain ⟨rfl, rfl⟩ := form9_inj hf form9_lit
    have HD := hide hd
    have HF2 := hide (HF.out.tr hfr)
    have HL := hide hfr
    clear hf hd hfr
    go_wp2_with (fail)
    go_ret
    refine ⟨G, rfl, ⟨.inr ⟨G, rfl, ?_⟩⟩, HF2.out⟩
    obtain ⟨⟨lo, vb, vf, vals, q1, q2, q3, q4⟩, ok, u⟩ := HD.out
    have hs := HF.out.size
    exact ⟨⟨Nat.le_trans hs lo, vb, vf, vals, q1, q2.lower hs, q3.lower hs, q4.lower hs⟩, ok, u⟩
  · exact absurd form9_lit (hno _ _)

set_option maxRecDepth 100000 in
set_option maxHeartbeats 400000 in
theorem prefix_any (s : Tx) (f t : Int) (b1 b2 : Bool) (w : World) (hs : s.length ≤ maxLen) (h1 : (((lowT litL s : Nat) : Int) == f) = b1) (h2 : (((preT litL s : Nat) : Int) == t) = b2) :
    Calls Try.prog 32 #[.string ⟨s.toArray⟩, .int .i64 f, .int .i64 t] w (RetB (b1 && b2) w) := by
  have HP := hide (fun W G (hD : DictP W w.heap.size (some ⟨G, 0, none⟩) litL litV) => pprefix_any w.heap.size _ litL litV s W hD hs)
  unfold PrePost at HP
  generalize lowT litL s = x at HP h1
  generalize preT litL s = y at HP h2
  generalize (⟨s.toArray⟩ : ByteArray) = S at HP ⊢
  have H1 := hide h1
  have H2 := hide h2
  clear h1 h2 hs
  cases b1 with
  | true =>
    have e1 := H1.out
    go_enter Try.func32, Try.ntmps32
    go_wp2_with (fail)
    refine (given_any w).mono ?_
    rintro en w1 ⟨G, rfl, hD, hfr⟩
    have HPG := hide (HP.out w1 G hD)
    have HF := hide hfr
    clear hD hfr
    go_wp2_with (fail)
    refine HPG.out.mono ?_
    rintro en w2 ⟨rfl, hfr⟩
    have HF2 := hide (HF.out.tr hfr)
    clear hfr
    go_wp2_with (fail)
    go_ret
    exact ⟨by first | rfl | rw [H2.out]; rfl | simp [H2.out], HF2.out⟩
  | false =>
    have e1 := H1.out
    go_enter Try.func32, Try.ntmps32
    go_wp2_with (fail)
    refine (given_any w).mono ?_
    rintro en w1 ⟨G, rfl, hD, hfr⟩
    have HPG := hide (HP.out w1 G hD)
    have HF := hide hfr
    clear hD hfr
    go_wp2_with (fail)
    refine HPG.out.mono ?_
    rintro en w2 ⟨rfl, hfr⟩
    have HF2 := hide (HF.out.tr hfr)
    clear hfr
    go_wp2_with (fail)
    go_ret
    exact ⟨by first | rfl | simp [H2.out], HF2.out⟩

set_option maxRecDepth 100000 in
set_option maxHeartbeats 1600000 in
theorem awake_any (w : World) : Calls Try.prog 10 #[] w (RetB true w) := by
  obtain ⟨w1, hw1⟩ : ∃ W, W = w.alloc (.cells #[.string ⟨#[97]⟩, .string ⟨#[97, 98]⟩, .string ⟨#[97, 98, 99]⟩, .string ⟨#[98]⟩] 9) := ⟨_, rfl⟩
  obtain ⟨w2, hw2⟩ : ∃ W, W = w1.alloc (.cells #[.int .u64 5, .int .u64 6, .int .u64 7, .int .u64 300] 40) := ⟨_, rfl⟩
  have HF1 : Hid (Fr No w w1) := hide (by rw [hw1]; exact (Fr.refl No w).alloc _)
  have HF2 : Hid (Fr No w w2) := hide (by rw [hw2]; exact HF1.out.alloc _)
  have r1 : Rd w2 w2.heap.size (some ⟨w.heap.size, 0, none⟩) (svs litL) := by
    have h := Rd.block (heap_alloc_new w (.cells #[.string ⟨#[97]⟩, .string ⟨#[97, 98]⟩, .string ⟨#[97, 98, 99]⟩, .string ⟨#[98]⟩] 9))
    rw [← hw1] at h
    have h2 := (h.fr0 ((Fr.refl No w1).alloc (.cells #[.int .u64 5, .int .u64 6, .int .u64 7, .int .u64 300] 40)))
    rw [← hw2] at h2
    exact h2.more (by rw [hw2, hw1]; simp)
  have hs1 : w1.heap.size = w.heap.size + 1 := by rw [hw1]; simp
  have r2 : Rd w2 w2.heap.size (some ⟨w.heap.size + 1, 0, none⟩) (un litV) := by
    have h := Rd.block (heap_alloc_new w1 (.cells #[.int .u64 5, .int .u64 6, .int .u64 7, .int .u64 300] 40))
    rw [← hw2, hs1] at h
    exact h.more (by rw [hw2]; simp [hs1])
  have HB := hide (tbuild_any (some ⟨w.heap.size, 0, none⟩) (some ⟨w.heap.size + 1, 0, none⟩) 4 4 4 4 w2.heap.size litL litV w2 rfl (Nat.le_refl _) (by unfold maxLen; omega) rfl (Nat.le_refl _) (by unfold maxLen; omega) (Nat.le_refl _) r1 r2 (fun t ht => Nat.le_trans (form9_lit.1.2.2.1 t ht) (by unfold maxLen; omega)) form9_lit.2.1)
  have HW1 := hide hw1
  have HW2 := hide hw2
  clear hw1 hw2 r1 r2 hs1
  go_enter Try.func10, Try.ntmps10
  go_wp2_with (fail)
  rw [← HW1.out, ← HW2.out]
  refine HB.out.mono ?_
  rintro en w3 ⟨hfr, (⟨_, A, m, hm, rfl, hO⟩ | ⟨hno, _⟩)⟩
  rotate_left
  · exact absurd form9_lit.1 hno
  rw [form9_lit.2.2] at hm hO
  obtain rfl : m = 17 := hm
  have HO3 := hide hO
  have HF3 : Hid (Fr No w w3) := hide (HF2.out.tr hfr)
  clear hfr hO HB
  go_wp2_with (fail)
  refine (given_any w3).mono ?_
  rintro en w4 ⟨G, rfl, hD, hfr⟩
  have HFi := hide (pfind_any w3.heap.size _ litL litV [97, 98] w4 hD)
  rw [show findV litL [97, 98] = .tuple #[.int .i64 1, .bool true] from rfl] at HFi
  have HF4 : Hid (Fr No w3 w4) := hide hfr
  clear hfr hD
  go_wp2_with (fail)
  refine HFi.out.mono ?_
  rintro en w5 ⟨rfl, hfr⟩
  have HF5 : Hid (Fr No w3 w5) := hide (HF4.out.tr hfr)
  clear hfr HFi
  go_wp2_with (fail)
  refine (form_any w5).mono ?_
  rintro en w6 ⟨g, rfl, hg, hrd, hfr⟩
  have HF6 : Hid (Fr No w3 w6) := hide (HF5.out.tr hfr)
  have HK := hide (kbytes_any A (some ⟨g, 0, none⟩) 17 17 17 17 w6.heap.size w6.heap.size litF9 litF9 w6 rfl rfl (Nat.le_refl _) (by unfold maxLen; omega) (Nat.le_refl _) (by unfold maxLen; omega) (HO3.out.fr0 HF6.out).rd hrd)
  rw [decide_eq_true rfl] at HK
  clear hrd hfr hg
  go_wp2_with (fail)
  refine HK.out.mono ?_
  rintro en w7 ⟨rfl, hq⟩
  have HF7 : Hid (Fr No w w7) := hide (by obtain ⟨nq, rfl⟩ := hq; exact (HF3.out.tr HF6.out).drewN nq)
  clear hq
  go_wp2_with (fail)
  refine (given_any w7).mono ?_
  rintro en w8 ⟨G2, rfl, hD, hfr⟩
  have HAt := hide (pat_any w7.heap.size _ litL litV w8 3 hD)
  rw [show valAt litV 3 = 300 from rfl] at HAt
  have HF8 : Hid (Fr No w w8) := hide (HF7.out.tr hfr)
  clear hfr hD
  go_wp2_with (fail)
  refine HAt.out.mono ?_
  rintro en w9 ⟨rfl, hfr⟩
  have HF9 : Hid (Fr No w w9) := hide (HF8.out.tr hfr)
  clear hfr HAt
  go_wp2_with (fail)
  refine (prefix_any [97, 98] 1 3 true true w9 (by unfold maxLen; decide) rfl rfl).mono ?_
  rintro en w10 ⟨rfl, hfr⟩
  have HF10 : Hid (Fr No w w10) := hide (HF9.out.tr hfr)
  clear hfr
  go_wp2_with (fail)
  go_ret
  exact ⟨rfl, HF10.out⟩
end Go.Proofs.Ytcdhbdhhknlbaaa
namespace Go.Proofs.Ytcdhbdhhknlbaaa
set_option linter.unusedVariables false
set_option linter.unusedSimpArgs false
open Go.RowKit

theorem tbeq_dec (a b : Tx) : (a == b) = decide (a = b) := by by_cases h : a = b <;> simp [h]
set_option maxRecDepth 100000 in
set_option maxHeartbeats 800000 in
theorem sameS_any (A B : Option Addr) (n c m d b1 b2 : Nat) (xs ys : List Tx) (w : World) (hx : xs.length = n) (hy : ys.length = m) (hn : n ≤ c) (hc : c ≤ maxLen) (hm : m ≤ d) (hd : d ≤ maxLen) (hr : Rd w b1 A (svs xs)) (hs : Rd w b2 B (svs ys)) :
    Calls Try.prog 18 #[.slice A n c, .slice B m d] w (RetQ (.bool (decide (xs = ys))) w) := by
  unfold maxLen at hc hd
  have HX := hide hx
  have HY := hide hy
  have HR := hide hr
  have HS := hide hs
  clear hx hy hr hs
  by_cases hnm : n = m
  · subst hnm
    have hb : ((n : Int) != n) = false := by simp
    go_enter Try.func18, Try.ntmps18
    go_wp2
    go_loopw [5] (fun i wr => ∃ k nq : Nat, k ≤ n ∧ i = .int .i64 k ∧ wr = w.drewN nq ∧ Hid (xs.take k = ys.take k)) (fun i _ => n - (intOf i).toNat)
    case atStart => exact ⟨0, 0, by omega, rfl, rfl, hide rfl⟩
    case round =>
      obtain ⟨k, nq, hk, rfl, rfl, HT⟩ := hrel
      by_cases hlt : k < n
      · have h1 : k < xs.length := by rw [HX.out]; exact hlt
        have h2 : k < ys.length := by rw [HY.out]; exact hlt
        obtain ⟨ad, X, rfl, _, hcell, _, hX, _⟩ := cellStr HR.out h1
        obtain ⟨bd, Y, rfl, _, hcell2, _, hY, _⟩ := cellStr HS.out h2
        have HE : Hid (xs.getD k [] = ys.getD k [] → xs.take (k + 1) = ys.take (k + 1)) := hide (fun he => by rw [take_getD [] h1, take_getD [] h2, HT.out, he])
        have HN : Hid (xs.getD k [] ≠ ys.getD k [] → xs ≠ ys) := hide (fun h e => h (by rw [e]))
        have hq : (X.toList == Y.toList) = decide (xs.getD k [] = ys.getD k []) := by rw [hX, hY]; exact tbeq_dec _ _
        clear h1 h2 hX hY
        by_cases he : xs.getD k [] = ys.getD k []
        · have HE' := hide (HE.out he)
          rw [decide_eq_true he] at hq
          have hq2 : (X.toList != Y.toList) = false := by simpa [bne] using hq
          clear HE HN he
          go_wp2
          go_quiet (fail)
          go_wp2
          go_round
          case rel => exact ⟨k + 1, _, by omega, by go_num, rfl, HE'⟩
          case measure => simp [intOf]; omega
        · rw [decide_eq_false he] at hq
          have hq2 : (X.toList != Y.toList) = true := by simpa [bne] using hq
          have HF := hide (HN.out he)
          clear HN HE he
          go_wp2
          go_quiet (fail)
          go_wp2
          go_ret
          exact ⟨by rw [decide_eq_false HF.out]; rfl, _, World.drewN_drewN _ _ _⟩
      · have HF := hide (show xs = ys by
          have h := HT.out
          rwa [List.take_of_length_le (by rw [HX.out]; omega), List.take_of_length_le (by rw [HY.out]; omega)] at h)
        go_wp2
        go_ret
        exact ⟨by rw [decide_eq_true HF.out]; rfl, _, rfl⟩
  · have hb : ((n : Int) != m) = true := by simp; omega
    have HF := hide (show xs ≠ ys from fun e => hnm (by rw [← HX.out, ← HY.out, e]))
    go_enter Try.func18, Try.ntmps18
    go_wp2
    go_ret
    exact ⟨by rw [decide_eq_false HF.out]; rfl, 0, rfl⟩

def markT : Tx := [109, 97, 114, 107]
def GivesLentS (w : World) (xs : List Tx) (en : Ending) (w' : World) : Prop :=
  ∃ A c, en = .returned (.slice A xs.length c) ∧ Own w' w.heap.size 9 1 (.slice A (xs.length + 1) c) (xs.length + 1) (svs (xs ++ [markT])) ∧ Fr No w w'
theorem svs_one (xs : List Tx) : ∀ u ∈ svs xs, u.oneCell' = true := by
  intro u hu
  obtain ⟨t, _, rfl⟩ := List.mem_map.1 hu
  rfl

set_option maxRecDepth 100000 in
set_option maxHeartbeats 800000 in
theorem lentS_any (A : Option Addr) (n c B : Nat) (xs : List Tx) (w : World) (hl : xs.length = n) (hb : (n + 1) * 16 ≤ 140737488355328) (hr : Rd w B A (svs xs)) :
    Calls Try.prog 20 #[.slice A n c] w (GivesLentS w xs) := by
  obtain ⟨i0, hi, hz, hsz, hby⟩ := info_parts Try.infoS
  have HS := hide (Src.ofRd (P := Try.prog) (size := 1) w Try.underlying22 A n c (svs xs) (by rw [svs_len, hl]; omega) (by omega) hr (svs_one _))
  have HL := hide hl
  clear hr hl
  have b1 : (0 + n) * 16 ≤ 140737488355328 := by omega
  have b2 : 0 + n ≤ maxLen := by unfold maxLen; omega
  have c1 : (0 + n + 1) * 16 ≤ 140737488355328 := by omega
  have c2 : 0 + n + 1 ≤ maxLen := by unfold maxLen; omega
  have HO0 := hide (Own.nil w w.heap.size 9 1)
  go_enter Try.func20, Try.ntmps20
  go_wp2_with (first
    | (at_builtin; refine wpList_append_gen _ rfl (.tmp 4) (.tmp 5) 22 22 rfl w.heap.size 9 i0 (.string ⟨#[]⟩) 1 16 Try.underlying22 hi hz hsz hby rfl (.slice none 0 0) 0 [] rfl HO0.out _ n (svs xs) rfl HS.out b1 b2 (Nat.le_refl _) ?_; intro v1 w1 hown hfr hat; have HO1 := hide hown; have HF1 : Hid (Fr No w w1) := hide ((Fr.refl No w).own hfr (fun g h => by cases h)); have hz1 := hfr.size; clear hown hfr hat)
    | (at_builtin; refine wpList_append_gen _ rfl (.tmp 7) (.tmp 8) 22 22 rfl w.heap.size 9 i0 (.string ⟨#[]⟩) 1 16 Try.underlying22 hi hz hsz hby rfl v1 (0 + n) _ rfl (HO1.out.fr0 ((Fr.refl No w1).alloc (.cells #[.string ⟨#[109, 97, 114, 107]⟩] 9))) _ 1 [.string ⟨#[109, 97, 114, 107]⟩] rfl (Src.one (P := Try.prog) w1 (e := 9) Try.underlying22 (.string ⟨#[109, 97, 114, 107]⟩) rfl) c1 c2 (by simp; omega) ?_; intro v2 w2 hown hfr hat; obtain ⟨A2, k2, rfl, hc1, hc2, _⟩ := hown.form; unfold maxLen at hc2; have HO2 := hide hown; have HF2 : Hid (Fr No w w2) := hide ((HF1.out.alloc _).own hfr (fun g hg => .inl (HO1.out.lt g hg).1)); clear hown hfr hat))
  go_ret
  refine ⟨A2, k2, ?_, ?_, HF2.out⟩
  · rw [HL.out]; first | rfl | simp
  · have h := HO2.out
    rw [HL.out, svs_snoc]
    simpa [sv, markT] using h

set_option maxRecDepth 100000 in
set_option maxHeartbeats 800000 in
theorem keptS_any (A B : Option Addr) (n c m d b1 b2 : Nat) (xs : List Tx) (w : World) (hx : xs.length = n) (hm : xs.length = m) (hn : n + 1 ≤ c) (hc : c ≤ maxLen) (hmd : m ≤ d) (hd : d ≤ maxLen) (hr : Rd w b1 A (svs (xs ++ [markT]))) (hs : Rd w b2 B (svs xs)) :
    Calls Try.prog 22 #[.slice A n c, .slice B m d] w (RetQ (.bool true) w) := by
  have hr1 : Rd w b1 A (svs xs) := by
    have h := hr.tk xs.length
    rw [svs_snoc, ← svs_len xs, List.take_left] at h
    exact h
  have HK := hide (sameS_any A B n c m d b1 b2 xs xs w hx hm (by omega) hc hmd hd hr1 hs)
  rw [decide_eq_true rfl] at HK
  obtain ⟨ad, X, rfl, _, hcell, _, hX, _⟩ := cellStr hr (k := n) (by simp; omega)
  have e1 : (xs ++ [markT]).getD n [] = markT := by rw [← hx]; simp
  rw [e1] at hX
  have hq : (X.toList == ([109, 97, 114, 107] : List UInt8)) = true := by rw [hX]; rfl
  have hq2 : (X.toList == (ByteArray.mk #[109, 97, 114, 107]).toList) = true := by rw [hX, ByteArray.toList_eq]; rfl
  unfold maxLen at hc
  clear hr hs hr1 hx hm e1 hX
  go_enter Try.func22, Try.ntmps22
  go_wp2_with (go_at_call 18; refine HK.out.mono ?_; rintro en w2 ⟨rfl, nq, rfl⟩)
  go_ret
  exact ⟨by first | rfl | rw [hq2] | simp [hq2], _, rfl⟩

end Go.Proofs.Ytcdhbdhhknlbaaa
namespace Go.Proofs.Ytcdhbdhhknlbaaa
set_option linter.unusedVariables false
set_option linter.unusedSimpArgs false
open Go.ChangeShapes Go.WideShapes Go.ChangeAt Go.RowKit

theorem Try.own : ownKnob Try.prog.godebug = none := by kernel_rfl
theorem Try.laidOut : laidOutB Try.prog = true := by kernel_rfl

/-- bytes that came in. -/
theorem open8 {H : Type} {enc : TypeId × Value → H} {W : World} {a : Option Addr} {len cap : Nat} {d : DataW H} {p : List MemPlace}
    (h : DataW.Trod enc Try.prog W 0 (fun _ => true) true 24 (.slice a len cap) d p)
    (hsz : ∀ elems spare, d = .slice elems spare → (elems.length + spare.length) * Try.prog.bytesOf 5 ≤ reachBytes) :
    ∃ bs : List UInt8, bs.length = len ∧ len ≤ cap ∧ cap ≤ maxLen ∧ cap ≤ 140737488351232 ∧ Rd W W.heap.size a (by8 bs) := by
  obtain ⟨fuel, hf⟩ := h
  rcases open_ints Try.underlying24 Try.underlying5 (by kernel_rfl) hf with ⟨hcs, _⟩ | ⟨x, l, c, zs, hcs, _, hl, hm, hz, hd, hcell, hwz⟩
  · simp [Value.cells] at hcs
    obtain ⟨rfl, rfl, rfl⟩ := hcs
    exact ⟨[], rfl, Nat.le_refl _, Nat.zero_le _, Nat.zero_le _, Rd.nil _ _ _⟩
  · simp [Value.cells] at hcs
    obtain ⟨rfl, rfl, rfl⟩ := hcs
    injection hd with hd _
    have hz : zs.length = cap := by simpa using hz
    have hs := hsz _ _ hd
    have hby : Try.prog.bytesOf 5 = 1 := by kernel_rfl
    rw [hby] at hs
    have hlen : (lits (H := H) .u8 (zs.take len)).length + (lits (H := H) .u8 (zs.drop len)).length = cap := by simp [lits]; omega
    rw [hlen] at hs
    refine ⟨(zs.take len).map fun n => UInt8.ofNat n.toNat, by simp; omega, hl, hm, by simpa [reachBytes] using hs, ?_⟩
    intro j u hu
    simp only [by8, List.map_map, List.getElem?_map, List.getElem?_take] at hu
    split at hu
    · rename_i hj
      have hjz : j < zs.length := by omega
      rw [List.getElem?_eq_getElem hjz] at hu
      injection hu with hu
      have hc := hcell j hjz
      have hw := hwz zs[j] (List.getElem_mem hjz)
      have hb : 0 ≤ zs[j] ∧ zs[j] ≤ 255 := by simpa [Lit.wf, IntKind.min, IntKind.max, IntKind.signed, IntKind.bits] using hw
      have hv : (((UInt8.ofNat zs[j].toNat).toNat : Nat) : Int) = zs[j] := by
        have h1 : (UInt8.ofNat zs[j].toNat).toNat = zs[j].toNat := by simp [UInt8.toNat_ofNat]; omega
        rw [h1]; omega
      have he : zs.getD j 0 = zs[j] := by simp [List.getElem?_eq_getElem hjz]
      rw [he] at hc
      refine ⟨x, rfl, ?_, ?_⟩
      · have := World.block_lt_of_cell? W _ hc
        rwa [block_of_add] at this
      · rw [hc, ← hu]
        simp only [Function.comp_apply, hv]
    · cases hu
end Go.Proofs.Ytcdhbdhhknlbaaa
namespace Go.Proofs.Ytcdhbdhhknlbaaa
set_option linter.unusedVariables false
set_option linter.unusedSimpArgs false
open Go.ChangeShapes Go.WideShapes Go.ChangeAt Go.RowKit

theorem openS {H : Type} {enc : TypeId × Value → H} {W : World} {a : Option Addr} {len cap : Nat} {d : DataW H} {p : List MemPlace}
    (h : DataW.Trod enc Try.prog W 0 (fun _ => true) true 22 (.slice a len cap) d p)
    (hsz : ∀ elems spare, d = .slice elems spare → (elems.length + spare.length) * Try.prog.bytesOf 9 ≤ reachBytes) :
    ∃ l : List Tx, l.length = len ∧ len ≤ cap ∧ cap ≤ maxLen ∧ cap * 16 ≤ 140737488351232 ∧ Rd W W.heap.size a (svs l) ∧ ∀ t ∈ l, t.length ≤ maxLen := by
  obtain ⟨fuel, hf⟩ := h
  rcases open_strings Try.underlying22 Try.underlying9 (by kernel_rfl) hf with ⟨hcs, _⟩ | ⟨x, l, c, ss, hcs, _, hl, hm, hz, hd, hcell, hwz⟩
  · simp [Value.cells] at hcs
    obtain ⟨rfl, rfl, rfl⟩ := hcs
    exact ⟨[], rfl, Nat.le_refl _, Nat.zero_le _, Nat.zero_le _, Rd.nil _ _ _, fun z hz => by cases hz⟩
  · simp [Value.cells] at hcs
    obtain ⟨rfl, rfl, rfl⟩ := hcs
    injection hd with hd _
    have hz : ss.length = cap := by simpa using hz
    have hs := hsz _ _ hd
    have hby : Try.prog.bytesOf 9 = 16 := by kernel_rfl
    rw [hby] at hs
    have hlen : (strs (H := H) (ss.take len)).length + (strs (H := H) (ss.drop len)).length = cap := by simp [strs]; omega
    rw [hlen] at hs
    refine ⟨(ss.take len).map (fun s => s.data.toList), by simp; omega, hl, hm, by simpa [reachBytes] using hs, ?_, ?_⟩
    · intro j u hu
      simp only [svs, List.getElem?_map, List.getElem?_take] at hu
      split at hu
      · rename_i hj
        have hjz : j < ss.length := by omega
        rw [List.getElem?_eq_getElem hjz] at hu
        simp only [Option.map_some, Option.some.injEq] at hu
        have hc := hcell j hjz
        have he : ss.getD j ByteArray.empty = ss[j] := by simp [List.getElem?_eq_getElem hjz]
        rw [he] at hc
        have hu2 : u = .string ss[j] := by rw [← hu, sv]
        refine ⟨x, rfl, ?_, by rw [hc, hu2]⟩
        have := World.block_lt_of_cell? W _ hc
        rwa [block_of_add] at this
      · cases hu
    · intro t ht
      obtain ⟨s, hs2, rfl⟩ := List.mem_map.1 ht
      have := hwz s (List.mem_of_mem_take hs2)
      rw [Array.length_toList]
      exact this
end Go.Proofs.Ytcdhbdhhknlbaaa
namespace Go.Proofs.Ytcdhbdhhknlbaaa
set_option linter.unusedVariables false
set_option linter.unusedSimpArgs false
open Go.ChangeShapes Go.WideShapes Go.ChangeAt Go.RowKit

theorem openU64 {H : Type} {enc : TypeId × Value → H} {W : World} {a : Option Addr} {len cap : Nat} {d : DataW H} {p : List MemPlace}
    (h : DataW.Trod enc Try.prog W 0 (fun _ => true) true 23 (.slice a len cap) d p)
    (hsz : ∀ elems spare, d = .slice elems spare → (elems.length + spare.length) * Try.prog.bytesOf 40 ≤ reachBytes) :
    ∃ zs : List Int, zs.length = len ∧ len ≤ cap ∧ cap ≤ maxLen ∧ cap * 8 ≤ 140737488351232 ∧ Rd W W.heap.size a (iz .u64 zs) ∧ ∀ z ∈ zs, 0 ≤ z ∧ z ≤ 18446744073709551615 := by
  obtain ⟨fuel, hf⟩ := h
  rcases open_ints Try.underlying23 Try.underlying40 (by kernel_rfl) hf with ⟨hcs, _⟩ | ⟨x, l, c, zs, hcs, _, hl, hm, hz, hd, hcell, hwz⟩
  · simp [Value.cells] at hcs
    obtain ⟨rfl, rfl, rfl⟩ := hcs
    exact ⟨[], rfl, Nat.le_refl _, Nat.zero_le _, Nat.zero_le _, Rd.nil _ _ _, fun z hz => by cases hz⟩
  · simp [Value.cells] at hcs
    obtain ⟨rfl, rfl, rfl⟩ := hcs
    injection hd with hd _
    have hz : zs.length = cap := by simpa using hz
    have hs := hsz _ _ hd
    have hby : Try.prog.bytesOf 40 = 8 := by kernel_rfl
    rw [hby] at hs
    have hlen : (lits (H := H) .u64 (zs.take len)).length + (lits (H := H) .u64 (zs.drop len)).length = cap := by simp [lits]; omega
    rw [hlen] at hs
    refine ⟨zs.take len, by simp; omega, hl, hm, by simpa [reachBytes] using hs, ?_, ?_⟩
    · intro j u hu
      simp only [iz, List.getElem?_map, List.getElem?_take] at hu
      split at hu
      · rename_i hj
        have hjz : j < zs.length := by omega
        rw [List.getElem?_eq_getElem hjz] at hu
        injection hu with hu
        have hc := hcell j hjz
        have he : zs.getD j 0 = zs[j] := by simp [List.getElem?_eq_getElem hjz]
        rw [he] at hc
        refine ⟨x, rfl, ?_, by rw [hc, ← hu]⟩
        have := World.block_lt_of_cell? W _ hc
        rwa [block_of_add] at this
      · cases hu
    · intro z hz2
      have hw := hwz z (List.mem_of_mem_take hz2)
      simpa [Lit.wf, IntKind.min, IntKind.max, IntKind.signed, IntKind.bits] using hw


end Go.Proofs.Ytcdhbdhhknlbaaa
namespace Go.Proofs.Ytcdhbdhhknlbaaa
set_option linter.unusedVariables false
set_option linter.unusedSimpArgs false
open Go.RowKit

theorem form9_pre {bs r : List UInt8} {l l' : List Tx} {at_ at' : List Nat} (h : Form9 bs l at_) (h' : Form9 (bs ++ r) l' at') : r = [] := by
  obtain ⟨⟨f1, f2, f3, f4⟩, f5, f6⟩ := h
  have htb := tail_bod f2
  have key : ∀ j, j ≤ nbT l.length → OpA (bs ++ r) l.length j ((enc l.length).length + (bodB l at_ j).length) (l.take (16 * j)) (at_.take (16 * j)) := by
    intro j
    induction j with
    | zero =>
      intro _
      have hp : enc l.length <+: (bs ++ r).drop 0 := by
        rw [List.drop_zero, ← f6, dictB, List.append_assoc]
        exact List.prefix_append _ _
      have h1 := size_has (bs := bs ++ r) (a := 0) (u := l.length) (most := 1048576) (by omega) (by omega) hp
      rw [Nat.zero_add] at h1
      have := OpA.start h1
      simpa [bodB] using this
    | succ j ih =>
      intro hj
      have hj2 : 16 * j < l.length := by unfold nbT at hj; omega
      have h0 := ih (by omega)
      have hd : (bs ++ r).drop ((enc l.length).length + (bodB l at_ j).length) = tailB l at_ (16 * j) ++ r := by
        rw [← f6, dictB, htb j (by omega), ← List.drop_drop, List.append_assoc, List.drop_left, List.append_assoc, List.drop_left]
      have hb := blkOf_len l j
      have hv := valOf_len at_ j
      have hm : min 16 (l.length - 16 * j) = (blkOf l j).length := by omega
      have h2 := blk_has (bs := bs ++ r) (l := blkOf l j) (vs := valOf at_ j) (a := (enc l.length).length + (bodB l at_ j).length) (by omega) (by omega) (fun t ht => f3 t (mem_blk ht)) (asc_blk f4 j) (fun v hv => f5 v (mem_val hv)) (by
        rw [hd, tail_blk f2 hj2, List.append_assoc]
        exact List.prefix_append _ _)
      obtain ⟨h2, h3⟩ := h2
      have r1 : (rdT (bs ++ r) (min 16 (l.length - 16 * j)) ((enc l.length).length + (bodB l at_ j).length) 0).1 = some (blkOf l j) := by rw [hm, h2]
      have r2 : rdV (bs ++ r) (min 16 (l.length - 16 * j)) [] (rdT (bs ++ r) (min 16 (l.length - 16 * j)) ((enc l.length).length + (bodB l at_ j).length) 0).2.1 (rdT (bs ++ r) (min 16 (l.length - 16 * j)) ((enc l.length).length + (bodB l at_ j).length) 0).2.2 = (valOf at_ j, (enc l.length).length + (bodB l at_ j).length + (blkT (blkOf l j) (valOf at_ j)).length, 0) := by
        rw [hm, h2]
        exact h3
      have h1 := h0.step hj2 r1 r2 (fun h3 => by
        have e : (l.take (16 * j)).getD (16 * j - 1) [] = l.getD (16 * j - 1) [] := by
          simp [List.getElem?_take, show 16 * j - 1 < 16 * j by omega]
        rw [e, blkOf_get (by omega)]
        exact f4.lt (by omega) (by omega))
      have h2 := h1.1
      rw [bodB_succ, List.length_append, ← Nat.add_assoc, show 16 * (j + 1) = 16 * j + 16 by omega, List.take_add, List.take_add]
      exact h2
  obtain ⟨c1, _, _, c4⟩ := (key (nbT l.length) (Nat.le_refl _)).cmp l' at' h'
  have e1 : (bs ++ r).drop ((enc l.length).length + (bodB l at_ (nbT l.length)).length) = r := by
    rw [← f6, dict_bod f2, ← List.length_append, List.drop_left]
  rw [e1, tailB_end (by rw [c1]; unfold nbT; omega)] at c4
  exact c4
theorem form9_more {bs : List UInt8} {l : List Tx} {at_ : List Nat} (h : Form9 bs l at_) (x : UInt8) : ∀ l' at', ¬ Form9 (bs ++ [x]) l' at' := fun l' at' h' => by
  have := form9_pre h h'
  cases this
theorem form9_less {bs : List UInt8} {l : List Tx} {at_ : List Nat} (h : Form9 bs l at_) : ∀ l' at', ¬ Form9 (bs.take (bs.length - 1)) l' at' := fun l' at' h' => by
  have h0 : 0 < bs.length := by
    rw [← h.2.2, dictB, List.length_append]
    have := (enc_len l.length).1
    omega
  have e : bs = bs.take (bs.length - 1) ++ bs.drop (bs.length - 1) := (List.take_append_drop _ _).symm
  have h2 : Form9 (bs.take (bs.length - 1) ++ bs.drop (bs.length - 1)) l at_ := by rw [← e]; exact h
  have h3 := congrArg List.length (form9_pre h' h2)
  rw [List.length_drop] at h3
  simp at h3
  omega
theorem form9_same {bs : List UInt8} {l l' : List Tx} {at_ at' : List Nat} (h : Form9 bs l at_) {cs : List UInt8} (h' : Form9 cs l' at') : (decide (bs = cs) : Bool) = (decide (l = l') && decide (at_ = at')) := by
  by_cases e : bs = cs
  · subst e
    obtain ⟨h1, h2⟩ := form9_inj h h'
    rw [decide_eq_true rfl, decide_eq_true h1, decide_eq_true h2]
    rfl
  · rw [decide_eq_false e]
    by_cases e1 : l = l'
    · by_cases e2 : at_ = at'
      · exact absurd (by rw [← h.2.2, ← h'.2.2, e1, e2]) e
      · rw [decide_eq_false e2, Bool.and_false]
    · rw [decide_eq_false e1, Bool.false_and]
end Go.Proofs.Ytcdhbdhhknlbaaa
