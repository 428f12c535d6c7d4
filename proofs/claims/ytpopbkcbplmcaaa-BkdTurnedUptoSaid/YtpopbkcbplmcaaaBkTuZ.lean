/- BkdTurned, walked. -/
import Derived.Test.YtpopbkcbplmcaaaK14
import Derived.Deep.DeepCutAuto
namespace Go.Proofs.Ytpopbkcbplmcaaa
set_option linter.unusedVariables false
set_option linter.unusedSimpArgs false
open Go.RowKit

theorem kept_len2 {dims : Int} {l : List Pt} : (keptP dims l).length ≤ 200000000 := by
  by_cases hm : mayP dims l
  · obtain ⟨d, rfl⟩ : ∃ d : Nat, dims = (d : Int) := ⟨dims.toNat, by have := hm.1; omega⟩
    rw [keptP_yes hm, buildT, List.length_append, List.length_append]
    have h1 := (enc_len d).2
    have h2 := (enc_len l.length).2
    have h3 := hm.2.2.1
    by_cases h0 : l.length = 0
    · rw [treeP_leaf (by omega), List.length_cons, List.length_append, List.eq_nil_of_length_eq_zero h0]
      have h4 := (enc_len ([] : List Pt).length).2
      simp only [sortP, List.mergeSort_nil, ptsB, List.map_nil, List.flatten_nil, List.length_nil] at *
      omega
    · have h4 := treeP_le d _ l rfl (by omega) (fun p hp => by have := (hm.2.2.2 p hp).1; have := hm.2.1; omega)
      omega
  · rw [keptP_no hm]; simp
theorem tmod_in (z : Int) (m : Nat) (hm : 0 < m) : ∃ (r : Int) (k : Nat), z.tmod (m : Int) = r ∧ (if r < 0 then r + (m : Int) else r) = (k : Int) ∧ k < m ∧ -(m : Int) < r ∧ r < m := by
  have h1 := Int.tmod_lt_of_pos z (show (0 : Int) < m by omega)
  have h2 := Int.tmod_lt_of_pos (-z) (show (0 : Int) < m by omega)
  rw [Int.neg_tmod] at h2
  obtain ⟨r, hr⟩ : ∃ r, z.tmod (m : Int) = r := ⟨_, rfl⟩
  rw [hr] at h1 h2
  by_cases h : r < 0
  · exact ⟨r, (r + m).toNat, hr, by rw [if_pos h]; omega, by omega, by omega, by omega⟩
  · exact ⟨r, r.toNat, hr, by rw [if_neg h]; omega, by omega, by omega, by omega⟩
set_option maxRecDepth 100000 in
set_option maxHeartbeats 8000000 in
theorem bkdturned_any (A : Option Addr) (n c B : Nat) (dims turn at_ : Int) (x : UInt8) (l : List Po) (w : World) (hl : l.length = n) (hn : n ≤ c) (hc : c ≤ maxLen) (hc2 : n * 32 ≤ 140737488355328) (hns : ∀ e ∈ l, (e.2.length + 1) * 8 ≤ 140737488355328) (hB : B ≤ w.heap.size) (hi : InI2 l) (hr : RdPo w B A l) :
    Calls Try.prog 4 #[.int .i64 dims, .slice A n c, .int .i64 turn, .int .i64 at_, .int .u8 (x.toNat : Nat)] w (RetB true w) := by
  have HKn := hide (known13_any w)
  have HLe := hide (fun W (f : Fr No w W) => lentPo_any A n c B l W hl hn hc hc2 hns (Nat.le_trans hB f.size) (hr.fr0 f))
  have HL := hide hl
  have HI := hide hi
  have HC2 := hide hc2
  have HKl := hide (kept_len2 (dims := dims) (l := l))
  unfold maxLen at hc
  clear hl hr hns hi hB
  go_enter Try.func4, Try.ntmps4
  go_wp2_with (fail)
  refine HKn.out.mono ?_
  rintro en w0 ⟨rfl, hf0⟩
  have HF0 := hide hf0
  have HLe0 := hide (HLe.out w0 hf0)
  clear hf0 HKn HLe
  go_wp2_with (fail)
  refine HLe0.out.mono ?_
  rintro en w1 ⟨A1, c1, A2, c2, rfl, hle, hre, hf⟩
  obtain ⟨r1, r2, r3⟩ := hle.rd
  have HBb := hide (bbuild_any A1 n c1 w1.heap.size dims l w1 HL.out r2 r3 HC2.out (Nat.le_refl _) HI.out r1)
  have HF1 := hide (HF0.out.tr hf)
  have HR1 := hide r1
  have HC1 := hide (And.intro r2 r3)
  unfold maxLen at r3
  clear hle hre hf r1 HLe0
  obtain ⟨bs, hbs⟩ : ∃ K, K = keptP dims l := ⟨_, rfl⟩
  rw [← hbs] at HBb HKl
  have HBs := hide hbs
  obtain ⟨m, hm⟩ : ∃ m, m = bs.length := ⟨_, rfl⟩
  have HMl := hide hm
  clear hbs hm
  go_wp2_with (fail)
  refine HBb.out.mono ?_
  rintro en w2 ⟨v2, rfl, hown, hfr⟩
  rw [← HMl.out] at hown HKl
  obtain ⟨A3, c3, rfl, p1, p2, _, p3, _⟩ := hown.form
  have HF12 := hide hfr
  have HF2 := hide (HF1.out.tr hfr)
  have HR2 := hide p3
  have HC3 := hide (And.intro p1 p2)
  unfold maxLen at p2
  clear hown hfr HBb p3
  by_cases hm0 : m = 0
  · subst hm0
    clear HMl HC3
    go_wp2_with (fail)
    go_ret
    exact ⟨rfl, HF2.out⟩
  by_cases hn0 : n = 0
  · subst hn0
    have bm : ((m : Int) == 0) = false := by simp; omega
    clear hm0 HL
    go_wp2_with (fail)
    go_ret
    exact ⟨rfl, HF2.out⟩
  have hmay : mayP dims l := by
    by_cases h : mayP dims l
    · exact h
    · exact absurd (by rw [HMl.out, HBs.out, keptP_no h]; rfl) hm0
  obtain ⟨d, rfl⟩ : ∃ d : Nat, dims = (d : Int) := ⟨dims.toNat, by have := hmay.1; omega⟩
  have HM := hide hmay
  have HIs := hide (show IsB bs d l by rw [HBs.out]; exact may_isB hmay HI.out)
  have hn20 : n ≤ 1048576 := by have := hmay.2.2.1; have := HL.out; omega
  have bm : ((m : Int) == 0) = false := by simp; omega
  have bn : ((n : Int) == 0) = false := by simp; omega
  have hKl := HKl.out
  obtain ⟨r, k, hr, hk, hkn, hr1, hr2⟩ := tmod_in turn n (by omega)
  have HK := hide hk
  have hn1 : 1 ≤ n := by omega
  have hm1 : 1 ≤ m := by omega
  clear hmay hk hm0 hn0
  go_upto_if 47 with (fail)
  refine wp_named fun K hK => ?_
  go_cut [14] from 46 to 51 (fun v wx => v = .int .i64 k ∧ wx = w2)
  case first =>
    by_cases hneg : r < 0
    · have HN := hide hneg
      go_wp2
      go_meet
      exact ⟨by rw [← HK.out, if_pos HN.out], rfl⟩
    · have HN := hide hneg
      go_wp2
      go_meet
      exact ⟨by rw [← HK.out, if_neg (Int.not_lt.2 HN.out)], rfl⟩
  case rest =>
    obtain ⟨rfl, rfl⟩ := hcut
    refine hK _ _ ?_
    clear hK K hr hr1 hr2 HK bm bn
    obtain ⟨wB, rfl⟩ : ∃ W : World, W = wc := ⟨_, rfl⟩
    obtain ⟨ip, hip, hipz, hipsz, hipby⟩ := info_parts Try.infoBP
    go_upto_region 12 with (fail)
    go_loopg [15, 16] n (fun gk v i wr => ∃ (j : Nat) (qs : List PoL), j + gk = n ∧ i = .int .i64 (j : Nat) ∧ Hid (qs.map (·.1) = (rotL l k).take j) ∧ Hid (CPts wr wB.heap.size w1.heap.size v j qs) ∧ Hid (Fr No wB wr))
    case atStart => exact ⟨0, [], by omega, rfl, hide (by simp), hide (CPts.nil _ _ _), hide (Fr.refl _ _)⟩
    case round =>
      obtain ⟨j, qs, hj, rfl, HQs, HCp, HF⟩ := hrel
      obtain ⟨wo, rfl⟩ : ∃ wo : World, wo = wr := ⟨_, rfl⟩
      obtain ⟨Av, cv, rfl, hv1, hv2, _⟩ := HCp.out.own.form
      by_cases hlj : j < n
      · obtain ⟨ix, hix⟩ : ∃ ix, ix = (j + k) % n := ⟨_, rfl⟩
        have hixn : ix < n := by rw [hix]; exact Nat.mod_lt _ (by omega)
        have hrem : ((j : Int) + (k : Int)).tmod (n : Int) = (ix : Int) := by
          rw [hix, Int.tmod_eq_emod_of_nonneg (by omega)]
          simp
        have hixl : ix < l.length := by rw [HL.out]; exact hixn
        obtain ⟨ad, Ak, cp, rfl, _, kc0, kc1, hpc, hpm, hrp⟩ := ((HR1.out.fr0 HF12.out).fr0 HF.out).at hixl
        have HAt := hide (rotL_at (l := l) (k := k) (j := j) (by rw [HL.out]; exact hkn) (by rw [HL.out]; exact hlj))
        rw [HL.out, ← hix] at HAt
        have hjr : j < (rotL l k).length := by rw [rotL_len, HL.out]; exact hlj
        have HTk := hide (take_snocP hjr)
        obtain ⟨p, hp⟩ : ∃ p, p = l.getD ix noPo := ⟨_, rfl⟩
        rw [← hp] at kc0 kc1 hpc hrp
        rw [HAt.out, ← hp] at HTk
        obtain ⟨pd, P⟩ := p
        dsimp only at kc0 kc1 hpc hrp
        obtain ⟨pn, hpn⟩ : ∃ x, x = P.length := ⟨_, rfl⟩
        rw [← hpn] at kc1 hpc
        have HPn := hide hpn
        obtain ⟨g', rfl⟩ : ∃ g', gk = g' + 1 := ⟨gk - 1, by omega⟩
        have HJ := hide hj
        have HRp := hide hrp
        have HPm := hide hpm
        have fa : Fr No wo (wo.alloc (.cells #[.int .i64 pd, .slice Ak pn cp] 44)) := (Fr.refl No wo).alloc _
        have HSr := hide (src_bp wo pd Ak pn cp)
        have HCa := hide (HCp.out.fr0 fa)
        have HFa := hide (HF.out.tr fa)
        have HRa := hide (hrp.fr0 fa)
        have hza : wB.heap.size ≤ (wo.alloc (.cells #[.int .i64 pd, .slice Ak pn cp] 44)).heap.size := HFa.out.size
        have hz1 : w1.heap.size ≤ wB.heap.size := HF12.out.size
        have b1 : (j + 1) * 32 ≤ 140737488355328 := by omega
        have b2 : j + 1 ≤ maxLen := by unfold maxLen; omega
        have bn : ((n : Int) == 0) = false := by simp; omega
        unfold maxLen at hv2 hpm
        clear hix hixl hp hpn hj hrp fa hjr HAt
        go_wp2_with (at_builtin; refine wpList_append_gen _ rfl (.tmp 58) (.tmp 68) 25 25 rfl wB.heap.size 44 ip (.agg #[.int .i64 0, .slice none 0 0]) 2 32 Try.underlying25 hip hipz hipsz hipby rfl _ j _ rfl HCa.out.own _ 1 [.int .i64 pd, .slice Ak pn cp] rfl HSr.out b1 b2 hza ?_; intro v3 w3 o3 f3 hat; have HC3 : Hid (CPts w3 wB.heap.size w1.heap.size v3 (j + 1) (qs ++ [((pd, P), Ak, cp)])) := hide (HCa.out.snoc (p := (pd, P)) (A := Ak) (c := cp) hz1 (by dsimp only; rw [← HPn.out]; exact o3) f3 (by dsimp only; rw [← HPn.out]; exact hpc) HPm.out HRa.out); have HF3 := hide (HFa.out.own f3 (fun g hg => .inl (HCa.out.own.lt g hg).1)); clear o3 f3 hat)
        go_roundg g'
        case measure => omega
        case rel => exact ⟨j + 1, _, by have := HJ.out; omega, by go_num, hide (by rw [List.map_append, HQs.out, HTk.out]; rfl), HC3, HF3⟩
      · obtain rfl : j = n := by omega
        have hall : (rotL l k).take j = rotL l k := List.take_of_length_le (by rw [rotL_len, HL.out]; exact Nat.le_refl _)
        rw [hall] at HQs
        clear hall hlj hj HL
        obtain ⟨gc, rfl, _⟩ := HCp.out.own.storeP (k := 0) (by omega)
        obtain ⟨h, hh⟩ : ∃ h, h = j / 2 := ⟨_, rfl⟩
        have he : (j : Int) / 2 = (h : Int) := by omega
        have hh2 : 2 * h ≤ j := by omega
        have HQp : Hid (qs.Perm qs) := hide (List.Perm.refl _)
        unfold maxLen at hv2
        clear hh
        go_upto_region 16 with (fail)
        go_loopg [17, 18] h (fun gk i x wr => ∃ (t : Nat) (rs : List PoL), t + gk = h ∧ i = .int .i64 (t : Nat) ∧ Hid (rs.Perm qs) ∧ Hid (CPts wr wB.heap.size w1.heap.size (.slice (some ⟨gc, 0, none⟩) j cv) j rs) ∧ Hid (Fr No wB wr))
        case atStart => exact ⟨0, qs, by omega, rfl, HQp, HCp, HF⟩
        case round =>
          clear HQp HCp HF
          obtain ⟨t, rs, ht, rfl, HPr, HCp, HF⟩ := hrel
          obtain ⟨wo, rfl⟩ : ∃ wo : World, wo = wr := ⟨_, rfl⟩
          by_cases hlt : t < h
          · obtain ⟨a, ha⟩ : ∃ a, a = j - 1 := ⟨_, rfl⟩
            obtain ⟨b, hb⟩ : ∃ b, b = a - t := ⟨_, rfl⟩
            have e1 : (j : Int) - 1 = (a : Int) := by omega
            have e2 : (a : Int) - (t : Int) = (b : Int) := by omega
            have hbj : b < j := by omega
            have htb : t < b := by omega
            have htj : t < j := by omega
            obtain ⟨g', rfl⟩ : ∃ g', gk = g' + 1 := ⟨gk - 1, by omega⟩
            have HT := hide ht
            obtain ⟨q1, hq1, k10, k11, _, _, o1a, o1b, o1c⟩ := HCp.out.at htj
            have HQ1 := hide hq1
            have HO1 := hide (And.intro o1a (And.intro o1b o1c))
            obtain ⟨⟨⟨d1, P1⟩, A4, c4⟩, rfl⟩ : ∃ q, q = q1 := ⟨_, rfl⟩
            dsimp only at k10 k11
            obtain ⟨n1, hn1'⟩ : ∃ x, x = P1.length := ⟨_, rfl⟩
            rw [← hn1'] at k11
            have HN1 := hide hn1'
            clear ht ha hb hq1 o1a o1b o1c hn1'
            go_upto_region 19 with (fail)
            obtain ⟨W1, hW1⟩ : ∃ x, x = wo.alloc (.cells #[.int .i64 d1, .slice A4 n1 c4] 44) := ⟨_, rfl⟩
            obtain ⟨gx, hgx⟩ : ∃ x, x = wo.heap.size := ⟨_, rfl⟩
            rw [← hW1, ← hgx]
            have f1 : Fr No wo W1 := by rw [hW1]; exact (Fr.refl No wo).alloc _
            have hbx : W1.heap[gx]? = some (.cells #[.int .i64 d1, .slice A4 n1 c4] 44 (0, 0)) := by rw [hW1, hgx]; exact heap_alloc_new wo _
            have HC1 := hide (HCp.out.fr0 f1)
            have HF1 := hide (HF.out.tr f1)
            have HBx := hide hbx
            have hgcx : gc ≠ gx := fun e => by have := (HCp.out.own.lt gc rfl).2; omega
            have HNe := hide hgcx
            have HO1' := hide (And.intro HO1.out.1 (And.intro HO1.out.2.1 (HO1.out.2.2.fr0 f1)))
            obtain ⟨q2, hq2, k20, k21, z20, z21, o2a, o2b, o2c⟩ := HC1.out.at hbj
            obtain ⟨q1', hq1', m10, m11, z10, z11, _⟩ := HC1.out.at htj
            have HQ2 := hide hq2
            have HO2 := hide (And.intro o2a (And.intro o2b o2c))
            obtain ⟨⟨⟨d2, P2⟩, A5, c5⟩, rfl⟩ : ∃ q, q = q2 := ⟨_, rfl⟩
            dsimp only at k20 k21
            obtain ⟨n2, hn2'⟩ : ∃ x, x = P2.length := ⟨_, rfl⟩
            rw [← hn2'] at k21
            have HN2 := hide hn2'
            have m11' : (W1.setCell ⟨gc, t * 2, none⟩ (.int .i64 d2)).cell? ⟨gc, t * 2 + 1, none⟩ = some (.slice q1'.2.1 q1'.1.2.length q1'.2.2) := (World.cell?_setCell_other _ ⟨gc, t * 2, none⟩ ⟨gc, t * 2 + 1, none⟩ _ (by intro h; injection h; omega)).trans m11
            clear hW1 hgx f1 hbx hgcx hq2 o2a o2b o2c hn2' k10 k11 HCp HF hq1'
            go_upto_region 20 with (fail)
            obtain ⟨W2, hW2⟩ : ∃ x, x = (W1.setCell ⟨gc, t * 2, none⟩ (.int .i64 d2)).setCell ⟨gc, t * 2 + 1, none⟩ (.slice A5 n2 c5) := ⟨_, rfl⟩
            rw [← hW2]
            have hz1 : w1.heap.size ≤ wB.heap.size := HF12.out.size
            have hc2' := HC1.out.put (q := ((d2, P2), A5, c5)) hz1 htj HO2.out
            dsimp only at hc2'
            rw [← HN2.out, ← hW2] at hc2'
            have HC2' := hide hc2'
            have fg : Fr (Is gc) W1 W2 := by rw [hW2]; exact ((Fr.refl (Is gc) W1).setCell (p := ⟨gc, t * 2, none⟩) (fun _ => rfl) _).setCell (p := ⟨gc, t * 2 + 1, none⟩) (fun _ => rfl) _
            have hgB : wB.heap.size ≤ gc := (HC1.out.own.lt gc rfl).1
            have HF2' := hide (HF1.out.trans fg (fun i hi e => by have e : i = gc := e; omega))
            have hbx2 := fg.blk HBx.out (fun e => HNe.out (show gx = gc from e).symm)
            have kx0 : W2.cell? ⟨gx, 0, none⟩ = some (.int .i64 d1) := cell_of_row W2 _ 0 _ _ _ hbx2
            have kx1 : W2.cell? ⟨gx, 1, none⟩ = some (.slice A4 n1 c4) := cell_of_row W2 _ 1 _ _ _ hbx2
            obtain ⟨q3, _, y10, y11, y12, y13, _⟩ := hc2'.at hbj
            have y11' : (W2.setCell ⟨gc, b * 2, none⟩ (.int .i64 d1)).cell? ⟨gc, b * 2 + 1, none⟩ = some (.slice q3.2.1 q3.1.2.length q3.2.2) := (World.cell?_setCell_other _ ⟨gc, b * 2, none⟩ ⟨gc, b * 2 + 1, none⟩ _ (by intro h; injection h; omega)).trans y11
            have HO1w : Hid (P1.length ≤ c4 ∧ c4 ≤ maxLen ∧ Rd W2 w1.heap.size A4 (iz .i64 P1)) := hide ⟨HO1'.out.1, HO1'.out.2.1, HO1'.out.2.2.fr fg (fun k hk e => by have e : k = gc := e; omega)⟩
            have hc3 := HC2'.out.put (q := ((d1, P1), A4, c4)) hz1 hbj HO1w.out
            dsimp only at hc3
            rw [← HN1.out] at hc3
            have HC3 := hide hc3
            have HF3 : Hid (Fr No wB ((W2.setCell ⟨gc, b * 2, none⟩ (.int .i64 d1)).setCell ⟨gc, b * 2 + 1, none⟩ (.slice A4 n1 c4))) := hide ((HF2'.out.setCell (p := ⟨gc, b * 2, none⟩) (fun h => absurd h (by have := hgB; show ¬ gc < wB.heap.size; omega)) _).setCell (p := ⟨gc, b * 2 + 1, none⟩) (fun h => absurd h (by have := hgB; show ¬ gc < wB.heap.size; omega)) _)
            have HPn : Hid (((rs.set t ((d2, P2), A5, c5)).set b ((d1, P1), A4, c4)).Perm qs) := hide ((@swap_perm _ ⟨((0, []), none, 0)⟩ _ _ _ _ _ HQ1.out HQ2.out).trans HPr.out)
            clear hW2 hz1 hc2' fg hgB hbx2 hc3 m10 m11 m11' z10 z11 k20 k21 z20 z21
            go_wp2_with (fail)
            go_roundg g'
            case measure => omega
            case rel => exact ⟨t + 1, _, by have := HT.out; omega, by go_num, HPn, HC3, HF3⟩
          · obtain rfl : t = h := by omega
            have hpl : ((rs.map (·.1)).Perm l) := by
              have h1 := HPr.out.map (·.1)
              rw [HQs.out] at h1
              exact h1.trans (rotL_perm l k)
            have HPl := hide hpl
            clear hpl hlt ht hh2
            go_upto_region 21 with (fail)
            clear he
            obtain ⟨r2, kk, hr2, hkk, hkm, hb1, hb2⟩ := tmod_in at_ m hm1
            have HKk := hide hkk
            have bm : ((m : Int) == 0) = false := by simp; omega
            clear hkk
            obtain ⟨wC, rfl⟩ : ∃ W : World, W = wo := ⟨_, rfl⟩
            go_upto_if 105 with (fail)
            refine wp_named fun K hK => ?_
            go_cut [19] from 104 to 109 (fun v wx => v = .int .i64 kk ∧ wx = wC)
            case first =>
              by_cases hneg : r2 < 0
              · have HN := hide hneg
                go_wp2
                go_meet
                exact ⟨by rw [← HKk.out, if_pos HN.out], rfl⟩
              · have HN := hide hneg
                go_wp2
                go_meet
                exact ⟨by rw [← HKk.out, if_neg (Int.not_lt.2 HN.out)], rfl⟩
            case rest =>
              obtain ⟨rfl, rfl⟩ := hcut
              refine hK _ _ ?_
              clear hK K hr2 hb1 hb2 bm HKk
              obtain ⟨wD, rfl⟩ : ∃ W : World, W = wc := ⟨_, rfl⟩
              obtain ⟨i5, hi5, hz5, hsz5, hby5⟩ := info_parts Try.info5
              have hkc : kk ≤ c3 := by have := HC3.out.1; omega
              have hbt : (bs.take kk).length = kk := by rw [List.length_take, ← HMl.out]; omega
              have hrB := HR2.out.fr0 HF.out
              have HL1 := hide (lent8_any A3 kk c3 _ (bs.take kk) wD hbt (by omega) (by rw [by8_take]; exact hrB.tk kk))
              have HL2 := hide (fun (W : World) (f : Fr No wD W) => lent8_any A3 m c3 _ bs W HMl.out.symm (by omega) (hrB.fr0 f))
              have HBt := hide hbt
              have HNoC := hide (show ∀ d' l', ¬ IsB (bs.take kk) d' l' from fun d' l' h => by
                have e := isB_pre h HIs.out (List.take_prefix _ _)
                have := congrArg List.length e
                rw [hbt, ← HMl.out] at this
                omega)
              have HNoM := hide (show ∀ d' l', ¬ IsB (bs ++ [x]) d' l' from fun d' l' h => by
                have e := isB_pre HIs.out h (List.prefix_append _ _)
                have := congrArg List.length e
                simp at this)
              have HC3c := hide HC3.out.2
              clear hbt hrB
              go_wp2_with (fail)
              refine HL1.out.mono ?_
              rintro en w3 ⟨A6, c6, rfl, hown, hfr⟩
              rw [HBt.out] at hown ⊢
              have q3 := hown.le
              have HF3 : Hid (Fr No wD w3) := hide hfr
              have hrd : Rd w3 w3.heap.size A6 (by8 (bs.take kk)) := by
                have h := hown.rd.tk kk
                rw [← by8_take, List.take_append_of_le_length (by rw [HBt.out]; exact Nat.le_refl _), List.take_of_length_le (by rw [HBt.out]; exact Nat.le_refl _)] at h
                exact h
              have HOp3 := hide (callsIn_wide.1 (bopen_in 6 (Nat.le_refl _) kk c6 A6 (bs.take kk) _ w3 HBt.out (by omega) q3.2.2 (by omega) (Nat.le_refl _) hrd))
              clear hown hfr hrd q3 HL1
              go_wp2_with (fail)
              refine HOp3.out.mono ?_
              rintro en w4 hq
              obtain ⟨rfl, hfr⟩ := hq.no HNoC.out
              have HF4 : Hid (Fr No wD w4) := hide (HF3.out.tr hfr)
              clear hfr hq HOp3
              go_wp2_with (fail)
              refine (HL2.out w4 HF4.out).mono ?_
              rintro en w5 ⟨A7, c7, rfl, hown, hfr⟩
              rw [← HMl.out] at hown ⊢
              have q5 := hown.le
              have hcutO := hown.cut (k := m) (c' := c7) (by omega) (Nat.le_refl _) (by omega)
              rw [Nat.mul_one, ← by8_take, List.take_append_of_le_length (by rw [← HMl.out]; exact Nat.le_refl _), List.take_of_length_le (by rw [← HMl.out]; exact Nat.le_refl _)] at hcutO
              have HF5 : Hid (Fr No wD w5) := hide (HF4.out.tr hfr)
              have f5 : Fr No w5 (w5.alloc (.cells #[.int .u8 (x.toNat : Nat)] 5)) := (Fr.refl No w5).alloc _
              have HO5 := hide (hcutO.fr0 f5)
              have HS5 := hide (Src.one (P := Try.prog) w5 (e := 5) Try.underlying33 (.int .u8 (x.toNat : Nat)) rfl)
              have HF5b : Hid (Fr No wD (w5.alloc (.cells #[.int .u8 (x.toNat : Nat)] 5))) := hide (HF5.out.tr f5)
              have HHi := hide (HF4.out.size)
              have b1 : (m + 1) * 1 ≤ 140737488355328 := by omega
              have b2 : m + 1 ≤ maxLen := by unfold maxLen; omega
              have b3 : w4.heap.size ≤ (w5.alloc (.cells #[.int .u8 (x.toNat : Nat)] 5)).heap.size := Nat.le_trans hfr.size f5.size
              clear hown hfr q5 hcutO f5
              go_wp2_with (first
                | (at_builtin; refine wpList_append_gen _ rfl (.tmp 120) (.tmp 122) 33 33 rfl w4.heap.size 5 i5 (.int .u8 0) 1 1 Try.underlying33 hi5 hz5 hsz5 hby5 rfl (.slice A7 m c7) m (by8 bs) rfl HO5.out _ 1 [.int .u8 (x.toNat : Nat)] rfl HS5.out b1 b2 b3 ?_; intro v6 w6 hown hfr hat; obtain ⟨A8, c8, rfl, y1, y2, _⟩ := hown.form; have HO6 := hide hown; have HF6 : Hid (Fr No wD w6) := hide (HF5b.out.own hfr (fun g hg => .inl (by have := (HO5.out.lt g hg).1; have := HHi.out; omega))); have HX6 := hide (And.intro y1 y2); have HZ6 := hide (Nat.le_refl w6.heap.size); clear hown hfr hat HF5b HO5 HS5))
              have HOp6 := hide (callsIn_wide.1 (bopen_in 6 (Nat.le_refl _) (m + 1) c8 A8 (bs ++ [x]) w6.heap.size w6 (by rw [List.length_append, ← HMl.out]; rfl) HX6.out.1 HX6.out.2 (by omega) (Nat.le_refl _) (by rw [by8_append]; exact HO6.out.rd)))
              refine HOp6.out.mono ?_
              rintro en w7 hq
              obtain ⟨rfl, hfr⟩ := hq.no HNoM.out
              have HF7 : Hid (Fr No wD w7) := hide (HF6.out.tr hfr)
              have hz1 : w1.heap.size ≤ wD.heap.size := by have h1 := HF12.out.size; have h2 := HF.out.size; omega
              obtain ⟨Ac, cc, e, hrc, g1, g2⟩ := (HCp.out.fr0 HF7.out).rd (Nat.le_trans hz1 HF7.out.size)
              injection e with e1 e2 e3
              subst e1 e3
              have hlen : (rs.map (·.1)).length = j := by have := HCp.out.own.1; rw [pFlat_len] at this; rw [List.length_map]; omega
              have hpi : InI2 (rs.map (·.1)) := fun p hp => HI.out p (HPl.out.mem_iff.1 hp)
              have hkp : keptP (d : Int) (rs.map (·.1)) = bs := by rw [keptP_perm HPl.out, HBs.out]
              have HB7 := hide (bbuild_any _ j cv w7.heap.size (d : Int) (rs.map (·.1)) w7 hlen g1 g2 (by omega) (Nat.le_refl _) hpi hrc)
              rw [hkp] at HB7
              have hrB7 := (HR2.out.fr0 HF.out).fr0 HF7.out
              have HRb7 := hide hrB7
              clear hq hfr HOp6 hrc g1 g2 e2 hlen hpi hkp hrB7
              go_wp2_with (fail)
              refine HB7.out.mono ?_
              rintro en w8 ⟨v8, rfl, hown, hfr⟩
              rw [← HMl.out] at hown
              obtain ⟨A9, c9, rfl, t1, t2, _, t3, _⟩ := hown.form
              have HKb := hide (kbytes_any A9 A3 m c9 m c3 _ _ bs bs w8 HMl.out.symm HMl.out.symm t1 t2 HC3.out.1 HC3c.out t3 (HRb7.out.fr0 hfr))
              rw [decide_eq_true rfl] at HKb
              have HF8 := hide (((HF2.out.tr HF.out).tr HF7.out).tr hfr)
              unfold maxLen at t2
              clear hown hfr t3 HB7 HRb7
              go_wp2_with (fail)
              refine HKb.out.mono ?_
              rintro en w9 ⟨rfl, nq9, hq9⟩
              have HF9 := hide (show Fr No w w9 by rw [hq9]; exact HF8.out.drewN nq9)
              clear hq9 HKb
              go_wp2_with (fail)
              go_ret
              exact ⟨rfl, HF9.out⟩
end Go.Proofs.Ytpopbkcbplmcaaa
