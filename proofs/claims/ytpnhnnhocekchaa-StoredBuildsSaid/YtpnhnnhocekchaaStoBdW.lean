/- The walk of StoredBuilds: it answers true; nothing that was there has changed. -/
import Derived.Test.YtpnhnnhocekchaaK15
namespace Go.Proofs.Ytpnhnnhocekchaa
set_option linter.unusedVariables false
set_option linter.unusedSimpArgs false
open Go.RowKit

theorem LentD.rdD {w : World} {base n c : Nat} {A : Option Addr} {ds : List (List EntV)} (h : LentD w base (.slice A n c) ds) : RdD w w.heap.size A ds := fun k hk => by
  obtain ⟨g, R, rc, rfl, hc, he⟩ := h.at hk
  obtain ⟨ps, _, ho, _⟩ := id he
  obtain ⟨_, h1, h2⟩ := ho.le
  exact ⟨_, rfl, World.block_lt_of_cell? w _ hc, R, _, rc, hc, rfl, by omega, h2, he.rd⟩
theorem headB_le {cs : List (Nat × List UInt8)} : (headB cs).length ≤ 20 * cs.length := by
  induction cs with
  | nil => simp [headB]
  | cons x r ih =>
    have e : headB (x :: r) = (enc x.1 ++ enc x.2.length) ++ headB r := by simp [headB]
    have h1 := (enc_len x.1).2
    have h2 := (enc_len x.2.length).2
    rw [e, List.length_append, List.length_append, List.length_cons]
    omega
theorem bodyB_le {cs : List (Nat × List UInt8)} (h : ∀ x ∈ cs, x.2.length ≤ 268426) : (bodyB cs).length ≤ 268426 * cs.length := by
  induction cs with
  | nil => simp [bodyB]
  | cons x r ih =>
    have e : bodyB (x :: r) = x.2 ++ bodyB r := by simp [bodyB]
    have h1 := h x (by simp)
    have h2 := ih (fun y hy => h y (by simp [hy]))
    rw [e, List.length_append, List.length_cons]
    omega
theorem buildB_le (ds : List (List EntV)) : (buildB ds).length ≤ 4398300000 := by
  unfold buildB
  split
  · rename_i hm
    have h1 := (enc_len ds.length).2
    have h2 := (enc_len (cutsB ds).length).2
    have h3 := headB_le (cs := cutsB ds)
    have h4 := bodyB_le (cuts_small hm.2)
    have h5 := (cuts_cnt (ds := ds)).1
    have h6 := hm.1
    simp only [List.length_append]
    omega
  · simp
/-- what Open makes of a form. -/
theorem OpenOk.of_build {ds : List (List EntV)} {ks : List (Nat × Nat)} {cs : List ChV} (hm : mayB ds) (hi : DocsI ds) (h : OpenOk (buildB ds) ks cs) : docsC cs = ds ∧ cntC cs = cutsB ds := by
  have hl : (buildB ds).length < 18446744073709551616 := by have := buildB_le ds; omega
  obtain ⟨_, e⟩ := h.uniq (open_of_build hm hi rfl hl)
  obtain ⟨g1, _⟩ := groups_flat ds
  subst e
  refine ⟨by rw [docsC_groups, g1], ?_⟩
  rw [groups_cuts]
  unfold cntC
  rw [List.map_map]
  rfl

theorem LentD.fr0 {w w' : World} {base : Nat} {v : Value} {ds : List (List EntV)} (h : LentD w base v ds) (f : Fr No w w') : LentD w' base v ds := by
  obtain ⟨ps, h1, h2, h3⟩ := h
  exact ⟨ps, h1, h2.fr0 f, fun p hp => (h3 p hp).fr0 f⟩
theorem fr_of_drewN {w w' : World} {n : Nat} (h : w' = w.drewN n) : Fr No w w' := by subst h; exact (Fr.refl No w).drewN n
set_option maxRecDepth 100000 in
set_option maxHeartbeats 4000000 in
theorem storedbuilds_any (A : Option Addr) (n c B : Nat) (ds : List (List EntV)) (w : World) (hl : ds.length = n) (hn : n ≤ c) (hc : c ≤ maxLen) (hc2 : n * 24 ≤ 140737488351232) (hi : DocsI ds) (hds : ∀ d ∈ ds, (d.length + 1) * 56 ≤ 140737488355328 ∧ ∀ e ∈ d, (e.ns.length + 1) * 8 ≤ 140737488355328) (hB : B ≤ w.heap.size) (hr : RdD w B A ds) :
    Calls Try.prog 9 #[.slice A n c] w (RetB true w) := by
  have HL := hide hl
  have HN := hide hn
  have HC := hide hc
  have HI := hide hi
  have HR := hide hr
  have HDs := hide hds
  have HB2 := hide hB
  have HLent := hide (lentD_any A n c B ds w hl hn hc (by omega) hds hB hr)
  have hble := buildB_le ds
  obtain ⟨bs, hbs⟩ : ∃ bs, bs = buildB ds := ⟨_, rfl⟩
  have HBs := hide hbs
  rw [← hbs] at hble
  obtain ⟨m, hm⟩ : ∃ m, m = bs.length := ⟨_, rfl⟩
  have HM := hide hm
  rw [← hm] at hble
  have hcn : n ≤ 9223372036854775807 := by unfold maxLen at hc; omega
  clear hl hn hc hc2 hi hds hB hr hbs hm
  suffices key : ∀ b : Bool, decide (mayB ds) = b → Calls Try.prog 9 #[.slice A n c] w (RetB true w) from key _ rfl
  intro bm hbm
  have HBm := hide hbm
  clear hbm
  go_enter Try.func9, Try.ntmps9
  go_wp2_with (fail)
  refine HLent.out.mono ?_
  rintro en w1 ⟨v1, rfl, hlt, hfr⟩
  obtain ⟨A1, c1, rfl, x1, x2, _⟩ := (show ∃ A1 c1, v1 = .slice A1 ds.length c1 ∧ ds.length ≤ c1 ∧ c1 ≤ maxLen ∧ True by obtain ⟨_, _, ho, _⟩ := hlt; obtain ⟨A1, c1, e, y1, y2, _⟩ := ho.form; exact ⟨A1, c1, e, y1, y2, trivial⟩)
  rw [HL.out] at x1 hlt ⊢
  have HT1 := hide hlt
  have HF1 : Hid (Fr No w w1) := hide hfr
  have HX := hide (And.intro x1 x2)
  clear hlt hfr x1 x2
  go_wp2_with (fail)
  refine (build_any A1 n c1 _ ds w1 HL.out HX.out.1 HX.out.2 (Nat.le_refl _) HT1.out.rdD).mono ?_
  rintro en w2 ⟨v2, rfl, hown, hfr⟩
  rw [← HBs.out, ← HM.out] at hown
  obtain ⟨A2, c2, rfl, x3, x4, _⟩ := hown.form
  have HO2 := hide hown
  have HF2 : Hid (Fr No w w2) := hide (HF1.out.tr hfr)
  have HT2 := hide (LentD.fr0 HT1.out hfr)
  have HX2 := hide (And.intro x3 x4)
  clear hown hfr x3 x4
  go_wp2_with (fail)
  refine (refBuild_any A n c B ds w2 HL.out HN.out HC.out (Nat.le_trans HB2.out HF2.out.size) (HR.out.fr0 HF2.out)).mono ?_
  rintro en w3 ⟨v3, rfl, hown, hfr⟩
  rw [← HBs.out, ← HM.out] at hown
  obtain ⟨A3, c3, rfl, x3, x4, _⟩ := hown.form
  have HO3 := hide hown
  have HF3 : Hid (Fr No w w3) := hide (HF2.out.tr hfr)
  have HO23 := hide (HO2.out.fr0 hfr)
  have HT3 := hide (HT2.out.fr0 hfr)
  have HX3 := hide (And.intro x3 x4)
  clear hown hfr x3 x4
  go_wp2_with (fail)
  refine (kbytes_any A2 A3 m c2 m c3 _ _ bs bs w3 HM.out.symm HM.out.symm HX2.out.1 HX2.out.2 HX3.out.1 HX3.out.2 HO23.out.rd HO3.out.rd).mono ?_
  rintro en w4 ⟨rfl, q4, hq4⟩
  have HF4 : Hid (Fr No w w4) := hide (HF3.out.tr (fr_of_drewN hq4))
  have HO4 := hide (HO23.out.fr0 (fr_of_drewN hq4))
  have HT4 := hide (HT3.out.fr0 (fr_of_drewN hq4))
  rw [decide_eq_true rfl]
  clear hq4
  go_wp2_with (fail)
  refine (keptD_any A1 A n c1 n c _ _ ds w4 HL.out HL.out HN.out HC.out HT4.out (HR.out.fr0 HF4.out)).mono ?_
  rintro en w5 ⟨rfl, q5, hq5⟩
  have HF5 : Hid (Fr No w w5) := hide (HF4.out.tr (fr_of_drewN hq5))
  have HO5 := hide (HO4.out.fr0 (fr_of_drewN hq5))
  clear hq5
  go_wp2_with (fail)
  refine (may_any A n c B ds w5 HL.out HN.out HC.out (HR.out.fr0 HF5.out)).mono ?_
  rintro en w6 ⟨rfl, hfr⟩
  have HF6 : Hid (Fr No w w6) := hide (HF5.out.tr hfr)
  have HO6 := hide (HO5.out.fr0 hfr)
  rw [HBm.out]
  clear hfr
  cases bm with
  | false =>
    have hm0 : m = 0 := by
      rw [HM.out, HBs.out]
      unfold buildB
      rw [if_neg (of_decide_eq_false HBm.out)]
      rfl
    subst hm0
    go_wp2
    go_ret
    exact ⟨rfl, HF6.out⟩
  | true =>
    have hmay := of_decide_eq_true HBm.out
    have HMay := hide hmay
    have hn16 : n ≤ 16384 := by have := hmay.1; rw [HL.out] at this; exact this
    clear hmay
    go_wp2_with (fail)
    refine (callsIn_wide.1 (open_in 6 (Nat.le_refl _) m c2 A2 bs _ w6 HM.out.symm HX2.out.1 HX2.out.2 (by omega) (Nat.le_refl _) HO6.out.rd)).mono ?_
    rintro en w7 ⟨p, e, rfl, hfr, hp⟩
    have hok := open_of_build (bs := bs) HMay.out HI.out HBs.out.symm (by rw [← HM.out]; omega)
    have hp2 : ∃ cs g, p = some ⟨g, 0, none⟩ ∧ e = 0 ∧ StoM w7 w6.heap.size g cs ∧ docsC cs = ds ∧ cntC cs = cutsB ds := by
      rcases hp with ⟨ks, cs, g, h1, h2, h3, h4⟩ | ⟨h1, _⟩
      · rw [HBs.out] at h1
        exact ⟨cs, g, h2, h3, h4, OpenOk.of_build HMay.out HI.out h1⟩
      · exact absurd hok (h1 _ _)
    obtain ⟨cs, g, rfl, rfl, hsto, hdc, hcc⟩ := hp2
    have HS7 := hide hsto
    have HF7 : Hid (Fr No w w7) := hide (HF6.out.tr hfr)
    have HDc := hide hdc
    have HCc := hide hcc
    clear hfr hp hok hsto hdc hcc
    go_wp2_with (fail)
    refine (refCuts_any A n c B ds w7 HL.out HN.out HC.out HMay.out (Nat.le_trans HB2.out HF7.out.size) (HR.out.fr0 HF7.out)).mono ?_
    rintro en w8 ⟨vM, vB, mm, vals, rfl, hfr, htc⟩
    have hmm : cs.length = mm := by
      have := htc.len
      rw [← HCc.out] at this
      unfold cntC at this
      rw [List.length_map] at this
      exact this
    obtain ⟨AM, cM, rfl, y1, y2, _⟩ := htc.mo.form
    obtain ⟨AB, cB, rfl, _⟩ := htc.bo.form
    have HF8 : Hid (Fr No w w8) := hide (HF7.out.tr hfr)
    have HS8 := hide (HS7.out.fr0 hfr)
    have HT8 := hide htc
    have HMm := hide hmm
    have hmn : mm ≤ n := by
      have h1 := (cuts_cnt (ds := ds)).1
      have h2 := htc.len
      rw [HL.out] at h1
      omega
    clear hfr htc hmm y1 y2
    have HLen := hide (show Calls Try.prog 45 #[.pointer (some ⟨g, 0, none⟩)] w8 (Ret (.int .i64 (n : Nat)) w8) by have := len_sto HS8.out; rw [HDc.out, HL.out] at this; exact this)
    have HChs := hide (show Calls Try.prog 46 #[.pointer (some ⟨g, 0, none⟩)] w8 (Ret (.int .i64 (mm : Nat)) w8) by have := chunks_sto HS8.out; rw [HMm.out] at this; exact this)
    go_wp2_with (first | (go_at_call 45; refine HLen.out.mono ?_; rintro en wz ⟨rfl, rfl⟩) | (go_at_call 46; refine HChs.out.mono ?_; rintro en wz ⟨rfl, rfl⟩))
    go_loopw [9, 10] (fun va ix wr => ∃ q : Nat, q ≤ mm ∧ ix = .int .i64 q ∧ va = .int .i64 (cntB ((cutsB ds).take q) : Nat) ∧ Hid (Fr No w8 wr)) (fun _ ix _ => mm - (intOf ix).toNat)
    case atStart => exact ⟨0, by omega, rfl, by simp [cntB], hide (Fr.refl _ _)⟩
    case round =>
      obtain ⟨wo, rfl⟩ : ∃ wo : World, wo = wr := ⟨_, rfl⟩
      obtain ⟨q, hq, rfl, rfl, HFr⟩ := hrel
      by_cases hlt : q < mm
      · obtain ⟨x, hx⟩ : ∃ x, cs[q]? = some x := ⟨_, List.getElem?_eq_getElem (by rw [HMm.out]; exact hlt)⟩
        have HCh := hide (chunk_sto (HS8.out.fr0 HFr.out) hx)
        have e1 : cntC (cs.take q) = (cutsB ds).take q := by unfold cntC; rw [← HCc.out, List.map_take]; rfl
        rw [e1] at HCh
        have hcx : (cutsB ds)[q]? = some (x.2.length, x.1) := by rw [← HCc.out]; unfold cntC; rw [List.getElem?_map, hx]; rfl
        obtain ⟨gM, rfl, _, _, _, mc, _⟩ := (HT8.out.fr0 HFr.out).mo.storeN (k := q) (by omega)
        have km := mc q (by omega)
        rw [show (ints ((cutsB ds).map (·.1)))[q]? = some (.int .i64 (x.2.length : Nat)) by unfold ints; rw [List.getElem?_map, List.getElem?_map, hcx]; rfl] at km
        have hcnt : cntB ((cutsB ds).take (q + 1)) = cntB ((cutsB ds).take q) + x.2.length := by rw [take_some hcx, cntB_snoc]
        have hle : cntB ((cutsB ds).take (q + 1)) ≤ n := by
          have h1 := cutsB_cnt ds
          rw [HL.out] at h1
          have h2 : cntB (cutsB ds) = cntB ((cutsB ds).take (q + 1)) + cntB ((cutsB ds).drop (q + 1)) := by
            conv => lhs; rw [← List.take_append_drop (q + 1) (cutsB ds)]
            unfold cntB
            rw [List.map_append, List.sum_append]
          omega
        have HCnt := hide hcnt
        obtain ⟨t, ht⟩ : ∃ t, t = cntB ((cutsB ds).take q) := ⟨_, rfl⟩
        obtain ⟨y, hy⟩ : ∃ y, y = x.2.length := ⟨_, rfl⟩
        rw [← ht, ← hy] at HCh HCnt
        rw [← hy] at km
        rw [← ht, ← hy] at hcnt
        rw [hcnt] at hle
        rw [← ht]
        have hty : ((t + y : Nat) : Int) = (t : Int) + (y : Int) := by omega
        rw [hty] at HCh
        clear hx e1 hcx mc ht hy hcnt hty
        go_wp2_with (fail)
        refine HCh.out.mono ?_
        rintro en w9 ⟨rfl, q9, hq9⟩
        have f9 : Fr No wo w9 := fr_of_drewN hq9
        have HF9 : Hid (Fr No w8 w9) := hide (HFr.out.tr f9)
        have km9 := f9.cell km (fun h => h)
        clear hq9 f9 km
        go_wp2
        refine ⟨⟨q + 1, by omega, by go_num, ?_, HF9⟩, by simp [intOf]; omega⟩
        rw [HCnt.out]
        go_num
      · obtain rfl : q = mm := by omega
        clear hlt
        go_wp2
        go_ret
        exact ⟨rfl, HF8.out.tr HFr.out⟩
end Go.Proofs.Ytpnhnnhocekchaa
