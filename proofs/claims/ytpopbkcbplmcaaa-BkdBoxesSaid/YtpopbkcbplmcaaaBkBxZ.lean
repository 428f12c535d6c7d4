/- BkdBoxes, walked. -/
import Derived.Test.YtpopbkcbplmcaaaK15
import Derived.Deep.DeepCutAuto
namespace Go.Proofs.Ytpopbkcbplmcaaa
set_option linter.unusedVariables false
set_option linter.unusedSimpArgs false
open Go.RowKit

theorem mark_at {l : List Int} {k : Nat} (h : k < l.length) : (iz .i64 (l ++ [-7171]))[k]? = some (.int .i64 (l.getD k 0)) := by
  unfold iz
  rw [List.getElem?_map, List.getElem?_append_left h]
  simp [List.getD, h]
set_option maxRecDepth 100000 in
set_option maxHeartbeats 16000000 in
theorem bkdboxes_any (A Al Ah : Option Addr) (n n1 n2 c cl ch B : Nat) (dims dim cut : Int) (l : List Po) (low high : List Int) (w : World) (hl : l.length = n) (hn : n ≤ c) (hc : c ≤ maxLen) (hc2 : n * 32 ≤ 140737488355328) (hns : ∀ e ∈ l, (e.2.length + 1) * 8 ≤ 140737488355328) (hB : B ≤ w.heap.size) (hi : InI2 l) (hr : RdPo w B A l)
    (hl1 : low.length = n1) (hl2 : high.length = n2) (h1 : n1 ≤ cl) (h2 : n2 ≤ ch) (hc3 : cl ≤ maxLen) (hc4 : ch ≤ maxLen) (hb1 : cl * 8 ≤ 140737488351232) (hb2 : ch * 8 ≤ 140737488351232) (hr1 : Rd w w.heap.size Al (iz .i64 low)) (hr2 : Rd w w.heap.size Ah (iz .i64 high)) (hcut : -9223372036854775808 ≤ cut ∧ cut ≤ 9223372036854775807) (hhi : InI high) :
    Calls Try.prog 3 #[.int .i64 dims, .slice A n c, .slice Al n1 cl, .slice Ah n2 ch, .int .i64 dim, .int .i64 cut] w (RetB true w) := by
  have HR1 := hide hr1
  have HR2 := hide hr2
  have HL1 := hide hl1
  have HL2 := hide hl2
  have HC3 := hide (And.intro h1 (And.intro h2 (And.intro hc3 hc4)))
  have HHi := hide hhi
  unfold maxLen at hc3 hc4
  clear hr1 hr2 hl1 hl2 hhi
  have HKn := hide (known13_any w)
  have HLe := hide (fun W (f : Fr No w W) => lentPo_any A n c B l W hl hn hc hc2 hns (Nat.le_trans hB f.size) (hr.fr0 f))
  have HL := hide hl
  have HI := hide hi
  have HC2 := hide hc2
  have HKl := hide (kept_len (dims := dims) (l := l))
  unfold maxLen at hc
  clear hl hr hns hi hB
  go_enter Try.func3, Try.ntmps3
  go_wp2_with (fail)
  refine HKn.out.mono ?_
  rintro en w0 ⟨rfl, hf0⟩
  have HF0 := hide hf0
  have HLe0 := hide (HLe.out w0 hf0)
  clear hf0 HKn HLe
  go_wp2_with (fail)
  refine HLe0.out.mono ?_
  rintro en w1 ⟨A1, c1, A2, c2, rfl, hle, hre, hf⟩
  obtain ⟨r1, r2, r3⟩ := hle.rd
  have HBb := hide (bbuild_any A1 n c1 w1.heap.size dims l w1 HL.out r2 r3 HC2.out (Nat.le_refl _) HI.out r1)
  have HF1 := hide (HF0.out.tr hf)
  unfold maxLen at r3
  clear hle hre hf r1 HLe0
  obtain ⟨bs, hbs⟩ : ∃ K, K = keptP dims l := ⟨_, rfl⟩
  rw [← hbs] at HBb HKl
  have HBs := hide hbs
  obtain ⟨m, hm⟩ : ∃ m, m = bs.length := ⟨_, rfl⟩
  have HMl := hide hm
  clear hbs hm
  go_wp2_with (fail)
  refine HBb.out.mono ?_
  rintro en w2 ⟨v2, rfl, hown, hfr⟩
  rw [← HMl.out] at hown HKl
  obtain ⟨A3, c3, rfl, p1, p2, _, p3, _⟩ := hown.form
  have HF2 := hide (HF1.out.tr hfr)
  have HOp := hide (callsIn_wide.1 (bopen_in 6 (Nat.le_refl _) m c3 A3 bs w2.heap.size w2 HMl.out.symm p1 p2 HKl.out (Nat.le_refl _) p3))
  unfold maxLen at p2
  clear hown hfr HBb p3
  by_cases hm : mayP dims l
  case neg =>
    have HNo := hide (show ∀ d l', ¬ IsB bs d l' by rw [HBs.out]; exact bad_no hm)
    clear hm
    go_wp2_with (fail)
    refine HOp.out.mono ?_
    rintro en w3 hq
    obtain ⟨rfl, f3⟩ := hq.no HNo.out
    have HF3 := hide (HF2.out.tr f3)
    clear hq f3 HOp
    go_wp2_with (fail)
    go_ret
    exact ⟨rfl, HF3.out⟩
  obtain ⟨d, rfl⟩ : ∃ d : Nat, dims = (d : Int) := ⟨dims.toNat, by have := hm.1; omega⟩
  have HM := hide hm
  have HIs := hide (show IsB bs d l by rw [HBs.out]; exact may_isB hm HI.out)
  have hd4 : 1 ≤ d ∧ d ≤ 4 := by have := hm.1; have := hm.2.1; omega
  have hn20 : n ≤ 1048576 := by have := hm.2.2.1; have := HL.out; omega
  have HWh := hide (fun W => whole_any d hd4.2 W)
  clear hm
  go_wp2_with (fail)
  refine HOp.out.mono ?_
  rintro en w3 hq
  obtain ⟨gT, rfl, f3, ht⟩ := hq.yes HIs.out
  have HT3 := hide ht
  have HF3 := hide (HF2.out.tr f3)
  have HW3 := hide (HWh.out w3)
  clear hq f3 ht HOp HF2 HF1 HF0 HWh
  go_wp2_with (fail)
  refine HW3.out.mono ?_
  rintro en w4 ⟨A4, c4, A5, c5, rfl, ol, oh, f4⟩
  have q4 := ol.le
  have q5 := oh.le
  have HC4 := hide (And.intro q4 q5)
  have HRl := hide ol.rd
  have HRh := hide oh.rd
  have HF34 := hide f4
  have HF3w := hide (HF3.out)
  have HBo := hide (bounds_any w2.heap.size gT d l w4 (HT3.out.fr0 f4) HM.out)
  have HCt := hide (fun (W : World) (f : Fr (fun k => w3.heap.size ≤ k) w3 W) (X Y : Option Addr) (k1 k2 cx cy : Nat) (lo hi : List Int) (e1 : lo.length = k1) (e2 : hi.length = k2) (g1 : k1 ≤ cx) (g2 : k2 ≤ cy) (g3 : cx ≤ maxLen) (g4 : cy ≤ maxLen) (r1 : Rd W W.heap.size X (iz .i64 lo)) (r2 : Rd W W.heap.size Y (iz .i64 hi)) => count_any w2.heap.size gT d l X Y k1 k2 cx cy W.heap.size W.heap.size lo hi W (HT3.out.above f (fun k h => h)) HM.out e1 e2 g1 g2 g3 g4 (Nat.le_refl _) (Nat.le_refl _) r1 r2)
  have HRg := hide (fun (W : World) (f : Fr (fun k => w3.heap.size ≤ k) w3 W) (X Y : Option Addr) (k1 k2 cx cy : Nat) (lo hi : List Int) (e1 : lo.length = k1) (e2 : hi.length = k2) (g1 : k1 ≤ cx) (g2 : k2 ≤ cy) (g3 : cx ≤ maxLen) (g4 : cy ≤ maxLen) (r1 : Rd W W.heap.size X (iz .i64 lo)) (r2 : Rd W W.heap.size Y (iz .i64 hi)) => brange_any w2.heap.size gT d l X Y k1 k2 cx cy W.heap.size W.heap.size lo hi W (HT3.out.above f (fun k h => h)) HM.out e1 e2 g1 g2 g3 g4 (Nat.le_refl _) (Nat.le_refl _) r1 r2)
  unfold Gives2 at HBo
  obtain ⟨k1, hk1⟩ : ∃ r, r = (lowsB d l).length := ⟨_, rfl⟩
  obtain ⟨k2, hk2⟩ : ∃ r, r = (highsB d l).length := ⟨_, rfl⟩
  rw [← hk1, ← hk2] at HBo
  have HK1 := hide hk1
  have HK2 := hide hk2
  clear ol oh f4 HW3 q4 q5 hk1 hk2
  go_wp2_with (fail)
  refine HBo.out.mono ?_
  rintro en w5 ⟨v5, v6, rfl, o5, o6, _, f5⟩
  obtain ⟨A6, c6, rfl, x1, x2, _, x3, _⟩ := o5.form
  obtain ⟨A7, c7, rfl, y1, y2, _, y3, _⟩ := o6.form
  have HC5 := hide (And.intro (And.intro x1 x2) (And.intro y1 y2))
  have HR5 := hide x3
  have HR6 := hide y3
  have HF45 := hide f5
  have HF35 := hide (HF34.out.tr f5)
  unfold maxLen at x2 y2
  clear o5 o6 f5 x3 y3 HBo
  go_upto_region 9 with (fail)
  refine wp_named fun K hK => ?_
  go_cut [89] from 59 to 89 (fun v wx => v = .bool false ∧ Hid (Fr No w5 wx))
  case first =>
    have HCa := hide (HCt.out w5 (HF35.out.any _) A4 A5 d d c4 c5 (lowW d) (highW d) (by simp [lowW]) (by simp [highW]) HC4.out.1.2.1 HC4.out.2.2.1 HC4.out.1.2.2 HC4.out.2.2.2 ((HRl.out.fr0 HF45.out).more HF45.out.size) ((HRh.out.fr0 HF45.out).more HF45.out.size))
    rw [whole_box HM.out HI.out, HL.out] at HCa
    have bn : ((n : Int) != (n : Int)) = false := by simp
    by_cases hn0 : n = 0
    · have h0 : l = [] := List.eq_nil_of_length_eq_zero (by rw [HL.out]; exact hn0)
      obtain rfl : k1 = 0 := by rw [HK1.out, h0]; rfl
      subst hn0
      clear h0
      go_wp2_with (go_at_call 13; refine HCa.out.mono ?_; rintro en w6 ⟨rfl, f6⟩; have HF6 := hide f6; clear f6)
      go_meet
      exact ⟨rfl, HF6⟩
    · have hne : l ≠ [] := by intro h; apply hn0; rw [← HL.out, h]; rfl
      have HCb := hide (fun (W : World) (f : Fr No w5 W) => HCt.out W ((HF35.out.tr f).any _) A6 A7 k1 k2 c6 c7 (lowsB d l) (highsB d l) HK1.out.symm HK2.out.symm HC5.out.1.1 HC5.out.2.1 HC5.out.1.2 HC5.out.2.2 ((HR5.out.fr0 f).more f.size) ((HR6.out.fr0 f).more f.size))
      rw [bounds_box HM.out hne, HL.out] at HCb
      have d1 : decide ((0 : Int) < (n : Int)) = true := decide_eq_true (by omega)
      have d2 : decide (0 < n) = true := decide_eq_true (by omega)
      have d3 : ((n : Int) == 0) = false := by simp; omega
      clear hne
      go_wp2_with (first
        | (go_at_call 13; refine HCa.out.mono ?_; rintro en w6 ⟨rfl, f6⟩; have HF6 := hide f6; have HCc := hide (HCb.out w6 f6); clear f6 HCa HCb)
        | (go_at_call 13; refine HCc.out.mono ?_; rintro en w7 ⟨rfl, f7⟩; have HF7 := hide (HF6.out.tr f7); clear f7 HCc))
      go_meet
      exact ⟨rfl, HF7⟩
  case rest =>
    obtain ⟨rfl, HF56⟩ := hcut
    refine hK _ _ ?_
    obtain ⟨w6, rfl⟩ : ∃ W : World, W = wc := ⟨_, rfl⟩
    clear hK K
    have HFw : Hid (Fr No w w6) := hide (((HF3w.out.tr HF35.out).tr HF56.out))
    have HF36 := hide ((HF35.out.tr HF56.out).any (fun k => w3.heap.size ≤ k))
    have HRlo := hide (HR1.out.fr0 HFw.out)
    have HRhi := hide (HR2.out.fr0 HFw.out)
    have HCa := hide (HCt.out w6 HF36.out Al Ah n1 n2 cl ch low high HL1.out HL2.out HC3.out.1 HC3.out.2.1 HC3.out.2.2.1 HC3.out.2.2.2 (HRlo.out.more HFw.out.size) (HRhi.out.more HFw.out.size))
    have hctn : (boxP d l low high).length ≤ n := by rw [← HL.out]; exact boxP_len
    obtain ⟨ct, hct⟩ : ∃ r, r = (boxP d l low high).length := ⟨_, rfl⟩
    rw [← hct] at HCa hctn
    have HCtn := hide hct
    have dct : decide ((ct : Int) ≤ (n : Int)) = true := decide_eq_true (by omega)
    have dct2 : decide (ct ≤ n) = true := decide_eq_true hctn
    clear hct HR1 HR2
    by_cases e1 : n1 = d
    case neg =>
      have b1 : ((n1 : Int) != (d : Int)) = true := by simp only [bne_iff_ne, ne_eq]; omega
      clear e1
      go_wp2_with (go_at_call 13; refine HCa.out.mono ?_; rintro en w7 ⟨rfl, f7⟩; have HF7 := hide (HFw.out.tr f7); clear f7)
      go_ret
      exact ⟨rfl, HF7.out⟩
    subst e1
    by_cases e2 : n2 = n1
    case neg =>
      have b1 : ((n1 : Int) != (n1 : Int)) = false := by simp
      have b2 : ((n2 : Int) != (n1 : Int)) = true := by simp only [bne_iff_ne, ne_eq]; omega
      clear e2
      go_wp2_with (go_at_call 13; refine HCa.out.mono ?_; rintro en w7 ⟨rfl, f7⟩; have HF7 := hide (HFw.out.tr f7); clear f7)
      go_ret
      exact ⟨rfl, HF7.out⟩
    subst e2
    have b1 : ((n2 : Int) != (n2 : Int)) = false := by simp
    by_cases e3 : dim < 0
    · go_wp2_with (go_at_call 13; refine HCa.out.mono ?_; rintro en w7 ⟨rfl, f7⟩; have HF7 := hide (HFw.out.tr f7); clear f7)
      go_ret
      exact ⟨rfl, HF7.out⟩
    by_cases e4 : (n2 : Int) ≤ dim
    · go_wp2_with (go_at_call 13; refine HCa.out.mono ?_; rintro en w7 ⟨rfl, f7⟩; have HF7 := hide (HFw.out.tr f7); clear f7)
      go_ret
      exact ⟨rfl, HF7.out⟩
    obtain ⟨dm, rfl⟩ : ∃ m : Nat, dim = (m : Int) := ⟨dim.toNat, by omega⟩
    have hdm : dm < n2 := by omega
    obtain ⟨adl, rfl, _, hxl⟩ := cellInt HRlo.out (k := dm) (by rw [HL1.out]; exact hdm)
    obtain ⟨adh, rfl, _, hxh⟩ := cellInt HRhi.out (k := dm) (by rw [HL2.out]; exact hdm)
    obtain ⟨y, hy⟩ : ∃ x, x = low.getD dm 0 := ⟨_, rfl⟩
    obtain ⟨z, hz⟩ : ∃ x, x = high.getD dm 0 := ⟨_, rfl⟩
    rw [← hy] at hxl
    rw [← hz] at hxh
    have hz2 : -9223372036854775808 ≤ z ∧ z ≤ 9223372036854775807 := by rw [hz]; exact HHi.out _ (getD_memZ (by rw [HL2.out]; exact hdm))
    have HY := hide hy
    have HZ := hide hz
    clear hy hz e3 e4
    by_cases e5 : z ≤ cut
    · go_wp2_with (go_at_call 13; refine HCa.out.mono ?_; rintro en w7 ⟨rfl, f7⟩; have HF7 := hide (HFw.out.tr f7); clear f7)
      go_ret
      exact ⟨rfl, HF7.out⟩
    by_cases e6 : cut < y
    · go_wp2_with (go_at_call 13; refine HCa.out.mono ?_; rintro en w7 ⟨rfl, f7⟩; have HF7 := hide (HFw.out.tr f7); clear f7)
      go_ret
      exact ⟨rfl, HF7.out⟩
    clear HCa dct dct2
    have hc1 : low.getD dm 0 ≤ cut := by rw [← HY.out]; omega
    have hc2' : cut < high.getD dm 0 := by rw [← HZ.out]; omega
    have HCl := hide (cut_len HM.out HL1.out HL2.out hdm hc1 hc2')
    have HCm := hide (cut_mem HM.out HL1.out HL2.out hdm hc1 hc2')
    have hn4 : n2 ≤ 4 := by omega
    have HLo := hide (lentI64_any (some adh) n2 ch w.heap.size high w6 HL2.out (by omega) HRhi.out)
    have HLo2 := hide (fun W (f : Fr No w6 W) => lentI64_any (some adl) n2 cl w.heap.size low W HL1.out (by omega) (HRlo.out.fr0 f))
    clear hc1 hc2'
    go_wp2_with (fail)
    refine HLo.out.mono ?_
    rintro en w7 ⟨Ax, cx, rfl, ox, f7⟩
    rw [HL2.out] at ox ⊢
    have HOx := hide ox
    have HF7 := hide f7
    have HLo7 := hide (HLo2.out w7 f7)
    clear ox f7 HLo HLo2
    go_wp2_with (fail)
    refine HLo7.out.mono ?_
    rintro en w8 ⟨Ay, cy, rfl, oy, f8⟩
    rw [HL1.out] at oy ⊢
    have HOy := hide oy
    have HOx8 := hide (HOx.out.fr0 f8)
    have HF8 := hide (HF7.out.tr f8)
    have hz78 : w7.heap.size ≤ w8.heap.size := f8.size
    obtain ⟨gx, rfl, hgx1, hgx2, kx, zx, px⟩ := HOx8.out.store (k := dm) (by omega)
    obtain ⟨gy, rfl, hgy1, hgy2, ky, zy, py⟩ := HOy.out.store (k := dm) (by omega)
    have hgx : gx < w7.heap.size := (HOx.out.lt gx rfl).2
    have hxy : gx ≠ gy := by omega
    have e8x : (iz .i64 (high ++ [-7171]))[dm]? = some (.int .i64 z) := by rw [HZ.out]; exact mark_at (by rw [HL2.out]; exact hdm)
    have e8y : (iz .i64 (low ++ [-7171]))[dm]? = some (.int .i64 y) := by rw [HY.out]; exact mark_at (by rw [HL1.out]; exact hdm)
    rw [e8x] at kx
    rw [e8y] at ky
    have ky' : (w8.setCell ⟨gx, dm, none⟩ (.int .i64 cut)).cell? ⟨gy, dm, none⟩ = some (.int .i64 y) := (World.cell?_setCell_other _ ⟨gx, dm, none⟩ ⟨gy, dm, none⟩ _ (by intro h; injection h; exact hxy (by assumption))).trans ky
    have hcx : n2 + 1 ≤ cx ∧ cx ≤ maxLen := HOx.out.le.2
    have hcy : n2 + 1 ≤ cy ∧ cy ≤ maxLen := HOy.out.le.2
    obtain ⟨w9, hw9⟩ : ∃ x, x = (w8.setCell ⟨gx, dm, none⟩ (.int .i64 cut)).setCell ⟨gy, dm, none⟩ (.int .i64 (cut + 1)) := ⟨_, rfl⟩
    have f9 : Fr (fun k => w6.heap.size ≤ k) w8 w9 := by rw [hw9]; exact ((Fr.refl (fun k => w6.heap.size ≤ k) w8).setCell (p := ⟨gx, dm, none⟩) (fun _ => hgx1) _).setCell (p := ⟨gy, dm, none⟩) (fun _ => by have := HF7.out.size; show w6.heap.size ≤ gy; omega) _
    have HF9 := hide ((HF8.out.any (fun k => w6.heap.size ≤ k)).trans f9 (fun i _ h => h))
    have ox9 : Own w9 w6.heap.size 2 1 (.slice (some ⟨gx, 0, none⟩) (n2 + 1) cx) (n2 + 1) ((iz .i64 (high ++ [-7171])).set dm (.int .i64 cut)) := by
      rw [hw9]
      exact (px _).fr ((Fr.refl (Is gy) _).setCell (p := ⟨gy, dm, none⟩) (fun _ => rfl) _) (fun k hk e => by
        have e : k = gy := e
        have hk : gx = k := Option.some.inj hk
        exact hxy (hk.trans e))
    have oy9 : Own w9 w7.heap.size 2 1 (.slice (some ⟨gy, 0, none⟩) (n2 + 1) cy) (n2 + 1) ((iz .i64 (low ++ [-7171])).set dm (.int .i64 (cut + 1))) := by
      have h1 : Own (w8.setCell ⟨gx, dm, none⟩ (.int .i64 cut)) w7.heap.size 2 1 (.slice (some ⟨gy, 0, none⟩) (n2 + 1) cy) (n2 + 1) (iz .i64 (low ++ [-7171])) := HOy.out.fr ((Fr.refl (Is gx) _).setCell (p := ⟨gx, dm, none⟩) (fun _ => rfl) _) (fun k hk e => by
        have e : k = gx := e
        have hk : gy = k := Option.some.inj hk
        exact hxy (hk.trans e).symm)
      obtain ⟨g', e', _, _, _, _, p'⟩ := h1.store (k := dm) (by omega)
      injection e' with e'
      injection e' with e' _ _
      subst e'
      rw [hw9]
      exact p' _
    have rx9 : Rd w9 w9.heap.size (some ⟨gx, 0, none⟩) (iz .i64 (high.set dm cut)) := by
      have h := ox9.rd.tk n2
      have e : ((iz .i64 (high ++ [-7171])).set dm (.int .i64 cut)).take n2 = iz .i64 (high.set dm cut) := by
        rw [← HL2.out, List.take_set]
        simp [iz, List.map_set]
      rw [e] at h
      exact h
    have ry9 : Rd w9 w9.heap.size (some ⟨gy, 0, none⟩) (iz .i64 (low.set dm (cut + 1))) := by
      have h := oy9.rd.tk n2
      have e : ((iz .i64 (low ++ [-7171])).set dm (.int .i64 (cut + 1))).take n2 = iz .i64 (low.set dm (cut + 1)) := by
        rw [show n2 = low.length from HL1.out.symm, List.take_set]
        simp [iz, List.map_set]
      rw [e] at h
      exact h
    have HRx := hide rx9
    have HRy := hide ry9
    have HW9 := hide hw9
    have HFw9 := hide (HFw.out.trans HF9.out (fun i hi h => by have := HFw.out.size; have h : w6.heap.size ≤ i := h; omega))
    have HF39 := hide (HF36.out.trans HF9.out (fun i hi h => by have := (HF35.out.tr HF56.out).size; have h : w6.heap.size ≤ i := h; show w3.heap.size ≤ i; omega))
    have HRlo9 := hide (HRlo.out.fr HF9.out (fun k hk h => by have := HFw.out.size; have h : w6.heap.size ≤ k := h; omega))
    have HRhi9 := hide (HRhi.out.fr HF9.out (fun k hk h => by have := HFw.out.size; have h : w6.heap.size ≤ k := h; omega))
    have hcu : cut + 1 ≤ 9223372036854775807 := by omega
    have HSz := hide (show w.heap.size ≤ w9.heap.size from HFw9.out.size)
    have HCxy := hide (And.intro hcx hcy)
    clear hw9 f9 ox9 oy9 rx9 ry9 px py e8x e8y hcx hcy hz78 hgx hgx1 hgx2 hgy1 hgy2 hxy HOx HOy HOx8 HF7 HF8 HF9
    go_upto_region 16 with (fail)
    rw [← HW9.out]
    clear HW9 kx ky ky' zx zy hcu
    have hn20' : n ≤ 1048576 := hn20
    obtain ⟨ca, hca⟩ : ∃ r, r = (boxP n2 l low (high.set dm cut)).length := ⟨_, rfl⟩
    obtain ⟨cb, hcb⟩ : ∃ r, r = (boxP n2 l (low.set dm (cut + 1)) high).length := ⟨_, rfl⟩
    have hca2 : ca ≤ n := by rw [hca, ← HL.out]; exact boxP_len
    have hcb2 : cb ≤ n := by rw [hcb, ← HL.out]; exact boxP_len
    have hsum : ca + cb = ct := by rw [hca, hcb, HCtn.out]; exact HCl.out
    have bs1 : ((ca : Int) + (cb : Int) != (ct : Int)) = false := by simp; omega
    have HC1 := hide (HCt.out w9 HF39.out (some adl) (some ⟨gx, 0, none⟩) n2 n2 cl cx low (high.set dm cut) HL1.out (by rw [List.length_set]; exact HL2.out) HC3.out.1 (by have := HCxy.out.1; omega) HC3.out.2.2.1 HCxy.out.1.2 (HRlo9.out.more HSz.out) HRx.out)
    have HC2' := hide (fun W (f : Fr No w9 W) => HCt.out W (HF39.out.tr f) (some ⟨gy, 0, none⟩) (some adh) n2 n2 cy ch (low.set dm (cut + 1)) high (by rw [List.length_set]; exact HL1.out) HL2.out (by have := HCxy.out.2; omega) HC3.out.2.1 HCxy.out.2.2 HC3.out.2.2.2 ((HRy.out.fr0 f).more f.size) ((HRhi9.out.fr0 f).more (Nat.le_trans HSz.out f.size)))
    have HC3' := hide (fun W (f : Fr No w9 W) => HCt.out W (HF39.out.tr f) (some adl) (some adh) n2 n2 cl ch low high HL1.out HL2.out HC3.out.1 HC3.out.2.1 HC3.out.2.2.1 HC3.out.2.2.2 ((HRlo9.out.fr0 f).more (Nat.le_trans HSz.out f.size)) ((HRhi9.out.fr0 f).more (Nat.le_trans HSz.out f.size)))
    rw [← hca] at HC1
    rw [← hcb] at HC2'
    rw [← HCtn.out] at HC3'
    clear hca hcb hsum
    go_wp2_with (fail)
    refine HC1.out.mono ?_
    rintro en w10 ⟨rfl, f10⟩
    have HF10 := hide f10
    have HC2w := hide (HC2'.out w10 f10)
    clear f10 HC1 HC2'
    go_wp2_with (fail)
    refine HC2w.out.mono ?_
    rintro en w11 ⟨rfl, f11⟩
    have HF11 := hide (HF10.out.tr f11)
    have HC3w := hide (HC3'.out w11 HF11.out)
    clear f11 HC2w HC3' HF10
    go_wp2_with (fail)
    refine HC3w.out.mono ?_
    rintro en w12 ⟨rfl, f12⟩
    have HF12 := hide (HF11.out.tr f12)
    clear f12 HC3w HF11
    obtain ⟨ra, hra⟩ : ∃ r, r = rngZ n2 l low high := ⟨_, rfl⟩
    obtain ⟨rb, hrb⟩ : ∃ r, r = rngZ n2 l low (high.set dm cut) := ⟨_, rfl⟩
    obtain ⟨rc, hrc⟩ : ∃ r, r = rngZ n2 l (low.set dm (cut + 1)) high := ⟨_, rfl⟩
    have HGa := hide (HRg.out w12 (HF39.out.tr HF12.out) (some adl) (some adh) n2 n2 cl ch low high HL1.out HL2.out HC3.out.1 HC3.out.2.1 HC3.out.2.2.1 HC3.out.2.2.2 ((HRlo9.out.fr0 HF12.out).more (Nat.le_trans HSz.out HF12.out.size)) ((HRhi9.out.fr0 HF12.out).more (Nat.le_trans HSz.out HF12.out.size)))
    have HGb := hide (fun W (f : Fr No w12 W) => HRg.out W ((HF39.out.tr HF12.out).tr f) (some adl) (some ⟨gx, 0, none⟩) n2 n2 cl cx low (high.set dm cut) HL1.out (by rw [List.length_set]; exact HL2.out) HC3.out.1 (by have := HCxy.out.1; omega) HC3.out.2.2.1 HCxy.out.1.2 (((HRlo9.out.fr0 HF12.out).fr0 f).more (Nat.le_trans HSz.out (HF12.out.tr f).size)) (((HRx.out.fr0 HF12.out).fr0 f).more (HF12.out.tr f).size))
    have HGc := hide (fun W (f : Fr No w12 W) => HRg.out W ((HF39.out.tr HF12.out).tr f) (some ⟨gy, 0, none⟩) (some adh) n2 n2 cy ch (low.set dm (cut + 1)) high (by rw [List.length_set]; exact HL1.out) HL2.out (by have := HCxy.out.2; omega) HC3.out.2.1 HCxy.out.2.2 HC3.out.2.2.2 (((HRy.out.fr0 HF12.out).fr0 f).more (HF12.out.tr f).size) (((HRhi9.out.fr0 HF12.out).fr0 f).more (Nat.le_trans HSz.out (HF12.out.tr f).size)))
    have hlt : ltZ ra := by rw [hra]; exact setZ_lt _
    have hmem : ∀ t : Int, t ∈ ra ↔ t ∈ rb ++ rc := by rw [hra, hrb, hrc]; exact HCm.out
    have hna : ra.length ≤ 1048576 := by rw [hra]; exact Nat.le_trans rngZ_len (by rw [HL.out]; exact hn20')
    have hnb : rb.length ≤ 1048576 := by rw [hrb]; exact Nat.le_trans rngZ_len (by rw [HL.out]; exact hn20')
    have hnc : rc.length ≤ 1048576 := by rw [hrc]; exact Nat.le_trans rngZ_len (by rw [HL.out]; exact hn20')
    rw [← hra] at HGa
    rw [← hrb] at HGb
    rw [← hrc] at HGc
    have HLt := hide hlt
    have HMm := hide hmem
    clear hra hrb hrc hlt hmem HCm HCl
    obtain ⟨na, hla⟩ : ∃ r, r = ra.length := ⟨_, rfl⟩
    obtain ⟨nb, hlb⟩ : ∃ r, r = rb.length := ⟨_, rfl⟩
    obtain ⟨nc, hlc⟩ : ∃ r, r = rc.length := ⟨_, rfl⟩
    rw [← hla] at HGa hna
    rw [← hlb] at HGb hnb
    rw [← hlc] at HGc hnc
    have HNa := hide hla
    have HNb := hide hlb
    have HNc := hide hlc
    clear hla hlb hlc
    obtain ⟨i0, hi0, hiz, hisz, hiby⟩ := info_parts Try.infoRI
    go_wp2_with (fail)
    clear bs1
    refine HGa.out.mono ?_
    rintro en w13 ⟨v13, rfl, o13, f13⟩
    obtain ⟨Aa, cca, rfl, _, xa, _⟩ := o13.form
    have HRa := hide o13.rd
    have HGb13 := hide (HGb.out w13 f13)
    have HF13 := hide f13
    unfold maxLen at xa
    clear o13 f13 HGa HGb
    go_wp2_with (fail)
    refine HGb13.out.mono ?_
    rintro en w14 ⟨v14, rfl, o14, f14⟩
    obtain ⟨Ab, ccb, rfl, _, xb, _⟩ := o14.form
    have HOb := hide o14
    have HF14 := hide (HF13.out.tr f14)
    have HRa14 := hide (HRa.out.fr0 f14)
    have HSz14 := hide f14.size
    have HGc14 := hide (HGc.out w14 HF14.out)
    unfold maxLen at xb
    clear o14 f14 HGb13 HGc
    go_wp2_with (fail)
    refine HGc14.out.mono ?_
    rintro en w15 ⟨v15, rfl, o15, f15⟩
    obtain ⟨Ac, ccc, rfl, xc1, xc2, _, xc3, _⟩ := o15.form
    have HSrc := hide (Src.ofRd (P := Try.prog) (size := 1) w15 Try.underlying40 Ac nc ccc (iz .i64 rc) (by rw [iz_len, ← HNc.out]; omega) (by omega) xc3 (iz_one _ _))
    have HOb15 := hide (HOb.out.fr0 f15)
    have HRa15 := hide (HRa14.out.fr0 f15)
    have HF15 := hide (HF14.out.tr f15)
    have hzb : w13.heap.size ≤ w15.heap.size := Nat.le_trans HSz14.out f15.size
    have b1' : (nb + nc) * 8 ≤ 140737488355328 := by omega
    have b2' : nb + nc ≤ maxLen := by unfold maxLen; omega
    unfold maxLen at xc2
    clear o15 f15 xc3 HGc14 HRa14 HOb
    go_wp2_with (at_builtin; refine wpList_append_gen _ rfl (.tmp 166) (.tmp 170) 40 40 rfl w13.heap.size 3 i0 (.int .i64 0) 1 8 Try.underlying40 hi0 hiz hisz hiby rfl _ nb _ rfl HOb15.out _ nc (iz .i64 rc) rfl HSrc.out b1' b2' hzb ?_; intro v16 w16 o16 f16 hat; have HRa16 := hide (HRa15.out.fr f16 (fun k hk e => by have := (HOb15.out.lt k e).1; omega)); have HF16 : Hid (Fr No w w16) := hide (((HFw9.out.tr HF12.out).tr HF15.out).trans f16 (fun i hi e => by have h1 := (HOb15.out.lt i e).1; have h2 := (HFw9.out.tr HF12.out).size; have h3 := HF13.out.size; omega)); have HOp : Hid (Own w16 w13.heap.size 3 1 v16 (nb + nc) (iz .i64 (rb ++ rc))) := hide (by rw [iz_append]; exact o16); clear o16 f16 hat hzb HOb15 HSrc)
    obtain ⟨np, hnp⟩ : ∃ x, x = nb + nc := ⟨_, rfl⟩
    obtain ⟨P, hP⟩ : ∃ x, x = rb ++ rc := ⟨_, rfl⟩
    rw [← hnp, ← hP] at HOp
    rw [← hP] at HMm
    have HNp : Hid (np = P.length) := hide (by rw [hnp, hP, List.length_append, HNb.out, HNc.out])
    obtain ⟨Ap, ccp, rfl, _, xp, _⟩ := HOp.out.form
    have HRp := hide HOp.out.rd
    unfold maxLen at xp
    clear hnp hP HOp
    have hxin : ∀ t, t < na → ra.getD t 0 ∈ P := fun t ht => (HMm.out _).1 (getD_memZ (by rw [← HNa.out]; exact ht))
    have hyin : ∀ t, t < np → P.getD t 0 ∈ ra := fun t ht => (HMm.out _).2 (getD_memZ (by rw [← HNp.out]; exact ht))
    have HXin := hide hxin
    have HYin := hide hyin
    clear hxin hyin
    go_upto_region 21 with (fail)
    go_loopg [25, 26, 27] na (fun gk i hit k wr => ∃ (t nq : Nat), t + gk = na ∧ i = .int .i64 (t : Nat) ∧ wr = w16.drewN nq)
    case atStart => exact ⟨0, 0, by omega, rfl, rfl⟩
    case round =>
      obtain ⟨t, nq, ht, rfl, rfl⟩ := hrel
      by_cases hlt : t < na
      · obtain ⟨adt, hadt, _, hxt⟩ := cellInt HRa16.out (k := t) (by rw [← HNa.out]; exact hlt)
        cases hadt
        obtain ⟨x, hx⟩ : ∃ x, x = ra.getD t 0 := ⟨_, rfl⟩
        rw [← hx] at hxt
        have HXm : Hid (hasZ P x np = true) := hide (by rw [HNp.out]; exact hasZ_all (by rw [hx]; exact HXin.out t hlt))
        have HX := hide hx
        obtain ⟨g', rfl⟩ : ∃ g', gk = g' + 1 := ⟨gk - 1, by omega⟩
        have HT := hide ht
        clear hx ht
        go_upto_region 25 with (fail)
        go_loopg [26, 27] np (fun g2 hit k wx => ∃ (u nq2 : Nat), u + g2 = np ∧ k = .int .i64 (u : Nat) ∧ hit = .bool (hasZ P x u) ∧ wx = w16.drewN nq2)
        case atStart => exact ⟨0, _, by omega, rfl, by rw [hasZ_zero], rfl⟩
        case round =>
          obtain ⟨u, nq2, hu, rfl, rfl, rfl⟩ := hrel
          by_cases hlu : u < np
          · obtain ⟨adu, hadu, _, hpu⟩ := cellInt HRp.out (k := u) (by rw [← HNp.out]; exact hlu)
            cases hadu
            have HSu := hide (hasZ_succ (x := x) (show u < P.length by rw [← HNp.out]; exact hlu))
            obtain ⟨pu, hpu'⟩ : ∃ p, p = P.getD u 0 := ⟨_, rfl⟩
            rw [← hpu'] at hpu HSu
            obtain ⟨bb, hbb⟩ : ∃ b, b = hasZ P x u := ⟨_, rfl⟩
            rw [← hbb] at HSu ⊢
            obtain ⟨ee, hee⟩ : ∃ e, (pu == x) = e := ⟨_, rfl⟩
            rw [hee] at HSu
            obtain ⟨g3, rfl⟩ : ∃ g', gk = g' + 1 := ⟨gk - 1, by omega⟩
            have HU := hide hu
            clear hpu' hbb hu
            cases bb
            · cases ee
              · go_upto_region 27 with (fail)
                go_quiet (fail)
                go_wp2_with (fail)
                go_roundg g3
                case measure => omega
                case rel => exact ⟨u + 1, _, by have := HU.out; omega, by go_num, by rw [HSu.out]; rfl, rfl⟩
              · go_upto_region 27 with (fail)
                go_quiet (fail)
                go_wp2_with (fail)
                go_roundg g3
                case measure => omega
                case rel => exact ⟨u + 1, _, by have := HU.out; omega, by go_num, by rw [HSu.out]; rfl, rfl⟩
            · clear hpu hxt hee
              go_upto_region 27 with (fail)
              go_quiet (fail)
              go_wp2_with (fail)
              go_roundg g3
              case measure => omega
              case rel => exact ⟨u + 1, _, by have := HU.out; omega, by go_num, by rw [HSu.out]; rfl, rfl⟩
          · obtain rfl : u = np := by omega
            rw [HXm.out]
            clear hu
            by_cases ht0 : t = 0
            · subst ht0
              clear hxt
              go_upto_region 28 with (fail)
              go_quiet (fail)
              go_wp2_with (fail)
              go_roundg g'
              case measure => omega
              case rel => exact ⟨1, _, by have := HT.out; omega, by go_num, rfl⟩
            · obtain ⟨q, rfl⟩ : ∃ q, t = q + 1 := ⟨t - 1, by omega⟩
              have e1 : ((q + 1 : Nat) : Int) - 1 = (q : Int) := by omega
              obtain ⟨t', ht'⟩ : ∃ t', t' = q + 1 := ⟨_, rfl⟩
              have hgt := ltZ_get HLt.out (i := q) (by rw [← HNa.out]; exact hlt)
              obtain ⟨adq, hadq, _, hxq⟩ := cellInt HRa16.out (k := q) (by rw [← HNa.out]; omega)
              cases hadq
              obtain ⟨y', hy'⟩ : ∃ x, x = ra.getD q 0 := ⟨_, rfl⟩
              rw [← hy'] at hxq hgt
              rw [← HX.out] at hgt
              rw [← ht'] at HT hlt hxt e1 ⊢
              have hqn : q < na := by omega
              have ht0' : 0 < t' := by omega
              have d1 : decide ((0 : Int) < (t' : Int)) = true := decide_eq_true (by omega)
              have d2 : decide (x ≤ y') = false := decide_eq_false (by omega)
              clear hy' ht' ht0 hgt
              go_upto_region 28 with (fail)
              go_quiet (fail)
              go_wp2_with (fail)
              go_roundg g'
              case measure => omega
              case rel => exact ⟨t' + 1, _, by have := HT.out; omega, by go_num, rfl⟩
      · obtain rfl : na = t := by omega
        clear hlt ht HXin
        go_upto_region 31 with (fail)
        go_loopg [28, 29, 30] np (fun gk k hit i wr => ∃ (t nq : Nat), t + gk = np ∧ k = .int .i64 (t : Nat) ∧ wr = w16.drewN nq)
        case atStart => exact ⟨0, _, by omega, rfl, rfl⟩
        case round =>
          obtain ⟨t, nq, ht, rfl, rfl⟩ := hrel
          by_cases hlt : t < np
          · obtain ⟨adt, hadt, _, hxt⟩ := cellInt HRp.out (k := t) (by rw [← HNp.out]; exact hlt)
            cases hadt
            obtain ⟨x, hx⟩ : ∃ x, x = P.getD t 0 := ⟨_, rfl⟩
            rw [← hx] at hxt
            have HXm : Hid (hasZ ra x na = true) := hide (by rw [HNa.out]; exact hasZ_all (by rw [hx]; exact HYin.out t hlt))
            obtain ⟨g', rfl⟩ : ∃ g', gk = g' + 1 := ⟨gk - 1, by omega⟩
            have HT := hide ht
            clear hx ht
            go_upto_region 35 with (fail)
            go_loopg [29, 30] na (fun g2 hit k wx => ∃ (u nq2 : Nat), u + g2 = na ∧ k = .int .i64 (u : Nat) ∧ hit = .bool (hasZ ra x u) ∧ wx = w16.drewN nq2)
            case atStart => exact ⟨0, _, by omega, rfl, by rw [hasZ_zero], rfl⟩
            case round =>
              obtain ⟨u, nq2, hu, rfl, rfl, rfl⟩ := hrel
              by_cases hlu : u < na
              · obtain ⟨adu, hadu, _, hpu⟩ := cellInt HRa16.out (k := u) (by rw [← HNa.out]; exact hlu)
                cases hadu
                have HSu := hide (hasZ_succ (x := x) (show u < ra.length by rw [← HNa.out]; exact hlu))
                obtain ⟨pu, hpu'⟩ : ∃ p, p = ra.getD u 0 := ⟨_, rfl⟩
                rw [← hpu'] at hpu HSu
                obtain ⟨bb, hbb⟩ : ∃ b, b = hasZ ra x u := ⟨_, rfl⟩
                rw [← hbb] at HSu ⊢
                obtain ⟨ee, hee⟩ : ∃ e, (pu == x) = e := ⟨_, rfl⟩
                rw [hee] at HSu
                obtain ⟨g3, rfl⟩ : ∃ g', gk = g' + 1 := ⟨gk - 1, by omega⟩
                have HU := hide hu
                clear hpu' hbb hu
                cases bb
                · cases ee
                  · go_upto_region 37 with (fail)
                    go_quiet (fail)
                    go_wp2_with (fail)
                    go_roundg g3
                    case measure => omega
                    case rel => exact ⟨u + 1, _, by have := HU.out; omega, by go_num, by rw [HSu.out]; rfl, rfl⟩
                  · go_upto_region 37 with (fail)
                    go_quiet (fail)
                    go_wp2_with (fail)
                    go_roundg g3
                    case measure => omega
                    case rel => exact ⟨u + 1, _, by have := HU.out; omega, by go_num, by rw [HSu.out]; rfl, rfl⟩
                · clear hpu hxt hee
                  go_upto_region 37 with (fail)
                  go_quiet (fail)
                  go_wp2_with (fail)
                  go_roundg g3
                  case measure => omega
                  case rel => exact ⟨u + 1, _, by have := HU.out; omega, by go_num, by rw [HSu.out]; rfl, rfl⟩
              · obtain rfl : u = na := by omega
                rw [HXm.out]
                clear hu hxt
                go_wp2_with (fail)
                go_roundg g'
                case measure => omega
                case rel => exact ⟨t + 1, _, by have := HT.out; omega, by go_num, rfl⟩
          · obtain rfl : t = np := by omega
            clear hlt ht HYin
            go_wp2_with (fail)
            go_ret
            exact ⟨rfl, HF16.out.drewN _⟩
end Go.Proofs.Ytpopbkcbplmcaaa
