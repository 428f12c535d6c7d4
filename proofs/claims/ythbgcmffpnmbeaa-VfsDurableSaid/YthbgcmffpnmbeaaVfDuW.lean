/- VfsDurable, walked. -/
import Derived.Test.YthbgcmffpnmbeaaVfDp
import Derived.Test.YthbgcmffpnmbeaaVfBy
import Derived.Test.YthbgcmffpnmbeaaKitS
namespace Go.Proofs.Ythbgcmffpnmbeaa
set_option linter.unusedVariables false
set_option linter.unusedSimpArgs false
open Go.RowKit Go.Maps

set_option maxRecDepth 100000 in
set_option maxHeartbeats 6400000 in
theorem vfsDurable_any (w : World) (A A1 A2 : Option Addr) (n c n1 c1 n2 c2 : Nat) (l m : List StpV) (l2 : List Int) (hl : l.length = n) (hn : n ≤ c) (hc : c ≤ maxLen) (hr : StR w w.heap.size A l) (hb : n ≤ 140737488355328)
    (hl1 : m.length = n1) (hn1 : n1 ≤ c1) (hc1 : c1 ≤ maxLen) (hr1 : StR w w.heap.size A1 m) (hb1 : n1 ≤ 140737488355328)
    (hl2 : l2.length = n2) (hn2 : n2 ≤ c2) (hc2 : c2 ≤ maxLen) (hr2 : Rd w w.heap.size A2 (iz .i64 l2)) (hw2 : ∀ z ∈ l2, -9223372036854775808 ≤ z ∧ z ≤ 9223372036854775807) :
    Calls Try.prog 3 #[.slice A n c, .slice A1 n1 c1, .slice A2 n2 c2] w (fun en w' => en = .returned (.bool true) ∧ Fr No w w') := by
  have HAw := hide (fun W => awake_any W)
  have HL := hide hl
  have HR := hide hr
  have HC := hide hc
  have HL1 := hide hl1
  have HR1 := hide hr1
  have HC1 := hide hc1
  have HN1 := hide hn1
  have HL2 := hide hl2
  have HR2 := hide hr2
  have HC2 := hide hc2
  have HN2 := hide hn2
  have HW2 := hide hw2
  unfold maxLen at hc hc2 hc1
  clear hl hr hl2 hr2 hw2 hl1 hr1
  by_cases hbig : 300 < n + n1
  · have hd : decide ((300 : Int) < (n : Int) + (n1 : Int)) = true := decide_eq_true (by omega)
    go_enter Try.func3, Try.ntmps3
    go_wp2_with (go_at_call 8; refine (HAw.out w).mono ?_; rintro en w1 ⟨rfl, hfr⟩; have F1 := hide hfr; clear hfr)
    go_ret
    exact ⟨rfl, F1.out⟩
  · have hd : decide ((300 : Int) < (n : Int) + (n1 : Int)) = false := decide_eq_false (by omega)
    have HBig := hide hbig
    have HNew := hide (fun W => new_any W)
    have HSu := hide (fun (wa W : World) (d : Nat) (f1 : Fr No w wa) (h : Fsh wa W d newD 0) => fsure (l := l) h (by rw [HL.out]; omega) HL.out hn HC.out (HR.out.fr f1 (fun _ _ h => h)) f1.size (by show (0 : Int) ≤ _; omega))
    have HN9 := hide (show 0 + 3 * l.length ≤ 900 by rw [HL.out]; omega)
    clear hbig
    go_enter Try.func3, Try.ntmps3
    go_wp2_with (first
      | (go_at_call 11; refine (flist F3.out (by have := HN9.out; omega)).mono ?_; rintro en w6 ⟨A6, c6, ks, rfl, hk6, hkl6, ho6, hf6⟩; have HO6 := hide ho6; have HF6 := hide hf6; have HK6 := hide hk6; have HKl6 := hide hkl6; have hle6 := ho6.le.2.1; have hm6 := ho6.le.2.2; clear ho6 hf6 hk6 hkl6)
      | (go_at_call 10; refine (HSu.out w1 _ _ F1.out F2.out).mono ?_; rintro en w3 ⟨rfl, S, hsu, hfs⟩; have HS := hide hsu; have F3 := hide hfs; clear hsu hfs)
      | (go_at_call 9; refine (HNew.out w1).mono ?_; rintro en w2 ⟨rfl, hf2, hd2⟩; have F2 := hide (Fsh.of_new hf2 hd2); clear hf2 hd2)
      | (go_at_call 8; refine (HAw.out w).mono ?_; rintro en w1 ⟨rfl, hfr⟩; have F1 := hide hfr; clear hfr))
    have HInv := hide (Inv.new.run HS.out)
    have HKs := hide (show KeysL S.now ks by have h := HK6.out; rw [HInv.out.off, if_neg (by simp)] at h; exact h)
    have hm6' := hm6
    unfold maxLen at hm6'
    have F6 := hide (F3.out.fr0 HF6.out)
    have HKc := hide (show ks.length ≤ 900 by have := F6.out.count HKs.out; have := HN9.out; omega)
    have HF16 := hide (F1.out.tr F6.out.frame)
    obtain ⟨Z, hdm, hz, hfz⟩ := F3.out
    have HZ := hide (fun k (hk : Z k) => show w1.heap.size ≤ k ∧ k < w3.heap.size by
      obtain ⟨p, hd⟩ := hdm
      exact ⟨hz k hk, hd.lt k hk⟩)
    have HSt6 := hide ((Step.refl (hdm.fr0 HF6.out)).mono (show 0 + 3 * l.length ≤ 900 + 3 * 0 from HN9.out))
    clear hdm hz hfz
    go_loopw [9] (fun i wr => ∃ (k : Nat) (S1 : Di), k ≤ ks.length ∧ i = .int .i64 k ∧ Hid (SuR S ((ks.take k).map mkSync) S1) ∧ Hid (Step w6 wr Z (w1.heap.size + 2) S1 (900 + 3 * k))) (fun i _ => ks.length - (intOf i).toNat)
    case atStart => exact ⟨0, S, by omega, rfl, hide rfl, HSt6⟩
    case round =>
      obtain ⟨k, S1, hk, rfl, HS1, HSt1⟩ := hrel
      by_cases hlt : k < ks.length
      · have ho6 := HO6.out
        obtain ⟨Z1, ⟨p1, hd1⟩, f1, z1, z2⟩ := HSt1.out
        have ho := ho6.fr f1 (fun g hg hzz => by have := (ho6.lt g hg).1; have := (HZ.out g hzz).2; omega)
        obtain ⟨ad, X, rfl, _, hcell, hX, _, _⟩ := cellStr ho.rd hlt
        have ev : Value.string X = sv (ks.getD k []) := by unfold sv; rw [← hX]
        obtain ⟨t, ht⟩ : ∃ t, t = ks.getD k [] := ⟨_, rfl⟩
        rw [← ht] at ev
        have htk : ks[k]? = some t := by rw [ht, List.getD, List.getElem?_eq_getElem hlt]; rfl
        have htl := HKl6.out t (List.mem_of_getElem? htk)
        have HSy := hide (sync_any wr Z1 (w1.heap.size + 2) (900 + 3 * k) S1 p1 t hd1 (by have := HKc.out; omega) htl)
        rw [← ev] at HSy
        have HNx := hide (fun w' (h : Step wr w' Z1 (w1.heap.size + 2) (synS S1 t).2 (900 + 3 * k + 3)) => show Step w6 w' Z (w1.heap.size + 2) (synS S1 t).2 (900 + 3 * (k + 1)) from
          Step.narrow f1 (by have e : 900 + 3 * (k + 1) = 900 + 3 * k + 3 := (by omega); rw [e]; exact h) z1 z2)
        have HS2 := hide (show SuR S ((ks.take (k + 1)).map mkSync) (synS S1 t).2 by
          rw [List.take_add_one, htk, List.map_append]
          exact HS1.out.snoc (.inr (.inr (.inl ⟨rfl, rfl⟩))))
        clear ho6 hd1 f1 z1 z2 ho hX ev ht htk htl
        go_wp2_with (go_at_call 12; refine HSy.out.mono ?_; rintro en w7 ⟨rfl, hst⟩; have HSt2 := hide (HNx.out w7 hst); clear hst)
        go_round
        case rel => exact ⟨k + 1, _, by omega, by go_num, HS2, HSt2⟩
        case measure => simp [intOf]; omega
      · obtain rfl : k = ks.length := by omega
        obtain ⟨wb, rfl⟩ : ∃ W : World, W = wr := ⟨_, rfl⟩
        have ht : ks.take ks.length = ks := List.take_length
        rw [ht] at HS1
        clear ht hlt
        have HSafe := hide (safe_of HInv.out HKs.out HS1.out)
        obtain ⟨Z1, ⟨p1, hd1⟩, f1, z1, z2⟩ := HSt1.out
        have HSd := hide (syncdir_any wb Z1 (w1.heap.size + 2) _ S1 p1 hd1 (by have := HKc.out; omega))
        have HNx := hide (fun w' (h : Step wb w' Z1 (w1.heap.size + 2) (sydS S1).2 (900 + 3 * ks.length + 3)) => show Step w6 w' Z (w1.heap.size + 2) (sydS S1).2 (900 + 3 * ks.length + 3) from
          Step.narrow f1 h z1 z2)
        clear hd1 f1 z1 z2
        have HPt := hide (show (sydS S1).2.part ≤ 9223372036854775807 by
          rw [(show Su1 S1 ⟨3, 0, 0, 0, 0, [], [], [], []⟩ (sydS S1).2 from .inr (.inr (.inr (.inl ⟨rfl, rfl⟩)))).part, HS1.out.part, HS.out.part]
          show (0 : Int) ≤ _
          omega)
        obtain ⟨S2, hS2⟩ : ∃ s, s = (sydS S1).2 := ⟨_, rfl⟩
        rw [← hS2] at HSafe HSd HNx HPt
        clear hS2
        have HNk := hide (show 900 + 3 * ks.length + 3 ≤ 3603 by have := HKc.out; omega)
        have HDir := hide (fun (w7 : World) (h : Step w6 w7 Z (w1.heap.size + 2) S2 (900 + 3 * ks.length + 3)) => show Fsh w1 w7 (w1.heap.size + 2) S2 3603 from
          (Fsh.step (fun k hk => (HZ.out k hk).1) F6.out.frame h).mono HNk.out)
        go_wp2_with (first
          | (go_at_call 14; refine (fcrash (l := l2) F7.out (by omega) HL2.out HN2.out HC2.out (HR2.out.fr0 (F1.out.tr F7.out.frame)) (F1.out.tr F7.out.frame).size HW2.out).mono ?_; rintro en w8 ⟨ks2, C, x, hcr, rfl, hfc, hfd⟩; have HCr := hide hcr; have FC8 := hide hfc; have FD8 := hide hfd; clear hcr hfc hfd)
          | (go_at_call 13; refine HSd.out.mono ?_; rintro en w7 ⟨rfl, hst⟩; have HSt7 := hide (HNx.out w7 hst); have F7 := hide (HDir.out w7 HSt7.out); clear hst))
        have HHc := hide (HSafe.out.crash HCr.out)
        have HF78 := hide FC8.out.frame
        have HO8 := hide (by
          obtain ⟨Z2, hd2, f2, y1, y2⟩ := HSt7.out
          exact ((HO6.out.fr f2 (fun g hg hzz => by have := (HO6.out.lt g hg).1; have := (HZ.out g hzz).2; omega)).fr0 HF78.out : Own w8 w3.heap.size 9 1 (.slice A6 ks.length c6) ks.length (svs ks)))
        obtain ⟨i0, z0, hi, hz, hsz, hby, hzs⟩ := Try.infoBy
        have HSr := hide (fun W (v : Value) (h1 : v.oneCell' = true) => Src.one (P := Try.prog) W (e := 35) Try.underlying34 v h1)
        have HKc2 := HKc.out
        go_loopw [11, 12] (fun v i wr => ∃ (k : Nat) (bss : List (List UInt8)), k ≤ ks.length ∧ i = .int .i64 k ∧ bss.length = k ∧ Hid (bss = bytesOf S2 (ks.take k)) ∧ Hid (Fr No w8 wr) ∧ Hid (Bys wr w8.heap.size v bss)) (fun _ i _ => ks.length - (intOf i).toNat)
        case atStart => exact ⟨0, [], by omega, rfl, rfl, hide rfl, hide (Fr.refl _ _), hide (Bys.nil _ _)⟩
        case round =>
          obtain ⟨k, bss, hk, rfl, hbl, HBs, HW, HB⟩ := hrel
          by_cases hlt : k < ks.length
          · obtain ⟨ad, X, rfl, _, hcell, hX, _, _⟩ := cellStr ((HO8.out.fr0 HW.out).rd) hlt
            have ev : Value.string X = sv (ks.getD k []) := by unfold sv; rw [← hX]
            obtain ⟨t, ht⟩ : ∃ t, t = ks.getD k [] := ⟨_, rfl⟩
            rw [← ht] at ev
            have htk : ks[k]? = some t := by rw [ht, List.getD, List.getElem?_eq_getElem hlt]; rfl
            have htl := HKl6.out t (List.mem_of_getElem? htk)
            have HRd := hide (fread (FD8.out.fr0 HW.out) htl)
            obtain ⟨⟨bs, eS⟩, hbS⟩ : ∃ r, r = reaS S2 t := ⟨_, rfl⟩
            rw [← hbS, ← ev] at HRd
            unfold RetR at HRd
            simp only at HRd
            have HBn := hide (show bss ++ [bs] = bytesOf S2 (ks.take (k + 1)) by
              rw [HBs.out, List.take_add_one, htk]
              simp only [bytesOf, Option.toList_some, List.map_append, List.map_cons, List.map_nil, ← hbS])
            obtain ⟨vs, hov, hcv⟩ := HB.out
            rw [hbl] at hov
            have HVs := hide hov
            have HCv := hide hcv
            have HBl := hide hbl
            obtain ⟨Av, cv, hvv, -⟩ := hov.form
            clear ev htk htl ht hX hbS hov hcv hbl
            subst hvv
            have hk9 : (k + 1) * 24 ≤ 140737488355328 := by omega
            have hk8 : k + 1 ≤ maxLen := by unfold maxLen; omega
            go_wp2_with (first
              | (go_at_call 15; refine HRd.out.mono ?_; rintro en w9 ⟨v7, rfl, ho7, hf7⟩; obtain ⟨A7, c7, rfl, hl7, hm7, -⟩ := ho7.form; have HO7 := hide ho7; have HF7 := hide hf7; have HS9 := hide (HSr.out w9 (.slice A7 bs.length c7) rfl); have HV9 := hide ((HVs.out.fr0 HF7.out).fr0 ((Fr.refl No w9).alloc (.cells #[.slice A7 bs.length c7] 35))); have HB9 : Hid (w8.heap.size ≤ (w9.alloc (.cells #[.slice A7 bs.length c7] 35)).heap.size) := hide (Nat.le_trans (HW.out.tr HF7.out).size (by simp)); clear ho7 hf7)
              | (at_builtin; refine wpList_append_gen _ rfl (.tmp 65) (.tmp 67) 34 34 rfl w8.heap.size 35 i0 z0 1 24 Try.underlying34 hi hz hsz hby hzs (.slice Av k cv) k vs rfl HV9.out _ 1 [.slice A7 bs.length c7] rfl HS9.out hk9 hk8 HB9.out ?_; intro v' w10 hown hfr hat; obtain ⟨A9, c9, rfl, -⟩ := hown.form; have HOw := hide hown; have HFr := hide hfr; clear hown hfr hat))
            have HB2 := hide (Bys.snoc (HVs.out.fr0 (HF7.out.tr ((Fr.refl No w9).alloc (.cells #[.slice A7 bs.length c7] 35)))) HBl.out (fun j b u h1 h2 => (HCv.out j b u h1 h2).fr0 (HF7.out.tr ((Fr.refl No w9).alloc _))) ((HO7.out.fr0 ((Fr.refl No w9).alloc _)).lower HW.out.size) HOw.out HFr.out)
            have HW2 := hide (((HW.out.tr HF7.out).tr ((Fr.refl No w9).alloc (.cells #[.slice A7 bs.length c7] 35))).trans HFr.out (fun i hi hz => by have := (HVs.out.lt i hz).1; omega))
            go_round
            case rel => exact ⟨k + 1, bss ++ [bs], by omega, by go_num, by rw [List.length_append, HBl.out]; rfl, HBn, HW2, HB2⟩
            case measure => simp [intOf]; omega
          · obtain rfl : k = ks.length := by omega
            obtain ⟨wc, rfl⟩ : ∃ W : World, W = wr := ⟨_, rfl⟩
            have ht : ks.take ks.length = ks := List.take_length
            rw [ht] at HBs
            clear ht hlt
            obtain ⟨vs, hov, hcv⟩ := HB.out
            rw [hbl] at hov
            obtain ⟨Av, cv, hvv, hvl, hvm, -⟩ := hov.form
            clear hov hcv
            subst hvv
            have HBl := hide hbl
            have hvm' := hvm
            unfold maxLen at hvm'
            have FC9 := hide (FC8.out.fr0 HW.out)
            have FD9 := hide (FD8.out.fr0 HW.out)
            have HO9 := hide (HO8.out.fr0 HW.out)
            have HH1 := hide (fheld (names := ks) (bss := bss) FC9.out (by omega) rfl hle6 hm6 HO9.out.rd HKl6.out HBl.out hvl hvm (HB.out.bsl HBl.out))
            have HH2 := hide (fun W (f : Fr No wc W) => fheld (names := ks) (bss := bss) (FD9.out.fr0 f) (by omega) rfl hle6 hm6 (HO9.out.fr0 f).rd HKl6.out HBl.out hvl hvm ((HB.out.fr0 f).bsl HBl.out))
            have HP1 := hide (show heldB C ks bss by rw [HBs.out]; exact HHc.out)
            have HP2 := hide (show heldB S2 ks bss by rw [HBs.out]; exact HSafe.out.held)
            clear hbl
            go_wp2_with (first
              | (go_at_call 16; refine (HH2.out w10 F10.out).mono ?_; rintro en w11 ⟨b, rfl, hb2, hf11⟩; obtain rfl := hb2.2 HP2.out; have F11 := hide hf11; clear hb2 hf11)
              | (go_at_call 16; refine HH1.out.mono ?_; rintro en w10 ⟨b, rfl, hb2, hf10⟩; obtain rfl := hb2.2 HP1.out; have F10 := hide hf10; clear hb2 hf10))
            have HF0 := hide ((F1.out.tr FD9.out.frame).tr (F10.out.tr F11.out))
            go_loopw [15] (fun i wr => ∃ k : Nat, k ≤ n1 ∧ i = .int .i64 k ∧ wr = w11 ∧ Hid (∀ v ∈ (m.take k).map (·.s), v.kind ≠ 2 ∧ v.kind ≠ 3)) (fun i _ => n1 - (intOf i).toNat)
            case atStart => exact ⟨0, by omega, rfl, rfl, hide (fun v hv => by simp at hv)⟩
            case round =>
              obtain ⟨k, hk, rfl, rfl, HK⟩ := hrel
              by_cases hlt : k < n1
              · obtain ⟨v, hv⟩ : ∃ v, m[k]? = some v := ⟨_, List.getElem?_eq_getElem (by rw [HL1.out]; exact hlt)⟩
                obtain ⟨ad, rfl, _, ho, c0, _⟩ := (HR1.out.fr HF0.out (fun _ _ h => h)) k v hv
                clear ho
                have HTk := hide (show m.take (k + 1) = m.take k ++ [v] by rw [List.take_add_one, hv]; rfl)
                obtain ⟨κ, hκ⟩ : ∃ κ, κ = v.s.kind := ⟨_, rfl⟩
                rw [← hκ] at c0
                by_cases h4 : κ = 2
                · have b4 : (κ == 2) = true := by simp [h4]
                  clear hκ hv h4
                  go_wp2
                  go_ret
                  exact ⟨rfl, HF0.out⟩
                · have b4 : (κ == 2) = false := by simp [h4]
                  by_cases h5 : κ = 3
                  · have b5 : (κ == 3) = true := by simp [h5]
                    clear hκ hv h4 h5
                    go_wp2
                    go_ret
                    exact ⟨rfl, HF0.out⟩
                  · have b5 : (κ == 3) = false := by simp [h5]
                    have HK2 := hide (fun (u : Stp) (hu : u ∈ (m.take (k + 1)).map (·.s)) => show u.kind ≠ 2 ∧ u.kind ≠ 3 by
                      rw [HTk.out, List.map_append] at hu
                      rcases List.mem_append.1 hu with hu | hu
                      · exact HK.out u hu
                      · rw [List.mem_singleton.1 hu, ← hκ]; exact ⟨h4, h5⟩)
                    clear hκ hv h4 h5
                    go_wp2
                    go_round
                    case rel => exact ⟨k + 1, by omega, by go_num, (by first | trivial | rfl), HK2⟩
                    case measure => simp [intOf]; omega
              · obtain rfl : k = n1 := by omega
                have ht : m.take k = m := by rw [← HL1.out]; exact List.take_length
                rw [ht] at HK
                clear ht hlt
                obtain ⟨wd, rfl⟩ : ∃ W : World, W = wr := ⟨_, rfl⟩
                obtain ⟨Z2, hd2, f2, y1, y2⟩ := HSt7.out
                have hlt7 : ∀ j, Z2 j → j < w8.heap.size := fun j hj => by
                  obtain ⟨p, hd⟩ := hd2
                  exact Nat.lt_of_lt_of_le (hd.lt j hj) HF78.out.size
                have hz2 : ∀ j, Z2 j → w1.heap.size ≤ j := fun j hj => by
                  rcases y2 j hj with h | h
                  · exact (HZ.out j h).1
                  · have := F6.out.frame.size; omega
                have hnm : ∀ g, (Value.slice A6 ks.length c6).ownBlock = some g → ¬ Z2 g := fun g hg hzz => by
                  have h1 := HO6.out.lt g hg
                  rcases y2 g hzz with h | h
                  · have := (HZ.out g h).2; omega
                  · omega
                have hd11 := hd2.fr0 (((HF78.out.tr HW.out).tr F10.out).tr F11.out)
                have HSu2 := hide (sure_any wd Z2 (w1.heap.size + 2) _ S2 A1 k c1 w.heap.size m hd11 (by rw [HL1.out]; have := HBig.out; have := HKc.out; omega) HL1.out HN1.out HC1.out (HR1.out.fr HF0.out (fun _ _ h => h)) HF0.out.size (fun j hj => Nat.le_trans F1.out.size (hz2 j hj)) HPt.out)
                have HSt2 := hide (fun (w12 : World) (S3 : Di) (hsu : SuR S2 (m.map (·.s)) S3) (hst : Step wd w12 Z2 (w1.heap.size + 2) S3 (900 + 3 * ks.length + 3 + 3 * (m.map (·.s)).length)) =>
                  show Fsh w1 w12 (w1.heap.size + 2) S3 10000 ∧ Own w12 w3.heap.size 9 1 (.slice A6 ks.length c6) ks.length (svs ks) ∧ Bys w12 w8.heap.size (.slice Av ks.length cv) bss ∧ Later S2 S3 ∧ Inv S3 from
                  ⟨(Fsh.step hz2 (FD9.out.frame.tr (F10.out.tr F11.out)) hst).mono (by rw [List.length_map, HL1.out]; have := HBig.out; have := HKc.out; omega), (HO9.out.fr0 (F10.out.tr F11.out)).fr (by obtain ⟨_, _, f, _⟩ := hst; exact f) hnm,
                    ((HB.out.fr0 (F10.out.tr F11.out)).fr (by obtain ⟨_, _, f, _⟩ := hst; exact f) (fun j hj hz => by have := hlt7 j hz; omega)), (Later.refl S2).run HSafe.out.inv hsu HK.out, HSafe.out.inv.run hsu⟩)
                clear hd2 f2 y1 y2 hlt7 hz2 hnm hd11
                go_wp2_with (first
                  | (go_at_call 16; refine (fheld (names := ks) (bss := bss) FC13.out (by omega) rfl hle6 hm6 (HO12.out.fr0 FC13.out.frame).rd HKl6.out HBl.out hvl hvm ((HB12.out.fr0 FC13.out.frame).bsl HBl.out)).mono ?_; rintro en w14 ⟨b, rfl, hb2, hf14⟩; obtain rfl := hb2.2 HP13.out; have F14 := hide hf14; clear hb2 hf14)
                  | (go_at_call 14; refine (fcrash (l := []) F12.out (by omega) rfl (Nat.le_refl _) (Nat.zero_le _) (Rd.nil _ 0 _) (Nat.zero_le _) (fun z hz => by cases hz)).mono ?_; rintro en w13 ⟨ks3, C3, x3, hcr, rfl, hfc, hfd⟩; have FC13 := hide hfc; have HP13 := hide (show heldB C3 ks bss by rw [HBs.out]; exact HSafe.out.lost HLt.out HIv3.out hcr); clear hcr hfc hfd)
                  | (go_at_call 10; refine HSu2.out.mono ?_; rintro en w12 ⟨rfl, S3, hsu, hst⟩; obtain ⟨q1, q2, q3, q4, q5⟩ := HSt2.out w12 S3 hsu hst; have F12 := hide q1; have HO12 := hide q2; have HB12 := hide q3; have HLt := hide q4; have HIv3 := hide q5; clear hsu hst q1 q2 q3 q4 q5))
                go_ret
                exact ⟨rfl, ((F1.out.tr F12.out.frame).tr FC13.out.frame).tr F14.out⟩
end Go.Proofs.Ythbgcmffpnmbeaa
