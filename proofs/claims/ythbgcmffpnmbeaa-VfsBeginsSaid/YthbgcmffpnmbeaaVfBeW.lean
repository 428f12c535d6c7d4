/- VfsBegins, walked. -/
import Derived.Test.YthbgcmffpnmbeaaVfBp
import Derived.Test.YthbgcmffpnmbeaaVfAw
import Derived.Test.YthbgcmffpnmbeaaKitS
namespace Go.Proofs.Ythbgcmffpnmbeaa
set_option linter.unusedVariables false
set_option linter.unusedSimpArgs false
open Go.RowKit Go.Maps

set_option maxRecDepth 100000 in
set_option maxHeartbeats 6400000 in
theorem vfsBegins_any (w : World) (A A2 : Option Addr) (n c n2 c2 : Nat) (l : List StpV) (l2 : List Int) (hl : l.length = n) (hn : n ≤ c) (hc : c ≤ maxLen) (hr : StR w w.heap.size A l)
    (hl2 : l2.length = n2) (hn2 : n2 ≤ c2) (hc2 : c2 ≤ maxLen) (hr2 : Rd w w.heap.size A2 (iz .i64 l2)) (hw2 : ∀ z ∈ l2, -9223372036854775808 ≤ z ∧ z ≤ 9223372036854775807) :
    Calls Try.prog 4 #[.slice A n c, .slice A2 n2 c2] w (fun en w' => en = .returned (.bool true) ∧ Fr No w w') := by
  have HAw := hide (fun W => awake_any W)
  have HL := hide hl
  have HR := hide hr
  have HC := hide hc
  have HL2 := hide hl2
  have HR2 := hide hr2
  have HC2 := hide hc2
  have HN2 := hide hn2
  have HW2 := hide hw2
  unfold maxLen at hc hc2
  clear hl hr hl2 hr2 hw2
  by_cases hbig : 300 < n
  · have hd : decide ((300 : Int) < (n : Int)) = true := decide_eq_true (by omega)
    go_enter Try.func4, Try.ntmps4
    go_wp2_with (go_at_call 8; refine (HAw.out w).mono ?_; rintro en w1 ⟨rfl, hfr⟩; have F1 := hide hfr; clear hfr)
    go_ret
    exact ⟨rfl, F1.out⟩
  · have hd : decide ((300 : Int) < (n : Int)) = false := decide_eq_false (by omega)
    have HBig := hide hbig
    clear hbig
    go_enter Try.func4, Try.ntmps4
    go_wp2_with (go_at_call 8; refine (HAw.out w).mono ?_; rintro en w1 ⟨rfl, hfr⟩; have F1 := hide hfr; clear hfr)
    go_loopw [5] (fun i wr => ∃ k : Nat, k ≤ n ∧ i = .int .i64 k ∧ wr = w1 ∧ Hid (∀ v ∈ (l.take k).map (·.s), v.kind ≠ 4 ∧ v.kind ≠ 5)) (fun i _ => n - (intOf i).toNat)
    case atStart => exact ⟨0, by omega, rfl, rfl, hide (fun v hv => by simp at hv)⟩
    case round =>
      obtain ⟨k, hk, rfl, rfl, HK⟩ := hrel
      by_cases hlt : k < n
      · obtain ⟨v, hv⟩ : ∃ v, l[k]? = some v := ⟨_, List.getElem?_eq_getElem (by rw [HL.out]; exact hlt)⟩
        obtain ⟨ad, rfl, _, ho, c0, _⟩ := (HR.out.fr F1.out (fun _ _ h => h)) k v hv
        clear ho
        have HTk := hide (show l.take (k + 1) = l.take k ++ [v] by rw [List.take_add_one, hv]; rfl)
        obtain ⟨κ, hκ⟩ : ∃ κ, κ = v.s.kind := ⟨_, rfl⟩
        rw [← hκ] at c0
        by_cases h4 : κ = 4
        · have b4 : (κ == 4) = true := by simp [h4]
          clear hκ hv h4
          go_wp2
          go_ret
          exact ⟨rfl, F1.out⟩
        · have b4 : (κ == 4) = false := by simp [h4]
          by_cases h5 : κ = 5
          · have b5 : (κ == 5) = true := by simp [h5]
            clear hκ hv h4 h5
            go_wp2
            go_ret
            exact ⟨rfl, F1.out⟩
          · have b5 : (κ == 5) = false := by simp [h5]
            have HK2 := hide (fun (u : Stp) (hu : u ∈ (l.take (k + 1)).map (·.s)) => show u.kind ≠ 4 ∧ u.kind ≠ 5 by
              rw [HTk.out, List.map_append] at hu
              rcases List.mem_append.1 hu with hu | hu
              · exact HK.out u hu
              · rw [List.mem_singleton.1 hu, ← hκ]; exact ⟨h4, h5⟩)
            clear hκ hv h4 h5
            go_wp2
            go_round
            case rel => exact ⟨k + 1, by omega, by go_num, (by first | trivial | rfl), HK2⟩
            case measure => simp [intOf]; omega
      · obtain rfl : k = n := by omega
        have ht : l.take k = l := by rw [← HL.out]; exact List.take_length
        rw [ht] at HK
        clear ht hlt
        obtain ⟨wa, rfl⟩ : ∃ W : World, W = wr := ⟨_, rfl⟩
        have HNew := hide (fun W => new_any W)
        have hlen := HL.out
        have hnb := HBig.out
        have HSu := hide (fun W d (h : Fsh wa W d newD 0) => fsure (l := l) h (by rw [HL.out]; omega) HL.out hn HC.out (HR.out.fr F1.out (fun _ _ h => h)) F1.out.size (by show (0 : Int) ≤ _; omega))
        have HCr := hide (fun W d S (h : Fsh wa W d S (0 + 3 * l.length)) => fcrash (l := l2) h (by rw [HL.out]; omega) HL2.out HN2.out HC2.out (HR2.out.fr0 (F1.out.tr h.frame)) (F1.out.tr h.frame).size HW2.out)
        have HN9 := hide (show 0 + 3 * l.length ≤ 1099511627000 by rw [HL.out]; omega)
        clear hlen hnb
        go_wp2_with (first
          | (go_at_call 11; refine (flist FC3.out (by have := HN9.out; omega)).mono ?_; rintro en w6 ⟨A6, c6, ks6, rfl, hk6, hkl6, ho6, hf6⟩; have HO6 := hide ho6; have HF6 := hide hf6; have HK6 := hide hk6; have HKl6 := hide hkl6; have hle6 := ho6.le.2.1; have hm6 := ho6.le.2.2; clear ho6 hf6 hk6 hkl6)
          | (go_at_call 14; refine (HCr.out _ _ _ F3.out).mono ?_; rintro en w4 ⟨ks, C, x, hcr, rfl, hfc, hfd⟩; have HCr1 := hide hcr; have FC3 := hide hfc; have FD3 := hide hfd; clear hcr hfc hfd)
          | (go_at_call 10; refine (HSu.out _ _ F2.out).mono ?_; rintro en w3 ⟨rfl, S, hsu, hfs⟩; have HS := hide hsu; have F3 := hide hfs; clear hsu hfs)
          | (go_at_call 9; refine (HNew.out wa).mono ?_; rintro en w2 ⟨rfl, hf2, hd2⟩; have F2 := hide (Fsh.of_new hf2 hd2); clear hf2 hd2))
        have hks : ks6 = ks := by
          have h := HK6.out
          rw [off_neg HCr1.out.halt, if_neg (by simp)] at h
          exact h.uniq HCr1.out.names
        subst hks
        have hm6' := hm6
        unfold maxLen at hm6'
        have HInv := hide (Inv.new.run HS.out)
        have HSub := hide (Sub.new.run Inv.new HS.out HK.out)
        have FC6 := hide (FC3.out.fr0 HF6.out)
        have FD6 := hide (FD3.out.fr0 HF6.out)
        go_loopw [9] (fun i wr => ∃ k : Nat, k ≤ ks6.length ∧ i = .int .i64 k ∧ Hid (Fr No w6 wr)) (fun i _ => ks6.length - (intOf i).toNat)
        case atStart => exact ⟨0, by omega, rfl, hide (Fr.refl _ _)⟩
        case round =>
          obtain ⟨k, hk, rfl, HW⟩ := hrel
          by_cases hlt : k < ks6.length
          · obtain ⟨ad, X, rfl, _, hcell, hX, _, _⟩ := cellStr (HO6.out.rd.fr0 HW.out) hlt
            have ev : Value.string X = sv (ks6.getD k []) := by unfold sv; rw [← hX]
            obtain ⟨t, ht⟩ : ∃ t, t = ks6.getD k [] := ⟨_, rfl⟩
            rw [← ht] at ev
            have htk : ks6[k]? = some t := by rw [ht, List.getD, List.getElem?_eq_getElem hlt]; rfl
            have htl := HKl6.out t (List.mem_of_getElem? htk)
            obtain ⟨bC, bS, e1, e2, e3, e4⟩ := begins_plain HInv.out HSub.out HCr1.out htk
            have HRc := hide (fread (FC6.out.fr0 HW.out) htl)
            have HRd := hide (fun W (f : Fr No wr W) => fread ((FD6.out.fr0 HW.out).fr0 f) htl)
            rw [e1, ← ev] at HRc
            rw [e2, ← ev] at HRd
            unfold RetR at HRc HRd
            simp only at HRc HRd
            have HBg := hide (fun (A7 A8 : Option Addr) (c7 c8 b1 b2 : Nat) (W : World) (q1 : bC.length ≤ c7) (q2 : c7 ≤ maxLen) (q3 : bS.length ≤ c8) (q4 : c8 ≤ maxLen) (r1 : Rd W b1 A7 (by8 bC)) (r2 : Rd W b2 A8 (by8 bS)) =>
              show Calls Try.prog 17 #[.slice A7 bC.length c7, .slice A8 bS.length c8] W (RetQ (.bool true) W) by
                have h := begins_any A7 A8 bC.length c7 bS.length c8 b1 b2 bC bS W rfl rfl q1 q2 q3 q4 r1 r2
                rw [decide_eq_true e3, decide_eq_true e4] at h
                exact h)
            clear e1 e2 e3 e4 htk htl ht ev hX
            go_wp2_with (first
              | (go_at_call 17; refine (HBg.out A7 A8 c7 c8 _ _ w8 hl7 hm7 hl8 hm8 (HO7.out.rd.fr0 HF8.out) HO8.out.rd).mono ?_; rintro en w9 ⟨rfl, q9, rfl⟩)
              | (go_at_call 15; refine (HRd.out w7 HF7.out).mono ?_; rintro en w8 ⟨v8, rfl, ho8, hf8⟩; obtain ⟨A8, c8, rfl, hl8, hm8, -⟩ := ho8.form; have HO8 := hide ho8; have HF8 := hide hf8; clear ho8 hf8)
              | (go_at_call 15; refine HRc.out.mono ?_; rintro en w7 ⟨v7, rfl, ho7, hf7⟩; obtain ⟨A7, c7, rfl, hl7, hm7, -⟩ := ho7.form; have HO7 := hide ho7; have HF7 := hide hf7; have hcell7 := hf7.cell hcell (fun h => h); clear ho7 hf7))
            go_round
            case rel => exact ⟨k + 1, by omega, by go_num, hide (((HW.out.tr HF7.out).tr HF8.out).drewN _)⟩
            case measure => simp [intOf]; omega
          · obtain rfl : k = ks6.length := by omega
            obtain ⟨wb, rfl⟩ : ∃ W : World, W = wr := ⟨_, rfl⟩
            have FC7 := hide (FC6.out.fr0 HW.out)
            have HCr2 := hide (fcrash (l := l2) FC7.out HN9.out HL2.out HN2.out HC2.out (HR2.out.fr0 (F1.out.tr (FD6.out.fr0 HW.out).frame)) (F1.out.tr (FD6.out.fr0 HW.out).frame).size HW2.out)
            clear hlt
            go_wp2_with (go_at_call 14; refine HCr2.out.mono ?_; rintro en w8 ⟨ks2, C2, x2, hcr, rfl, hfc, hfd⟩; have HCr3 := hide hcr; have FA8 := hide hfc; have FC8 := hide hfd; clear hcr hfc hfd)
            obtain ⟨hk2, hag⟩ := again_plain HInv.out.gds (fun f x hx => (FD6.out.le f x hx).1) HCr1.out HCr3.out
            have HK2 := hide hk2
            have HAg := hide hag
            have HF68 := hide (HW.out.tr FA8.out.frame)
            clear hk2 hag
            go_loopw [15] (fun i wr => ∃ k : Nat, k ≤ ks6.length ∧ i = .int .i64 k ∧ Hid (Fr No w8 wr)) (fun i _ => ks6.length - (intOf i).toNat)
            case atStart => exact ⟨0, by omega, rfl, hide (Fr.refl _ _)⟩
            case round =>
              obtain ⟨k, hk, rfl, HW8⟩ := hrel
              by_cases hlt : k < ks6.length
              · obtain ⟨ad, X, rfl, _, hcell, hX, _, _⟩ := cellStr ((HO6.out.rd.fr0 HF68.out).fr0 HW8.out) hlt
                have ev : Value.string X = sv (ks6.getD k []) := by unfold sv; rw [← hX]
                obtain ⟨t, ht⟩ : ∃ t, t = ks6.getD k [] := ⟨_, rfl⟩
                rw [← ht] at ev
                have htk : ks6[k]? = some t := by rw [ht, List.getD, List.getElem?_eq_getElem hlt]; rfl
                have htl := HKl6.out t (List.mem_of_getElem? htk)
                obtain ⟨e1, e2⟩ := HAg.out k t htk
                obtain ⟨⟨bC, eC⟩, hbC⟩ : ∃ r, r = reaS C t := ⟨_, rfl⟩
                rw [← hbC] at e1 e2
                obtain rfl : eC = 0 := e1
                have HRc := hide (fread (FC8.out.fr0 HW8.out) htl)
                have HRd := hide (fun W (f : Fr No wr W) => fread ((FA8.out.fr0 HW8.out).fr0 f) htl)
                rw [← hbC, ← ev] at HRc
                rw [e2, ← ev] at HRd
                unfold RetR at HRc HRd
                simp only at HRc HRd
                clear e2 htk htl ht ev hX hbC
                go_wp2_with (first
                  | (go_at_call 18; refine (kbytes_any A7 A8 _ c7 _ c8 _ _ bC bC w10 rfl rfl hl7 hm7 hl8 hm8 (HO7.out.rd.fr0 HF8.out) HO8.out.rd).mono ?_; rw [decide_eq_true rfl]; rintro en w11 ⟨rfl, q9, rfl⟩)
                  | (go_at_call 15; refine (HRd.out w9 HF7.out).mono ?_; rintro en w10 ⟨v8, rfl, ho8, hf8⟩; obtain ⟨A8, c8, rfl, hl8, hm8, -⟩ := ho8.form; have HO8 := hide ho8; have HF8 := hide hf8; clear ho8 hf8)
                  | (go_at_call 15; refine HRc.out.mono ?_; rintro en w9 ⟨v7, rfl, ho7, hf7⟩; obtain ⟨A7, c7, rfl, hl7, hm7, -⟩ := ho7.form; have HO7 := hide ho7; have HF7 := hide hf7; have hcell7 := hf7.cell hcell (fun h => h); clear ho7 hf7))
                go_round
                case rel => exact ⟨k + 1, by omega, by go_num, hide (((HW8.out.tr HF7.out).tr HF8.out).drewN _)⟩
                case measure => simp [intOf]; omega
              · obtain rfl : k = ks6.length := by omega
                clear hlt
                go_wp2_with (first
                  | (go_at_call 19; refine (sameS_any A11 A6 _ c11 _ c6 _ _ ks6 ks6 w11 rfl rfl HO11.out.le.2.1 HO11.out.le.2.2 hle6 hm6 HO11.out.rd (((HO6.out.rd.fr0 HF68.out).fr0 HW8.out).fr0 HF11.out)).mono ?_; rw [decide_eq_true rfl]; rintro en w12 ⟨rfl, q9, rfl⟩)
                  | (go_at_call 11; refine (flist (FA8.out.fr0 HW8.out) (by have := HN9.out; omega)).mono ?_; rintro en w11 ⟨A11, c11, ks11, rfl, hk11, hkl11, ho11, hf11⟩; have hks : ks6 = ks11 := (by rw [off_neg HCr3.out.halt, if_neg (by simp)] at hk11; exact ((hk11.uniq HCr3.out.names).trans HK2.out).symm); subst hks; have HO11 := hide ho11; have HF11 := hide hf11; clear ho11 hf11 hk11 hkl11))
                go_ret
                exact ⟨rfl, (((((F1.out.tr FD6.out.frame).tr HF68.out).tr HW8.out).tr HF11.out).drewN _)⟩
end Go.Proofs.Ythbgcmffpnmbeaa
