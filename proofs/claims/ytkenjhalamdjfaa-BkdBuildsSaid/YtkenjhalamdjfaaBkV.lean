/- The document's tree, walked: a cut. -/
import Derived.Test.YtkenjhalamdjfaaBkU
namespace Go.Proofs.Ytkenjhalamdjfaa
set_option linter.unusedVariables false
set_option linter.unusedSimpArgs false
open Go.RowKit

theorem wid_one (l : List Pt) : widF l 1 = 0 := by simp [widF]
theorem wid_step (l : List Pt) (k : Nat) : widF l (k + 1) = if farP (widF l k) l < farP k l then k else widF l k := rfl
theorem InI.of2 {dims : Nat} {l : List Po} (h : OkL dims l) : ∀ p ∈ l, p.2.length = dims ∧ InI p.2 := fun p hp => ⟨(h p hp).1, (h p hp).2.1⟩
set_option maxRecDepth 100000 in
set_option maxHeartbeats 8000000 in
theorem tree_any (dims : Nat) (hdm : 1 ≤ dims ∧ dims ≤ 4) : ∀ (n : Nat) (A : Option Addr) (c B : Nat) (l : List Po) (w : World), l.length = n → n ≤ 1048576 → n ≤ c → c ≤ maxLen → B ≤ w.heap.size → OkL dims l → RdPo w B A l →
    Calls Try.prog 15 #[.int .i64 (dims : Nat), .slice A n c] w (GivesB w (treeP dims l)) := by
  intro n
  induction n using Nat.strongRecOn with
  | ind n ih =>
    intro A c B l w hl hnb hn hc hB hd hr
    by_cases h8 : n ≤ 8
    · exact tree_leaf dims hdm n A c B l w hl h8 hn hc hB hd hr
    obtain ⟨i5, hi5, hz5, hsz5, hby5⟩ := info_parts Try.info5
    have d8 : decide (n ≤ 8) = false := decide_eq_false h8
    have d8' : decide ((n : Int) ≤ 8) = false := decide_eq_false (by omega)
    have hdm1 := hdm.1
    have hdm4 := hdm.2
    have HFar := hide (fun (d : Nat) (hdd : d < dims) => far_any A n c B d dims l w hl (by omega) hn hc (InI.of2 hd) hdd hr)
    have HSo := hide (fun (d : Nat) (hdd : d < dims) => sorted_any d dims hdd n A c B l w hl hnb hn hc hB (fun p hp => (hd p hp).1) hr)
    have HIh := hide ih
    have HL := hide hl
    have HD := hide hd
    have HBw := hide hB
    have HUu := hide (fun (u : Nat) (hu : u < 18446744073709551616) W => refUint_any u W hu)
    obtain ⟨k, hk⟩ : ∃ k, k = (n + 1) / 2 := ⟨_, rfl⟩
    have ek : ((n : Int) + 1) / 2 = (k : Int) := by omega
    have HK := hide hk
    have hkn : k < n := by omega
    have hk1 : 1 ≤ k := by omega
    have hkle : k ≤ n := by omega
    have H8 := hide h8
    unfold maxLen at hc
    clear hl hr ih hd hB hk h8 hdm
    go_enter Try.func15, Try.ntmps15
    go_wp2_with (fail)
    clear d8 d8'
    go_loopw [9, 10] (fun vb vd wr => ∃ (j bb : Nat), 1 ≤ j ∧ j ≤ dims ∧ vd = .int .i64 (j : Nat) ∧ vb = .int .i64 (bb : Nat) ∧ bb < j ∧ Hid (bb = widF l j) ∧ wr = w) (fun _ vd _ => dims - (intOf vd).toNat)
    case atStart => exact ⟨1, 0, by omega, by omega, by go_num, by go_num, by omega, hide (wid_one l).symm, rfl⟩
    case round =>
      obtain ⟨j, bb, hj1, hj, rfl, rfl, hbj, HWd, rfl⟩ := hrel
      by_cases hlj : j < dims
      · have HFj := hide (HFar.out j hlj)
        have HFb := hide (HFar.out bb (by omega))
        have hst := wid_step l j
        rw [← HWd.out] at hst
        obtain ⟨fj, hfj⟩ : ∃ x, x = farP j l := ⟨_, rfl⟩
        obtain ⟨fb, hfb⟩ : ∃ x, x = farP bb l := ⟨_, rfl⟩
        rw [← hfj, ← hfb] at hst
        rw [← hfj] at HFj
        rw [← hfb] at HFb
        have HSt := hide hst
        clear hfj hfb hst
        go_wp2_with (fail)
        refine HFj.out.mono ?_
        rintro en w1 ⟨rfl, rfl⟩
        clear HFj
        go_wp2_with (fail)
        refine HFb.out.mono ?_
        rintro en w1 ⟨rfl, rfl⟩
        clear HFb
        by_cases hlt : fb < fj
        · have d1 : decide (fb < fj) = true := decide_eq_true hlt
          have d2 : decide ((fb : Int) < (fj : Int)) = true := decide_eq_true (by omega)
          have HW2 : Hid (j = widF l (j + 1)) := hide (by rw [HSt.out, if_pos hlt])
          clear hlt
          go_wp2_with (fail)
          go_roundw
          case rel => exact ⟨j + 1, j, by omega, by omega, by go_num, rfl, by omega, HW2, trivial⟩
          case measure => simp [intOf]; omega
        · have d1 : decide (fb < fj) = false := decide_eq_false hlt
          have d2 : decide ((fb : Int) < (fj : Int)) = false := decide_eq_false (by omega)
          have HW2 : Hid (bb = widF l (j + 1)) := hide (by rw [HSt.out, if_neg hlt])
          clear hlt
          go_wp2_with (fail)
          go_roundw
          case rel => exact ⟨j + 1, bb, by omega, by omega, by go_num, rfl, by omega, HW2, trivial⟩
          case measure => simp [intOf]; omega
      · obtain rfl : j = dims := by omega
        have HSb := hide (HSo.out bb hbj)
        obtain ⟨s, hs⟩ : ∃ s, s = sortP bb l := ⟨_, rfl⟩
        have hsl : s.length = n := by rw [hs, sortP_len, HL.out]
        have hsm : ∀ p ∈ s, p ∈ l := fun p hp => sortP_mem.1 (by rw [← hs]; exact hp)
        have hks : k < s.length := by omega
        have hcut := treeP_cut (dims := j) (n := k) (by rw [HL.out]; exact H8.out) HWd.out hs (by rw [HL.out]; exact HK.out)
        have hok : OkL j s := fun p hp => HD.out p (hsm p hp)
        have hpk := hok _ (getP_mem hks)
        have htl := treeP_le j k (s.take k) (by rw [List.length_take]; omega) hk1 (fun p hp => by rw [(hok p (List.mem_of_mem_take hp)).1]; exact hdm4)
        have htr := treeP_le j (n - k) (s.drop k) (by rw [List.length_drop]; omega) (by omega) (fun p hp => by rw [(hok p (List.mem_of_mem_drop hp)).1]; exact hdm4)
        have HIl := hide (fun A' c' B' W => HIh.out k hkn A' c' B' (s.take k) W (by rw [List.length_take]; omega) (by omega))
        have HIr := hide (fun A' c' B' W => HIh.out (n - k) (by omega) A' c' B' (s.drop k) W (by rw [List.length_drop]; omega) (by omega))
        have HOl : Hid (OkL j (s.take k)) := hide (fun p hp => hok p (List.mem_of_mem_take hp))
        have HOr : Hid (OkL j (s.drop k)) := hide (fun p hp => hok p (List.mem_of_mem_drop hp))
        have hx := hpk.2.1 ((s.getD k noPo).2.getD bb 0) (getZ_mem (by rw [hpk.1]; exact hbj))
        have e00 : s.getD k noPt = s.getD k noPo := rfl
        rw [e00] at hcut
        obtain ⟨pk, hpke⟩ : ∃ x, x = s.getD k noPo := ⟨_, rfl⟩
        rw [← hpke] at hpk hx hcut
        obtain ⟨x, hxe⟩ : ∃ x, x = pk.2.getD bb 0 := ⟨_, rfl⟩
        rw [← hxe] at hx hcut
        obtain ⟨L, hL⟩ : ∃ L, L = treeP j (s.take k) := ⟨_, rfl⟩
        obtain ⟨R, hR⟩ : ∃ R, R = treeP j (s.drop k) := ⟨_, rfl⟩
        rw [← hL] at htl hcut HIl
        rw [← hR] at htr hcut HIr
        obtain ⟨nl, hnl⟩ : ∃ n, n = L.length := ⟨_, rfl⟩
        obtain ⟨nr, hnr⟩ : ∃ n, n = R.length := ⟨_, rfl⟩
        rw [← hnl] at htl hcut
        rw [← hnr] at htr
        obtain ⟨z, hz⟩ : ∃ z, z = zz x := ⟨_, rfl⟩
        have hzl : z < 18446744073709551616 := by rw [hz]; exact zz_lt hx.1 hx.2
        rw [← hz] at hcut
        have HTu := hide (fun W => turned_any x W hx.1 hx.2)
        rw [← hz] at HTu
        have HUb := hide (HUu.out bb (by omega))
        have HUz := hide (HUu.out z hzl)
        have HUl := hide (HUu.out nl (by omega))
        obtain ⟨eb, heb⟩ : ∃ y, y = (enc bb).length := ⟨_, rfl⟩
        have heb10 := (enc_len bb).2
        rw [← heb] at heb10
        obtain ⟨ez, hez⟩ : ∃ y, y = (enc z).length := ⟨_, rfl⟩
        have hez10 := (enc_len z).2
        rw [← hez] at hez10
        obtain ⟨el, hel⟩ : ∃ y, y = (enc nl).length := ⟨_, rfl⟩
        have hel10 := (enc_len nl).2
        rw [← hel] at hel10
        have HEb := hide heb
        have HEz := hide hez
        have HEl := hide hel
        have HNl := hide hnl
        have HNr := hide hnr
        have HCut := hide hcut
        have HKs := hide hks
        have HPe := hide hpke
        have HXe := hide hxe
        have HPk := hide hpk
        rw [← hs] at HSb
        clear hsl hsm hks hcut hok hpk hx e00 hpke hxe hL hR hnl hnr hz heb hez hel hzl hs hlj HFar HSo HIh HUu
        go_wp2_with (fail)
        refine HSb.out.mono ?_
        rintro en w4 ⟨A4, c4, rfl, x1, x2, hrs, hf⟩
        obtain ⟨ad, A1, c1, rfl, _, k0, k1, g1, g2, hrk⟩ := hrs.at HKs.out
        rw [← HPe.out, HPk.out.1] at k1 g1
        rw [← HPe.out] at hrk k0
        obtain ⟨ad1, rfl, _, hxx⟩ := cellInt hrk (k := bb) (by rw [HPk.out.1]; exact hbj)
        rw [← HXe.out] at hxx
        have hrd := hrs.rd (Nat.le_trans HBw.out hf.size)
        have HR4 := hide hrd
        have HF4 := hide hf
        have HTl := hide (HIl.out (some ad) c4 w4.heap.size w4 (by omega) x2 (Nat.le_refl _) HOl.out (hrd.take k))
        have HTr := hide (fun W (f : Fr No w4 W) => HIr.out (some (ad.add (k * 2))) (c4 - k) w4.heap.size W (by omega) (by omega) f.size HOr.out ((hrd.drop k).fr0 f))
        have HK1 := hide k1
        have HXx := hide hxx
        have hk4 : k ≤ c4 := by omega
        have hck : ¬ c4 = k := by omega
        unfold maxLen at x2 g2
        clear hrs hf hrk k0 k1 hxx hrd HIl HIr HSb
        go_wp2_with (fail)
        refine HTl.out.mono ?_
        rintro en w5 ⟨vl, rfl, hown, hfr⟩
        rw [← HNl.out] at hown
        obtain ⟨Al, cl, rfl, p1, p2, _, p3, _⟩ := hown.form
        have HF5 := hide (HF4.out.tr hfr)
        have HF45 := hide hfr
        have HRl := hide p3
        have HSl := hide (fun W (f : Fr No w5 W) => Src.ofRd (P := Try.prog) (size := 1) W Try.underlying28 Al nl cl (by8 L) (by rw [by8_length, ← HNl.out, Nat.mul_one]) (by omega) (p3.fr0 f) (by8_one _))
        have k1 := hfr.cell HK1.out (fun h => h)
        have hxx := hfr.cell HXx.out (fun h => h)
        have HK5 := hide k1
        have HX5 := hide hxx
        clear k1 hxx
        have HO5 := hide (own_new8 w5 #[.int .u8 1] 1 [1] 5 rfl rfl (by decide))
        have HF6 : Hid (Fr No w5 (w5.alloc (.cells #[.int .u8 1] 5))) := hide ((Fr.refl No w5).alloc _)
        have hz6 : w5.heap.size ≤ (w5.alloc (.cells #[.int .u8 1] 5)).heap.size := HF6.out.size
        have b1 : (1 + eb) * 1 ≤ 140737488355328 := by omega
        have b2 : 1 + eb ≤ maxLen := by unfold maxLen; omega
        have b3 : (1 + eb + ez) * 1 ≤ 140737488355328 := by omega
        have b4 : 1 + eb + ez ≤ maxLen := by unfold maxLen; omega
        have b5 : (1 + eb + ez + el) * 1 ≤ 140737488355328 := by omega
        have b6 : 1 + eb + ez + el ≤ maxLen := by unfold maxLen; omega
        have b7 : (1 + eb + ez + el + nl) * 1 ≤ 140737488355328 := by omega
        have b8 : 1 + eb + ez + el + nl ≤ maxLen := by unfold maxLen; omega
        have b9 : (1 + eb + ez + el + nl + nr) * 1 ≤ 140737488355328 := by omega
        have b10 : 1 + eb + ez + el + nl + nr ≤ maxLen := by unfold maxLen; omega
        unfold maxLen at p2
        clear hown hfr p3 HTl HK1 HXx
        go_wp2_with (first
          | (go_at_call 14; refine (HUb.out _).mono ?_; rintro en w7 ⟨vu, rfl, hown, hfr⟩; rw [← HEb.out] at hown; obtain ⟨Au, cu, rfl, p1, p2, _, p3, _⟩ := hown.form; have HS7 := hide (Src.ofRd (P := Try.prog) (size := 1) w7 Try.underlying28 Au eb cu (by8 (enc bb)) (by rw [by8_length, ← HEb.out, Nat.mul_one]) (by omega) p3 (by8_one _)); have HO7 := hide (HO5.out.fr0 hfr); have HF7 : Hid (Fr No w5 w7) := hide (HF6.out.tr hfr); have hz7 : w5.heap.size ≤ w7.heap.size := HF7.out.size; unfold maxLen at p2; clear hown hfr p3 HUb)
          | (at_builtin; refine wpList_append_gen _ rfl (.tmp 86) (.tmp 89) 28 28 rfl w5.heap.size 5 i5 (.int .u8 0) 1 1 Try.underlying28 hi5 hz5 hsz5 hby5 rfl (.slice (some ⟨w5.heap.size, 0, none⟩) 1 1) 1 (by8 [1]) rfl HO7.out _ eb (by8 (enc bb)) rfl HS7.out b1 b2 hz7 ?_; intro v8 w8 hown hfr hat; rw [← by8_append] at hown; have HO8 := hide hown; have HF8 : Hid (Fr No w5 w8) := hide (HF7.out.own hfr (fun g hg => .inl (HO7.out.lt g hg).1)); have hzw8 : w5.heap.size ≤ w8.heap.size := HF8.out.size; have k1 := HF8.out.cell HK5.out (fun h => h); have hxx := HF8.out.cell HX5.out (fun h => h); clear hown hfr hat)
          | (go_at_call 24; refine (HTu.out _).mono ?_; rintro en wz ⟨rfl, rfl⟩))
        clear k1 hxx HS7 HO7 HO5 HF7 hz6 hz7 b1 b2
        go_wp2_with (first
          | (go_at_call 14; refine (HUz.out _).mono ?_; rintro en w9 ⟨vu, rfl, hown, hfr⟩; rw [← HEz.out] at hown; obtain ⟨Au, cu, rfl, p1, p2, _, p3, _⟩ := hown.form; have HS9 := hide (Src.ofRd (P := Try.prog) (size := 1) w9 Try.underlying28 Au ez cu (by8 (enc z)) (by rw [by8_length, ← HEz.out, Nat.mul_one]) (by omega) p3 (by8_one _)); have HO9 := hide (HO8.out.fr0 hfr); have HF9 : Hid (Fr No w5 w9) := hide (HF8.out.tr hfr); have hz9 : w5.heap.size ≤ w9.heap.size := HF9.out.size; unfold maxLen at p2; clear hown hfr p3 HUz)
          | (at_builtin; refine wpList_append_gen _ rfl (.tmp 91) (.tmp 101) 28 28 rfl w5.heap.size 5 i5 (.int .u8 0) 1 1 Try.underlying28 hi5 hz5 hsz5 hby5 rfl v8 (1 + eb) (by8 ([1] ++ enc bb)) rfl HO9.out _ ez (by8 (enc z)) rfl HS9.out b3 b4 hz9 ?_; intro v10 w10 hown hfr hat; rw [← by8_append] at hown; have HO10 := hide hown; have HF10 : Hid (Fr No w5 w10) := hide (HF9.out.own hfr (fun g hg => .inl (HO9.out.lt g hg).1)); have hzw10 : w5.heap.size ≤ w10.heap.size := HF10.out.size; clear hown hfr hat))
        clear HS9 HO9 HF9 hz9 HO8 b3 b4
        go_wp2_with (first
          | (go_at_call 14; refine (HUl.out _).mono ?_; rintro en w11 ⟨vu, rfl, hown, hfr⟩; rw [← HEl.out] at hown; obtain ⟨Au, cu, rfl, p1, p2, _, p3, _⟩ := hown.form; have HS11 := hide (Src.ofRd (P := Try.prog) (size := 1) w11 Try.underlying28 Au el cu (by8 (enc nl)) (by rw [by8_length, ← HEl.out, Nat.mul_one]) (by omega) p3 (by8_one _)); have HO11 := hide (HO10.out.fr0 hfr); have HF11 : Hid (Fr No w5 w11) := hide (HF10.out.tr hfr); have hz11 : w5.heap.size ≤ w11.heap.size := HF11.out.size; unfold maxLen at p2; clear hown hfr p3 HUl)
          | (at_builtin; refine wpList_append_gen _ rfl (.tmp 103) (.tmp 107) 28 28 rfl w5.heap.size 5 i5 (.int .u8 0) 1 1 Try.underlying28 hi5 hz5 hsz5 hby5 rfl v10 (1 + eb + ez) (by8 ([1] ++ enc bb ++ enc z)) rfl HO11.out _ el (by8 (enc nl)) rfl HS11.out b5 b6 hz11 ?_; intro v12 w12 hown hfr hat; rw [← by8_append] at hown; have HO12 := hide hown; have HF12 : Hid (Fr No w5 w12) := hide (HF11.out.own hfr (fun g hg => .inl (HO11.out.lt g hg).1)); have hzw12 : w5.heap.size ≤ w12.heap.size := HF12.out.size; have HS12 := hide (HSl.out w12 HF12.out); clear hown hfr hat)
          | (at_builtin; refine wpList_append_gen _ rfl (.tmp 109) (.tmp 110) 28 28 rfl w5.heap.size 5 i5 (.int .u8 0) 1 1 Try.underlying28 hi5 hz5 hsz5 hby5 rfl v12 (1 + eb + ez + el) (by8 ([1] ++ enc bb ++ enc z ++ enc nl)) rfl HO12.out _ nl (by8 (L)) rfl HS12.out b7 b8 hzw12 ?_; intro v13 w13 hown hfr hat; rw [← by8_append] at hown; have HO13 := hide hown; have HF13 : Hid (Fr No w5 w13) := hide (HF12.out.own hfr (fun g hg => .inl (HO12.out.lt g hg).1)); have hzw13 : w5.heap.size ≤ w13.heap.size := HF13.out.size; clear hown hfr hat))
        have HTw := hide (HTr.out w13 (HF45.out.tr HF13.out))
        clear HTr
        go_wp2_with (fail)
        refine HTw.out.mono ?_
        rintro en w14 ⟨vr, rfl, hown, hfr⟩
        rw [← HNr.out] at hown
        obtain ⟨Ar, cr, rfl, p1', p2', _, p3, _⟩ := hown.form
        have HS14 := hide (Src.ofRd (P := Try.prog) (size := 1) w14 Try.underlying28 Ar nr cr (by8 R) (by rw [by8_length, ← HNr.out, Nat.mul_one]) (by omega) p3 (by8_one _))
        have HO14 := hide (HO13.out.fr0 hfr)
        have HF14 : Hid (Fr No w5 w14) := hide (HF13.out.tr hfr)
        have hz14 : w5.heap.size ≤ w14.heap.size := HF14.out.size
        unfold maxLen at p2'
        clear hown hfr p3 HTw
        go_wp2_with (first
          | (at_builtin; refine wpList_append_gen _ rfl (.tmp 112) (.tmp 117) 28 28 rfl w5.heap.size 5 i5 (.int .u8 0) 1 1 Try.underlying28 hi5 hz5 hsz5 hby5 rfl v13 (1 + eb + ez + el + nl) (by8 ([1] ++ enc bb ++ enc z ++ enc nl ++ L)) rfl HO14.out _ nr (by8 (R)) rfl HS14.out b9 b10 hz14 ?_; intro v15 w15 hown hfr hat; rw [← by8_append] at hown; have HO15 := hide hown; have HF15 : Hid (Fr No w5 w15) := hide (HF14.out.own hfr (fun g hg => .inl (HO14.out.lt g hg).1)); have hzw15 : w5.heap.size ≤ w15.heap.size := HF15.out.size; clear hown hfr hat))
        go_ret
        have hlen : (treeP j l).length = 1 + eb + ez + el + nl + nr := by
          rw [HCut.out]
          simp only [List.length_cons, List.length_append, ← HEb.out, ← HEz.out, ← HEl.out, ← HNl.out, ← HNr.out]
          omega
        refine ⟨v15, rfl, ?_, HF5.out.tr HF15.out⟩
        rw [hlen, HCut.out]
        have h := HO15.out.lower (show wr.heap.size ≤ w5.heap.size from HF5.out.size)
        simpa [List.append_assoc] using h
end Go.Proofs.Ytkenjhalamdjfaa
