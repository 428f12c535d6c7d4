/- Several texts in one: BkV, BkX, BkNw, BkNx. -/
import Derived.Test.YtpopbkcbplmcaaaGreatK9
import Derived.IntWalk
namespace Go.Proofs.YtpopbkcbplmcaaaGreat
set_option linter.unusedVariables false
set_option linter.unusedSimpArgs false
open Go.RowKit

theorem wid_one (l : List Pt) : widF l 1 = 0 := by simp [widF]
theorem wid_step (l : List Pt) (k : Nat) : widF l (k + 1) = if farP (widF l k) l < farP k l then k else widF l k := rfl
theorem InI.of2 {dims : Nat} {l : List Po} (h : OkL dims l) : ∀ p ∈ l, p.2.length = dims ∧ InI p.2 := fun p hp => ⟨(h p hp).1, (h p hp).2.1⟩
set_option maxRecDepth 100000 in
set_option maxHeartbeats 8000000 in
theorem tree_any (dims : Nat) (hdm : 1 ≤ dims ∧ dims ≤ 4) : ∀ (n : Nat) (A : Option Addr) (c B : Nat) (l : List Po) (w : World), l.length = n → n ≤ 1048576 → n ≤ c → c ≤ maxLen → B ≤ w.heap.size → OkL dims l → RdPo w B A l →
    Calls Tryz.prog 50 #[.int .i64 (dims : Nat), .slice A n c] w (GivesB w (treeP dims l)) := by
  intro n
  induction n using Nat.strongRecOn with
  | ind n ih =>
    intro A c B l w hl hnb hn hc hB hd hr
    by_cases h8 : n ≤ 8
    · exact tree_leaf dims hdm n A c B l w hl h8 hn hc hB hd hr
    obtain ⟨i5, hi5, hz5, hsz5, hby5⟩ := info_parts Tryz.info5
    have d8 : decide (n ≤ 8) = false := decide_eq_false h8
    have d8' : decide ((n : Int) ≤ 8) = false := decide_eq_false (by omega)
    have hdm1 := hdm.1
    have hdm4 := hdm.2
    have HFar := hide (fun (d : Nat) (hdd : d < dims) => far_any A n c B d dims l w hl (by omega) hn hc (InI.of2 hd) hdd hr)
    have HSo := hide (fun (d : Nat) (hdd : d < dims) => sorted_any d dims hdd n A c B l w hl hnb hn hc hB (fun p hp => (hd p hp).1) hr)
    have HIh := hide ih
    have HL := hide hl
    have HD := hide hd
    have HBw := hide hB
    have HUu := hide (fun (u : Nat) (hu : u < 18446744073709551616) W => refUint_any u W hu)
    obtain ⟨k, hk⟩ : ∃ k, k = (n + 1) / 2 := ⟨_, rfl⟩
    have ek : ((n : Int) + 1) / 2 = (k : Int) := by omega
    have HK := hide hk
    have hkn : k < n := by omega
    have hk1 : 1 ≤ k := by omega
    have hkle : k ≤ n := by omega
    have H8 := hide h8
    unfold maxLen at hc
    clear hl hr ih hd hB hk h8 hdm
    go_enter Tryz.func50, Tryz.ntmps50
    go_wp2_with (fail)
    clear d8 d8'
    go_loopw [9, 10] (fun vb vd wr => ∃ (j bb : Nat), 1 ≤ j ∧ j ≤ dims ∧ vd = .int .i64 (j : Nat) ∧ vb = .int .i64 (bb : Nat) ∧ bb < j ∧ Hid (bb = widF l j) ∧ wr = w) (fun _ vd _ => dims - (intOf vd).toNat)
    case atStart => exact ⟨1, 0, by omega, by omega, by go_num, by go_num, by omega, hide (wid_one l).symm, rfl⟩
    case round =>
      obtain ⟨j, bb, hj1, hj, rfl, rfl, hbj, HWd, rfl⟩ := hrel
      by_cases hlj : j < dims
      · have HFj := hide (HFar.out j hlj)
        have HFb := hide (HFar.out bb (by omega))
        have hst := wid_step l j
        rw [← HWd.out] at hst
        obtain ⟨fj, hfj⟩ : ∃ x, x = farP j l := ⟨_, rfl⟩
        obtain ⟨fb, hfb⟩ : ∃ x, x = farP bb l := ⟨_, rfl⟩
        rw [← hfj, ← hfb] at hst
        rw [← hfj] at HFj
        rw [← hfb] at HFb
        have HSt := hide hst
        clear hfj hfb hst
        go_wp2_with (fail)
        refine HFj.out.mono ?_
        rintro en w1 ⟨rfl, rfl⟩
        clear HFj
        go_wp2_with (fail)
        refine HFb.out.mono ?_
        rintro en w1 ⟨rfl, rfl⟩
        clear HFb
        by_cases hlt : fb < fj
        · have d1 : decide (fb < fj) = true := decide_eq_true hlt
          have d2 : decide ((fb : Int) < (fj : Int)) = true := decide_eq_true (by omega)
          have HW2 : Hid (j = widF l (j + 1)) := hide (by rw [HSt.out, if_pos hlt])
          clear hlt
          go_wp2_with (fail)
          go_roundw
          case rel => exact ⟨j + 1, j, by omega, by omega, by go_num, rfl, by omega, HW2, trivial⟩
          case measure => simp [intOf]; omega
        · have d1 : decide (fb < fj) = false := decide_eq_false hlt
          have d2 : decide ((fb : Int) < (fj : Int)) = false := decide_eq_false (by omega)
          have HW2 : Hid (bb = widF l (j + 1)) := hide (by rw [HSt.out, if_neg hlt])
          clear hlt
          go_wp2_with (fail)
          go_roundw
          case rel => exact ⟨j + 1, bb, by omega, by omega, by go_num, rfl, by omega, HW2, trivial⟩
          case measure => simp [intOf]; omega
      · obtain rfl : j = dims := by omega
        have HSb := hide (HSo.out bb hbj)
        obtain ⟨s, hs⟩ : ∃ s, s = sortP bb l := ⟨_, rfl⟩
        have hsl : s.length = n := by rw [hs, sortP_len, HL.out]
        have hsm : ∀ p ∈ s, p ∈ l := fun p hp => sortP_mem.1 (by rw [← hs]; exact hp)
        have hks : k < s.length := by omega
        have hcut := treeP_cut (dims := j) (n := k) (by rw [HL.out]; exact H8.out) HWd.out hs (by rw [HL.out]; exact HK.out)
        have hok : OkL j s := fun p hp => HD.out p (hsm p hp)
        have hpk := hok _ (getP_mem hks)
        have htl := treeP_le j k (s.take k) (by rw [List.length_take]; omega) hk1 (fun p hp => by rw [(hok p (List.mem_of_mem_take hp)).1]; exact hdm4)
        have htr := treeP_le j (n - k) (s.drop k) (by rw [List.length_drop]; omega) (by omega) (fun p hp => by rw [(hok p (List.mem_of_mem_drop hp)).1]; exact hdm4)
        have HIl := hide (fun A' c' B' W => HIh.out k hkn A' c' B' (s.take k) W (by rw [List.length_take]; omega) (by omega))
        have HIr := hide (fun A' c' B' W => HIh.out (n - k) (by omega) A' c' B' (s.drop k) W (by rw [List.length_drop]; omega) (by omega))
        have HOl : Hid (OkL j (s.take k)) := hide (fun p hp => hok p (List.mem_of_mem_take hp))
        have HOr : Hid (OkL j (s.drop k)) := hide (fun p hp => hok p (List.mem_of_mem_drop hp))
        have hx := hpk.2.1 ((s.getD k noPo).2.getD bb 0) (getZ_mem (by rw [hpk.1]; exact hbj))
        have e00 : s.getD k noPt = s.getD k noPo := rfl
        rw [e00] at hcut
        obtain ⟨pk, hpke⟩ : ∃ x, x = s.getD k noPo := ⟨_, rfl⟩
        rw [← hpke] at hpk hx hcut
        obtain ⟨x, hxe⟩ : ∃ x, x = pk.2.getD bb 0 := ⟨_, rfl⟩
        rw [← hxe] at hx hcut
        obtain ⟨L, hL⟩ : ∃ L, L = treeP j (s.take k) := ⟨_, rfl⟩
        obtain ⟨R, hR⟩ : ∃ R, R = treeP j (s.drop k) := ⟨_, rfl⟩
        rw [← hL] at htl hcut HIl
        rw [← hR] at htr hcut HIr
        obtain ⟨nl, hnl⟩ : ∃ n, n = L.length := ⟨_, rfl⟩
        obtain ⟨nr, hnr⟩ : ∃ n, n = R.length := ⟨_, rfl⟩
        rw [← hnl] at htl hcut
        rw [← hnr] at htr
        obtain ⟨z, hz⟩ : ∃ z, z = zz x := ⟨_, rfl⟩
        have hzl : z < 18446744073709551616 := by rw [hz]; exact zz_lt hx.1 hx.2
        rw [← hz] at hcut
        have HTu := hide (fun W => turned_any x W hx.1 hx.2)
        rw [← hz] at HTu
        have HUb := hide (HUu.out bb (by omega))
        have HUz := hide (HUu.out z hzl)
        have HUl := hide (HUu.out nl (by omega))
        obtain ⟨eb, heb⟩ : ∃ y, y = (enc bb).length := ⟨_, rfl⟩
        have heb10 := (enc_len bb).2
        rw [← heb] at heb10
        obtain ⟨ez, hez⟩ : ∃ y, y = (enc z).length := ⟨_, rfl⟩
        have hez10 := (enc_len z).2
        rw [← hez] at hez10
        obtain ⟨el, hel⟩ : ∃ y, y = (enc nl).length := ⟨_, rfl⟩
        have hel10 := (enc_len nl).2
        rw [← hel] at hel10
        have HEb := hide heb
        have HEz := hide hez
        have HEl := hide hel
        have HNl := hide hnl
        have HNr := hide hnr
        have HCut := hide hcut
        have HKs := hide hks
        have HPe := hide hpke
        have HXe := hide hxe
        have HPk := hide hpk
        rw [← hs] at HSb
        clear hsl hsm hks hcut hok hpk hx e00 hpke hxe hL hR hnl hnr hz heb hez hel hzl hs hlj HFar HSo HIh HUu
        go_wp2_with (fail)
        refine HSb.out.mono ?_
        rintro en w4 ⟨A4, c4, rfl, x1, x2, hrs, hf⟩
        obtain ⟨ad, A1, c1, rfl, _, k0, k1, g1, g2, hrk⟩ := hrs.at HKs.out
        rw [← HPe.out, HPk.out.1] at k1 g1
        rw [← HPe.out] at hrk k0
        obtain ⟨ad1, rfl, _, hxx⟩ := cellInt hrk (k := bb) (by rw [HPk.out.1]; exact hbj)
        rw [← HXe.out] at hxx
        have hrd := hrs.rd (Nat.le_trans HBw.out hf.size)
        have HR4 := hide hrd
        have HF4 := hide hf
        have HTl := hide (HIl.out (some ad) c4 w4.heap.size w4 (by omega) x2 (Nat.le_refl _) HOl.out (hrd.take k))
        have HTr := hide (fun W (f : Fr No w4 W) => HIr.out (some (ad.add (k * 2))) (c4 - k) w4.heap.size W (by omega) (by omega) f.size HOr.out ((hrd.drop k).fr0 f))
        have HK1 := hide k1
        have HXx := hide hxx
        have hk4 : k ≤ c4 := by omega
        have hck : ¬ c4 = k := by omega
        unfold maxLen at x2 g2
        clear hrs hf hrk k0 k1 hxx hrd HIl HIr HSb
        go_wp2_with (fail)
        refine HTl.out.mono ?_
        rintro en w5 ⟨vl, rfl, hown, hfr⟩
        rw [← HNl.out] at hown
        obtain ⟨Al, cl, rfl, p1, p2, _, p3, _⟩ := hown.form
        have HF5 := hide (HF4.out.tr hfr)
        have HF45 := hide hfr
        have HRl := hide p3
        have HSl := hide (fun W (f : Fr No w5 W) => Src.ofRd (P := Tryz.prog) (size := 1) W Tryz.underlying22 Al nl cl (by8 L) (by rw [by8_length, ← HNl.out, Nat.mul_one]) (by omega) (p3.fr0 f) (by8_one _))
        have k1 := hfr.cell HK1.out (fun h => h)
        have hxx := hfr.cell HXx.out (fun h => h)
        have HK5 := hide k1
        have HX5 := hide hxx
        clear k1 hxx
        have HO5 := hide (own_new8 w5 #[.int .u8 1] 1 [1] 5 rfl rfl (by decide))
        have HF6 : Hid (Fr No w5 (w5.alloc (.cells #[.int .u8 1] 5))) := hide ((Fr.refl No w5).alloc _)
        have hz6 : w5.heap.size ≤ (w5.alloc (.cells #[.int .u8 1] 5)).heap.size := HF6.out.size
        have b1 : (1 + eb) * 1 ≤ 140737488355328 := by omega
        have b2 : 1 + eb ≤ maxLen := by unfold maxLen; omega
        have b3 : (1 + eb + ez) * 1 ≤ 140737488355328 := by omega
        have b4 : 1 + eb + ez ≤ maxLen := by unfold maxLen; omega
        have b5 : (1 + eb + ez + el) * 1 ≤ 140737488355328 := by omega
        have b6 : 1 + eb + ez + el ≤ maxLen := by unfold maxLen; omega
        have b7 : (1 + eb + ez + el + nl) * 1 ≤ 140737488355328 := by omega
        have b8 : 1 + eb + ez + el + nl ≤ maxLen := by unfold maxLen; omega
        have b9 : (1 + eb + ez + el + nl + nr) * 1 ≤ 140737488355328 := by omega
        have b10 : 1 + eb + ez + el + nl + nr ≤ maxLen := by unfold maxLen; omega
        unfold maxLen at p2
        clear hown hfr p3 HTl HK1 HXx
        go_wp2_with (first
          | (go_at_call 49; refine (HUb.out _).mono ?_; rintro en w7 ⟨vu, rfl, hown, hfr⟩; rw [← HEb.out] at hown; obtain ⟨Au, cu, rfl, p1, p2, _, p3, _⟩ := hown.form; have HS7 := hide (Src.ofRd (P := Tryz.prog) (size := 1) w7 Tryz.underlying22 Au eb cu (by8 (enc bb)) (by rw [by8_length, ← HEb.out, Nat.mul_one]) (by omega) p3 (by8_one _)); have HO7 := hide (HO5.out.fr0 hfr); have HF7 : Hid (Fr No w5 w7) := hide (HF6.out.tr hfr); have hz7 : w5.heap.size ≤ w7.heap.size := HF7.out.size; unfold maxLen at p2; clear hown hfr p3 HUb)
          | (at_builtin; refine wpList_append_gen _ rfl (.tmp 86) (.tmp 89) 22 22 rfl w5.heap.size 5 i5 (.int .u8 0) 1 1 Tryz.underlying22 hi5 hz5 hsz5 hby5 rfl (.slice (some ⟨w5.heap.size, 0, none⟩) 1 1) 1 (by8 [1]) rfl HO7.out _ eb (by8 (enc bb)) rfl HS7.out b1 b2 hz7 ?_; intro v8 w8 hown hfr hat; rw [← by8_append] at hown; have HO8 := hide hown; have HF8 : Hid (Fr No w5 w8) := hide (HF7.out.own hfr (fun g hg => .inl (HO7.out.lt g hg).1)); have hzw8 : w5.heap.size ≤ w8.heap.size := HF8.out.size; have k1 := HF8.out.cell HK5.out (fun h => h); have hxx := HF8.out.cell HX5.out (fun h => h); clear hown hfr hat)
          | (go_at_call 75; refine (HTu.out _).mono ?_; rintro en wz ⟨rfl, rfl⟩))
        clear k1 hxx HS7 HO7 HO5 HF7 hz6 hz7 b1 b2
        go_wp2_with (first
          | (go_at_call 49; refine (HUz.out _).mono ?_; rintro en w9 ⟨vu, rfl, hown, hfr⟩; rw [← HEz.out] at hown; obtain ⟨Au, cu, rfl, p1, p2, _, p3, _⟩ := hown.form; have HS9 := hide (Src.ofRd (P := Tryz.prog) (size := 1) w9 Tryz.underlying22 Au ez cu (by8 (enc z)) (by rw [by8_length, ← HEz.out, Nat.mul_one]) (by omega) p3 (by8_one _)); have HO9 := hide (HO8.out.fr0 hfr); have HF9 : Hid (Fr No w5 w9) := hide (HF8.out.tr hfr); have hz9 : w5.heap.size ≤ w9.heap.size := HF9.out.size; unfold maxLen at p2; clear hown hfr p3 HUz)
          | (at_builtin; refine wpList_append_gen _ rfl (.tmp 91) (.tmp 101) 22 22 rfl w5.heap.size 5 i5 (.int .u8 0) 1 1 Tryz.underlying22 hi5 hz5 hsz5 hby5 rfl v8 (1 + eb) (by8 ([1] ++ enc bb)) rfl HO9.out _ ez (by8 (enc z)) rfl HS9.out b3 b4 hz9 ?_; intro v10 w10 hown hfr hat; rw [← by8_append] at hown; have HO10 := hide hown; have HF10 : Hid (Fr No w5 w10) := hide (HF9.out.own hfr (fun g hg => .inl (HO9.out.lt g hg).1)); have hzw10 : w5.heap.size ≤ w10.heap.size := HF10.out.size; clear hown hfr hat))
        clear HS9 HO9 HF9 hz9 HO8 b3 b4
        go_wp2_with (first
          | (go_at_call 49; refine (HUl.out _).mono ?_; rintro en w11 ⟨vu, rfl, hown, hfr⟩; rw [← HEl.out] at hown; obtain ⟨Au, cu, rfl, p1, p2, _, p3, _⟩ := hown.form; have HS11 := hide (Src.ofRd (P := Tryz.prog) (size := 1) w11 Tryz.underlying22 Au el cu (by8 (enc nl)) (by rw [by8_length, ← HEl.out, Nat.mul_one]) (by omega) p3 (by8_one _)); have HO11 := hide (HO10.out.fr0 hfr); have HF11 : Hid (Fr No w5 w11) := hide (HF10.out.tr hfr); have hz11 : w5.heap.size ≤ w11.heap.size := HF11.out.size; unfold maxLen at p2; clear hown hfr p3 HUl)
          | (at_builtin; refine wpList_append_gen _ rfl (.tmp 103) (.tmp 107) 22 22 rfl w5.heap.size 5 i5 (.int .u8 0) 1 1 Tryz.underlying22 hi5 hz5 hsz5 hby5 rfl v10 (1 + eb + ez) (by8 ([1] ++ enc bb ++ enc z)) rfl HO11.out _ el (by8 (enc nl)) rfl HS11.out b5 b6 hz11 ?_; intro v12 w12 hown hfr hat; rw [← by8_append] at hown; have HO12 := hide hown; have HF12 : Hid (Fr No w5 w12) := hide (HF11.out.own hfr (fun g hg => .inl (HO11.out.lt g hg).1)); have hzw12 : w5.heap.size ≤ w12.heap.size := HF12.out.size; have HS12 := hide (HSl.out w12 HF12.out); clear hown hfr hat)
          | (at_builtin; refine wpList_append_gen _ rfl (.tmp 109) (.tmp 110) 22 22 rfl w5.heap.size 5 i5 (.int .u8 0) 1 1 Tryz.underlying22 hi5 hz5 hsz5 hby5 rfl v12 (1 + eb + ez + el) (by8 ([1] ++ enc bb ++ enc z ++ enc nl)) rfl HO12.out _ nl (by8 (L)) rfl HS12.out b7 b8 hzw12 ?_; intro v13 w13 hown hfr hat; rw [← by8_append] at hown; have HO13 := hide hown; have HF13 : Hid (Fr No w5 w13) := hide (HF12.out.own hfr (fun g hg => .inl (HO12.out.lt g hg).1)); have hzw13 : w5.heap.size ≤ w13.heap.size := HF13.out.size; clear hown hfr hat))
        have HTw := hide (HTr.out w13 (HF45.out.tr HF13.out))
        clear HTr
        go_wp2_with (fail)
        refine HTw.out.mono ?_
        rintro en w14 ⟨vr, rfl, hown, hfr⟩
        rw [← HNr.out] at hown
        obtain ⟨Ar, cr, rfl, p1', p2', _, p3, _⟩ := hown.form
        have HS14 := hide (Src.ofRd (P := Tryz.prog) (size := 1) w14 Tryz.underlying22 Ar nr cr (by8 R) (by rw [by8_length, ← HNr.out, Nat.mul_one]) (by omega) p3 (by8_one _))
        have HO14 := hide (HO13.out.fr0 hfr)
        have HF14 : Hid (Fr No w5 w14) := hide (HF13.out.tr hfr)
        have hz14 : w5.heap.size ≤ w14.heap.size := HF14.out.size
        unfold maxLen at p2'
        clear hown hfr p3 HTw
        go_wp2_with (first
          | (at_builtin; refine wpList_append_gen _ rfl (.tmp 112) (.tmp 117) 22 22 rfl w5.heap.size 5 i5 (.int .u8 0) 1 1 Tryz.underlying22 hi5 hz5 hsz5 hby5 rfl v13 (1 + eb + ez + el + nl) (by8 ([1] ++ enc bb ++ enc z ++ enc nl ++ L)) rfl HO14.out _ nr (by8 (R)) rfl HS14.out b9 b10 hz14 ?_; intro v15 w15 hown hfr hat; rw [← by8_append] at hown; have HO15 := hide hown; have HF15 : Hid (Fr No w5 w15) := hide (HF14.out.own hfr (fun g hg => .inl (HO14.out.lt g hg).1)); have hzw15 : w5.heap.size ≤ w15.heap.size := HF15.out.size; clear hown hfr hat))
        go_ret
        have hlen : (treeP j l).length = 1 + eb + ez + el + nl + nr := by
          rw [HCut.out]
          simp only [List.length_cons, List.length_append, ← HEb.out, ← HEz.out, ← HEl.out, ← HNl.out, ← HNr.out]
          omega
        refine ⟨v15, rfl, ?_, HF5.out.tr HF15.out⟩
        rw [hlen, HCut.out]
        have h := HO15.out.lower (show wr.heap.size ≤ w5.heap.size from HF5.out.size)
        simpa [List.append_assoc] using h
end Go.Proofs.YtpopbkcbplmcaaaGreat
namespace Go.Proofs.YtpopbkcbplmcaaaGreat
set_option linter.unusedVariables false
set_option linter.unusedSimpArgs false
open Go.RowKit

set_option maxRecDepth 100000 in
set_option maxHeartbeats 2000000 in
theorem may_any (A : Option Addr) (n c B : Nat) (dims : Int) (l : List Po) (w : World) (hl : l.length = n) (hn : n ≤ c) (hc : c ≤ maxLen) (hr : RdPo w B A l) :
    Calls Tryz.prog 48 #[.int .i64 dims, .slice A n c] w (Ret (.bool (decide (mayP dims l))) w) := by
  have HL := hide hl
  have HR := hide hr
  unfold maxLen at hc
  clear hr hl
  obtain ⟨r, hr⟩ : ∃ r, r = decide (mayP dims l) := ⟨_, rfl⟩
  rw [← hr]
  have HRr := hide hr
  clear hr
  by_cases g1 : dims < 1
  · have HNo : Hid (r = false) := hide (by rw [HRr.out]; exact decide_eq_false (fun h => by have := h.1; omega))
    have d1 : decide (dims < 1) = true := decide_eq_true g1
    go_enter Tryz.func48, Tryz.ntmps48
    go_wp2
    go_ret
    exact ⟨by rw [HNo.out]; rfl, rfl⟩
  have d1 : decide (dims < 1) = false := decide_eq_false g1
  by_cases g2 : 4 < dims
  · have HNo : Hid (r = false) := hide (by rw [HRr.out]; exact decide_eq_false (fun h => by have := h.2.1; omega))
    have d2 : decide (4 < dims) = true := decide_eq_true g2
    go_enter Tryz.func48, Tryz.ntmps48
    go_wp2
    go_ret
    exact ⟨by rw [HNo.out]; rfl, rfl⟩
  have d2 : decide (4 < dims) = false := decide_eq_false g2
  by_cases g3 : 1048576 < n
  · have HNo : Hid (r = false) := hide (by rw [HRr.out]; exact decide_eq_false (fun h => by have := h.2.2.1; have := HL.out; omega))
    have d3 : decide (1048576 < n) = true := decide_eq_true g3
    have d4 : decide ((1048576 : Int) < (n : Int)) = true := decide_eq_true (by omega)
    go_enter Tryz.func48, Tryz.ntmps48
    go_wp2
    go_ret
    exact ⟨by rw [HNo.out]; rfl, rfl⟩
  have d3 : decide (1048576 < n) = false := decide_eq_false g3
  have d4 : decide ((1048576 : Int) < (n : Int)) = false := decide_eq_false (by omega)
  obtain ⟨dn, rfl⟩ : ∃ m : Nat, dims = (m : Int) := ⟨dims.toNat, by omega⟩
  have hdn1 : 1 ≤ dn := by omega
  have hdn4 : dn ≤ 4 := by omega
  have hn20 : n ≤ 1048576 := by omega
  clear g1 g2 g3
  go_enter Tryz.func48, Tryz.ntmps48
  go_wp2
  clear d1 d2 d3 d4
  go_loopw [5] (fun i wr => ∃ k : Nat, k ≤ n ∧ i = .int .i64 (k : Nat) ∧ Hid (∀ p ∈ l.take k, (p.2.length : Int) = (dn : Int) ∧ 0 ≤ p.1 ∧ p.1 < 16384) ∧ wr = w) (fun i _ => n - (intOf i).toNat)
  case atStart => exact ⟨0, by omega, by go_num, hide (fun p hp => by rw [List.take_zero] at hp; cases hp), rfl⟩
  case round =>
    obtain ⟨k, hk, rfl, HS, rfl⟩ := hrel
    by_cases hlt : k < n
    · have hk1 : k < l.length := by rw [HL.out]; exact hlt
      obtain ⟨ad, A1, c1, rfl, _, k0, k1, e1, e2, hrk⟩ := HR.out.at hk1
      have hmem := getP_mem hk1
      have htk := take_snocP hk1
      obtain ⟨pk, hpke⟩ : ∃ x, x = l.getD k noPo := ⟨_, rfl⟩
      rw [← hpke] at k0 k1 e1 hmem htk
      obtain ⟨pl, hpl⟩ : ∃ x, x = pk.2.length := ⟨_, rfl⟩
      obtain ⟨pd, hpd⟩ : ∃ x, x = pk.1 := ⟨_, rfl⟩
      rw [← hpl] at k1 e1
      rw [← hpd] at k0
      have HMm := hide hmem
      have HTk := hide htk
      have HPl := hide hpl
      have HPd := hide hpd
      unfold maxLen at e2
      clear hk1 hmem htk hpke hpl hpd hrk
      by_cases h1 : pl = dn
      · subst h1
        have e3 : ((pl : Int) != (pl : Int)) = false := by simp
        by_cases h2 : pd < 0
        · have HNo : Hid (r = false) := hide (by rw [HRr.out]; exact decide_eq_false (fun h => by have := (h.2.2.2 pk HMm.out).2.1; have := HPd.out; omega))
          have d5 : decide (pd < 0) = true := decide_eq_true h2
          go_wp2
          go_ret
          exact ⟨by rw [HNo.out]; rfl, rfl⟩
        · have d5 : decide (pd < 0) = false := decide_eq_false h2
          by_cases h3 : 16384 ≤ pd
          · have HNo : Hid (r = false) := hide (by rw [HRr.out]; exact decide_eq_false (fun h => by have := (h.2.2.2 pk HMm.out).2.2; have := HPd.out; omega))
            have d6 : decide (16384 ≤ pd) = true := decide_eq_true h3
            go_wp2
            go_ret
            exact ⟨by rw [HNo.out]; rfl, rfl⟩
          · have d6 : decide (16384 ≤ pd) = false := decide_eq_false h3
            have HS' : Hid (∀ p ∈ l.take (k + 1), (p.2.length : Int) = (pl : Int) ∧ 0 ≤ p.1 ∧ p.1 < 16384) := hide (fun p hp => by
              rw [HTk.out] at hp
              rcases List.mem_append.1 hp with hp | hp
              · exact HS.out p hp
              · rw [List.mem_singleton.1 hp, ← HPl.out, ← HPd.out]; omega)
            go_wp2
            go_roundw
            case rel => exact ⟨k + 1, by omega, by go_num, HS', trivial⟩
            case measure => simp [intOf]; omega
      · have e3 : ((pl : Int) != (dn : Int)) = true := by simpa using (by omega : ¬ (pl : Int) = (dn : Int))
        have HNo : Hid (r = false) := hide (by rw [HRr.out]; exact decide_eq_false (fun h => by have := (h.2.2.2 pk HMm.out).1; have := HPl.out; omega))
        clear h1
        go_wp2
        go_ret
        exact ⟨by rw [HNo.out]; rfl, rfl⟩
    · obtain rfl : k = n := by omega
      have hall : l.take k = l := List.take_of_length_le (by rw [HL.out]; exact Nat.le_refl _)
      rw [hall] at HS
      have HYes : Hid (r = true) := hide (by rw [HRr.out]; exact decide_eq_true ⟨by omega, by omega, by rw [HL.out]; exact hn20, HS.out⟩)
      clear hall hlt
      go_wp2
      go_ret
      exact ⟨by rw [HYes.out]; rfl, rfl⟩
set_option maxRecDepth 100000 in
set_option maxHeartbeats 2000000 in
theorem rbuild_any (A : Option Addr) (n c B : Nat) (dims : Int) (l : List Po) (w : World) (hl : l.length = n) (hn : n ≤ c) (hc : c ≤ maxLen) (hB : B ≤ w.heap.size) (hi : InI2 l) (hr : RdPo w B A l) :
    Calls Tryz.prog 30 #[.int .i64 dims, .slice A n c] w (GivesB w (keptP dims l)) := by
  have HMay := hide (may_any A n c B dims l w hl hn hc hr)
  by_cases hm : mayP dims l
  · have hm0 : decide (mayP dims l) = true := decide_eq_true hm
    rw [hm0] at HMay
    obtain ⟨i5, hi5, hz5, hsz5, hby5⟩ := info_parts Tryz.info5
    obtain ⟨m1, m2, m3, m4⟩ := id hm
    obtain ⟨dn, rfl⟩ : ∃ m : Nat, dims = (m : Int) := ⟨dims.toNat, by omega⟩
    have HK : Hid (keptP ((dn : Nat) : Int) l = enc dn ++ enc n ++ treeP dn l) := hide (by rw [keptP_yes hm, buildT, hl])
    have hdn1 : 1 ≤ dn := by omega
    have hdn4 : dn ≤ 4 := by omega
    have HTr := hide (fun W (f : Fr No w W) => tree_any dn ⟨hdn1, hdn4⟩ n A c B l W hl (by omega) hn hc (Nat.le_trans hB f.size) (fun p hp => ⟨by have := (m4 p hp).1; omega, (hi p hp).1, (m4 p hp).2.1, (m4 p hp).2.2⟩) (hr.fr0 f))
    have htl : (treeP dn l).length ≤ 110 * 1048576 := by
      by_cases h0 : 1 ≤ n
      · have := treeP_le dn n l hl h0 (fun p hp => by have := (m4 p hp).1; omega); omega
      · have hl0 : l = [] := List.eq_nil_of_length_eq_zero (by omega)
        rw [hl0, treeP_leaf (by simp)]
        have := (enc_len 0).2
        simp [sortP, ptsB]; omega
    obtain ⟨T, hT⟩ : ∃ T, T = treeP dn l := ⟨_, rfl⟩
    rw [← hT] at HK HTr htl
    obtain ⟨tn, htn⟩ : ∃ x, x = T.length := ⟨_, rfl⟩
    rw [← htn] at htl
    have HTn := hide htn
    have HU1 := hide (fun W => refUint_any dn W (by omega))
    have HU2 := hide (fun W => refUint_any n W (by omega))
    obtain ⟨ed, hed⟩ : ∃ y, y = (enc dn).length := ⟨_, rfl⟩
    have hed10 := (enc_len dn).2
    rw [← hed] at hed10
    obtain ⟨en_, hen⟩ : ∃ y, y = (enc n).length := ⟨_, rfl⟩
    have hen10 := (enc_len n).2
    rw [← hen] at hen10
    have HEd := hide hed
    have HEn := hide hen
    have b1 : (ed + en_) * 1 ≤ 140737488355328 := by omega
    have b2 : ed + en_ ≤ maxLen := by unfold maxLen; omega
    have b3 : (ed + en_ + tn) * 1 ≤ 140737488355328 := by omega
    have b4 : ed + en_ + tn ≤ maxLen := by unfold maxLen; omega
    have hnm : n ≤ 1048576 := by omega
    unfold maxLen at hc
    clear hm hm0 m1 m2 m3 m4 hl hr hi hT htn hed hen hB
    go_enter Tryz.func30, Tryz.ntmps30
    go_wp2_with (fail)
    refine HMay.out.mono ?_
    rintro en w1 ⟨rfl, rfl⟩
    go_wp2_with (fail)
    refine (HU1.out _).mono ?_
    rintro en w2 ⟨v2, rfl, hown, hfr⟩
    rw [← HEd.out] at hown
    have HO2 := hide hown
    have HF2 := hide hfr
    clear hown hfr HU1 HMay
    go_wp2_with (fail)
    refine (HU2.out _).mono ?_
    rintro en w3 ⟨v3, rfl, hown, hfr⟩
    rw [← HEn.out] at hown
    obtain ⟨A3, c3, rfl, p1, p2, _, p3, _⟩ := hown.form
    have HS3 := hide (Src.ofRd (P := Tryz.prog) (size := 1) w3 Tryz.underlying22 A3 en_ c3 (by8 (enc n)) (by rw [by8_length, ← HEn.out, Nat.mul_one]) (by omega) p3 (by8_one _))
    have HO3 := hide (HO2.out.fr0 hfr)
    have HF3 := hide (HF2.out.tr hfr)
    have hz3 := HF3.out.size
    unfold maxLen at p2
    clear hown hfr p3 HU2 HO2 HF2
    go_wp2_with (at_builtin; refine wpList_append_gen _ rfl (.tmp 13) (.tmp 17) 22 22 rfl w.heap.size 5 i5 (.int .u8 0) 1 1 Tryz.underlying22 hi5 hz5 hsz5 hby5 rfl v2 ed (by8 (enc dn)) rfl HO3.out _ en_ (by8 (enc n)) rfl HS3.out b1 b2 hz3 ?_; intro v4 w4 hown hfr hat; rw [← by8_append] at hown; have HO4 := hide hown; have HF4 := hide (HF3.out.own hfr (fun g hg => .inl (HO3.out.lt g hg).1)); clear hown hfr hat)
    have HTw := hide (HTr.out w4 HF4.out)
    clear HTr HS3 HO3 HF3 hz3 b1 b2
    refine HTw.out.mono ?_
    rintro en w5 ⟨v5, rfl, hown, hfr⟩
    rw [← HTn.out] at hown
    obtain ⟨A5, c5, rfl, p1, p2, _, p3, _⟩ := hown.form
    have HS5 := hide (Src.ofRd (P := Tryz.prog) (size := 1) w5 Tryz.underlying22 A5 tn c5 (by8 T) (by rw [by8_length, ← HTn.out, Nat.mul_one]) (by omega) p3 (by8_one _))
    have HO5 := hide (HO4.out.fr0 hfr)
    have HF5 := hide (HF4.out.tr hfr)
    have hz5' := HF5.out.size
    unfold maxLen at p2
    clear hown hfr p3 HTw HO4 HF4
    go_wp2_with (at_builtin; refine wpList_append_gen _ rfl (.tmp 19) (.tmp 22) 22 22 rfl w.heap.size 5 i5 (.int .u8 0) 1 1 Tryz.underlying22 hi5 hz5 hsz5 hby5 rfl v4 (ed + en_) (by8 (enc dn ++ enc n)) rfl HO5.out _ tn (by8 T) rfl HS5.out b3 b4 hz5' ?_; intro v6 w6 hown hfr hat; rw [← by8_append] at hown; have HO6 := hide hown; have HF6 := hide (HF5.out.own hfr (fun g hg => .inl (HO5.out.lt g hg).1)); clear hown hfr hat)
    go_ret
    refine ⟨v6, rfl, ?_, HF6.out⟩
    rw [HK.out, List.length_append, List.length_append, ← HEd.out, ← HEn.out, ← HTn.out]
    exact HO6.out
  · have hm0 : decide (mayP dims l) = false := decide_eq_false hm
    rw [hm0] at HMay
    have HNo : Hid (keptP dims l = []) := hide (keptP_no hm)
    unfold maxLen at hc
    clear hm hm0 hl hr hi hB
    go_enter Tryz.func30, Tryz.ntmps30
    go_wp2_with (fail)
    refine HMay.out.mono ?_
    rintro en w1 ⟨rfl, rfl⟩
    go_wp2_with (fail)
    go_ret
    rw [HNo.out]; exact givesB_nil _ _ (Fr.refl _ _)
end Go.Proofs.YtpopbkcbplmcaaaGreat
namespace Go.Proofs.YtpopbkcbplmcaaaGreat
set_option linter.unusedVariables false
set_option linter.unusedSimpArgs false
open Go.RowKit

set_option maxRecDepth 100000 in
set_option maxHeartbeats 2000000 in
theorem node_bad (base g gr dims n a : Nat) (bs : List UInt8) (v : Value) (ps : List PoL) (w : World) (h : ND w base g gr dims bs a 0 v ps) (h0 : bs[a]? ≠ some 0) (h1 : bs[a]? ≠ some 1) :
    Calls Tryz.prog 24 #[.pointer (some ⟨gr, 0, none⟩), .int .i64 (n : Nat)] w (NodeQ w base g gr dims bs n a v ps) := by
  have HNo := hide (nodeR_no (dims := dims) (n := n) h0 h1)
  have HN := hide h
  have k0 : w.cell? ⟨gr, 0, none⟩ = some (.pointer (some ⟨g, 0, none⟩)) := cell_of_row _ _ 0 _ _ _ h.row
  have hf13 : ∀ W, Fr (Is g) w W → Fr (S3 g gr v) w W := fun W f => f.mono (fun i _ e => .inl e)
  have HF13 := hide hf13
  have hal : a ≤ bs.length := by obtain ⟨_, _, _, _, _, _, q, _⟩ := h.rd.parts; exact q
  cases hb : bs[a]? with
  | none =>
    have hby : bytesS bs a 0 1 = ([], a, 20) := by
      have h2 := List.getElem?_eq_none_iff.1 hb
      unfold bytesS bytesR
      rw [if_pos rfl, if_pos (by rw [List.length_drop]; omega)]
    have HBy0 := bytes_any g bs a 0 1 w h.rd
    rw [hby] at HBy0
    dsimp only at HBy0
    have HBy := hide HBy0
    have d2 : ((20 : Int) == 0) = false := by decide
    clear hby h0 h1 h HBy0 hf13 hal hb
    go_enter Tryz.func24, Tryz.ntmps24
    go_wp2_with (first
      | (go_at_call 39; refine HBy.out.mono ?_; rintro en w1 ⟨vk, rfl, hown, hrd, hf⟩; obtain ⟨Ak, ck, rfl, y1, y2, _, y3, _⟩ := hown.form; have HN1 := hide (HN.out.read hf hrd); have HF1 := hide hf; have k1 : w1.cell? ⟨gr, 0, none⟩ = some (.pointer (some ⟨g, 0, none⟩)) := cell_of_row _ _ 0 _ _ _ HN1.out.row; have HE1 := hide (err_any g bs a 20 w1 HN1.out.rd); unfold maxLen at y2; clear hown hrd hf y3)
      | (go_at_call 23; refine HE1.out.mono ?_; rintro en w' ⟨rfl, rfl⟩)
      | (go_at_call 22; refine (bgood_bad _).mono ?_; rintro en w' ⟨rfl, rfl⟩))
    exact ⟨rfl, .inr ⟨HNo.out, rfl, HF13.out _ HF1.out⟩⟩
  | some x =>
    have hby := bytes_one hb
    have HBy0 := bytes_any g bs a 0 1 w h.rd
    rw [hby] at HBy0
    dsimp only at HBy0
    have HBy := hide HBy0
    rw [hb] at h0 h1
    obtain ⟨xn, hxn⟩ : ∃ y, y = x.toNat := ⟨_, rfl⟩
    have hx2 : 1 < xn := by
      rw [hxn]
      have n0 : x.toNat ≠ 0 := fun e => h0 (congrArg some (UInt8.toNat_inj.1 e))
      have n1 : x.toNat ≠ 1 := fun e => h1 (congrArg some (UInt8.toNat_inj.1 e))
      omega
    have d3 : decide ((xn : Int) ≤ 1) = false := decide_eq_false (by omega)
    have d4 : decide (xn ≤ 1) = false := decide_eq_false (by omega)
    have HXn := hide hxn
    clear hby h0 h1 h HBy0 hf13 hal hb hxn hx2
    go_enter Tryz.func24, Tryz.ntmps24
    go_wp2_with (first
      | (go_at_call 39; refine HBy.out.mono ?_; rintro en w1 ⟨vk, rfl, hown, hrd, hf⟩; obtain ⟨Ak, ck, rfl, y1, y2, _, y3, _⟩ := hown.form; obtain ⟨adk, rfl, _, hck⟩ := y3.byte (k := 0) (Nat.zero_lt_one); have e0 : ([x].getD 0 0).toNat = xn := HXn.out.symm; rw [e0, Addr.add_zero'] at hck; have HN1 := hide (HN.out.read hf hrd); have HF1 := hide hf; have k1 : w1.cell? ⟨gr, 0, none⟩ = some (.pointer (some ⟨g, 0, none⟩)) := cell_of_row _ _ 0 _ _ _ HN1.out.row; have HE1 := hide (err_any g bs (a + 1) 0 w1 HN1.out.rd); unfold maxLen at y2; clear hown hrd hf y3 e0)
      | (go_at_call 23; refine HE1.out.mono ?_; rintro en w' ⟨rfl, rfl⟩)
      | (go_at_call 22; refine (bgood_bad _).mono ?_; rintro en w' ⟨rfl, rfl⟩))
    exact ⟨rfl, .inr ⟨HNo.out, rfl, HF13.out _ HF1.out⟩⟩
/-- a cut that is being read. -/
structure CtS (w0 W : World) (base g gr dims gx : Nat) (bs : List UInt8) (b : Nat) (e : Int) (v : Value) (ps : List PoL) (d : Nat) (c : Int) (pl : Option Addr) : Prop where
  nd : ND W base g gr dims bs b e v ps
  x : W.heap[gx]? = some (.cells #[.slice none 0 0, .int .i64 (d : Nat), .int .i64 c, .pointer pl, .pointer none] 71 (0, 0))
  hx : w0.heap.size ≤ gx
section
variable {w0 W W' : World} {base g gr dims gx b d : Nat} {bs : List UInt8} {e c : Int} {v : Value} {ps : List PoL} {pl : Option Addr}
theorem CtS.fr0 (h : CtS w0 W base g gr dims gx bs b e v ps d c pl) (f : Fr No W W') : CtS w0 W' base g gr dims gx bs b e v ps d c pl := ⟨h.nd.fr0 f, f.blk h.x (fun h => h), h.hx⟩
theorem CtS.read {b' : Nat} {e' : Int} (h : CtS w0 W base g gr dims gx bs b e v ps d c pl) (f : Fr (Is g) W W') (hr : RD W' g bs b' e') : CtS w0 W' base g gr dims gx bs b' e' v ps d c pl := by
  obtain ⟨cs, fz, hh⟩ := h.nd.rd.blkB
  exact ⟨h.nd.read f hr, f.blk h.x (off_is hh (by decide) _ _ _ h.x), h.hx⟩
end
end Go.Proofs.YtpopbkcbplmcaaaGreat
namespace Go.Proofs.YtpopbkcbplmcaaaGreat
set_option linter.unusedVariables false
set_option linter.unusedSimpArgs false
open Go.RowKit

section
variable {w0 W W6 : World} {base g gr dims gx gl b b4 d : Nat} {bs : List UInt8} {e c : Int} {v v6 : Value} {ps ql : List PoL} {t tl : TreeT} {pl : Option Addr}
theorem CtS.kept (h : CtS w0 W base g gr dims gx bs b e v ps d c pl) (f : Fr (S3 g gr v) W W6) : W6.heap[gx]? = some (.cells #[.slice none 0 0, .int .i64 (d : Nat), .int .i64 c, .pointer pl, .pointer none] 71 (0, 0)) := by
  refine f.blk h.x ?_
  rintro (e | e | e)
  · obtain ⟨cs, fz, hh⟩ := h.nd.rd.blkB
    exact off_is (t' := 71) hh (by decide) _ _ _ h.x e
  · exact off_is (t' := 71) h.nd.row (by decide) _ _ _ h.x e
  · exact h.nd.own.ne_blk e h.x (by decide)
theorem CtS.left (h : CtS w0 W base g gr dims gx bs b e v ps d c none) (f : Fr (S3 g gr v) W W6) (hn : ND W6 base g gr dims bs b4 0 v6 (ps ++ ql)) (ht : TreeM W6 (fun k => W.heap.size ≤ k ∧ Done W6 g gr v6 k) t gl) :
    CtS w0 (W6.setCell ⟨gx, 3, none⟩ (.pointer (some ⟨gl, 0, none⟩))) base g gr dims gx bs b4 0 v6 (ps ++ ql) d c (some ⟨gl, 0, none⟩) ∧ TreeM (W6.setCell ⟨gx, 3, none⟩ (.pointer (some ⟨gl, 0, none⟩))) (fun k => W.heap.size ≤ k ∧ Done (W6.setCell ⟨gx, 3, none⟩ (.pointer (some ⟨gl, 0, none⟩))) g gr v6 k) t gl := by
  have hx := h.kept f
  have hlt := (Array.getElem?_eq_some_iff.1 h.x).1
  have f2 : Fr (Is gx) W6 (W6.setCell ⟨gx, 3, none⟩ (.pointer (some ⟨gl, 0, none⟩))) := (Fr.refl (Is gx) W6).setCell (p := ⟨gx, 3, none⟩) (fun _ => rfl) _
  have o2 : ∀ t, t ≠ 71 → Off (Is gx) W6 t := fun t ht => off_is hx ht
  refine ⟨⟨hn.off f2 (o2 _ (by decide)) (o2 _ (by decide)) (o2 _ (by decide)) (o2 _ (by decide)) (o2 _ (by decide)), ?_, h.hx⟩, ?_⟩
  · simp [World.setCell, Array.getElem?_modify, hx, Array.set!]
  · exact (TreeM.fr f2 (fun k hk e => by have e : k = gx := e; have := hk.1; omega) ht).mono fun k hk => ⟨hk.1, hk.2.next f2.size (fun _ h => .inl h)⟩
theorem CtS.right {M gq : Nat} (h : CtS w0 W base g gr dims gx bs b e v ps d c (some ⟨gl, 0, none⟩)) (hM : gx < M) (hM2 : w0.heap.size ≤ M) (htl : TreeM W (fun k => M ≤ k ∧ Done W g gr v k) tl gl) (f : Fr (S3 g gr v) W W6) (hn : ND W6 base g gr dims bs b4 0 v6 (ps ++ ql)) (ht : TreeM W6 (fun k => W.heap.size ≤ k ∧ Done W6 g gr v6 k) t gq) (mv : ∀ j, v6.ownBlock = some j → v.ownBlock = some j ∨ W.heap.size ≤ j) (h0 : g < w0.heap.size) (h1 : gr < w0.heap.size) :
    ND (W6.setCell ⟨gx, 4, none⟩ (.pointer (some ⟨gq, 0, none⟩))) base g gr dims bs b4 0 v6 (ps ++ ql) ∧ TreeM (W6.setCell ⟨gx, 4, none⟩ (.pointer (some ⟨gq, 0, none⟩))) (fun k => w0.heap.size ≤ k ∧ Done (W6.setCell ⟨gx, 4, none⟩ (.pointer (some ⟨gq, 0, none⟩))) g gr v6 k) (.cut d c tl t) gx := by
  have hx := h.kept f
  have hlt := (Array.getElem?_eq_some_iff.1 h.x).1
  have hlt6 := (Array.getElem?_eq_some_iff.1 hx).1
  have hhx := h.hx
  have f2 : Fr (Is gx) W6 (W6.setCell ⟨gx, 4, none⟩ (.pointer (some ⟨gq, 0, none⟩))) := (Fr.refl (Is gx) W6).setCell (p := ⟨gx, 4, none⟩) (fun _ => rfl) _
  have o2 : ∀ t, t ≠ 71 → Off (Is gx) W6 t := fun t ht => off_is hx ht
  have hz2 := f2.size
  have hz := f.size
  refine ⟨hn.off f2 (o2 _ (by decide)) (o2 _ (by decide)) (o2 _ (by decide)) (o2 _ (by decide)) (o2 _ (by decide)), ⟨h.hx, ?_⟩, gl, gq, ?_, ?_, ?_⟩
  · exact ⟨by omega, by omega, by omega, fun e => hn.own.ne_blk e hx (by decide)⟩
  · simp [World.setCell, Array.getElem?_modify, hx, Array.set!]
  · have t6 := TreeM.fr f (fun k hk => hk.2.no) htl
    have t7 := TreeM.fr f2 (fun k hk e => by have e : k = gx := e; have := hk.1; omega) t6
    exact t7.mono fun k hk => ⟨by have := hk.1; omega, (hk.2.next hz mv).next f2.size (fun _ h => .inl h)⟩
  · have t7 := TreeM.fr f2 (fun k hk e => by have e : k = gx := e; have := hk.1; omega) ht
    exact t7.mono fun k hk => ⟨by have := hk.1; have := h.hx; omega, hk.2.next f2.size (fun _ h => .inl h)⟩
end
set_option maxRecDepth 100000 in
set_option maxHeartbeats 8000000 in
theorem node_any (base g gr dims : Nat) (bs : List UInt8) (hdm : 1 ≤ dims ∧ dims ≤ 4) : ∀ (n a : Nat) (v : Value) (ps : List PoL) (w : World), ps.length + n ≤ 1048576 → ND w base g gr dims bs a 0 v ps → base ≤ w.heap.size →
    Calls Tryz.prog 24 #[.pointer (some ⟨gr, 0, none⟩), .int .i64 (n : Nat)] w (NodeQ w base g gr dims bs n a v ps) := by
  intro n
  induction n using Nat.strongRecOn with
  | ind n ih =>
    intro a v ps w hps h hbase
    by_cases h0 : bs[a]? = some 0
    · exact node_leaf base g gr dims n a bs v ps w hdm hps h hbase h0
    by_cases h1 : bs[a]? = some 1
    case neg => exact node_bad base g gr dims n a bs v ps w h h0 h1
    have hby := bytes_one h1
    have HBy0 := bytes_any g bs a 0 1 w h.rd
    rw [hby] at HBy0
    dsimp only at HBy0
    have HBy := hide HBy0
    have HN := hide h
    have H1 := hide h1
    have HBase := hide hbase
    have k0 : w.cell? ⟨gr, 0, none⟩ = some (.pointer (some ⟨g, 0, none⟩)) := cell_of_row _ _ 0 _ _ _ h.row
    have hf13 : ∀ W, Fr (Is g) w W → Fr (S3 g gr v) w W := fun W f => f.mono (fun i _ e => .inl e)
    have HF13 := hide hf13
    have hdm1 := hdm.1
    have hdm4 := hdm.2
    have HIh := hide ih
    clear hby h1 h0 h hbase HBy0 hf13 hdm ih
    go_enter Tryz.func24, Tryz.ntmps24
    go_upto_region 18 with (first
      | (go_at_call 39; refine HBy.out.mono ?_; rintro en w1 ⟨vk, rfl, hown, hrd, hf⟩; obtain ⟨Ak, ck, rfl, y1, y2, _, y3, _⟩ := hown.form; obtain ⟨adk, rfl, _, hck⟩ := y3.byte (k := 0) (Nat.zero_lt_one); have e0 : (([1] : List UInt8).getD 0 0).toNat = 1 := rfl; rw [e0, Addr.add_zero'] at hck; have HN1 := hide (HN.out.read hf hrd); have HF1 := hide hf; have k1 : w1.cell? ⟨gr, 0, none⟩ = some (.pointer (some ⟨g, 0, none⟩)) := cell_of_row _ _ 0 _ _ _ HN1.out.row; have HE1 := hide (err_any g bs (a + 1) 0 w1 HN1.out.rd); unfold maxLen at y2; clear hown hrd hf y3 e0)
      | (go_at_call 23; refine HE1.out.mono ?_; rintro en w' ⟨rfl, rfl⟩)
      | (go_at_call 22; refine (bgood_ok _).mono ?_; rintro en w' ⟨⟨r, rfl⟩, rfl⟩))
    clear k0 k1 hck HBy HE1
    by_cases h8 : 8 < n
    case neg =>
      have d1 : decide (8 < n) = false := decide_eq_false h8
      have d2 : decide ((8 : Int) < (n : Int)) = false := decide_eq_false (by omega)
      have HNo := hide (nodeR_few (dims := dims) (n := n) H1.out h8)
      go_wp2_with (first
        | (go_at_call 22; refine (bgood_bad _).mono ?_; rintro en w' ⟨rfl, rfl⟩))
      exact ⟨rfl, .inr ⟨HNo.out, rfl, HF13.out _ HF1.out⟩⟩
    have d1 : decide (8 < n) = true := decide_eq_true h8
    have d2 : decide ((8 : Int) < (n : Int)) = true := decide_eq_true (by omega)
    obtain ⟨⟨d, b1, e1⟩, hd⟩ : ∃ x, x = sizeS bs (a + 1) 0 ((dims : Int) - 1) := ⟨_, rfl⟩
    obtain ⟨⟨c, b2, e2⟩, hc⟩ : ∃ x, x = uintR bs b1 e1 := ⟨_, rfl⟩
    obtain ⟨⟨z, b3, e3⟩, hz⟩ : ∃ x, x = sizeS bs b2 e2 ((bs.length - b2 : Nat) : Int) := ⟨_, rfl⟩
    go_upto_region 19 with (first
      | (go_at_call 22; refine (bgood_ok _).mono ?_; rintro en w' ⟨⟨r2, rfl⟩, rfl⟩))
    clear d1 d2
    have HSz := hide (fun W (h : RD W g bs (a + 1) 0) => sizeN_any g bs (a + 1) 0 ((dims : Int) - 1) W h (by omega) (by omega))
    rw [← hd] at HSz
    obtain ⟨dm, ed⟩ : ∃ m : Nat, (dims : Int) - 1 = (m : Int) := ⟨dims - 1, by omega⟩
    have hdm3 : dm ≤ 3 := by omega
    have ew : IntKind.i64.wrap (dm : Int) = (dm : Int) := IntWalk.i64_in _ (by omega)
    have HEd := hide ed
    rw [ed] at HSz
    have HIn := hide (fun W (h : RD W g bs b1 e1) => int_any g bs b1 e1 W h)
    rw [← hc] at HIn
    have HS2 := hide (fun W (h : RD W g bs b2 e2) (hb : bs.length - b2 ≤ 140737488355328) => sizeN_any g bs b2 e2 ((bs.length - b2 : Nat) : Int) W h (by omega) (by omega))
    rw [← hz] at HS2
    dsimp only at HSz HIn HS2
    have HD := hide hd
    have HC := hide hc
    have HZ := hide hz
    clear hd hc hz
    have HNd := hide (HN1.out.fr0 (Fr.refl No w1).drew)
    have hFd : Fr (Is g) w w1.drew := HF1.out.drew
    have HFd := hide hFd
    have kr0 : w1.drew.cell? ⟨gr, 0, none⟩ = some (.pointer (some ⟨g, 0, none⟩)) := cell_of_row _ _ 0 _ _ _ HNd.out.row
    have kr1 : w1.drew.cell? ⟨gr, 1, none⟩ = some (.int .i64 (dims : Nat)) := cell_of_row _ _ 1 _ _ _ HNd.out.row
    have HSd := hide (HSz.out _ HNd.out.rd)
    clear hFd HSz
    refine wp_named fun K hK => ?_
    go_cut [8] from 111 to 127 (fun v8 wz => ∃ gx, v8 = .pointer (some ⟨gx, 0, none⟩) ∧ Hid (CtS w wz base g gr dims gx bs b2 e2 v ps d (unzz c) none) ∧ Hid (Fr (Is g) w wz))
    case first =>
      go_region_law (first
        | (go_simp; go_at_call 21; refine HSd.out.mono ?_; rintro en w2 ⟨rfl, hrd, hf⟩; have HN2 := hide (HNd.out.read hf hrd); have HF2 : Hid (Fr (Is g) w w2) := hide (HFd.out.trans hf (fun _ _ h => h)); have kr2 : w2.cell? ⟨gr, 0, none⟩ = some (.pointer (some ⟨g, 0, none⟩)) := cell_of_row _ _ 0 _ _ _ HN2.out.row; have HI2 := hide (HIn.out w2 hrd); clear hrd hf)
        | (go_simp; go_at_call 40; refine HI2.out.mono ?_; rintro en w3 ⟨rfl, hrd, hf⟩; have HN3 := hide (HN2.out.read hf hrd); have HF3 : Hid (Fr (Is g) w w3) := hide (HF2.out.trans hf (fun _ _ h => h)); clear hrd hf))
      all_goals (go_wp2; go_meet)
      all_goals (
        have fA := (Fr.refl No w3).alloc (.cells #[.slice none 0 0, .int .i64 (d : Nat), .int .i64 (unzz c), .pointer none, .pointer none] 71)
        exact ⟨w3.heap.size, rfl, hide ⟨HN3.out.fr0 fA, heap_alloc_new w3 _, HF3.out.size⟩, hide (HF3.out.trans fA (fun _ _ h => h.elim))⟩)
    case rest =>
      obtain ⟨gx, rfl, HCt, HFc⟩ := hcut
      refine hK _ _ ?_
      clear hK ed ew hdm3 kr0 kr1 HSd HNd HFd HIn HN1 HF1
      obtain ⟨w4, rfl⟩ : ∃ W : World, W = wc := ⟨_, rfl⟩
      obtain ⟨L2, hL2⟩ : ∃ x, x = bs.length - b2 := ⟨_, rfl⟩
      have hbl : bs.length ≤ 140737488355328 := by obtain ⟨_, _, _, _, _, _, _, q, _⟩ := HCt.out.nd.rd.parts; exact q
      have hL2b : L2 ≤ 140737488355328 := by omega
      have HCd := hide (HCt.out.fr0 (Fr.refl No w4).drew)
      have HLf := hide (left_any g bs b2 e2 w4.drew HCd.out.nd.rd)
      rw [← hL2] at HLf HS2
      have hFd : Fr (Is g) w w4.drew := HFc.out.drew
      have HFd := hide hFd
      have kr0 : w4.drew.cell? ⟨gr, 0, none⟩ = some (.pointer (some ⟨g, 0, none⟩)) := cell_of_row _ _ 0 _ _ _ HCd.out.nd.row
      have HL2 := hide hL2
      have HBl := hide hbl
      clear hFd hL2 hbl
      go_upto_region 20 with (fail)
      refine wp_named fun K hK => ?_
      go_cut [9] from 128 to 137 (fun v9 wz => v9 = .int .i64 (z : Nat) ∧ Hid (CtS w wz base g gr dims gx bs b3 e3 v ps d (unzz c) none) ∧ Hid (Fr (Is g) w wz))
      case first =>
        go_region_law (first
          | (go_simp; go_at_call 41; refine HLf.out.mono ?_; rintro en w5 ⟨rfl, nq, hw5⟩; have hf5 : Fr No w4.drew w5 := (by rw [hw5]; exact (Fr.refl No w4.drew).drewN nq); have HC5 := hide (HCd.out.fr0 hf5); have HF5 : Hid (Fr (Is g) w w5) := hide (HFd.out.trans hf5 (fun _ _ h => h.elim)); have kr5 : w5.cell? ⟨gr, 0, none⟩ = some (.pointer (some ⟨g, 0, none⟩)) := cell_of_row _ _ 0 _ _ _ HC5.out.nd.row; have HS5 := hide (HS2.out w5 HC5.out.nd.rd hL2b); clear hf5 hw5)
          | (go_simp; go_at_call 21; refine HS5.out.mono ?_; rintro en w6 ⟨rfl, hrd, hf⟩; have HC6 := hide (HC5.out.read hf hrd); have HF6 : Hid (Fr (Is g) w w6) := hide (HF5.out.trans hf (fun _ _ h => h)); clear hrd hf))
        all_goals (go_wp2; go_meet)
        all_goals exact ⟨rfl, HC6, HF6⟩
      case rest =>
        obtain ⟨rfl, HCz, HFz⟩ := hcut
        refine hK _ _ ?_
        obtain ⟨w7, rfl⟩ : ∃ W : World, W = wc := ⟨_, rfl⟩
        clear hK kr0 HLf HCd HFd HCt HFc HS2 hL2b
        have HEi := hide (err_any g bs b3 e3 w7 HCz.out.nd.rd)
        have kr7 : w7.cell? ⟨gr, 0, none⟩ = some (.pointer (some ⟨g, 0, none⟩)) := cell_of_row _ _ 0 _ _ _ HCz.out.nd.row
        by_cases he : e3 = 0
        case neg =>
          have d2 : (e3 == 0) = false := by simpa using he
          have HNo := hide (nodeR_hdr (dims := dims) (n := n) H1.out h8 HD.out.symm HC.out.symm HZ.out.symm he)
          clear he
          go_wp2_with (first
            | (go_at_call 23; refine HEi.out.mono ?_; rintro en w' ⟨rfl, rfl⟩)
            | (go_at_call 22; refine (bgood_bad _).mono ?_; rintro en w' ⟨rfl, rfl⟩))
          exact ⟨rfl, .inr ⟨HNo.out, rfl, HF13.out _ HFz.out⟩⟩
        subst he
        have d2 : ((0 : Int) == 0) = true := by decide
        have HCut := hide (nodeR_cut (dims := dims) (n := n) H1.out h8 HD.out.symm HC.out.symm HZ.out.symm)
        go_upto_region 22 with (first
          | (go_at_call 23; refine HEi.out.mono ?_; rintro en w' ⟨rfl, rfl⟩)
          | (go_at_call 22; refine (bgood_ok _).mono ?_; rintro en w' ⟨⟨r3, rfl⟩, rfl⟩))
        clear d2 HEi HD HC HZ
        obtain ⟨k, hk⟩ : ∃ k, k = (n + 1) / 2 := ⟨_, rfl⟩
        obtain ⟨j, hj⟩ : ∃ j, j = n / 2 := ⟨_, rfl⟩
        rw [← hk, ← hj] at HCut
        have ek : ((n : Int) + 1) / 2 = (k : Int) := by omega
        have ej : (n : Int) / 2 = (j : Int) := by omega
        have hkj : k + j = n := by omega
        have hkn : k < n := by omega
        have hjn : j < n := by omega
        have HIl := hide (fun W (h : ND W base g gr dims bs b3 0 v ps) (hb : base ≤ W.heap.size) => HIh.out k hkn b3 v ps W (by omega) h hb)
        have HIr := hide (fun b4 v' (ql : List PoL) W (hl : ql.length = k) (h : ND W base g gr dims bs b4 0 v' (ps ++ ql)) (hb : base ≤ W.heap.size) => HIh.out j hjn b4 v' (ps ++ ql) W (by rw [List.length_append]; omega) h hb)
        have h3l : b3 ≤ bs.length := by obtain ⟨_, _, _, _, _, _, q, _⟩ := HCz.out.nd.rd.parts; exact q
        obtain ⟨bl, hbl⟩ : ∃ x, x = bs.length - b3 := ⟨_, rfl⟩
        have HLf3 := hide (left_any g bs b3 0 w7 HCz.out.nd.rd)
        rw [← hbl] at HLf3
        have HBl2 := hide hbl
        clear hk hj HIh hbl
        go_upto_region 23 with (first
          | (go_at_call 41; refine HLf3.out.mono ?_; rintro en w8 ⟨rfl, nq, hw8⟩; have hf8 : Fr No w7 w8 := (by rw [hw8]; exact (Fr.refl No w7).drewN nq); have HC8 := hide (HCz.out.fr0 hf8); have HF8 : Hid (Fr (Is g) w w8) := hide (HFz.out.trans hf8 (fun _ _ h => h.elim)); clear hf8 hw8))
        clear HLf3 kr7 HCz HFz
        have HIl8 := hide (HIl.out w8 HC8.out.nd (by have := HF8.out.size; have := HBase.out; omega))
        clear HIl
        have hgl0 := HN.out.lt
        have HG0 := hide hgl0
        clear hgl0
        go_wp2_with (fail)
        refine HIl8.out.mono ?_
        rintro en w9 hq
        clear HIl8
        rcases hq with ⟨tl, b4, gl, v9, ql, rfl, hnr, hqm, hnd, htm, hmv, hf⟩ | ⟨hnr, rfl, hf⟩
        case inr =>
          have HNo : Hid (nodeR bs dims n a = none) := hide (by rw [HCut.out, hnr])
          have HF9 : Hid (Fr (S3 g gr v) w w9) := hide ((HF13.out _ HF8.out).trans hf (fun _ _ h => h))
          clear hnr hf
          go_wp2_with (fail)
          exact ⟨rfl, .inr ⟨HNo.out, rfl, HF9.out⟩⟩
        have hqll : ql.length = k := by rw [← (nodeR_is k hnr).1, ← hqm, List.length_map]
        have HX9 := hide (HC8.out.kept hf)
        have HLf9 := hide (HC8.out.left hf hnd htm)
        have hgM : gx < w8.heap.size := (Array.getElem?_eq_some_iff.1 HC8.out.x).1
        have k9 : w9.cell? ⟨gx, 3, none⟩ = some (.pointer none) := cell_of_row _ _ 3 _ _ _ HX9.out
        have fz9 : w9.frozen? ⟨gx, 3, none⟩ = false := frozen_of_row _ _ _ _ _ HX9.out
        have HMv := hide hmv
        have HF9 : Hid (Fr (S3 g gr v) w (w9.setCell ⟨gx, 3, none⟩ (.pointer (some ⟨gl, 0, none⟩)))) := hide (((HF13.out _ HF8.out).trans hf (fun _ _ h => h)).trans ((Fr.refl (Is gx) w9).setCell (p := ⟨gx, 3, none⟩) (fun _ => rfl) _) (fun i hi e => by have e : i = gx := e; have := HC8.out.hx; omega))
        have HNr := hide hnr
        have HQm := hide hqm
        have HQl := hide hqll
        have HGM := hide hgM
        have HM0 := hide HF8.out.size
        have h4l : b4 ≤ bs.length := by obtain ⟨_, _, _, _, _, _, q, _⟩ := hnd.rd.parts; exact q
        clear hnr hqm hqll hnd htm hmv hf hgM
        go_upto_region 24 with (fail)
        obtain ⟨M, hM⟩ : ∃ M, M = w8.heap.size := ⟨_, rfl⟩
        rw [← hM] at HLf9 HGM HM0 HMv
        obtain ⟨w10, hw10⟩ : ∃ x, x = w9.setCell ⟨gx, 3, none⟩ (.pointer (some ⟨gl, 0, none⟩)) := ⟨_, rfl⟩
        rw [← hw10] at HLf9 HF9 ⊢
        clear hw10 hM k9 fz9 HX9 HC8 HF8
        have kr10 : w10.cell? ⟨gr, 0, none⟩ = some (.pointer (some ⟨g, 0, none⟩)) := cell_of_row _ _ 0 _ _ _ HLf9.out.1.nd.row
        obtain ⟨r2, hr2⟩ : ∃ x, x = bs.length - b4 := ⟨_, rfl⟩
        have HL10 := hide (left_any g bs b4 0 w10 HLf9.out.1.nd.rd)
        rw [← hr2] at HL10
        obtain ⟨dd, hdd⟩ : ∃ x : Int, x = (bl : Int) - (r2 : Int) := ⟨_, rfl⟩
        have hs1 : (bl : Int) - (r2 : Int) = dd := hdd.symm
        have hblL := HBl.out
        have hbl := HBl2.out
        have hs2 : wrap64 dd = dd := by unfold wrap64; omega
        by_cases hdz : dd = (z : Int)
        case neg =>
          have d3 : (dd == (z : Int)) = false := by simpa using hdz
          have HNo : Hid (nodeR bs dims n a = none) := hide (by
            rw [HCut.out, HNr.out]
            dsimp only
            rw [if_neg (by omega)])
          clear hdz hdd hr2 hbl h4l h3l hblL
          go_wp2_with (first
            | (go_at_call 41; refine HL10.out.mono ?_; rintro en w11 ⟨rfl, nq, hw11⟩; have HF11 : Hid (Fr (S3 g gr v) w w11) := hide (by rw [hw11]; exact HF9.out.drewN nq); clear hw11)
            | (go_at_call 22; refine (bgood_bad _).mono ?_; rintro en w' ⟨rfl, rfl⟩))
          exact ⟨rfl, .inr ⟨HNo.out, rfl, HF11.out⟩⟩
        have hb4 : b4 = b3 + z := by omega
        have d3 : (dd == (z : Int)) = true := by simpa using hdz
        have HB4 := hide hb4
        clear hdz hb4 hdd hr2 hbl h4l h3l hblL
        go_upto_region 25 with (first
          | (go_at_call 41; refine HL10.out.mono ?_; rintro en w11 ⟨rfl, nq, hw11⟩; have hf11 : Fr No w10 w11 := (by rw [hw11]; exact (Fr.refl No w10).drewN nq); have HF11 : Hid (Fr (S3 g gr v) w w11) := hide (HF9.out.trans hf11 (fun _ _ h => h.elim)); have HC11 := hide (HLf9.out.1.fr0 hf11); have HT11 : Hid (TreeM w11 (fun k => M ≤ k ∧ Done w11 g gr v9 k) tl gl) := hide ((TreeM.fr hf11 (fun _ _ h => h) HLf9.out.2).mono fun k hk => ⟨hk.1, hk.2.next hf11.size (fun _ h => .inl h)⟩); clear hf11 hw11)
          | (go_at_call 22; refine (bgood_ok _).mono ?_; rintro en w' ⟨⟨r4, rfl⟩, rfl⟩))
        clear hs1 hs2 d3 kr10 HL10 HLf9
        have HIr11 := hide (HIr.out b4 v9 ql w11 HQl.out HC11.out.nd (by have := HF11.out.size; have := HBase.out; omega))
        clear HIr
        go_wp2_with (fail)
        refine HIr11.out.mono ?_
        rintro en w12 hq
        clear HIr11
        rcases hq with ⟨tr, b5, gq, v12, qr, rfl, hnr, hqm, hnd, htm, hmv, hf⟩ | ⟨hnr, rfl, hf⟩
        case inr =>
          have HNo : Hid (nodeR bs dims n a = none) := hide (by
            rw [HCut.out, HNr.out]
            dsimp only
            rw [if_pos HB4.out, hnr])
          have HF12 : Hid (Fr (S3 g gr v) w w12) := hide (HF11.out.trans hf (fun i hi e => by
            rcases e with e | e | e
            · exact .inl e
            · exact .inr (.inl e)
            · rcases HMv.out i e with h | h
              · exact .inr (.inr h)
              · have := HM0.out; omega))
          clear hnr hf
          go_wp2_with (fail)
          exact ⟨rfl, .inr ⟨HNo.out, rfl, HF12.out⟩⟩
        have HX12 := hide (HC11.out.kept hf)
        have HRt := hide (HC11.out.right HGM.out HM0.out HT11.out hf hnd htm hmv HG0.out.1 HG0.out.2)
        have k12 : w12.cell? ⟨gx, 4, none⟩ = some (.pointer none) := cell_of_row _ _ 4 _ _ _ HX12.out
        have fz12 : w12.frozen? ⟨gx, 4, none⟩ = false := frozen_of_row _ _ _ _ _ HX12.out
        have hgxw : w.heap.size ≤ gx := HC11.out.hx
        have HF12 : Hid (Fr (S3 g gr v) w (w12.setCell ⟨gx, 4, none⟩ (.pointer (some ⟨gq, 0, none⟩)))) := hide ((HF11.out.trans hf (fun i hi e => by
            rcases e with e | e | e
            · exact .inl e
            · exact .inr (.inl e)
            · rcases HMv.out i e with h | h
              · exact .inr (.inr h)
              · have := HM0.out; omega)).trans ((Fr.refl (Is gx) w12).setCell (p := ⟨gx, 4, none⟩) (fun _ => rfl) _) (fun i hi e => by have e : i = gx := e; omega))
        have HMv2 : Hid (∀ j, v12.ownBlock = some j → v.ownBlock = some j ∨ w.heap.size ≤ j) := hide (fun i hi => by
          rcases hmv i hi with h | h
          · rcases HMv.out i h with h | h
            · exact .inl h
            · have := HM0.out; exact .inr (by omega)
          · have := HF11.out.size; exact .inr (by omega))
        have HNo : Hid (nodeR bs dims n a = some (.cut d (unzz c) tl tr, b5)) := hide (by
            rw [HCut.out, HNr.out]
            dsimp only
            rw [if_pos HB4.out, hnr])
        have HQ2 : Hid ((ql ++ qr).map (·.1) = flatT (.cut d (unzz c) tl tr)) := hide (by rw [List.map_append, HQm.out, hqm, flatT])
        clear hnr hqm hnd htm hmv hf hgxw
        go_wp2_with (fail)
        go_ret
        exact .inl ⟨_, b5, gx, v12, ql ++ qr, rfl, HNo.out, HQ2.out, by rw [← List.append_assoc]; exact HRt.out.1, HRt.out.2, HMv2.out, HF12.out⟩
end Go.Proofs.YtpopbkcbplmcaaaGreat
