/- Several texts in one: One03, RefPut03, ChunkW, PutW03. -/
import Derived.Test.YtpnhnnhocekchaaK8
import Derived.RegionTactic
import Derived.BigRegion
namespace Go.Proofs.Ytpnhnnhocekchaa
set_option linter.unusedVariables false
set_option linter.unusedSimpArgs false
open Go.RowKit

set_option maxRecDepth 100000 in
set_option maxHeartbeats 400000 in
theorem turned_any (n : Int) (w : World) (h1 : -9223372036854775808 ≤ n) (h2 : n ≤ 9223372036854775807) :
    Calls Try.prog 91 #[.int .i64 n] w (Ret (.int .u64 (zz n)) w) := by
  by_cases h0 : 0 ≤ n
  · have HZ := hide (show (zz n : Int) = IntKind.u64.wrap (2 * IntKind.u64.wrap n) by
      unfold zz
      rw [if_pos h0, IntWalk.u64_in n (by omega), IntWalk.u64_in _ (by omega)]
      omega)
    go_enter Try.func91, Try.ntmps91
    go_wp2
    go_ret
    exact ⟨by rw [HZ.out]; first | rfl | (simp [IntKind.wrap_u64]; omega), rfl⟩
  · have HZ := hide (show (zz n : Int) = -2 * n - 1 by
      unfold zz
      rw [if_neg h0]
      omega)
    go_enter Try.func91, Try.ntmps91
    go_wp2
    go_ret
    exact ⟨by rw [HZ.out]; congr 2; simp [IntKind.wrap_u64]; omega, rfl⟩

end Go.Proofs.Ytpnhnnhocekchaa
namespace Go.Proofs.Ytpnhnnhocekchaa
set_option linter.unusedVariables false
set_option linter.unusedSimpArgs false
open Go.RowKit

theorem min_step {l : List Int} {k : Nat} (h : k < l.length) : minL (l.take (max (k + 1) 1)) = min (minL (l.take (max k 1))) (l.getD k 0) := by
  rcases Nat.eq_zero_or_pos k with rfl | hk
  · cases l with
    | nil => simp at h
    | cons y r => simp [minL]
  · rw [show max (k + 1) 1 = k + 1 by omega, show max k 1 = k by omega, min_take hk h]
theorem aboveL_at {l : List Int} {k : Nat} (h : k < l.length) : (aboveL l).getD k 0 = (l.getD k 0 - minL l).toNat := by
  unfold aboveL
  simp [List.getElem?_eq_getElem h]
theorem InI.at {l : List Int} (h : InI l) {k : Nat} (hk : k < l.length) : -9223372036854775808 ≤ l.getD k 0 ∧ l.getD k 0 ≤ 9223372036854775807 := by
  have : l.getD k 0 = l[k] := by simp [List.getElem?_eq_getElem hk]
  rw [this]
  exact h _ (List.getElem_mem hk)
theorem minL_at {l : List Int} {k : Nat} (hk : k < l.length) : minL l ≤ l.getD k 0 := by
  have : l.getD k 0 = l[k] := by simp [List.getElem?_eq_getElem hk]
  rw [this]
  exact minL_le _ (List.getElem_mem hk)
theorem above_snoc {l : List Int} {k : Nat} (h : k < l.length) : nz ((aboveL l).take k) ++ [.int .u64 (((l.getD k 0 - minL l).toNat : Nat) : Int)] = nz ((aboveL l).take (k + 1)) := by
  rw [take_snocN (by rw [aboveL_len]; exact h), nz_append, aboveL_at h]
  rfl
theorem psz_le {w n : Nat} (hw : w ≤ 64) : psz w n ≤ 8 * n + 1 := by
  have : w * n ≤ 64 * n := Nat.mul_le_mul_right _ hw
  unfold psz
  omega
theorem wid_above {l : List Int} (h : InI l) : wid (aboveL l) ≤ 64 := wid_64 (aboveL_64 h)

set_option maxRecDepth 100000 in
set_option maxHeartbeats 1000000 in
theorem refOne_any (A : Option Addr) (n c B : Nat) (l : List Int) (w : World) (hl : l.length = n) (h0 : 0 < n) (hi : InI l) (hn : n ≤ c) (hc : c ≤ maxLen) (hb : n ≤ 1048576) (hB : B ≤ w.heap.size) (hr : Rd w B A (iz .i64 l)) :
    Calls Try.prog 60 #[.slice A n c] w (GivesB w (oneB l)) := by
  obtain ⟨i0, hi0, hz, hsz, hby⟩ := info_parts Try.infoKU64
  obtain ⟨j0, hj0, jz, jsz, jby⟩ := info_parts Try.info5
  unfold maxLen at hc
  obtain ⟨ad, rfl, _, hcell0⟩ := hr.intAt (j := 0) (by omega)
  rw [show ad.add 0 = ad by simp [Addr.add]] at hcell0
  have HR := hide hr
  have HL := hide hl
  have HI := hide hi
  obtain ⟨x0, hx0⟩ : ∃ x, x = l.getD 0 0 := ⟨_, rfl⟩
  have HX0 : Hid (x0 = minL (l.take (max 0 1))) := hide (by
    rw [hx0]
    cases l with
    | nil => simp at hl; omega
    | cons y r => rfl)
  rw [← hx0] at hcell0
  obtain ⟨le, hle⟩ : ∃ m, m = minL l := ⟨_, rfl⟩
  have HLe := hide hle
  have hle1 : -9223372036854775808 ≤ le ∧ le ≤ 9223372036854775807 := by rw [hle]; exact minL_in hi
  clear hr hl hx0 hi hle
  go_enter Try.func60, Try.ntmps60
  go_wp2
  go_loop [3, 4] (fun m i => ∃ (k : Nat) (y : Int), k ≤ n ∧ i = .int .i64 k ∧ m = .int .i64 y ∧ Hid (y = minL (l.take (max k 1)))) (fun _ i => n - (intOf i).toNat)
  case atStart => exact ⟨0, x0, by omega, rfl, rfl, HX0⟩
  case round =>
    obtain ⟨k, y, hk, rfl, rfl, HY⟩ := hrel
    by_cases hlt : k < n
    · have h1 : k < l.length := by rw [HL.out]; exact hlt
      obtain ⟨ad2, e2, _, hcell⟩ := HR.out.intAt h1
      injection e2 with e2
      subst e2
      have HS := hide (min_step h1)
      rw [← HY.out] at HS
      generalize l.getD k 0 = x at hcell HS
      clear h1
      by_cases hyx : y ≤ x
      · have HE : Hid (y = minL (l.take (max (k + 1) 1))) := hide (by rw [HS.out]; omega)
        go_wp2
        go_round
        case rel => exact ⟨k + 1, y, by omega, by go_num, rfl, HE⟩
        case measure => simp [intOf]; omega
      · have HE : Hid (x = minL (l.take (max (k + 1) 1))) := hide (by rw [HS.out]; omega)
        have hyx2 : x < y := by omega
        clear hyx
        go_wp2
        go_round
        case rel => exact ⟨k + 1, x, by omega, by go_num, rfl, HE⟩
        case measure => simp [intOf]; omega
    · obtain rfl : k = n := by omega
      obtain rfl : y = le := by rw [HY.out, HLe.out, show max k 1 = k by omega, ← HL.out, List.take_length]
      clear hlt hcell0
      go_wp2
      go_loopw [5, 6] (fun v i wr => ∃ j : Nat, j ≤ k ∧ i = .int .i64 j ∧ Hid (Own wr w.heap.size 52 1 v j (nz ((aboveL l).take j))) ∧ Hid (Fr No w wr)) (fun _ i _ => k - (intOf i).toNat)
      case atStart => exact ⟨0, by omega, rfl, hide (Own.nil _ _ _ _), hide (Fr.refl _ _)⟩
      case round =>
        obtain ⟨j, hj, rfl, HOw, HFr⟩ := hrel
        have hgw := HFr.out.size
        by_cases hlt : j < k
        · have h1 : j < l.length := by rw [HL.out]; exact hlt
          obtain ⟨ad2, e2, _, hcell⟩ := (HR.out.fr0 HFr.out).intAt h1
          injection e2 with e2
          subst e2
          have hx := HI.out.at h1
          have hmx := minL_at h1
          rw [← HLe.out] at hmx
          have HS := hide (above_snoc h1)
          rw [← HLe.out] at HS
          generalize l.getD j 0 = x at hcell HS hx hmx
          have HV := above_val hx hle1 hmx
          obtain ⟨u, hu⟩ : ∃ u, u = (x - y).toNat := ⟨_, rfl⟩
          rw [← hu] at HV HS
          clear h1 hu
          have HSr := hide (Src.one (P := Try.prog) wr (e := 52) Try.underlying22 (.int .u64 (u : Nat)) rfl)
          have HOw' := hide (HOw.out.fr0 ((Fr.refl No wr).alloc (.cells #[.int .u64 (u : Nat)] 52)))
          have b1 : (j + 1) * 8 ≤ 140737488355328 := by omega
          have b2 : j + 1 ≤ maxLen := by unfold maxLen; omega
          have b3 : w.heap.size ≤ (wr.alloc (.cells #[.int .u64 (u : Nat)] 52)).heap.size := by simp; omega
          go_wp2_with (first | (at_builtin; refine wpList_append_gen _ rfl (.tmp 34) (.tmp 43) 22 22 rfl w.heap.size 52 i0 (.int .u64 0) 1 8 Try.underlying22 hi0 hz hsz hby rfl u5 j (nz ((aboveL l).take j)) rfl HOw'.out _ 1 [.int .u64 (u : Nat)] rfl HSr.out b1 b2 b3 ?_; intro v1 w1 hown hfr hat; have HF1 : Hid (Fr No w w1) := hide ((HFr.out.alloc _).own hfr (fun g hg => .inl (HOw.out.lt g hg).1)); have HOn : Hid (Own w1 w.heap.size 52 1 v1 (j + 1) (nz ((aboveL l).take (j + 1)))) := hide (by rw [← HS.out]; exact hown); clear hown hfr hat))
          go_roundw
          case rel => exact ⟨j + 1, by omega, by go_num, HOn, HF1⟩
          case measure => simp [intOf]; omega
        · obtain rfl : j = k := by omega
          clear hlt
          have hal : (aboveL l).length = j := by rw [aboveL_len, HL.out]
          have hal2 := hide hal
          have hab := HOw.out
          rw [List.take_of_length_le (by rw [hal]; exact Nat.le_refl _)] at hab
          obtain ⟨A2, c2, rfl, q1, q2, _⟩ := hab.form
          have HRa := hide hab.rd
          have H64 := hide (aboveL_64 HI.out)
          have HOA := hide hab
          obtain ⟨W, hW⟩ : ∃ W, W = wid (aboveL l) := ⟨_, rfl⟩
          have HWd := hide (refWidth_any A2 j c2 _ (aboveL l) wr hal H64.out q1 q2 HRa.out)
          rw [← hW] at HWd
          have hW64 : W ≤ 64 := by rw [hW]; exact wid_above HI.out
          have HTu := hide (fun w => turned_any y w hle1.1 hle1.2)
          have hzz := zz_lt hle1.1 hle1.2
          have HE1 : Hid (oneB l = enc (zz y) ++ [UInt8.ofNat W] ++ packed W (aboveL l)) := hide (by unfold oneB; rw [← HLe.out, ← hW])
          have HQ2 := hide q2
          have HWW := hide hW
          clear hW hab hal q2
          generalize zz y = Z at HTu hzz HE1
          have HUi := hide (fun w => refUint_any Z w hzz)
          have hel := enc_len Z
          have HEL := hide hel.2
          generalize enc Z = E at HUi HE1 hel HEL
          obtain ⟨en, hen⟩ : ∃ k, k = E.length := ⟨_, rfl⟩
          have HEn := hide hen
          rw [← hen] at hel
          clear hen
          have HBW := hide (ofNat_toNat (x := W) (by omega))
          have hpl : (packed W (aboveL l)).length ≤ 8388609 := by rw [packed_len, hal2.out]; have := psz_le (n := j) hW64; omega
          obtain ⟨pn, hpn⟩ : ∃ k, k = (packed W (aboveL l)).length := ⟨_, rfl⟩
          rw [← hpn] at hpl
          have HPn := hide hpn
          clear hpn
          go_wp2_with (first
            | (go_at_call 22; refine HWd.out.mono ?_; rintro en1 w1 ⟨rfl, rfl⟩)
            | (go_at_call 91; refine (HTu.out _).mono ?_; rintro en1 w1 ⟨rfl, rfl⟩)
            | (go_at_call 73; refine (HUi.out _).mono ?_; rintro en1 w1 ⟨v1, rfl, hown, hfr⟩; have HO1 := hide hown; have HF1 := hide hfr; rw [← HEn.out] at HO1; have hg1 := hfr.size; have HS1 := hide (Src.one (P := Try.prog) w1 (e := 5) Try.underlying23 (.int .u8 (W : Nat)) rfl); have HO1' := hide (HO1.out.fr0 ((Fr.refl No w1).alloc (.cells #[.int .u8 (W : Nat)] 5))); have b1 : (en + 1) * 1 ≤ 140737488355328 := (by omega); have b2 : en + 1 ≤ maxLen := (by unfold maxLen; omega); have b3 : wr.heap.size ≤ (w1.alloc (.cells #[.int .u8 (W : Nat)] 5)).heap.size := (by simp; omega); clear hown hfr)
            | (at_builtin; refine wpList_append_gen _ rfl (.tmp 50) (.tmp 53) 23 23 rfl wr.heap.size 5 j0 (.int .u8 0) 1 1 Try.underlying23 hj0 jz jsz jby rfl v1 en (by8 E) rfl HO1'.out _ 1 [.int .u8 (W : Nat)] rfl HS1.out b1 b2 b3 ?_; intro v2 w2 hown hfr hat; have HO2 := hide hown; have HF2 : Hid (Fr No wr w2) := hide ((HF1.out.alloc _).own hfr (fun g hg => .inl (HO1.out.lt g hg).1)); have hg2 := HF2.out.size; have HBi := hide (refBits_any A2 j c2 wr.heap.size W (aboveL l) w2 hal2.out H64.out q1 HQ2.out (by omega) hg2 (HRa.out.fr0 HF2.out)); rw [show bitsZ (aboveL l) W = packed W (aboveL l) by unfold bitsZ; rw [if_pos (by omega)]; rfl] at HBi; clear hown hfr hat)
            | (go_at_call 18; refine HBi.out.mono ?_; rintro en1 w3 ⟨v3, rfl, hown, hfr⟩; rw [← HPn.out] at hown; obtain ⟨A3, c3, rfl, _⟩ := hown.form; have HS3 := hide (Src.ofRd (P := Try.prog) (size := 1) w3 Try.underlying23 A3 pn c3 (by8 (packed W (aboveL l))) (by rw [by8_length, HPn.out]; omega) (by omega) hown.rd (by8_one _)); have HO3 := hide (HO2.out.fr0 hfr); have HF3 := hide (HF2.out.tr hfr); have hg3 := hfr.size; have c1 : (en + 1 + pn) * 1 ≤ 140737488355328 := (by omega); have c2' : en + 1 + pn ≤ maxLen := (by unfold maxLen; omega); have c3' : wr.heap.size ≤ w3.heap.size := (by omega); clear hown hfr)
            | (at_builtin; refine wpList_append_gen _ rfl (.tmp 55) (.tmp 58) 23 23 rfl wr.heap.size 5 j0 (.int .u8 0) 1 1 Try.underlying23 hj0 jz jsz jby rfl v2 (en + 1) _ rfl HO3.out _ pn (by8 (packed W (aboveL l))) rfl HS3.out c1 c2' c3' ?_; intro v4 w4 hown hfr hat; have HO4 := hide hown; have HF4 : Hid (Fr No wr w4) := hide (HF3.out.own hfr (fun g hg => .inl (HO3.out.lt g hg).1)); clear hown hfr hat))
          go_ret
          refine ⟨_, rfl, ?_, HFr.out.tr HF4.out⟩
          have h := HO4.out.lower hgw
          rw [HE1.out]
          have e8 : by8 [UInt8.ofNat W] = [.int .u8 (W : Nat)] := by simp only [by8, List.map_cons, List.map_nil, HBW.out]
          rw [by8_append, by8_append, e8]
          have el : (E ++ [UInt8.ofNat W] ++ packed W (aboveL l)).length = en + 1 + pn := by simp [HEn.out, HPn.out]; omega
          rw [el]
          exact h
end Go.Proofs.Ytpnhnnhocekchaa
namespace Go.Proofs.Ytpnhnnhocekchaa
set_option linter.unusedVariables false
set_option linter.unusedSimpArgs false
open Go.RowKit

theorem chunk_len (l : List Int) (j : Nat) : (chunkL l j).length = min 128 (l.length - 128 * j) := by simp [chunkL]
theorem chunk_in {l : List Int} (h : InI l) (j : Nat) : InI (chunkL l j) := (h.drop _).take _
theorem Rd.chunk {w : World} {B : Nat} {ad : Addr} {l : List Int} (h : Rd w B (some ad) (iz .i64 l)) (j : Nat) : Rd w B (some (ad.add (128 * j))) (iz .i64 (chunkL l j)) := by
  unfold chunkL
  rw [iz_take, iz_drop]
  exact (h.dr _).tk _
theorem oneB_le {l : List Int} (h : InI l) : (oneB l).length ≤ 8 * l.length + 12 := by
  have h1 := psz_le (w := wid (aboveL l)) (n := l.length) (wid_above h)
  have h2 := (enc_len (zz (minL l))).2
  rw [oneB_len]
  omega
theorem putUp_le {l : List Int} (h : InI l) : ∀ i, (putUp l i).length ≤ 1036 * i
  | 0 => by simp [putUp]
  | i + 1 => by
    have h1 := putUp_le h i
    have h2 := oneB_le (chunk_in h i)
    have h3 := chunk_len l i
    rw [putUp_succ, List.length_append]
    omega

set_option maxRecDepth 100000 in
set_option maxHeartbeats 1000000 in
theorem refPut_any (A : Option Addr) (n c B : Nat) (l : List Int) (w : World) (hl : l.length = n) (hi : InI l) (hn : n ≤ c) (hc : c ≤ maxLen) (hb : n ≤ 1048576) (hB : B ≤ w.heap.size) (hr : Rd w B A (iz .i64 l)) :
    Calls Try.prog 31 #[.slice A n c] w (GivesB w (putR l)) := by
  obtain ⟨j0, hj0, jz, jsz, jby⟩ := info_parts Try.info5
  have HC := hide hc
  unfold maxLen at hc
  have HR := hide hr
  have HL := hide hl
  have HI := hide hi
  clear hr hl hi
  obtain ⟨wo, hwo⟩ : ∃ wo : World, wo = w := ⟨_, rfl⟩
  go_enter Try.func31, Try.ntmps31
  go_wp2
  go_loopw [3, 4, 5, 6] (fun v i e x wr => ∃ (j i' m : Nat), Hid (i' = 128 * j) ∧ i' ≤ n + 127 ∧ i = .int .i64 i' ∧ Hid (m = (putUp l j).length) ∧ Hid (Own wr w.heap.size 5 1 v m (by8 (putUp l j))) ∧ Hid (Fr No w wr)) (fun _ i _ _ _ => n + 127 - (intOf i).toNat)
  case atStart => exact ⟨0, 0, 0, hide rfl, by omega, rfl, hide rfl, hide (Own.nil _ _ _ _), hide (Fr.refl _ _)⟩
  case round =>
    obtain ⟨j, i', m, HJ, hij, rfl, HM, HOw, HFr⟩ := hrel
    have hgw := HFr.out.size
    by_cases hlt : i' < n
    · have h1 : i' < l.length := by rw [HL.out]; exact hlt
      obtain ⟨ad, rfl, _, _⟩ := HR.out.intAt h1
      have hbd := putUp_le HI.out j
      rw [← HM.out] at hbd
      have hmb : m ≤ 1100000000 := by have := HJ.out; omega
      have HRc := hide ((HR.out.fr0 HFr.out).chunk j)
      rw [← HJ.out] at HRc
      have hk := chunk_len l j
      rw [← HJ.out, HL.out] at hk
      obtain ⟨k, hkk⟩ : ∃ k, k = (chunkL l j).length := ⟨_, rfl⟩
      rw [← hkk] at hk
      have HK := hide hkk
      have hol := oneB_le (chunk_in HI.out j)
      rw [← hkk] at hol
      obtain ⟨q, hq⟩ : ∃ q, q = (oneB (chunkL l j)).length := ⟨_, rfl⟩
      rw [← hq] at hol
      have HQ := hide hq
      have HS := hide (putUp_succ l j)
      have hcc : c - i' ≤ maxLen := by have := HC.out; omega
      have HOne := hide (refOne_any (some (ad.add i')) k (c - i') B (chunkL l j) wr HK.out.symm (by omega) (chunk_in HI.out j) (by omega) hcc (by omega) (by omega) HRc.out)
      have hci : (c = i') = False := by simp; omega
      clear h1 hkk hq hbd hcc
      by_cases hfull : n < i' + 128
      · have e1 : (n : Int) - (i' : Int) = (k : Int) := by omega
        have e2 : n - i' = k := by omega
        clear hk
        have b1 : (m + q) * 1 ≤ 140737488355328 := by omega
        have b2 : m + q ≤ maxLen := by unfold maxLen; omega
        go_wp2_with (first
          | (go_at_call 60; refine HOne.out.mono ?_; rintro en1 w1 ⟨v1, rfl, hown, hfr⟩; rw [← HQ.out] at hown; obtain ⟨A3, c3, rfl, _⟩ := hown.form; have HS3 := hide (Src.ofRd (P := Try.prog) (size := 1) w1 Try.underlying23 A3 q c3 (by8 (oneB (chunkL l j))) (by rw [by8_length, HQ.out]; omega) (by omega) hown.rd (by8_one _)); have HO1 := hide (HOw.out.fr0 hfr); have HF1 := hide (HFr.out.tr hfr); have hg1 := hfr.size; have b3 : w.heap.size ≤ w1.heap.size := (by omega); clear hown hfr)
          | (at_builtin; refine wpList_append_gen _ rfl (.tmp 26) (.tmp 27) 23 23 rfl w.heap.size 5 j0 (.int .u8 0) 1 1 Try.underlying23 hj0 jz jsz jby rfl u3 m _ rfl HO1.out _ q (by8 (oneB (chunkL l j))) rfl HS3.out b1 b2 b3 ?_; intro v4 w4 hown hfr hat; have HO4 := hide hown; have HF4 : Hid (Fr No w w4) := hide (HF1.out.own hfr (fun g hg => .inl (HO1.out.lt g hg).1)); clear hown hfr hat))
        go_roundw
        case rel => exact ⟨j + 1, i' + 128, m + q, hide (by rw [HJ.out]; omega), by omega, by go_num, hide (by rw [HS.out, List.length_append, ← HM.out, ← HQ.out]), hide (by rw [HS.out, by8_append]; exact HO4.out), HF4⟩
        case measure => simp [intOf]; omega
      · obtain rfl : k = 128 := by omega
        have hfl : i' + 128 ≤ n := by omega
        clear hk hfull
        have b1 : (m + q) * 1 ≤ 140737488355328 := by omega
        have b2 : m + q ≤ maxLen := by unfold maxLen; omega
        go_wp2_with (first
          | (go_at_call 60; refine HOne.out.mono ?_; rintro en1 w1 ⟨v1, rfl, hown, hfr⟩; rw [← HQ.out] at hown; obtain ⟨A3, c3, rfl, _⟩ := hown.form; have HS3 := hide (Src.ofRd (P := Try.prog) (size := 1) w1 Try.underlying23 A3 q c3 (by8 (oneB (chunkL l j))) (by rw [by8_length, HQ.out]; omega) (by omega) hown.rd (by8_one _)); have HO1 := hide (HOw.out.fr0 hfr); have HF1 := hide (HFr.out.tr hfr); have hg1 := hfr.size; have b3 : w.heap.size ≤ w1.heap.size := (by omega); clear hown hfr)
          | (at_builtin; refine wpList_append_gen _ rfl (.tmp 26) (.tmp 27) 23 23 rfl w.heap.size 5 j0 (.int .u8 0) 1 1 Try.underlying23 hj0 jz jsz jby rfl u3 m _ rfl HO1.out _ q (by8 (oneB (chunkL l j))) rfl HS3.out b1 b2 b3 ?_; intro v4 w4 hown hfr hat; have HO4 := hide hown; have HF4 : Hid (Fr No w w4) := hide (HF1.out.own hfr (fun g hg => .inl (HO1.out.lt g hg).1)); clear hown hfr hat))
        go_roundw
        case rel => exact ⟨j + 1, i' + 128, m + q, hide (by rw [HJ.out]; omega), by omega, by go_num, hide (by rw [HS.out, List.length_append, ← HM.out, ← HQ.out]), hide (by rw [HS.out, by8_append]; exact HO4.out), HF4⟩
        case measure => simp [intOf]; omega
    · have HN : Hid (putR l = putUp l j) := hide (by
        unfold putR
        rw [HL.out]
        have h1 := HJ.out
        by_cases e : chunks n = j
        · rw [e]
        · exfalso
          unfold chunks at e
          omega)
      go_wp2
      go_ret
      exact ⟨_, rfl, by rw [HN.out, ← HM.out]; exact HOw.out, HFr.out⟩
end Go.Proofs.Ytpnhnnhocekchaa
namespace Go.Proofs.Ytpnhnnhocekchaa
set_option linter.unusedVariables false
set_option linter.unusedSimpArgs false
open Go.RowKit Go.Shelf
attribute [local go_sem] Oper.semAt_some

/-- a region that reads: what it leaves. -/
def RgnD (A : Value → Value → Value → Value → Value → Value → Act) (W : World) : Exit → Act → World → Prop
  | .normal, a, w => (∃ v1 v2 v3 v4 v5 v6, a = A v1 v2 v3 v4 v5 v6) ∧ ∃ nq, w = W.drewN nq
  | _, _, _ => False
theorem box_h (w : World) (v : Value) (t : TypeId) : (w.alloc (.cells #[v] t)).heap[w.heap.size]? = some (.cells #[v] t (0, 0)) := heap_alloc_new w _

set_option maxRecDepth 100000 in
theorem chunkF_any (A : Option Addr) (n c : Nat) (w : World) : Calls Try.prog 56 #[.slice A n c, .int .i64 128] w fun e w' =>
    e = .returned (.func (.func 88) #[] #[.pointer (some ⟨w.heap.size, 0, none⟩), .pointer (some ⟨w.heap.size + 1, 0, none⟩)]) ∧ w' = (w.alloc (.cells #[.slice A n c] 41)).alloc (.cells #[.int .i64 128] 3) := by
  have h1 : ((w.alloc (.cells #[.slice A n c] 41)).alloc (.cells #[.int .i64 128] 3)).cell? ⟨w.heap.size + 1, 0, none⟩ = some (.int .i64 128) := box2 w (.slice A n c) (.int .i64 128) _ _
  go_enter Try.func56, Try.ntmps56
  go_wp2
  go_ret
  exact ⟨by simp, by simp⟩

/-- the chunks, by number. -/
def allC (n : Nat) : List Nat := List.range (chunks n)
def chV (A : Option Addr) (n j : Nat) : Value := .slice (A.map fun ad => ad.add (128 * j)) (min 128 (n - 128 * j)) (min 128 (n - 128 * j))
def ChunkPost (n : Nat) (J Jx : List Nat → World → Prop) (e : Ending) (W' : World) : Prop := (∃ v, e = .returned v) ∧ (J (allC n) W' ∨ (∃ pre, pre <+: allC n ∧ Jx pre W'))
theorem range_prefix {j k : Nat} (h : j ≤ k) : List.range j <+: List.range k := by
  obtain ⟨d, rfl⟩ : ∃ d, k = j + d := ⟨k - j, by omega⟩
  rw [List.range_add]
  exact List.prefix_append _ _

set_option maxRecDepth 100000 in
set_option maxHeartbeats 1000000 in
theorem chunk1_in (fr : Nat) (hn : 1 ≤ fr) (l B1 B2 : Nat) (Kp : World → World → Prop) (hKr : ∀ W, Kp W W) (hKt : ∀ {X Y Z : World}, Kp X Y → Kp Y Z → Kp X Z) (A : Option Addr) (n c : Nat) (hA : 0 < n → ∃ ad, A = some ad) (hnc : n ≤ c) (hc : c ≤ maxLen) (hnb : n ≤ 1048576) (J Jx : List Nat → World → Prop)
    (hY : ∀ pre j W, J pre W → pre.length < chunks n → j < chunks n → YieldAt Fence.wide (fr - 1) Try.prog l #[chV A n j] W fun e W' =>
      (e = .returned (.bool true) ∧ J (pre ++ [j]) W' ∧ Kp W W') ∨ (e = .returned (.bool false) ∧ Jx (pre ++ [j]) W'))
    (W : World) (hBn : ∀ W', Kp W W' → W'.cell? ⟨B1, 0, none⟩ = some (.slice A n c) ∧ W'.cell? ⟨B2, 0, none⟩ = some (.int .i64 128)) (h0 : J [] W) (hKd : ∀ (W : World) (nq : Nat), Kp W (W.drewN nq)) (hJd : ∀ pre (W : World) (nq : Nat), J pre W → J pre (W.drewN nq)) :
    CallsIn Fence.wide fr Try.prog 88 #[.func (.yield l) #[] #[], .pointer (some ⟨B1, 0, none⟩), .pointer (some ⟨B2, 0, none⟩)] W (ChunkPost n J Jx) := by
  obtain ⟨hc1, hc2⟩ := hBn W (hKr _)
  unfold maxLen at hc
  have HB := hide hBn
  have HY := hide hY
  have HJ := hide h0
  have HA := hide hA
  have HKd := hide hKd
  have HJd := hide hJd
  have hcn : ∀ j, 128 * j < n ↔ j < chunks n := fun j => by unfold chunks; omega
  have HCn := hide hcn
  clear hBn hY h0 hA hKd hJd hcn
  refine callsIn_of_wp Try.func88 rfl trivial ?_ rfl
  simp only [Try.ntmps88, List.size_toArray, List.length_cons, List.length_nil, Nat.reduceAdd, Nat.reduceSub, Array.replicate_succ, Array.replicate_zero, List.push_toArray, List.append_toArray, List.nil_append, List.cons_append]
  gi_wp2
  gi_loopw [4, 5] (fun i e wr => ∃ (j i' : Nat), i = .int .i64 (i' : Nat) ∧ i' = 128 * j ∧ j ≤ chunks n ∧ Hid (J (List.range j) wr) ∧ Hid (Kp W wr)) (fun i _ _ => n + 128 - (intOf i).toNat)
  case atStart => exact ⟨0, 0, rfl, rfl, Nat.zero_le _, HJ, hide (hKr _)⟩
  case round =>
    obtain ⟨j, i', rfl, hij, hjc, HJ1, HKw⟩ := hrel
    have HIJ := hide hij
    obtain ⟨c1, c2⟩ := HB.out wr HKw.out
    by_cases hlt : i' < n
    · obtain ⟨ad, rfl⟩ := HA.out (by omega)
      have hjl : j < chunks n := (HCn.out j).1 (by omega)
      obtain ⟨k, hk⟩ : ∃ k, k = min 128 (n - i') := ⟨_, rfl⟩
      have hk1 : 1 ≤ k ∧ k ≤ 128 ∧ i' + k ≤ n := by omega
      clear hij
      gi_wp2
      refine wpIn_wide.2 (Code.wp_mono (Q := RgnD (fun v1 v2 v3 v4 v5 v6 => { tmps := #[.func (.yield l) #[] #[], .pointer (some ⟨B1, 0, none⟩), .pointer (some ⟨B2, 0, none⟩), undef, .int .i64 (i' : Nat), .int .i64 (k : Nat), .int .i64 (i' : Nat), .slice (some ad) n c, .int .i64 (n : Nat), .bool true, u10, u11, u12, v1, v2, v3, v4, v5, v6, u19, u20, u21, u22, u23, u24, u25, u26, u27, u28, u29, u30], defers := [] }) wr) ?_ ?_)
      rotate_left
      · have HKK := hide hk
        by_cases h128 : 128 ≤ n - i'
        · obtain rfl : k = 128 := by omega
          clear hk
          go_quiet (fail)
          exact ⟨⟨_, _, _, _, _, _, rfl⟩, _, rfl⟩
        · obtain rfl : k = n - i' := by omega
          have h3 : ((n - i' : Nat) : Int) < 128 := by omega
          clear hk
          go_quiet (fail)
          exact ⟨⟨_, _, _, _, _, _, rfl⟩, _, rfl⟩
      rintro (_ | _) a' w' hRQ <;> try exact hRQ.elim
      obtain ⟨⟨v1, v2, v3, v4, v5, v6, rfl⟩, nq, rfl⟩ := hRQ
      show Exit.then _ _ _ _ _
      dsimp only
      have hJ2 := HJd.out _ _ nq HJ1.out
      have hK2 := hKt HKw.out (HKd.out wr nq)
      obtain ⟨fn, tmps, assign, body, hy, hR⟩ := HY.out (List.range j) j (wr.drewN nq) hJ2 (by rw [List.length_range]; exact hjl) hjl
      have hv : chV (some ad) n j = .slice (some (ad.add i')) k k := by
        unfold chV
        rw [← HIJ.out, hk]
        rfl
      rw [hv] at hy
      have HKK := hide hk
      have HR2 := hide hR
      obtain ⟨c1', c2'⟩ := HB.out (wr.drewN nq) hK2
      have HK2 := hide hK2
      obtain ⟨z, hz⟩ : ∃ z, z = i' + k := ⟨_, rfl⟩
      have hz2 : (i' : Int) + (k : Int) = (z : Int) := by omega
      have hz3 : z - i' = k := by omega
      have hz4 : i' ≤ z ∧ z ≤ n := by omega
      have HZ := hide hz
      have hJR : ∀ k', List.range k' ++ [k'] = List.range (k' + 1) := fun k' => List.range_succ.symm
      clear hk hv hR hJ2 hK2 c1 c2 hz
      gi_wp2
      refine HR2.out.mono ?_
      rintro e W3 (⟨rfl, hJ3, hk3⟩ | ⟨rfl, hJx3⟩)
      · have HK3 := hide (hKt HK2.out hk3)
        have HJ3 : Hid (J (List.range (j + 1)) W3) := hide (by rw [← hJR]; exact hJ3)
        obtain ⟨c31, c32⟩ := HB.out W3 HK3.out
        clear hy hJ3 hk3 hJR
        gi_wp2
        go_roundw
        case rel => exact ⟨j + 1, i' + 128, by go_num, by rw [HIJ.out]; omega, by omega, HJ3, HK3⟩
        case measure => simp [intOf]; omega
      · have HX := hide hJx3
        have HP : Hid (List.range j ++ [j] <+: allC n) := hide (by rw [hJR]; exact range_prefix (by omega))
        clear hy hJx3 hJR
        gi_wp2
        refine bodyPost_ret (results_none rfl _ _ _) rfl ?_
        exact ⟨⟨_, rfl⟩, .inr ⟨_, HP.out, HX.out⟩⟩
    · have HE : Hid (List.range j = allC n) := hide (by
        unfold allC
        have : ¬ j < chunks n := fun h => hlt (by rw [hij]; exact (HCn.out j).2 h)
        congr 1
        omega)
      clear hij
      gi_wp2
      go_end0
      exact ⟨⟨_, rfl⟩, .inl (by rw [← HE.out]; exact HJ1.out)⟩
end Go.Proofs.Ytpnhnnhocekchaa
namespace Go.Proofs.Ytpnhnnhocekchaa
set_option linter.unusedVariables false
set_option linter.unusedSimpArgs false
open Go.RowKit Go.Shelf
attribute [local go_sem] Oper.semAt_some

/-- what a round keeps: what lay when the call began, and the two boxes. -/
def KpC (n₀ B1 B2 : Nat) (o1 o2 : Obj) (W W' : World) : Prop := Below n₀ W W' ∧ (W.heap[B1]? = some o1 → W'.heap[B1]? = some o1) ∧ (W.heap[B2]? = some o2 → W'.heap[B2]? = some o2)
theorem KpC.r (n₀ B1 B2 : Nat) (o1 o2 : Obj) (W : World) : KpC n₀ B1 B2 o1 o2 W W := ⟨Below.refl _ _, fun e => e, fun e => e⟩
theorem KpC.t {n₀ B1 B2 : Nat} {o1 o2 : Obj} {A B C : World} (h : KpC n₀ B1 B2 o1 o2 A B) (k : KpC n₀ B1 B2 o1 o2 B C) : KpC n₀ B1 B2 o1 o2 A C := ⟨h.1.trans k.1, fun e => k.2.1 (h.2.1 e), fun e => k.2.2 (h.2.2 e)⟩
theorem KpC.d (n₀ B1 B2 : Nat) (o1 o2 : Obj) (W : World) (nq : Nat) : KpC n₀ B1 B2 o1 o2 W (W.drewN nq) := ⟨⟨rfl, rfl, rfl, Nat.le_refl _, fun _ _ => rfl⟩, fun e => e, fun e => e⟩
theorem KpC.b {n₀ B1 B2 : Nat} {o1 o2 : Obj} {w : World} (hn : n₀ ≤ w.heap.size) (h1 : B1 < w.heap.size) (h2 : B2 < w.heap.size) (W : World) (l : Nat) (o o' : Obj) (hl : w.heap.size ≤ l) (h : W.heap[l]? = some o) (ho : o.isCells = false) (hw : o.isWalk = false) : KpC n₀ B1 B2 o1 o2 W (W.putObj l o') :=
  ⟨belowK_b hn W l o o' hl h ho hw, fun e => (Fr.of_grown (grownBy_putObj' W l o')).blk e (fun e => by have e : l = B1 := Option.some.inj e; omega), fun e => (Fr.of_grown (grownBy_putObj' W l o')).blk e (fun e => by have e : l = B2 := Option.some.inj e; omega)⟩
theorem KpC.fr {S : Nat → Prop} {n₀ B1 B2 : Nat} {o1 o2 : Obj} {W W' : World} (f : Fr S W W') (hn : n₀ ≤ W.heap.size) (h0 : ∀ k, k < n₀ → ¬ S k) (h1 : ¬ S B1) (h2 : ¬ S B2) : KpC n₀ B1 B2 o1 o2 W W' :=
  ⟨f.belowN hn h0, fun e => f.blk e h1, fun e => f.blk e h2⟩

abbrev Cn (n : Nat) := { x : Nat // x < chunks n }
def valC {n : Nat} (xs : List (Cn n)) : List Nat := xs.map (·.1)
theorem valC_snoc {n : Nat} (xs : List (Cn n)) (x : Cn n) : valC (xs ++ [x]) = valC xs ++ [x.1] := by simp [valC]

theorem chunk_stops (fr : Nat) (hn : 1 ≤ fr) (B1 B2 : Nat) (A : Option Addr) (n c : Nat) (n₀ : Nat) (w W0 : World) (t1 t2 : TypeId) (hA : 0 < n → ∃ ad, A = some ad) (hnc : n ≤ c) (hc : c ≤ maxLen) (hnb : n ≤ 1048576)
    (h1 : W0.heap[B1]? = some (.cells #[.slice A n c] t1 (0, 0))) (h2 : W0.heap[B2]? = some (.cells #[.int .i64 128] t2 (0, 0))) :
    SeqStopsK Fence.wide fr Try.prog 88 #[.pointer (some ⟨B1, 0, none⟩), .pointer (some ⟨B2, 0, none⟩)] (fun x : Cn n => #[chV A n x.1]) (KpC n₀ B1 B2 (.cells #[.slice A n c] t1 (0, 0)) (.cells #[.int .i64 128] t2 (0, 0))) (fun ys => valC ys = allC n) (fun pre => valC pre <+: allC n) (chunks n) W0 := fun l J Jx W hW hJ hJx hY h0 =>
  (chunk1_in fr hn l B1 B2 (KpC n₀ B1 B2 (.cells #[.slice A n c] t1 (0, 0)) (.cells #[.int .i64 128] t2 (0, 0))) (KpC.r _ _ _ _ _) KpC.t A n c hA hnc hc hnb (fun pre W => ∃ q : List (Cn n), valC q = pre ∧ J q W) (fun pre W => ∃ q : List (Cn n), valC q = pre ∧ Jx q W)
    (fun pre x W1 h1 h2 hx => by
      obtain ⟨q, rfl, hj⟩ := h1
      refine YieldAt.mono (hY q ⟨x, hx⟩ W1 hj (by simpa [valC] using h2)) ?_
      rintro e W' (⟨h1, h2, h3⟩ | ⟨h1, h2⟩)
      · exact .inl ⟨h1, ⟨_, valC_snoc q ⟨x, hx⟩, h2⟩, h3⟩
      · exact .inr ⟨h1, _, valC_snoc q ⟨x, hx⟩, h2⟩) W
    (fun W' hk => by
      have b1 : W.heap[B1]? = some (.cells #[.slice A n c] t1 (0, 0)) := (hW.block B1 (Array.getElem?_eq_some_iff.1 h1).1).trans h1
      have b2 : W.heap[B2]? = some (.cells #[.int .i64 128] t2 (0, 0)) := (hW.block B2 (Array.getElem?_eq_some_iff.1 h2).1).trans h2
      exact ⟨cell_of_row _ _ _ _ _ _ (hk.2.1 b1), cell_of_row _ _ _ _ _ _ (hk.2.2 b2)⟩) ⟨[], rfl, h0⟩
    (fun W nq => KpC.d _ _ _ _ _ W nq)
    (fun pre W1 nq ⟨q, hq, hj⟩ => ⟨q, hq, hJ q W1 (W1.drewN nq) none hj ⟨rfl, rfl, rfl, Nat.le_refl _, fun _ _ _ => rfl⟩ (fun r e => by cases e)⟩)).mono
    fun e W' ⟨h1, h2⟩ => ⟨h1, h2.elim (fun ⟨q, hq, h⟩ => .inl ⟨q, hq, h⟩) (fun ⟨pre, hp, q, hq, h⟩ => .inr ⟨q, (hq ▸ hp : valC q <+: allC n), h⟩)⟩

def catU (l : List Int) (pre : List Nat) : List UInt8 := pre.flatMap fun j => oneB (chunkL l j)
theorem catU_snoc (l : List Int) (pre : List Nat) (j : Nat) : catU l (pre ++ [j]) = catU l pre ++ oneB (chunkL l j) := by simp [catU, List.flatMap_append]
theorem catU_all (l : List Int) : catU l (allC l.length) = putR l := rfl
theorem catU_le {l : List Int} (h : InI l) : ∀ pre, (catU l pre).length ≤ 1036 * pre.length
  | [] => by simp [catU]
  | j :: pre => by
    have h1 := catU_le h pre
    have h2 := oneB_le (chunk_in h j)
    have h3 := chunk_len l j
    have e : catU l (j :: pre) = oneB (chunkL l j) ++ catU l pre := by simp [catU]
    rw [e, List.length_append, List.length_cons]
    omega

/-- what Put keeps between two rounds. -/
structure PutI (w : World) (l : List Int) (pre : List Nat) (W : World) : Prop where
  fr : Fr No w W
  sz : w.heap.size + 3 ≤ W.heap.size
  own : ∃ v, W.heap[w.heap.size]? = some (.cells #[v] 23 (0, 0)) ∧ Own W (w.heap.size + 3) 5 1 v (catU l pre).length (by8 (catU l pre))
theorem PutI.from (w : World) (l : List Int) (B : Nat) (hB : w.heap.size ≤ B) : OwnFrom B (fun pre W => PutI w l pre W) := by
  rintro pre W W' row ⟨h1, h2, v, h3, h4⟩ hg hr
  have hr2 : ∀ r, row = some r → ∃ o : Obj, W.heap[r]? = some o ∧ o.isCells = false := fun r e => (hr r e).2
  exact ⟨h1.trans (Fr.of_grown hg) (fun i hi e => by have := (hr i e).1; omega), Nat.le_trans h2 (Fr.of_grown hg).size, v, blk_kept h3 rfl hg hr2, own_kept h4 hg hr2⟩

/-- numbers above, so far. -/
def abTo (ch : List Int) (q : Nat) : List Nat := (aboveL ch).take q ++ List.replicate (ch.length - q) 0
theorem abTo_0 (ch : List Int) : abTo ch 0 = List.replicate ch.length 0 := by simp [abTo]
theorem abTo_all (ch : List Int) : abTo ch ch.length = aboveL ch := by
  unfold abTo
  rw [Nat.sub_self, List.take_of_length_le (by rw [aboveL_len]; exact Nat.le_refl _)]
  simp
theorem abTo_set {ch : List Int} {q : Nat} (h : q < ch.length) : (nz (abTo ch q)).set q (.int .u64 (((ch.getD q 0 - minL ch).toNat : Nat) : Int)) = nz (abTo ch (q + 1)) := by
  rw [nz_set]
  congr 1
  unfold abTo
  have hl : ((aboveL ch).take q).length = q := by rw [List.length_take, aboveL_len]; omega
  rw [List.set_append, if_neg (by omega), hl, Nat.sub_self, show ch.length - q = (ch.length - (q + 1)) + 1 by omega, List.replicate_succ, List.set_cons_zero, take_snocN (by rw [aboveL_len]; exact h), aboveL_at h]
  simp
theorem box_put {w : World} {B : Nat} {v u : Value} {t : TypeId} (h : w.heap[B]? = some (.cells #[v] t (0, 0))) : (w.setCell ⟨B, 0, none⟩ u).heap[B]? = some (.cells #[u] t (0, 0)) := by
  have := heap_setCell_same w B 0 #[v] t u h
  simpa using this

set_option maxRecDepth 100000 in
set_option maxHeartbeats 4000000 in
theorem put_in (A : Option Addr) (n c B : Nat) (l : List Int) (w : World) (hl : l.length = n) (hi : InI l) (hn : n ≤ c) (hc : c ≤ maxLen) (hb : n ≤ 1048576) (hB : B ≤ w.heap.size) (hr : Rd w B A (iz .i64 l)) :
    CallsIn Fence.wide 4 Try.prog 30 #[.slice A n c] w (GivesB w (putR l)) := by
  obtain ⟨i0, hi0, hz, hsz, hby⟩ := info_parts Try.info5
  have hA : 0 < n → ∃ ad, A = some ad := fun h => by
    obtain ⟨ad, e, _⟩ := hr.intAt (j := 0) (by omega)
    exact ⟨ad, e⟩
  have HC := hide hc
  have HR := hide hr
  have HL := hide hl
  have HI := hide hi
  have hq : ∀ (a b : Option Addr) (W : World), (binOp .eql 87 (.func (.func 88) #[] #[.pointer a, .pointer b]) .nilFunc).run Try.prog W = .ok (.bool false) W := fun _ _ _ => by kernel_rfl
  clear hr hl hi
  refine callsIn_of_wp_marks Try.func30 rfl trivial ?_ rfl
  simp only [Try.ntmps30, List.size_toArray, List.length_cons, List.length_nil, Nat.reduceAdd, Nat.reduceSub, Array.replicate_succ, Array.replicate_zero, List.push_toArray, List.append_toArray, List.nil_append, List.cons_append]
  gi_wp2_with (refine ⟨trivial, ?_⟩; gi_at_call 56; refine (callsIn_wide.2 (chunkF_any A n c _)).mono ?_; rintro e w' ⟨rfl, rfl⟩)
  obtain ⟨W0, hW0⟩ : ∃ W0, W0 = ((w.alloc (.cells #[.slice none 0 0] 23)).alloc (.cells #[.slice A n c] 41)).alloc (.cells #[.int .i64 128] 3) := ⟨_, rfl⟩
  rw [← hW0]
  have hF0 : Fr No w W0 := by rw [hW0]; exact (((Fr.refl No w).alloc _).alloc _).alloc _
  have hs0 : W0.heap.size = w.heap.size + 3 := by rw [hW0]; simp
  have hb0 : W0.heap[w.heap.size]? = some (.cells #[.slice none 0 0] 23 (0, 0)) := by
    rw [hW0]
    exact (((Fr.refl No _).alloc _).alloc _).blk (box_h w _ _) (fun h => h)
  have hb1 : W0.heap[w.heap.size + 1]? = some (.cells #[.slice A n c] 41 (0, 0)) := by
    rw [hW0]
    have := box_h (w.alloc (.cells #[.slice none 0 0] 23)) (.slice A n c) 41
    rw [show (w.alloc (.cells #[.slice none 0 0] 23)).heap.size = w.heap.size + 1 by simp] at this
    exact ((Fr.refl No _).alloc _).blk this (fun h => h)
  have hb2 : W0.heap[w.heap.size + 1 + 1]? = some (.cells #[.int .i64 128] 3 (0, 0)) := by
    rw [hW0]
    have := box_h ((w.alloc (.cells #[.slice none 0 0] 23)).alloc (.cells #[.slice A n c] 41)) (.int .i64 128) 3
    simpa using this
  have hE0 : PutI w l [] W0 := ⟨hF0, by omega, _, hb0, Own.nil _ _ _ _⟩
  clear hW0
  refine wpIn_rangeFunc_ownF rfl (by omega) (gf := 88) (lb := #[.pointer (some ⟨w.heap.size + 1, 0, none⟩), .pointer (some ⟨w.heap.size + 1 + 1, 0, none⟩)]) rfl trivial (enters_of Try.func88 (by kernel_rfl) rfl)
    (chunk_stops 3 (by omega) (w.heap.size + 1) (w.heap.size + 1 + 1) A n c w.heap.size w W0 41 3 hA hn hc hb hb1 hb2) KpC.t (KpC.b (by omega) (by omega) (by omega)) (Below.refl _ _) (fun _ => rfl)
    (fun pre W => PutI w l (valC pre) W)
    (fun _ _ _ => False)
    (fun s W W' row h hg hr => PutI.from w l _ (by omega) _ W W' row h hg hr) (fun _ _ _ _ _ hs _ _ => hs) hE0
    (fun x => { tmps := #[.slice A n c, undef, .slice none 0 0, .pointer (some ⟨w.heap.size, 0, none⟩), chV A n x.1, undef, undef, undef, undef, undef, .slice A n c, .func (.func 88) #[] #[.pointer (some ⟨w.heap.size + 1, 0, none⟩), .pointer (some ⟨w.heap.size + 1 + 1, 0, none⟩)], chV A n x.1, undef, undef, undef, undef, undef, undef, undef, undef, undef, undef, undef, undef, undef, undef, undef, undef, undef, undef, undef, undef, undef, undef, undef, undef, undef, undef, undef, undef, undef, undef, undef, undef, undef, undef, undef, undef, undef], defers := [] }) ?assign ?body ?done ?stop
  case assign =>
    intro l x W K hK
    gi_wp2
    exact hK
  case body =>
    rintro lr pre ⟨j, hj⟩ W E hpl
    obtain ⟨v, hb, ho⟩ := E.own
    have hsz1 : w.heap.size + 3 ≤ W.heap.size := E.sz
    obtain ⟨Ab, cb, rfl, q1, q2, _⟩ := ho.form
    have hn0 : 0 < n := by unfold chunks at hj; omega
    obtain ⟨ad, rfl⟩ := hA hn0
    have hhl : 128 * j < n := by unfold chunks at hj; omega
    obtain ⟨ch, hch⟩ : ∃ x, x = chunkL l j := ⟨_, rfl⟩
    have hck := chunk_len l j
    rw [← hch, HL.out] at hck
    obtain ⟨k, hk⟩ : ∃ x, x = min 128 (n - 128 * j) := ⟨_, rfl⟩
    rw [← hk] at hck
    have hk1 : 1 ≤ k ∧ k ≤ 128 := by omega
    have hRc := (HR.out.fr0 E.fr).chunk j
    rw [← hch] at hRc
    obtain ⟨bd, hbd⟩ : ∃ x, x = ad.add (128 * j) := ⟨_, rfl⟩
    rw [← hbd] at hRc
    have hv : chV (some ad) n j = .slice (some bd) k k := by
      unfold chV
      rw [← hk, hbd]
      rfl
    have hci : InI ch := by rw [hch]; exact chunk_in HI.out j
    have HRc := hide hRc
    have HCk := hide hck
    have HCi := hide hci
    have HMin := hide (minI_any (some bd) k k B ch W hck hk1.1 (Nat.le_refl _) (by unfold maxLen; omega) hRc)
    obtain ⟨le, hle⟩ : ∃ m, m = minL ch := ⟨_, rfl⟩
    have hle1 : -9223372036854775808 ≤ le ∧ le ≤ 9223372036854775807 := by rw [hle]; exact minL_in hci
    rw [← hle] at HMin
    have HLe := hide hle
    have hmk := make_u64 k (by omega)
    have HO0 := hide (made_own W k 52 (.int .u64 0) _ rfl (by unfold maxLen; omega))
    rw [← nz_rep, ← hck, ← abTo_0, hck] at HO0
    generalize madeCells #[Value.int .u64 0] k = z at hmk HO0
    have hpl2 : pre.length ≤ 8192 := by unfold chunks at hpl; omega
    have hcl := catU_le HI.out (valC pre)
    have hcl2 : (valC pre).length = pre.length := by simp [valC]
    rw [hcl2] at hcl
    obtain ⟨m, hm⟩ : ∃ x, x = (catU l (valC pre)).length := ⟨_, rfl⟩
    have HSn := hide (catU_snoc l (valC pre) j)
    rw [← hch] at HSn
    have HVs := hide (valC_snoc pre ⟨j, hj⟩)
    generalize catU l (valC pre) = cu at hm ho hcl HSn q1 hb
    rw [← hm] at ho hcl q1 hb
    have HM := hide hm
    have hmb : m ≤ 8486912 := by omega
    have HE := hide E
    have HO := hide ho
    have HBx := hide hb
    have hcb : cb ≤ 9223372036854775807 := by unfold maxLen at q2; exact q2
    have HQ2 := hide q2
    obtain ⟨wd, hwd⟩ : ∃ x, x = wid (aboveL ch) := ⟨_, rfl⟩
    have hwd64 : wd ≤ 64 := by rw [hwd]; exact wid_above hci
    have HWd := hide hwd
    have HE1 : Hid (oneB ch = enc (zz le) ++ [UInt8.ofNat wd] ++ packed wd (aboveL ch)) := hide (by unfold oneB; rw [← hle, ← hwd])
    have hel := (enc_len (zz le)).2
    have HEl := hide hel
    obtain ⟨en, hen⟩ : ∃ x, x = (enc (zz le)).length := ⟨_, rfl⟩
    rw [← hen] at hel
    have HEn := hide hen
    obtain ⟨EB, hEB⟩ : ∃ x, x = enc (zz le) := ⟨_, rfl⟩
    rw [← hEB] at HE1 hen HEn
    have HEQ := hide hEB.symm
    clear hEB
    have hpk : (packed wd (aboveL ch)).length ≤ 1025 := by rw [packed_len, aboveL_len, hck]; have := psz_le (n := k) hwd64; omega
    obtain ⟨pn, hpn⟩ : ∃ x, x = (packed wd (aboveL ch)).length := ⟨_, rfl⟩
    rw [← hpn] at hpk
    have HPn := hide hpn
    have H64 := hide (aboveL_64 hci)
    have HAl := hide ((aboveL_len ch).trans hck)
    dsimp only
    rw [hv]
    clear E ho hb hRc hck hk hbd hv hci hle q2 hm hwd hen hpn hch hcl2 hhl hpl hF0 hs0 hb0 hb1 hb2 hE0
    gi_wp2_with (refine ⟨trivial, ?_⟩; gi_at_call 57; refine (CallsIn.inRound lr (callsIn_wide.2 HMin.out)).mono ?_; rintro e w' ⟨rfl, rfl⟩)
    gi_loopw [7, 8, 20] (fun a b i wr => ∃ q : Nat, q ≤ k ∧ i = .int .i64 q ∧ Hid (Own wr W.heap.size 52 1 (.slice (some ⟨W.heap.size, 0, none⟩) k k) k (nz (abTo ch q))) ∧ Hid (Fr No W wr)) (fun _ _ i _ => k - (intOf i).toNat)
    case atStart => exact ⟨0, by omega, rfl, HO0, hide ((Fr.refl No W).alloc _)⟩
    case round =>
      obtain ⟨q, hq1, rfl, HOw, HFw⟩ := hrel
      by_cases hqk : q < k
      · have h1 : q < ch.length := by rw [HCk.out]; exact hqk
        obtain ⟨ad2, e2, _, hcx⟩ := (HRc.out.fr0 HFw.out).intAt h1
        injection e2 with e2
        subst e2
        have hx := HCi.out.at h1
        have hmx := minL_at h1
        rw [← HLe.out] at hmx
        have HS := hide (abTo_set h1)
        rw [← HLe.out] at HS
        obtain ⟨hco, hf1, hput⟩ := HOw.out.put (k := q) hqk
        have hsome : ∃ u0, (nz (abTo ch q))[q]? = some u0 := HOw.out.some_at hqk
        obtain ⟨u0, hu0⟩ := hsome
        rw [hu0] at hco
        have HPut := hide hput
        generalize ch.getD q 0 = x at hcx HS hx hmx
        have HV := above_val hx hle1 hmx
        obtain ⟨u, hu⟩ : ∃ u, u = (x - le).toNat := ⟨_, rfl⟩
        rw [← hu] at HV HS
        clear h1 hu hput hu0
        gi_wp2
        go_roundw
        case rel => exact ⟨q + 1, by omega, by go_num, hide (by rw [← HS.out]; exact HPut.out _), hide (Fr.putG _ _ _ _ _ HFw.out (Nat.le_refl _))⟩
        case measure => simp [intOf]; omega
      · obtain rfl : q = k := by omega
        have hab := HOw.out
        have hall : abTo ch q = aboveL ch := by rw [← HCk.out]; exact abTo_all ch
        rw [hall] at hab
        have HA2 := hide hab
        have HWc := hide (width_any (some ⟨W.heap.size, 0, none⟩) q q _ (aboveL ch) wr HAl.out H64.out (Nat.le_refl _) (by unfold maxLen; omega) hab.rd)
        rw [← HWd.out] at HWc
        have hgr := HFw.out.size
        have hbox := HFw.out.blk HBx.out (fun h => h)
        have cbx : wr.cell? ⟨w.heap.size, 0, none⟩ = some (.slice Ab m cb) := cell_of_row _ _ 0 _ _ _ hbox
        have HBox := hide hbox
        have HPu := hide (putI_any Ab m cb wr.heap.size cu le wr HM.out.symm q1 HQ2.out (by omega) (Nat.le_refl _) (HO.out.fr0 HFw.out).rd hle1.1 hle1.2)
        have b1 : (m + en + 1) * 1 ≤ 140737488355328 := by omega
        have b2 : m + en + 1 ≤ maxLen := by unfold maxLen; omega
        have c1 : (m + en + 1 + pn) * 1 ≤ 140737488355328 := by omega
        have c2 : m + en + 1 + pn ≤ maxLen := by unfold maxLen; omega
        have HW8 := hide (ofNat_toNat (x := wd) (by omega))
        have HML : Hid ((cu ++ EB).length = m + en) := hide (by rw [List.length_append, ← HM.out, ← HEn.out])
        have HZE : Hid (enc (zz le) = EB) := hide HEQ.out
        rw [HZE.out] at HPu
        clear hab hall hbox hqk
        gi_wp2_with (first
          | (refine ⟨trivial, ?_⟩; gi_at_call 21; refine (CallsIn.inRound lr (callsIn_wide.2 HWc.out)).mono ?_; rintro e w' ⟨rfl, rfl⟩)
          | (refine ⟨trivial, ?_⟩; gi_at_call 58; refine (CallsIn.inRound lr (callsIn_wide.2 HPu.out)).mono ?_; rintro e w2 ⟨v2, rfl, hown, hfr⟩; rw [HML.out] at hown; obtain ⟨A2, k2, rfl, x1, x2, _⟩ := hown.form; have hb2 := hfr.blk HBox.out (fun h => h); have cb2 : w2.cell? ⟨w.heap.size, 0, none⟩ = some (.slice Ab m cb) := cell_of_row _ _ 0 _ _ _ hb2; have fb2 : w2.frozen? ⟨w.heap.size, 0, none⟩ = false := frozen_of_row _ _ _ _ _ hb2; have HB3 := hide (box_put (u := .slice A2 (m + en) k2) hb2); have cb3 : (w2.setCell ⟨w.heap.size, 0, none⟩ (.slice A2 (m + en) k2)).cell? ⟨w.heap.size, 0, none⟩ = some (.slice A2 (m + en) k2) := cell_of_row _ _ 0 _ _ _ HB3.out; have HF2 := hide (HFw.out.tr hfr); have HZ2 := hide hfr.size; have HS3 := hide (Src.one (P := Try.prog) (w2.setCell ⟨w.heap.size, 0, none⟩ (.slice A2 (m + en) k2)) (e := 5) Try.underlying23 (.int .u8 (wd : Nat)) rfl); have HS3b : Hid (Src Try.prog 1 23 (.slice (some ⟨w2.heap.size, 0, none⟩) 1 1) 1 [.int .u8 (wd : Nat)] ((w2.setCell ⟨w.heap.size, 0, none⟩ (.slice A2 (m + en) k2)).alloc (.cells #[.int .u8 (wd : Nat)] 5))) := hide (by have h := HS3.out; rw [show (w2.setCell ⟨w.heap.size, 0, none⟩ (.slice A2 (m + en) k2)).heap.size = w2.heap.size by simp [World.setCell]] at h; exact h); have HF3 : Hid (Fr (Is w.heap.size) W (w2.setCell ⟨w.heap.size, 0, none⟩ (.slice A2 (m + en) k2))) := hide ((HF2.out.any (Is w.heap.size)).put _ _); have HO3 := hide (hown.fr ((Fr.refl (Is w.heap.size) w2).put 0 (.slice A2 (m + en) k2)) (fun g hg e => by have e : g = w.heap.size := e; have := (hown.lt g hg).1; omega)); have HA3 := hide ((HA2.out.fr0 hfr).fr ((Fr.refl (Is w.heap.size) w2).put 0 (.slice A2 (m + en) k2)) (fun g hg e => by have e : g = w.heap.size := e; have := (HA2.out.lt g hg).1; omega)); unfold maxLen at x2; clear hown hfr hb2)
          | (gi_at_builtin; refine wpListIn_append_gen _ rfl (.tmp 39) (.tmp 42) 23 23 rfl wr.heap.size 5 i0 (.int .u8 0) 1 1 Try.underlying23 hi0 hz hsz hby rfl (.slice A2 (m + en) k2) (m + en) (by8 (cu ++ EB)) rfl (HO3.out.fr0 ((Fr.refl No _).alloc (.cells #[.int .u8 (wd : Nat)] 5))) _ 1 [.int .u8 (wd : Nat)] rfl (by first | exact HS3.out | exact HS3b.out) b1 b2 (by have := HZ2.out; simp [World.setCell]; omega) ?_; intro v4 w4 hown hfr hat; have HO4 := hide hown; have HF4 : Hid (Fr (Is w.heap.size) W w4) := hide ((HF3.out.alloc _).own hfr (fun g hg => .inl (by have := (HO3.out.lt g hg).1; omega))); have HA4 := hide ((HA3.out.fr0 ((Fr.refl No _).alloc (.cells #[.int .u8 (wd : Nat)] 5))).fr hfr (fun g hg e => HO3.out.ne_own HA3.out (by decide) hg e)); have HB4 := hide (hfr.blk (((Fr.refl No _).alloc (.cells #[.int .u8 (wd : Nat)] 5)).blk HB3.out (fun h => h)) (fun e => by have h2 := (HO3.out.lt w.heap.size e).1; omega)); have HZ5 := hide (show wr.heap.size ≤ w4.heap.size by have h1 := hfr.size; have h2 := HF2.out.size; have h3 := HZ2.out; simp [World.setCell] at h1; omega); clear hown hfr hat)
          | (refine ⟨trivial, ?_⟩; gi_at_call 17; have HBi := bits_any (some ⟨W.heap.size, 0, none⟩) q q w4.heap.size wd (aboveL ch) w4 HAl.out H64.out (Nat.le_refl _) (by unfold maxLen; omega) (by omega) (Nat.le_refl _) (HA4.out.rd); rw [show bitsZ (aboveL ch) wd = packed wd (aboveL ch) by unfold bitsZ; rw [if_pos (by omega)]; rfl] at HBi; refine (CallsIn.inRound lr (callsIn_wide.2 HBi)).mono ?_; clear HBi; rintro e w5 ⟨v5, rfl, hown, hfr⟩; rw [← HPn.out] at hown; obtain ⟨A5, k5, rfl, _⟩ := hown.form; have HS5 := hide (Src.ofRd (P := Try.prog) (size := 1) w5 Try.underlying23 A5 pn k5 (by8 (packed wd (aboveL ch))) (by rw [by8_length, HPn.out]; omega) (by omega) hown.rd (by8_one _)); have HO5 := hide (HO4.out.fr0 hfr); have HF5 := hide (HF4.out.tr hfr); have HB5 := hide (hfr.blk HB4.out (fun h => h)); have HZ6 := hide hfr.size; clear hown hfr)
          | (gi_at_builtin; refine wpListIn_append_gen _ rfl (.tmp 43) (.tmp 46) 23 23 rfl wr.heap.size 5 i0 (.int .u8 0) 1 1 Try.underlying23 hi0 hz hsz hby rfl v4 (m + en + 1) _ rfl HO5.out _ pn (by8 (packed wd (aboveL ch))) rfl HS5.out c1 c2 (by have := HZ5.out; have := HZ6.out; omega) ?_; intro v6 w6 hown hfr hat; obtain ⟨A6, k6, rfl, _⟩ := hown.form; have hb6 := hfr.blk HB5.out (fun e => by have h2 := (HO5.out.lt w.heap.size e).1; omega); have cb6 : w6.cell? ⟨w.heap.size, 0, none⟩ = some (.slice A2 (m + en) k2) := cell_of_row _ _ 0 _ _ _ hb6; have fb6 : w6.frozen? ⟨w.heap.size, 0, none⟩ = false := frozen_of_row _ _ _ _ _ hb6; have HB7 := hide (box_put (u := .slice A6 (m + en + 1 + pn) k6) hb6); have HF6 : Hid (Fr (Is w.heap.size) W w6) := hide (HF5.out.own hfr (fun g hg => .inl (by have := (HO5.out.lt g hg).1; omega))); have HO6 := hide hown; clear hown hfr hat hb6))
        have HF7 := HF6.out.put 0 (.slice A6 (m + en + 1 + pn) k6)
        refine ⟨keeps_of_fr HF7 ?_, KpC.fr HF7 (by omega) ?_ ?_ ?_, HE.out.fr.trans HF7 (fun i hi e => by have e : i = w.heap.size := e; omega), Nat.le_trans hsz1 HF7.size, _, HB7.out, ?_⟩
        · intro g o e hg
          have e : g = w.heap.size := e
          subst e
          rw [HBx.out] at hg
          injection hg with hg
          subst hg
          rfl
        · intro g hg e
          have e : g = w.heap.size := e
          omega
        · intro e
          have e : w.heap.size + 1 = w.heap.size := e
          omega
        · intro e
          have e : w.heap.size + 1 + 1 = w.heap.size := e
          omega
        · have hlen : (catU l (valC (pre ++ [⟨j, hj⟩]))).length = m + en + 1 + pn := by
            rw [HVs.out, HSn.out, HE1.out]
            simp [← HM.out, ← HEn.out, ← HPn.out]
            omega
          have hby : by8 (catU l (valC (pre ++ [⟨j, hj⟩]))) = by8 (cu ++ EB) ++ [.int .u8 (wd : Nat)] ++ by8 (packed wd (aboveL ch)) := by
            rw [HVs.out, HSn.out, HE1.out]
            have e8 : by8 [UInt8.ofNat wd] = [.int .u8 (wd : Nat)] := by simp only [by8, List.map_cons, List.map_nil, HW8.out]
            rw [by8_append, by8_append, by8_append, by8_append, e8]
            simp
          rw [hlen, hby]
          exact (HO6.out.lower (by omega)).fr ((Fr.refl (Is w.heap.size) w6).put 0 _) (fun g hg e => by have e : g = w.heap.size := e; have := (HO6.out.lt g hg).1; omega)
  case done =>
    rintro D ys W hD hys E hK
    obtain ⟨v, hb, ho⟩ := E.own
    obtain ⟨Ab, cb, rfl, q1, q2, _⟩ := ho.form
    rw [hys, ← HL.out, catU_all] at ho hb q1
    obtain ⟨m, hm⟩ : ∃ x, x = (putR l).length := ⟨_, rfl⟩
    rw [← hm] at ho hb q1
    have HM := hide hm
    have c3 : W.cell? ⟨w.heap.size, 0, none⟩ = some (.slice Ab m cb) := cell_of_row _ _ 0 _ _ _ hb
    have HO := hide ho
    have HF := hide E.fr
    have HK := hide hK
    have HQ2 := hide q2
    have hD2 : w.heap.size + 3 ≤ D := by omega
    clear E ho hb hys hK hF0 hs0 hb0 hb1 hb2 hE0 hm q2 hA
    gi_wp2_with (refine ⟨trivial, ?_⟩; gi_at_call 59; refine (callsIn_wide.2 (clip_any Ab m cb W q1 HQ2.out)).mono ?_; rintro e w' ⟨rfl, rfl⟩)
    refine ⟨by simp, .inl ⟨_, _, rfl, run_takeDeferred HK.out, ?_⟩⟩
    refine ⟨_, results_tmp rfl _ _ _, ?_⟩
    have f1 : Fr (fun k => k = D) W (W.putObj D (.deferred none)) := (Fr.of_grown (grownBy_putObj' W D (.deferred none))).mono (fun i _ e => (Option.some.inj e).symm)
    refine ⟨_, rfl, ?_, HF.out.trans f1 (fun i hi e => by have e : i = D := e; omega)⟩
    rw [← HM.out]
    exact (HO.out.clip.lower (by omega)).fr f1 (fun k hk e => by
      have e : k = D := e
      subst e
      obtain ⟨_, A', c', hv, _, _, hA⟩ := HO.out
      injection hv with hv _ _
      subst hv
      rcases hA with ⟨rfl, _⟩ | ⟨g', cur, rfl, _, hh, _⟩
      · cases hk
      · have e : g' = k := Option.some.inj hk
        subst e
        rw [HK.out] at hh
        cases hh)
  case stop =>
    rintro D c pre W _ _ h _
    exact h.elim
theorem put_any (A : Option Addr) (n c B : Nat) (l : List Int) (w : World) (hl : l.length = n) (hi : InI l) (hn : n ≤ c) (hc : c ≤ maxLen) (hb : n ≤ 1048576) (hB : B ≤ w.heap.size) (hr : Rd w B A (iz .i64 l)) :
    Calls Try.prog 30 #[.slice A n c] w (GivesB w (putR l)) := callsIn_wide.1 (put_in A n c B l w hl hi hn hc hb hB hr)
end Go.Proofs.Ytpnhnnhocekchaa
