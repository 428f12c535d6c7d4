/- Several texts in one: One03, RefPut03, MemIn, ChunkW, PutI. -/
import Derived.Test.YthlbfnoahdjdeaaK6
import Derived.RangeFuncNested
import Derived.RangeFuncBound
import Derived.RangeFuncCalls
import Derived.RangeFuncLeaves
import Derived.Shelf.Abstract
import Derived.Shelf.RegionOpen
import Derived.OwnWalkIn
import Derived.TacticsInMore
import Derived.LoopNIn
import Derived.LoopIn
import Derived.RegionTactic
import Derived.BigRegion
namespace Go.Proofs.Ythlbfnoahdjdeaa
set_option linter.unusedVariables false
set_option linter.unusedSimpArgs false
open Go.RowKit

set_option maxRecDepth 100000 in
set_option maxHeartbeats 400000 in
theorem turned_any (n : Int) (w : World) (h1 : -9223372036854775808 ≤ n) (h2 : n ≤ 9223372036854775807) :
    Calls Try.prog 93 #[.int .i64 n] w (Ret (.int .u64 (zz n)) w) := by
  by_cases h0 : 0 ≤ n
  · have HZ := hide (show (zz n : Int) = IntKind.u64.wrap (2 * IntKind.u64.wrap n) by
      unfold zz
      rw [if_pos h0, IntWalk.u64_in n (by omega), IntWalk.u64_in _ (by omega)]
      omega)
    go_enter Try.func93, Try.ntmps93
    go_wp2
    go_ret
    exact ⟨by rw [HZ.out]; first | rfl | (simp [IntKind.wrap_u64]; omega), rfl⟩
  · have HZ := hide (show (zz n : Int) = -2 * n - 1 by
      unfold zz
      rw [if_neg h0]
      omega)
    go_enter Try.func93, Try.ntmps93
    go_wp2
    go_ret
    exact ⟨by rw [HZ.out]; congr 2; simp [IntKind.wrap_u64]; omega, rfl⟩

end Go.Proofs.Ythlbfnoahdjdeaa
namespace Go.Proofs.Ythlbfnoahdjdeaa
set_option linter.unusedVariables false
set_option linter.unusedSimpArgs false
open Go.RowKit

theorem min_step {l : List Int} {k : Nat} (h : k < l.length) : minL (l.take (max (k + 1) 1)) = min (minL (l.take (max k 1))) (l.getD k 0) := by
  rcases Nat.eq_zero_or_pos k with rfl | hk
  · cases l with
    | nil => simp at h
    | cons y r => simp [minL]
  · rw [show max (k + 1) 1 = k + 1 by omega, show max k 1 = k by omega, min_take hk h]
theorem aboveL_at {l : List Int} {k : Nat} (h : k < l.length) : (aboveL l).getD k 0 = (l.getD k 0 - minL l).toNat := by
  unfold aboveL
  simp [List.getElem?_eq_getElem h]
theorem InI.at {l : List Int} (h : InI l) {k : Nat} (hk : k < l.length) : -9223372036854775808 ≤ l.getD k 0 ∧ l.getD k 0 ≤ 9223372036854775807 := by
  have : l.getD k 0 = l[k] := by simp [List.getElem?_eq_getElem hk]
  rw [this]
  exact h _ (List.getElem_mem hk)
theorem minL_at {l : List Int} {k : Nat} (hk : k < l.length) : minL l ≤ l.getD k 0 := by
  have : l.getD k 0 = l[k] := by simp [List.getElem?_eq_getElem hk]
  rw [this]
  exact minL_le _ (List.getElem_mem hk)
theorem above_snoc {l : List Int} {k : Nat} (h : k < l.length) : nz ((aboveL l).take k) ++ [.int .u64 (((l.getD k 0 - minL l).toNat : Nat) : Int)] = nz ((aboveL l).take (k + 1)) := by
  rw [take_snocN (by rw [aboveL_len]; exact h), nz_append, aboveL_at h]
  rfl
theorem psz_le {w n : Nat} (hw : w ≤ 64) : psz w n ≤ 8 * n + 1 := by
  have : w * n ≤ 64 * n := Nat.mul_le_mul_right _ hw
  unfold psz
  omega
theorem wid_above {l : List Int} (h : InI l) : wid (aboveL l) ≤ 64 := wid_64 (aboveL_64 h)

set_option maxRecDepth 100000 in
set_option maxHeartbeats 1000000 in
theorem refOne_any (A : Option Addr) (n c B : Nat) (l : List Int) (w : World) (hl : l.length = n) (h0 : 0 < n) (hi : InI l) (hn : n ≤ c) (hc : c ≤ maxLen) (hb : n ≤ 1048576) (hB : B ≤ w.heap.size) (hr : Rd w B A (iz .i64 l)) :
    Calls Try.prog 71 #[.slice A n c] w (GivesB w (oneB l)) := by
  obtain ⟨i0, hi0, hz, hsz, hby⟩ := info_parts Try.infoKU64
  obtain ⟨j0, hj0, jz, jsz, jby⟩ := info_parts Try.info5
  unfold maxLen at hc
  obtain ⟨ad, rfl, _, hcell0⟩ := hr.intAt (j := 0) (by omega)
  rw [show ad.add 0 = ad by simp [Addr.add]] at hcell0
  have HR := hide hr
  have HL := hide hl
  have HI := hide hi
  obtain ⟨x0, hx0⟩ : ∃ x, x = l.getD 0 0 := ⟨_, rfl⟩
  have HX0 : Hid (x0 = minL (l.take (max 0 1))) := hide (by
    rw [hx0]
    cases l with
    | nil => simp at hl; omega
    | cons y r => rfl)
  rw [← hx0] at hcell0
  obtain ⟨le, hle⟩ : ∃ m, m = minL l := ⟨_, rfl⟩
  have HLe := hide hle
  have hle1 : -9223372036854775808 ≤ le ∧ le ≤ 9223372036854775807 := by rw [hle]; exact minL_in hi
  clear hr hl hx0 hi hle
  go_enter Try.func71, Try.ntmps71
  go_wp2
  go_loop [3, 4] (fun m i => ∃ (k : Nat) (y : Int), k ≤ n ∧ i = .int .i64 k ∧ m = .int .i64 y ∧ Hid (y = minL (l.take (max k 1)))) (fun _ i => n - (intOf i).toNat)
  case atStart => exact ⟨0, x0, by omega, rfl, rfl, HX0⟩
  case round =>
    obtain ⟨k, y, hk, rfl, rfl, HY⟩ := hrel
    by_cases hlt : k < n
    · have h1 : k < l.length := by rw [HL.out]; exact hlt
      obtain ⟨ad2, e2, _, hcell⟩ := HR.out.intAt h1
      injection e2 with e2
      subst e2
      have HS := hide (min_step h1)
      rw [← HY.out] at HS
      generalize l.getD k 0 = x at hcell HS
      clear h1
      by_cases hyx : y ≤ x
      · have HE : Hid (y = minL (l.take (max (k + 1) 1))) := hide (by rw [HS.out]; omega)
        go_wp2
        go_round
        case rel => exact ⟨k + 1, y, by omega, by go_num, rfl, HE⟩
        case measure => simp [intOf]; omega
      · have HE : Hid (x = minL (l.take (max (k + 1) 1))) := hide (by rw [HS.out]; omega)
        have hyx2 : x < y := by omega
        clear hyx
        go_wp2
        go_round
        case rel => exact ⟨k + 1, x, by omega, by go_num, rfl, HE⟩
        case measure => simp [intOf]; omega
    · obtain rfl : k = n := by omega
      obtain rfl : y = le := by rw [HY.out, HLe.out, show max k 1 = k by omega, ← HL.out, List.take_length]
      clear hlt hcell0
      go_wp2
      go_loopw [5, 6] (fun v i wr => ∃ j : Nat, j ≤ k ∧ i = .int .i64 j ∧ Hid (Own wr w.heap.size 72 1 v j (nz ((aboveL l).take j))) ∧ Hid (Fr No w wr)) (fun _ i _ => k - (intOf i).toNat)
      case atStart => exact ⟨0, by omega, rfl, hide (Own.nil _ _ _ _), hide (Fr.refl _ _)⟩
      case round =>
        obtain ⟨j, hj, rfl, HOw, HFr⟩ := hrel
        have hgw := HFr.out.size
        by_cases hlt : j < k
        · have h1 : j < l.length := by rw [HL.out]; exact hlt
          obtain ⟨ad2, e2, _, hcell⟩ := (HR.out.fr0 HFr.out).intAt h1
          injection e2 with e2
          subst e2
          have hx := HI.out.at h1
          have hmx := minL_at h1
          rw [← HLe.out] at hmx
          have HS := hide (above_snoc h1)
          rw [← HLe.out] at HS
          generalize l.getD j 0 = x at hcell HS hx hmx
          have HV := above_val hx hle1 hmx
          obtain ⟨u, hu⟩ : ∃ u, u = (x - y).toNat := ⟨_, rfl⟩
          rw [← hu] at HV HS
          clear h1 hu
          have HSr := hide (Src.one (P := Try.prog) wr (e := 72) Try.underlying129 (.int .u64 (u : Nat)) rfl)
          have HOw' := hide (HOw.out.fr0 ((Fr.refl No wr).alloc (.cells #[.int .u64 (u : Nat)] 72)))
          have b1 : (j + 1) * 8 ≤ 140737488355328 := by omega
          have b2 : j + 1 ≤ maxLen := by unfold maxLen; omega
          have b3 : w.heap.size ≤ (wr.alloc (.cells #[.int .u64 (u : Nat)] 72)).heap.size := by simp; omega
          go_wp2_with (first | (at_builtin; refine wpList_append_gen _ rfl (.tmp 34) (.tmp 43) 129 129 rfl w.heap.size 72 i0 (.int .u64 0) 1 8 Try.underlying129 hi0 hz hsz hby rfl u5 j (nz ((aboveL l).take j)) rfl HOw'.out _ 1 [.int .u64 (u : Nat)] rfl HSr.out b1 b2 b3 ?_; intro v1 w1 hown hfr hat; have HF1 : Hid (Fr No w w1) := hide ((HFr.out.alloc _).own hfr (fun g hg => .inl (HOw.out.lt g hg).1)); have HOn : Hid (Own w1 w.heap.size 72 1 v1 (j + 1) (nz ((aboveL l).take (j + 1)))) := hide (by rw [← HS.out]; exact hown); clear hown hfr hat))
          go_roundw
          case rel => exact ⟨j + 1, by omega, by go_num, HOn, HF1⟩
          case measure => simp [intOf]; omega
        · obtain rfl : j = k := by omega
          clear hlt
          have hal : (aboveL l).length = j := by rw [aboveL_len, HL.out]
          have hal2 := hide hal
          have hab := HOw.out
          rw [List.take_of_length_le (by rw [hal]; exact Nat.le_refl _)] at hab
          obtain ⟨A2, c2, rfl, q1, q2, _⟩ := hab.form
          have HRa := hide hab.rd
          have H64 := hide (aboveL_64 HI.out)
          have HOA := hide hab
          obtain ⟨W, hW⟩ : ∃ W, W = wid (aboveL l) := ⟨_, rfl⟩
          have HWd := hide (refWidth_any A2 j c2 _ (aboveL l) wr hal H64.out q1 q2 HRa.out)
          rw [← hW] at HWd
          have hW64 : W ≤ 64 := by rw [hW]; exact wid_above HI.out
          have HTu := hide (fun w => turned_any y w hle1.1 hle1.2)
          have hzz := zz_lt hle1.1 hle1.2
          have HE1 : Hid (oneB l = enc (zz y) ++ [UInt8.ofNat W] ++ packed W (aboveL l)) := hide (by unfold oneB; rw [← HLe.out, ← hW])
          have HQ2 := hide q2
          have HWW := hide hW
          clear hW hab hal q2
          generalize zz y = Z at HTu hzz HE1
          have HUi := hide (fun w => refUint_any Z w hzz)
          have hel := enc_len Z
          have HEL := hide hel.2
          generalize enc Z = E at HUi HE1 hel HEL
          obtain ⟨en, hen⟩ : ∃ k, k = E.length := ⟨_, rfl⟩
          have HEn := hide hen
          rw [← hen] at hel
          clear hen
          have HBW := hide (ofNat_toNat (x := W) (by omega))
          have hpl : (packed W (aboveL l)).length ≤ 8388609 := by rw [packed_len, hal2.out]; have := psz_le (n := j) hW64; omega
          obtain ⟨pn, hpn⟩ : ∃ k, k = (packed W (aboveL l)).length := ⟨_, rfl⟩
          rw [← hpn] at hpl
          have HPn := hide hpn
          clear hpn
          go_wp2_with (first
            | (go_at_call 92; refine HWd.out.mono ?_; rintro en1 w1 ⟨rfl, rfl⟩)
            | (go_at_call 93; refine (HTu.out _).mono ?_; rintro en1 w1 ⟨rfl, rfl⟩)
            | (go_at_call 46; refine (HUi.out _).mono ?_; rintro en1 w1 ⟨v1, rfl, hown, hfr⟩; have HO1 := hide hown; have HF1 := hide hfr; rw [← HEn.out] at HO1; have hg1 := hfr.size; have HS1 := hide (Src.one (P := Try.prog) w1 (e := 5) Try.underlying25 (.int .u8 (W : Nat)) rfl); have HO1' := hide (HO1.out.fr0 ((Fr.refl No w1).alloc (.cells #[.int .u8 (W : Nat)] 5))); have b1 : (en + 1) * 1 ≤ 140737488355328 := (by omega); have b2 : en + 1 ≤ maxLen := (by unfold maxLen; omega); have b3 : wr.heap.size ≤ (w1.alloc (.cells #[.int .u8 (W : Nat)] 5)).heap.size := (by simp; omega); clear hown hfr)
            | (at_builtin; refine wpList_append_gen _ rfl (.tmp 50) (.tmp 53) 25 25 rfl wr.heap.size 5 j0 (.int .u8 0) 1 1 Try.underlying25 hj0 jz jsz jby rfl v1 en (by8 E) rfl HO1'.out _ 1 [.int .u8 (W : Nat)] rfl HS1.out b1 b2 b3 ?_; intro v2 w2 hown hfr hat; have HO2 := hide hown; have HF2 : Hid (Fr No wr w2) := hide ((HF1.out.alloc _).own hfr (fun g hg => .inl (HO1.out.lt g hg).1)); have hg2 := HF2.out.size; have HBi := hide (refBits_any A2 j c2 wr.heap.size W (aboveL l) w2 hal2.out H64.out q1 HQ2.out (by omega) hg2 (HRa.out.fr0 HF2.out)); rw [show bitsZ (aboveL l) W = packed W (aboveL l) by unfold bitsZ; rw [if_pos (by omega)]; rfl] at HBi; clear hown hfr hat)
            | (go_at_call 94; refine HBi.out.mono ?_; rintro en1 w3 ⟨v3, rfl, hown, hfr⟩; rw [← HPn.out] at hown; obtain ⟨A3, c3, rfl, _⟩ := hown.form; have HS3 := hide (Src.ofRd (P := Try.prog) (size := 1) w3 Try.underlying25 A3 pn c3 (by8 (packed W (aboveL l))) (by rw [by8_length, HPn.out]; omega) (by omega) hown.rd (by8_one _)); have HO3 := hide (HO2.out.fr0 hfr); have HF3 := hide (HF2.out.tr hfr); have hg3 := hfr.size; have c1 : (en + 1 + pn) * 1 ≤ 140737488355328 := (by omega); have c2' : en + 1 + pn ≤ maxLen := (by unfold maxLen; omega); have c3' : wr.heap.size ≤ w3.heap.size := (by omega); clear hown hfr)
            | (at_builtin; refine wpList_append_gen _ rfl (.tmp 55) (.tmp 58) 25 25 rfl wr.heap.size 5 j0 (.int .u8 0) 1 1 Try.underlying25 hj0 jz jsz jby rfl v2 (en + 1) _ rfl HO3.out _ pn (by8 (packed W (aboveL l))) rfl HS3.out c1 c2' c3' ?_; intro v4 w4 hown hfr hat; have HO4 := hide hown; have HF4 : Hid (Fr No wr w4) := hide (HF3.out.own hfr (fun g hg => .inl (HO3.out.lt g hg).1)); clear hown hfr hat))
          go_ret
          refine ⟨_, rfl, ?_, HFr.out.tr HF4.out⟩
          have h := HO4.out.lower hgw
          rw [HE1.out]
          have e8 : by8 [UInt8.ofNat W] = [.int .u8 (W : Nat)] := by simp only [by8, List.map_cons, List.map_nil, HBW.out]
          rw [by8_append, by8_append, e8]
          have el : (E ++ [UInt8.ofNat W] ++ packed W (aboveL l)).length = en + 1 + pn := by simp [HEn.out, HPn.out]; omega
          rw [el]
          exact h
end Go.Proofs.Ythlbfnoahdjdeaa
namespace Go.Proofs.Ythlbfnoahdjdeaa
set_option linter.unusedVariables false
set_option linter.unusedSimpArgs false
open Go.RowKit

theorem chunk_len (l : List Int) (j : Nat) : (chunkL l j).length = min 128 (l.length - 128 * j) := by simp [chunkL]
theorem chunk_in {l : List Int} (h : InI l) (j : Nat) : InI (chunkL l j) := (h.drop _).take _
theorem Rd.chunk {w : World} {B : Nat} {ad : Addr} {l : List Int} (h : Rd w B (some ad) (iz .i64 l)) (j : Nat) : Rd w B (some (ad.add (128 * j))) (iz .i64 (chunkL l j)) := by
  unfold chunkL
  rw [iz_take, iz_drop]
  exact (h.dr _).tk _
theorem oneB_le {l : List Int} (h : InI l) : (oneB l).length ≤ 8 * l.length + 12 := by
  have h1 := psz_le (w := wid (aboveL l)) (n := l.length) (wid_above h)
  have h2 := (enc_len (zz (minL l))).2
  rw [oneB_len]
  omega
theorem putUp_le {l : List Int} (h : InI l) : ∀ i, (putUp l i).length ≤ 1036 * i
  | 0 => by simp [putUp]
  | i + 1 => by
    have h1 := putUp_le h i
    have h2 := oneB_le (chunk_in h i)
    have h3 := chunk_len l i
    rw [putUp_succ, List.length_append]
    omega

set_option maxRecDepth 100000 in
set_option maxHeartbeats 1000000 in
theorem refPut_any (A : Option Addr) (n c B : Nat) (l : List Int) (w : World) (hl : l.length = n) (hi : InI l) (hn : n ≤ c) (hc : c ≤ maxLen) (hb : n ≤ 1048576) (hB : B ≤ w.heap.size) (hr : Rd w B A (iz .i64 l)) :
    Calls Try.prog 47 #[.slice A n c] w (GivesB w (putR l)) := by
  obtain ⟨j0, hj0, jz, jsz, jby⟩ := info_parts Try.info5
  have HC := hide hc
  unfold maxLen at hc
  have HR := hide hr
  have HL := hide hl
  have HI := hide hi
  clear hr hl hi
  obtain ⟨wo, hwo⟩ : ∃ wo : World, wo = w := ⟨_, rfl⟩
  go_enter Try.func47, Try.ntmps47
  go_wp2
  go_loopw [3, 4, 5, 6] (fun v i e x wr => ∃ (j i' m : Nat), Hid (i' = 128 * j) ∧ i' ≤ n + 127 ∧ i = .int .i64 i' ∧ Hid (m = (putUp l j).length) ∧ Hid (Own wr w.heap.size 5 1 v m (by8 (putUp l j))) ∧ Hid (Fr No w wr)) (fun _ i _ _ _ => n + 127 - (intOf i).toNat)
  case atStart => exact ⟨0, 0, 0, hide rfl, by omega, rfl, hide rfl, hide (Own.nil _ _ _ _), hide (Fr.refl _ _)⟩
  case round =>
    obtain ⟨j, i', m, HJ, hij, rfl, HM, HOw, HFr⟩ := hrel
    have hgw := HFr.out.size
    by_cases hlt : i' < n
    · have h1 : i' < l.length := by rw [HL.out]; exact hlt
      obtain ⟨ad, rfl, _, _⟩ := HR.out.intAt h1
      have hbd := putUp_le HI.out j
      rw [← HM.out] at hbd
      have hmb : m ≤ 1100000000 := by have := HJ.out; omega
      have HRc := hide ((HR.out.fr0 HFr.out).chunk j)
      rw [← HJ.out] at HRc
      have hk := chunk_len l j
      rw [← HJ.out, HL.out] at hk
      obtain ⟨k, hkk⟩ : ∃ k, k = (chunkL l j).length := ⟨_, rfl⟩
      rw [← hkk] at hk
      have HK := hide hkk
      have hol := oneB_le (chunk_in HI.out j)
      rw [← hkk] at hol
      obtain ⟨q, hq⟩ : ∃ q, q = (oneB (chunkL l j)).length := ⟨_, rfl⟩
      rw [← hq] at hol
      have HQ := hide hq
      have HS := hide (putUp_succ l j)
      have hcc : c - i' ≤ maxLen := by have := HC.out; omega
      have HOne := hide (refOne_any (some (ad.add i')) k (c - i') B (chunkL l j) wr HK.out.symm (by omega) (chunk_in HI.out j) (by omega) hcc (by omega) (by omega) HRc.out)
      have hci : (c = i') = False := by simp; omega
      clear h1 hkk hq hbd hcc
      by_cases hfull : n < i' + 128
      · have e1 : (n : Int) - (i' : Int) = (k : Int) := by omega
        have e2 : n - i' = k := by omega
        clear hk
        have b1 : (m + q) * 1 ≤ 140737488355328 := by omega
        have b2 : m + q ≤ maxLen := by unfold maxLen; omega
        go_wp2_with (first
          | (go_at_call 71; refine HOne.out.mono ?_; rintro en1 w1 ⟨v1, rfl, hown, hfr⟩; rw [← HQ.out] at hown; obtain ⟨A3, c3, rfl, _⟩ := hown.form; have HS3 := hide (Src.ofRd (P := Try.prog) (size := 1) w1 Try.underlying25 A3 q c3 (by8 (oneB (chunkL l j))) (by rw [by8_length, HQ.out]; omega) (by omega) hown.rd (by8_one _)); have HO1 := hide (HOw.out.fr0 hfr); have HF1 := hide (HFr.out.tr hfr); have hg1 := hfr.size; have b3 : w.heap.size ≤ w1.heap.size := (by omega); clear hown hfr)
          | (at_builtin; refine wpList_append_gen _ rfl (.tmp 26) (.tmp 27) 25 25 rfl w.heap.size 5 j0 (.int .u8 0) 1 1 Try.underlying25 hj0 jz jsz jby rfl u3 m _ rfl HO1.out _ q (by8 (oneB (chunkL l j))) rfl HS3.out b1 b2 b3 ?_; intro v4 w4 hown hfr hat; have HO4 := hide hown; have HF4 : Hid (Fr No w w4) := hide (HF1.out.own hfr (fun g hg => .inl (HO1.out.lt g hg).1)); clear hown hfr hat))
        go_roundw
        case rel => exact ⟨j + 1, i' + 128, m + q, hide (by rw [HJ.out]; omega), by omega, by go_num, hide (by rw [HS.out, List.length_append, ← HM.out, ← HQ.out]), hide (by rw [HS.out, by8_append]; exact HO4.out), HF4⟩
        case measure => simp [intOf]; omega
      · obtain rfl : k = 128 := by omega
        have hfl : i' + 128 ≤ n := by omega
        clear hk hfull
        have b1 : (m + q) * 1 ≤ 140737488355328 := by omega
        have b2 : m + q ≤ maxLen := by unfold maxLen; omega
        go_wp2_with (first
          | (go_at_call 71; refine HOne.out.mono ?_; rintro en1 w1 ⟨v1, rfl, hown, hfr⟩; rw [← HQ.out] at hown; obtain ⟨A3, c3, rfl, _⟩ := hown.form; have HS3 := hide (Src.ofRd (P := Try.prog) (size := 1) w1 Try.underlying25 A3 q c3 (by8 (oneB (chunkL l j))) (by rw [by8_length, HQ.out]; omega) (by omega) hown.rd (by8_one _)); have HO1 := hide (HOw.out.fr0 hfr); have HF1 := hide (HFr.out.tr hfr); have hg1 := hfr.size; have b3 : w.heap.size ≤ w1.heap.size := (by omega); clear hown hfr)
          | (at_builtin; refine wpList_append_gen _ rfl (.tmp 26) (.tmp 27) 25 25 rfl w.heap.size 5 j0 (.int .u8 0) 1 1 Try.underlying25 hj0 jz jsz jby rfl u3 m _ rfl HO1.out _ q (by8 (oneB (chunkL l j))) rfl HS3.out b1 b2 b3 ?_; intro v4 w4 hown hfr hat; have HO4 := hide hown; have HF4 : Hid (Fr No w w4) := hide (HF1.out.own hfr (fun g hg => .inl (HO1.out.lt g hg).1)); clear hown hfr hat))
        go_roundw
        case rel => exact ⟨j + 1, i' + 128, m + q, hide (by rw [HJ.out]; omega), by omega, by go_num, hide (by rw [HS.out, List.length_append, ← HM.out, ← HQ.out]), hide (by rw [HS.out, by8_append]; exact HO4.out), HF4⟩
        case measure => simp [intOf]; omega
    · have HN : Hid (putR l = putUp l j) := hide (by
        unfold putR
        rw [HL.out]
        have h1 := HJ.out
        by_cases e : chunks n = j
        · rw [e]
        · exfalso
          unfold chunks at e
          omega)
      go_wp2
      go_ret
      exact ⟨_, rfl, by rw [HN.out, ← HM.out]; exact HOw.out, HFr.out⟩
end Go.Proofs.Ythlbfnoahdjdeaa
namespace Go.Proofs.Ythlbfnoahdjdeaa
set_option linter.unusedVariables false
set_option linter.unusedSimpArgs false
open Go.RowKit

theorem wpListIn_append_gen {F : Fence} {n' : Nat} {P : Program} (w : World) {ops : Array Oper} {rest : List Oper} {o : Oper} {a : Act} {Q : Exit → Act → World → Prop} (hgd : o.guard = none) (s x : Operand) (t tx : TypeId)
    (ho : o.op = .call { callee := .builtin .append, args := #[s, x], argTypes := #[t, tx] })
    (base : Nat) (e : TypeId) (i : TypeInfo) (z : Value) (size bytes : Nat) (ht : P.underlying t = some (.slice e)) (hi : P.info? e = some i) (hz : i.zero = some z)
    (hsize : i.size = size) (hby : i.bytes = bytes) (hzs : z.cells.size = size)
    (v : Value) (n : Nat) (xs : List Value) (hs : a.eval s = v) (hown : Own w base e size v n xs)
    (y : Value) (m : Nat) (news : List Value) (hx : a.eval x = y) (hsrc : Src P size tx y m news w)
    (hbytes : (n + m) * bytes ≤ 140737488355328) (h63 : n + m ≤ maxLen) (hbase : base ≤ w.heap.size)
    (h : ∀ v' w', Own w' base e size v' (n + m) (xs ++ news) → Fr (fun k => v.ownBlock = some k) w w' → (v'.ownBlock = v.ownBlock ∨ v'.ownBlock = some w.heap.size) → wpListIn F n' P ops Q rest (a.put o.dst v') w') : wpListIn F n' P ops Q (o :: rest) a w := by
  refine wpListIn_plain hgd fun K hK' => ?_
  obtain ⟨v', w', hrun, h2, h3, h4⟩ := run_append_gen (P := P) w base t tx o.type e i z size bytes ht hi hz hsize hby hzs v n xs hown y m news hsrc hbytes h63 hbase
  unfold Oper.wpIn
  refine ⟨?_, ?_⟩
  · simp [Oper.about, ho, resolve, Target.leads, Sem.run_pure]
  · rw [Oper.semAt_plain F _ _ (by rw [ho]; intro c hc'; cases hc')]
    simp [execOp, ho, resolve, invoke, builtin, hs, hx, hrun, Result.andThen]
    exact hK' _ _ (h v' w' h2 h3 h4)

/-- a block of cells is left as it was. -/
theorem blk_kept {W W' : World} {row : Option Nat} {k : Nat} {o : Obj} (hk : W.heap[k]? = some o) (hc : o.isCells = true) (hg : W.grownBy W' row) (hr : ∀ r, row = some r → ∃ o : Obj, W.heap[r]? = some o ∧ o.isCells = false) : W'.heap[k]? = some o := by
  refine (Fr.of_grown hg).blk hk (fun e => ?_)
  obtain ⟨o', h1, h2⟩ := hr k e
  rw [hk] at h1
  injection h1 with h1
  subst h1
  rw [hc] at h2
  cases h2
theorem own_kept {W W' : World} {row : Option Nat} {base e size n : Nat} {v : Value} {xs : List Value} (h : Own W base e size v n xs) (hg : W.grownBy W' row) (hr : ∀ r, row = some r → ∃ o : Obj, W.heap[r]? = some o ∧ o.isCells = false) : Own W' base e size v n xs := by
  obtain ⟨hl, A, c, rfl, hc, hm, hA⟩ := h
  refine ⟨hl, A, c, rfl, hc, hm, ?_⟩
  rcases hA with hA | ⟨g, cur, rfl, hb, hh, r⟩
  · exact .inl hA
  · exact .inr ⟨g, cur, rfl, hb, blk_kept hh rfl hg hr, r⟩
/-- a write to blocks of cells alone leaves all that is no cells. -/
theorem keeps_of_fr {S : Nat → Prop} {W W' : World} (f : Fr S W W') (hS : ∀ k o, S k → W.heap[k]? = some o → o.isCells = true) : KeepsOthers W W' :=
  ⟨f.size, fun k o hk ho => (f.blk hk (fun h => by have := hS k o h hk; rw [ho] at this; cases this))⟩
theorem own_cells {W : World} {base e size n : Nat} {v : Value} {xs : List Value} (h : Own W base e size v n xs) : ∀ k o, v.ownBlock = some k → W.heap[k]? = some o → o.isCells = true := by
  intro k o hk ho
  obtain ⟨hl, A, c, rfl, hc, hm, hA⟩ := h
  rcases hA with ⟨rfl, _⟩ | ⟨g, cur, rfl, hb, hh, r⟩
  · cases hk
  · have e : g = k := Option.some.inj hk
    subst e
    rw [hh] at ho
    injection ho with ho
    subst ho
    rfl

/-- a region that draws, inside a round: as outside of it. -/
theorem wpAnyIn_round {F : Fence} {n : Nat} {P : Program} {md : Region.Mode} {ops : Array Oper} {Q : Exit → Act → World → Prop} (l : Nat) (hd : ∀ (i : Nat) (o : Oper), ops[i]? = some o → ∀ c, o.op ≠ .defer c) (hro : F.round = none) :
    ∀ (fuel : Nat) (listed : Array Bool) (a : Act) (w : World), wpAnyIn F n P md ops Q fuel listed a w → wpAnyIn (F.inRound l) n P md ops Q fuel listed a w := by
  intro fuel
  induction fuel with
  | zero => exact fun listed a w h => h
  | succ fuel ih =>
    intro listed a w h
    refine ⟨h.1, fun i hi => ?_⟩
    have h2 := wpOpIn_mono (fun a w => ih (listed.setIfInBounds i true) a w) (h.2 i hi)
    unfold wpOpIn at h2 ⊢
    cases ho : ops[i]? with
    | none => rw [ho] at h2; exact h2
    | some o =>
      rw [ho] at h2
      dsimp only at h2 ⊢
      split
      · rename_i hw
        rw [if_pos hw] at h2
        unfold Oper.wpIn at h2 ⊢
        rw [hro, Oper.semAt_none] at h2
        rw [Fence.inRound_round, Oper.semAt_some l _ _ (hd i o ho)]
        exact h2
      · rename_i hw
        rw [if_neg hw] at h2
        exact h2
theorem wpIn_region_round {n : Nat} {P : Program} {ops : Array Oper} {Q : Exit → Act → World → Prop} {id : Nat} {a : Act} {w : World} (l : Nat) (hm : P.follows .mixedOrders = true) (hd : ops.toList.all (fun o => match o.op with | .defer _ => false | _ => true) = true)
    (h : wpAnyIn Fence.wide n P .any ops Q ops.size (Array.replicate ops.size false) a w.drew) : (Code.region id ops true).wpIn (Fence.wide.inRound l) n P Q a w :=
  wpIn_region_any hm (wpAnyIn_round l (fun i o ho c e => by
    have := List.all_eq_true.1 hd o (by rw [Array.mem_toList_iff]; exact Array.mem_of_getElem? ho)
    rw [e] at this
    cases this) rfl _ _ _ _ h)
end Go.Proofs.Ythlbfnoahdjdeaa
namespace Go.Proofs.Ythlbfnoahdjdeaa
set_option linter.unusedVariables false
set_option linter.unusedSimpArgs false
open Go.RowKit Go.Shelf
attribute [local go_sem] Oper.semAt_some

/-- a region that reads: what it leaves. -/
def RgnD (A : Value → Value → Value → Value → Value → Value → Act) (W : World) : Exit → Act → World → Prop
  | .normal, a, w => (∃ v1 v2 v3 v4 v5 v6, a = A v1 v2 v3 v4 v5 v6) ∧ ∃ nq, w = W.drewN nq
  | _, _, _ => False
theorem box_h (w : World) (v : Value) (t : TypeId) : (w.alloc (.cells #[v] t)).heap[w.heap.size]? = some (.cells #[v] t (0, 0)) := heap_alloc_new w _

set_option maxRecDepth 100000 in
theorem chunkF_any (A : Option Addr) (n c : Nat) (w : World) : Calls Try.prog 87 #[.slice A n c, .int .i64 128] w fun e w' =>
    e = .returned (.func (.func 103) #[] #[.pointer (some ⟨w.heap.size, 0, none⟩), .pointer (some ⟨w.heap.size + 1, 0, none⟩)]) ∧ w' = (w.alloc (.cells #[.slice A n c] 79)).alloc (.cells #[.int .i64 128] 3) := by
  have h1 : ((w.alloc (.cells #[.slice A n c] 79)).alloc (.cells #[.int .i64 128] 3)).cell? ⟨w.heap.size + 1, 0, none⟩ = some (.int .i64 128) := box2 w (.slice A n c) (.int .i64 128) _ _
  go_enter Try.func87, Try.ntmps87
  go_wp2
  go_ret
  exact ⟨by simp, by simp⟩

/-- the chunks, by number. -/
def allC (n : Nat) : List Nat := List.range (chunks n)
def chV (A : Option Addr) (n j : Nat) : Value := .slice (A.map fun ad => ad.add (128 * j)) (min 128 (n - 128 * j)) (min 128 (n - 128 * j))
def ChunkPost (n : Nat) (J Jx : List Nat → World → Prop) (e : Ending) (W' : World) : Prop := (∃ v, e = .returned v) ∧ (J (allC n) W' ∨ (∃ pre, pre <+: allC n ∧ Jx pre W'))
theorem range_prefix {j k : Nat} (h : j ≤ k) : List.range j <+: List.range k := by
  obtain ⟨d, rfl⟩ : ∃ d, k = j + d := ⟨k - j, by omega⟩
  rw [List.range_add]
  exact List.prefix_append _ _

set_option maxRecDepth 100000 in
set_option maxHeartbeats 1000000 in
theorem chunk1_in (fr : Nat) (hn : 1 ≤ fr) (l B1 B2 : Nat) (Kp : World → World → Prop) (hKr : ∀ W, Kp W W) (hKt : ∀ {X Y Z : World}, Kp X Y → Kp Y Z → Kp X Z) (A : Option Addr) (n c : Nat) (hA : 0 < n → ∃ ad, A = some ad) (hnc : n ≤ c) (hc : c ≤ maxLen) (hnb : n ≤ 1048576) (J Jx : List Nat → World → Prop)
    (hY : ∀ pre j W, J pre W → pre.length < chunks n → j < chunks n → YieldAt Fence.wide (fr - 1) Try.prog l #[chV A n j] W fun e W' =>
      (e = .returned (.bool true) ∧ J (pre ++ [j]) W' ∧ Kp W W') ∨ (e = .returned (.bool false) ∧ Jx (pre ++ [j]) W'))
    (W : World) (hBn : ∀ W', Kp W W' → W'.cell? ⟨B1, 0, none⟩ = some (.slice A n c) ∧ W'.cell? ⟨B2, 0, none⟩ = some (.int .i64 128)) (h0 : J [] W) (hKd : ∀ (W : World) (nq : Nat), Kp W (W.drewN nq)) (hJd : ∀ pre (W : World) (nq : Nat), J pre W → J pre (W.drewN nq)) :
    CallsIn Fence.wide fr Try.prog 103 #[.func (.yield l) #[] #[], .pointer (some ⟨B1, 0, none⟩), .pointer (some ⟨B2, 0, none⟩)] W (ChunkPost n J Jx) := by
  obtain ⟨hc1, hc2⟩ := hBn W (hKr _)
  unfold maxLen at hc
  have HB := hide hBn
  have HY := hide hY
  have HJ := hide h0
  have HA := hide hA
  have HKd := hide hKd
  have HJd := hide hJd
  have hcn : ∀ j, 128 * j < n ↔ j < chunks n := fun j => by unfold chunks; omega
  have HCn := hide hcn
  clear hBn hY h0 hA hKd hJd hcn
  refine callsIn_of_wp Try.func103 rfl trivial ?_ rfl
  simp only [Try.ntmps103, List.size_toArray, List.length_cons, List.length_nil, Nat.reduceAdd, Nat.reduceSub, Array.replicate_succ, Array.replicate_zero, List.push_toArray, List.append_toArray, List.nil_append, List.cons_append]
  gi_wp2
  gi_loopw [4, 5] (fun i e wr => ∃ (j i' : Nat), i = .int .i64 (i' : Nat) ∧ i' = 128 * j ∧ j ≤ chunks n ∧ Hid (J (List.range j) wr) ∧ Hid (Kp W wr)) (fun i _ _ => n + 128 - (intOf i).toNat)
  case atStart => exact ⟨0, 0, rfl, rfl, Nat.zero_le _, HJ, hide (hKr _)⟩
  case round =>
    obtain ⟨j, i', rfl, hij, hjc, HJ1, HKw⟩ := hrel
    have HIJ := hide hij
    obtain ⟨c1, c2⟩ := HB.out wr HKw.out
    by_cases hlt : i' < n
    · obtain ⟨ad, rfl⟩ := HA.out (by omega)
      have hjl : j < chunks n := (HCn.out j).1 (by omega)
      obtain ⟨k, hk⟩ : ∃ k, k = min 128 (n - i') := ⟨_, rfl⟩
      have hk1 : 1 ≤ k ∧ k ≤ 128 ∧ i' + k ≤ n := by omega
      clear hij
      gi_wp2
      refine wpIn_wide.2 (Code.wp_mono (Q := RgnD (fun v1 v2 v3 v4 v5 v6 => { tmps := #[.func (.yield l) #[] #[], .pointer (some ⟨B1, 0, none⟩), .pointer (some ⟨B2, 0, none⟩), undef, .int .i64 (i' : Nat), .int .i64 (k : Nat), .int .i64 (i' : Nat), .slice (some ad) n c, .int .i64 (n : Nat), .bool true, u10, u11, u12, v1, v2, v3, v4, v5, v6, u19, u20, u21, u22, u23, u24, u25, u26, u27, u28, u29, u30], defers := [] }) wr) ?_ ?_)
      rotate_left
      · have HKK := hide hk
        by_cases h128 : 128 ≤ n - i'
        · obtain rfl : k = 128 := by omega
          clear hk
          go_quiet (fail)
          exact ⟨⟨_, _, _, _, _, _, rfl⟩, _, rfl⟩
        · obtain rfl : k = n - i' := by omega
          have h3 : ((n - i' : Nat) : Int) < 128 := by omega
          clear hk
          go_quiet (fail)
          exact ⟨⟨_, _, _, _, _, _, rfl⟩, _, rfl⟩
      rintro (_ | _) a' w' hRQ <;> try exact hRQ.elim
      obtain ⟨⟨v1, v2, v3, v4, v5, v6, rfl⟩, nq, rfl⟩ := hRQ
      show Exit.then _ _ _ _ _
      dsimp only
      have hJ2 := HJd.out _ _ nq HJ1.out
      have hK2 := hKt HKw.out (HKd.out wr nq)
      obtain ⟨fn, tmps, assign, body, hy, hR⟩ := HY.out (List.range j) j (wr.drewN nq) hJ2 (by rw [List.length_range]; exact hjl) hjl
      have hv : chV (some ad) n j = .slice (some (ad.add i')) k k := by
        unfold chV
        rw [← HIJ.out, hk]
        rfl
      rw [hv] at hy
      have HKK := hide hk
      have HR2 := hide hR
      obtain ⟨c1', c2'⟩ := HB.out (wr.drewN nq) hK2
      have HK2 := hide hK2
      obtain ⟨z, hz⟩ : ∃ z, z = i' + k := ⟨_, rfl⟩
      have hz2 : (i' : Int) + (k : Int) = (z : Int) := by omega
      have hz3 : z - i' = k := by omega
      have hz4 : i' ≤ z ∧ z ≤ n := by omega
      have HZ := hide hz
      have hJR : ∀ k', List.range k' ++ [k'] = List.range (k' + 1) := fun k' => List.range_succ.symm
      clear hk hv hR hJ2 hK2 c1 c2 hz
      gi_wp2
      refine HR2.out.mono ?_
      rintro e W3 (⟨rfl, hJ3, hk3⟩ | ⟨rfl, hJx3⟩)
      · have HK3 := hide (hKt HK2.out hk3)
        have HJ3 : Hid (J (List.range (j + 1)) W3) := hide (by rw [← hJR]; exact hJ3)
        obtain ⟨c31, c32⟩ := HB.out W3 HK3.out
        clear hy hJ3 hk3 hJR
        gi_wp2
        go_roundw
        case rel => exact ⟨j + 1, i' + 128, by go_num, by rw [HIJ.out]; omega, by omega, HJ3, HK3⟩
        case measure => simp [intOf]; omega
      · have HX := hide hJx3
        have HP : Hid (List.range j ++ [j] <+: allC n) := hide (by rw [hJR]; exact range_prefix (by omega))
        clear hy hJx3 hJR
        gi_wp2
        refine bodyPost_ret (results_none rfl _ _ _) rfl ?_
        exact ⟨⟨_, rfl⟩, .inr ⟨_, HP.out, HX.out⟩⟩
    · have HE : Hid (List.range j = allC n) := hide (by
        unfold allC
        have : ¬ j < chunks n := fun h => hlt (by rw [hij]; exact (HCn.out j).2 h)
        congr 1
        omega)
      clear hij
      gi_wp2
      go_end0
      exact ⟨⟨_, rfl⟩, .inl (by rw [← HE.out]; exact HJ1.out)⟩
end Go.Proofs.Ythlbfnoahdjdeaa
namespace Go.Proofs.Ythlbfnoahdjdeaa
set_option linter.unusedVariables false
set_option linter.unusedSimpArgs false
open Go.RowKit

set_option maxHeartbeats 400000 in
theorem formI_any (n : Int) (w : World) (h1 : -9223372036854775808 ≤ n) (h2 : n ≤ 9223372036854775807) : Calls Try.prog 106 #[.int .i64 n] w (Ret (.int .u64 (zz n)) w) := by
  have HZ := hide (zz_bits h1 h2)
  go_enter Try.func106, Try.ntmps106
  go_wp2
  go_ret
  exact ⟨by rw [← HZ.out]; rfl, rfl⟩

set_option maxRecDepth 100000 in
set_option maxHeartbeats 1000000 in
theorem putI_loop (A : Option Addr) (n c B : Nat) (bs : List UInt8) (u : Nat) (x : Int) (w : World) (hl : bs.length = n) (hn : n ≤ c) (hc : c ≤ maxLen) (hb : n ≤ 140737488350000) (hB : B ≤ w.heap.size) (hr : Rd w B A (by8 bs)) (hu : u < 18446744073709551616)
    (hform : ∀ W, Calls Try.prog 106 #[.int .i64 x] W (Ret (.int .u64 u) W)) :
    Calls Try.prog 105 #[.slice A n c, .int .i64 x, .func (.func 106) #[] #[]] w (GivesB w (bs ++ enc u)) := by
  have H := hide (clone_any A n c B bs w hl hn hc (by omega) hB hr)
  have HFo := hide hform
  have HL := hide hl
  clear hr hl hform
  obtain ⟨i0, hi, hz, hsz, hby⟩ := info_parts Try.info5
  go_enter Try.func105, Try.ntmps105
  go_wp2_with (first | (go_at_call 72; refine H.out.mono ?_; rintro en w1 ⟨v1, rfl, hown, hfr⟩; have HO := hide hown; have HF := hide hfr; clear hown hfr) | (go_at_call 106; refine (HFo.out _).mono ?_; rintro en w2 ⟨rfl, rfl⟩))
  clear H HFo
  go_loopw [7, 8] (fun v y wr => ∃ (f k : Nat) (done : List UInt8), y = .int .u64 (k : Nat) ∧ Hid (Own wr w.heap.size 5 1 v done.length (by8 done)) ∧ Hid (done ++ encF f k = bs ++ enc u) ∧ Hid (Fr No w wr) ∧ Hid (f ≤ 9 ∧ done.length ≤ n + 9 - f ∧ k * 2 ^ (7 * (9 - f)) < 18446744073709551616)) (fun _ y _ => (intOf y).toNat)
  case atStart => exact ⟨9, u, bs, rfl, HO, hide rfl, HF, hide ⟨Nat.le_refl _, by rw [HL.out]; omega, by simpa using hu⟩⟩
  case round =>
    obtain ⟨f, k, done, rfl, HOw, HE, HFr, HB⟩ := hrel
    clear HO HF HL
    obtain ⟨hf9, hdl, hk⟩ := HB.out
    have hgw := HFr.out.size
    by_cases hbig : 127 < k
    · obtain ⟨f', rfl⟩ : ∃ f', f = f' + 1 := by
        cases f with
        | zero => exfalso; have e : (2 : Nat) ^ (7 * (9 - 0)) = 9223372036854775808 := by decide
                  rw [e] at hk; omega
        | succ f' => exact ⟨f', rfl⟩
      have HK := hide hk; clear hk
      have ho := or_128 k
      have HD := hide (show encF (f' + 1) k = UInt8.ofNat (k % 128 + 128) :: encF f' (k / 128) by rw [encF, if_pos hbig])
      generalize UInt8.ofNat (k % 128 + 128) = b at ho HD
      have HS := hide (Src.one (P := Try.prog) wr (e := 5) Try.underlying25 (.int .u8 b.toNat) rfl)
      have HOw' := hide (HOw.out.fr0 ((Fr.refl No wr).alloc (.cells #[.int .u8 b.toNat] 5)))
      have b1 : (done.length + 1) * 1 ≤ 140737488355328 := by omega
      have b2 : done.length + 1 ≤ maxLen := by unfold maxLen; omega
      have b3 : w.heap.size ≤ (wr.alloc (.cells #[.int .u8 b.toNat] 5)).heap.size := by simp; omega
      have HR := hide (show Own wr w.heap.size 5 1 u7 done.length (by8 done) → ∀ k, u7.ownBlock = some k → w.heap.size ≤ k from fun h k hk => (h.lt k hk).1)
      go_wp2_with (at_builtin; refine wpList_append_gen _ rfl (.tmp 18) (.tmp 22) 25 25 rfl w.heap.size 5 i0 (.int .u8 0) 1 1 Try.underlying25 hi hz hsz hby rfl u7 done.length (by8 done) rfl HOw'.out _ 1 [.int .u8 b.toNat] rfl HS.out b1 b2 b3 ?_; intro v' w' hown hfr hat; have HOn := hide hown; have HFn := hide hfr; clear hown hfr hat)
      go_roundw
      case rel =>
        refine ⟨f', k / 128, done ++ [b], by go_num, hide (by simpa [by8] using HOn.out), hide ?_, hide ((HFr.out.alloc _).own HFn.out (fun g hg => .inl (HOw.out.lt g hg).1)), hide ⟨by omega, by simp; omega, ?_⟩⟩
        · rw [← HE.out, HD.out]; simp
        · have e : 7 * (9 - f') = 7 * ((9 - (f' + 1)) + 1) := by omega
          rw [e, pow7, ← Nat.mul_assoc]
          exact Nat.lt_of_le_of_lt (Nat.mul_le_mul_right _ (by omega)) HK.out
      case measure => simp [intOf]; omega
    · obtain ⟨b, rfl⟩ : ∃ b : UInt8, k = b.toNat := ⟨UInt8.ofNat k, (ofNat_toNat (by omega)).symm⟩
      have HD := hide (show encF f b.toNat = [b] by cases f with
        | zero => simp [encF]
        | succ f => rw [encF, if_neg hbig]; simp)
      clear hk
      have HS := hide (Src.one (P := Try.prog) wr (e := 5) Try.underlying25 (.int .u8 b.toNat) rfl)
      have HOw' := hide (HOw.out.fr0 ((Fr.refl No wr).alloc (.cells #[.int .u8 b.toNat] 5)))
      have b1 : (done.length + 1) * 1 ≤ 140737488355328 := by omega
      have b2 : done.length + 1 ≤ maxLen := by unfold maxLen; omega
      have b3 : w.heap.size ≤ (wr.alloc (.cells #[.int .u8 b.toNat] 5)).heap.size := by simp; omega
      go_wp2_with (first | (at_builtin; refine wpList_append_gen _ rfl (.tmp 24) (.tmp 27) 25 25 rfl w.heap.size 5 i0 (.int .u8 0) 1 1 Try.underlying25 hi hz hsz hby rfl u7 done.length (by8 done) rfl HOw'.out _ 1 [.int .u8 b.toNat] rfl HS.out b1 b2 b3 ?_; intro v' w' hown hfr hat; obtain ⟨A1, c1, rfl, hc1, hc2, _⟩ := hown.form; have HOn := hide hown; have HFn := hide hfr; clear hown hfr hat) | (go_at_call 44; refine (clip_any _ _ _ _ hc1 hc2).mono ?_; rintro en w2 ⟨rfl, rfl⟩))
      go_ret
      refine ⟨_, rfl, ?_, (HFr.out.alloc _).own HFn.out (fun g hg => .inl (HOw.out.lt g hg).1)⟩
      rw [← HE.out, HD.out, by8_append, List.length_append]
      exact HOn.out.clip

theorem putI_any (A : Option Addr) (n c B : Nat) (bs : List UInt8) (x : Int) (w : World) (hl : bs.length = n) (hn : n ≤ c) (hc : c ≤ maxLen) (hb : n ≤ 140737488350000) (hB : B ≤ w.heap.size) (hr : Rd w B A (by8 bs)) (h1 : -9223372036854775808 ≤ x) (h2 : x ≤ 9223372036854775807) :
    Calls Try.prog 90 #[.slice A n c, .int .i64 x] w (GivesB w (bs ++ enc (zz x))) := by
  have H := hide (putI_loop A n c B bs (zz x) x w hl hn hc hb hB hr (zz_lt h1 h2) (fun W => formI_any _ W h1 h2))
  clear hr hl
  go_enter Try.func90, Try.ntmps90
  go_wp2_with (go_at_call 105; refine H.out.mono ?_; rintro en w1 ⟨v1, rfl, hown, hfr⟩; have HO := hide hown; have HF := hide hfr; clear hown hfr)
  go_ret
  exact ⟨_, rfl, HO.out, HF.out⟩

end Go.Proofs.Ythlbfnoahdjdeaa
