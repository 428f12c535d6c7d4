/- The document's form of a block. -/
import Derived.Test.YtpnhnnhocekchaaBase
import Derived.Test.YtpnhnnhocekchaaRefU03
import Derived.Test.YtpnhnnhocekchaaMinW
import Derived.Test.YtpnhnnhocekchaaRefUint
namespace Go.Proofs.Ytpnhnnhocekchaa
set_option linter.unusedVariables false
set_option linter.unusedSimpArgs false
open Go.RowKit

set_option maxRecDepth 100000 in
set_option maxHeartbeats 400000 in
theorem turned_any (n : Int) (w : World) (h1 : -9223372036854775808 ≤ n) (h2 : n ≤ 9223372036854775807) :
    Calls Try.prog 91 #[.int .i64 n] w (Ret (.int .u64 (zz n)) w) := by
  by_cases h0 : 0 ≤ n
  · have HZ := hide (show (zz n : Int) = IntKind.u64.wrap (2 * IntKind.u64.wrap n) by
      unfold zz
      rw [if_pos h0, IntWalk.u64_in n (by omega), IntWalk.u64_in _ (by omega)]
      omega)
    go_enter Try.func91, Try.ntmps91
    go_wp2
    go_ret
    exact ⟨by rw [HZ.out]; first | rfl | (simp [IntKind.wrap_u64]; omega), rfl⟩
  · have HZ := hide (show (zz n : Int) = -2 * n - 1 by
      unfold zz
      rw [if_neg h0]
      omega)
    go_enter Try.func91, Try.ntmps91
    go_wp2
    go_ret
    exact ⟨by rw [HZ.out]; congr 2; simp [IntKind.wrap_u64]; omega, rfl⟩

end Go.Proofs.Ytpnhnnhocekchaa
namespace Go.Proofs.Ytpnhnnhocekchaa
set_option linter.unusedVariables false
set_option linter.unusedSimpArgs false
open Go.RowKit

theorem min_step {l : List Int} {k : Nat} (h : k < l.length) : minL (l.take (max (k + 1) 1)) = min (minL (l.take (max k 1))) (l.getD k 0) := by
  rcases Nat.eq_zero_or_pos k with rfl | hk
  · cases l with
    | nil => simp at h
    | cons y r => simp [minL]
  · rw [show max (k + 1) 1 = k + 1 by omega, show max k 1 = k by omega, min_take hk h]
theorem aboveL_at {l : List Int} {k : Nat} (h : k < l.length) : (aboveL l).getD k 0 = (l.getD k 0 - minL l).toNat := by
  unfold aboveL
  simp [List.getElem?_eq_getElem h]
theorem InI.at {l : List Int} (h : InI l) {k : Nat} (hk : k < l.length) : -9223372036854775808 ≤ l.getD k 0 ∧ l.getD k 0 ≤ 9223372036854775807 := by
  have : l.getD k 0 = l[k] := by simp [List.getElem?_eq_getElem hk]
  rw [this]
  exact h _ (List.getElem_mem hk)
theorem minL_at {l : List Int} {k : Nat} (hk : k < l.length) : minL l ≤ l.getD k 0 := by
  have : l.getD k 0 = l[k] := by simp [List.getElem?_eq_getElem hk]
  rw [this]
  exact minL_le _ (List.getElem_mem hk)
theorem above_snoc {l : List Int} {k : Nat} (h : k < l.length) : nz ((aboveL l).take k) ++ [.int .u64 (((l.getD k 0 - minL l).toNat : Nat) : Int)] = nz ((aboveL l).take (k + 1)) := by
  rw [take_snocN (by rw [aboveL_len]; exact h), nz_append, aboveL_at h]
  rfl
theorem psz_le {w n : Nat} (hw : w ≤ 64) : psz w n ≤ 8 * n + 1 := by
  have : w * n ≤ 64 * n := Nat.mul_le_mul_right _ hw
  unfold psz
  omega
theorem wid_above {l : List Int} (h : InI l) : wid (aboveL l) ≤ 64 := wid_64 (aboveL_64 h)

set_option maxRecDepth 100000 in
set_option maxHeartbeats 1000000 in
theorem refOne_any (A : Option Addr) (n c B : Nat) (l : List Int) (w : World) (hl : l.length = n) (h0 : 0 < n) (hi : InI l) (hn : n ≤ c) (hc : c ≤ maxLen) (hb : n ≤ 1048576) (hB : B ≤ w.heap.size) (hr : Rd w B A (iz .i64 l)) :
    Calls Try.prog 60 #[.slice A n c] w (GivesB w (oneB l)) := by
  obtain ⟨i0, hi0, hz, hsz, hby⟩ := info_parts Try.infoKU64
  obtain ⟨j0, hj0, jz, jsz, jby⟩ := info_parts Try.info5
  unfold maxLen at hc
  obtain ⟨ad, rfl, _, hcell0⟩ := hr.intAt (j := 0) (by omega)
  rw [show ad.add 0 = ad by simp [Addr.add]] at hcell0
  have HR := hide hr
  have HL := hide hl
  have HI := hide hi
  obtain ⟨x0, hx0⟩ : ∃ x, x = l.getD 0 0 := ⟨_, rfl⟩
  have HX0 : Hid (x0 = minL (l.take (max 0 1))) := hide (by
    rw [hx0]
    cases l with
    | nil => simp at hl; omega
    | cons y r => rfl)
  rw [← hx0] at hcell0
  obtain ⟨le, hle⟩ : ∃ m, m = minL l := ⟨_, rfl⟩
  have HLe := hide hle
  have hle1 : -9223372036854775808 ≤ le ∧ le ≤ 9223372036854775807 := by rw [hle]; exact minL_in hi
  clear hr hl hx0 hi hle
  go_enter Try.func60, Try.ntmps60
  go_wp2
  go_loop [3, 4] (fun m i => ∃ (k : Nat) (y : Int), k ≤ n ∧ i = .int .i64 k ∧ m = .int .i64 y ∧ Hid (y = minL (l.take (max k 1)))) (fun _ i => n - (intOf i).toNat)
  case atStart => exact ⟨0, x0, by omega, rfl, rfl, HX0⟩
  case round =>
    obtain ⟨k, y, hk, rfl, rfl, HY⟩ := hrel
    by_cases hlt : k < n
    · have h1 : k < l.length := by rw [HL.out]; exact hlt
      obtain ⟨ad2, e2, _, hcell⟩ := HR.out.intAt h1
      injection e2 with e2
      subst e2
      have HS := hide (min_step h1)
      rw [← HY.out] at HS
      generalize l.getD k 0 = x at hcell HS
      clear h1
      by_cases hyx : y ≤ x
      · have HE : Hid (y = minL (l.take (max (k + 1) 1))) := hide (by rw [HS.out]; omega)
        go_wp2
        go_round
        case rel => exact ⟨k + 1, y, by omega, by go_num, rfl, HE⟩
        case measure => simp [intOf]; omega
      · have HE : Hid (x = minL (l.take (max (k + 1) 1))) := hide (by rw [HS.out]; omega)
        have hyx2 : x < y := by omega
        clear hyx
        go_wp2
        go_round
        case rel => exact ⟨k + 1, x, by omega, by go_num, rfl, HE⟩
        case measure => simp [intOf]; omega
    · obtain rfl : k = n := by omega
      obtain rfl : y = le := by rw [HY.out, HLe.out, show max k 1 = k by omega, ← HL.out, List.take_length]
      clear hlt hcell0
      go_wp2
      go_loopw [5, 6] (fun v i wr => ∃ j : Nat, j ≤ k ∧ i = .int .i64 j ∧ Hid (Own wr w.heap.size 52 1 v j (nz ((aboveL l).take j))) ∧ Hid (Fr No w wr)) (fun _ i _ => k - (intOf i).toNat)
      case atStart => exact ⟨0, by omega, rfl, hide (Own.nil _ _ _ _), hide (Fr.refl _ _)⟩
      case round =>
        obtain ⟨j, hj, rfl, HOw, HFr⟩ := hrel
        have hgw := HFr.out.size
        by_cases hlt : j < k
        · have h1 : j < l.length := by rw [HL.out]; exact hlt
          obtain ⟨ad2, e2, _, hcell⟩ := (HR.out.fr0 HFr.out).intAt h1
          injection e2 with e2
          subst e2
          have hx := HI.out.at h1
          have hmx := minL_at h1
          rw [← HLe.out] at hmx
          have HS := hide (above_snoc h1)
          rw [← HLe.out] at HS
          generalize l.getD j 0 = x at hcell HS hx hmx
          have HV := above_val hx hle1 hmx
          obtain ⟨u, hu⟩ : ∃ u, u = (x - y).toNat := ⟨_, rfl⟩
          rw [← hu] at HV HS
          clear h1 hu
          have HSr := hide (Src.one (P := Try.prog) wr (e := 52) Try.underlying22 (.int .u64 (u : Nat)) rfl)
          have HOw' := hide (HOw.out.fr0 ((Fr.refl No wr).alloc (.cells #[.int .u64 (u : Nat)] 52)))
          have b1 : (j + 1) * 8 ≤ 140737488355328 := by omega
          have b2 : j + 1 ≤ maxLen := by unfold maxLen; omega
          have b3 : w.heap.size ≤ (wr.alloc (.cells #[.int .u64 (u : Nat)] 52)).heap.size := by simp; omega
          go_wp2_with (first | (at_builtin; refine wpList_append_gen _ rfl (.tmp 34) (.tmp 43) 22 22 rfl w.heap.size 52 i0 (.int .u64 0) 1 8 Try.underlying22 hi0 hz hsz hby rfl u5 j (nz ((aboveL l).take j)) rfl HOw'.out _ 1 [.int .u64 (u : Nat)] rfl HSr.out b1 b2 b3 ?_; intro v1 w1 hown hfr hat; have HF1 : Hid (Fr No w w1) := hide ((HFr.out.alloc _).own hfr (fun g hg => .inl (HOw.out.lt g hg).1)); have HOn : Hid (Own w1 w.heap.size 52 1 v1 (j + 1) (nz ((aboveL l).take (j + 1)))) := hide (by rw [← HS.out]; exact hown); clear hown hfr hat))
          go_roundw
          case rel => exact ⟨j + 1, by omega, by go_num, HOn, HF1⟩
          case measure => simp [intOf]; omega
        · obtain rfl : j = k := by omega
          clear hlt
          have hal : (aboveL l).length = j := by rw [aboveL_len, HL.out]
          have hal2 := hide hal
          have hab := HOw.out
          rw [List.take_of_length_le (by rw [hal]; exact Nat.le_refl _)] at hab
          obtain ⟨A2, c2, rfl, q1, q2, _⟩ := hab.form
          have HRa := hide hab.rd
          have H64 := hide (aboveL_64 HI.out)
          have HOA := hide hab
          obtain ⟨W, hW⟩ : ∃ W, W = wid (aboveL l) := ⟨_, rfl⟩
          have HWd := hide (refWidth_any A2 j c2 _ (aboveL l) wr hal H64.out q1 q2 HRa.out)
          rw [← hW] at HWd
          have hW64 : W ≤ 64 := by rw [hW]; exact wid_above HI.out
          have HTu := hide (fun w => turned_any y w hle1.1 hle1.2)
          have hzz := zz_lt hle1.1 hle1.2
          have HE1 : Hid (oneB l = enc (zz y) ++ [UInt8.ofNat W] ++ packed W (aboveL l)) := hide (by unfold oneB; rw [← HLe.out, ← hW])
          have HQ2 := hide q2
          have HWW := hide hW
          clear hW hab hal q2
          generalize zz y = Z at HTu hzz HE1
          have HUi := hide (fun w => refUint_any Z w hzz)
          have hel := enc_len Z
          have HEL := hide hel.2
          generalize enc Z = E at HUi HE1 hel HEL
          obtain ⟨en, hen⟩ : ∃ k, k = E.length := ⟨_, rfl⟩
          have HEn := hide hen
          rw [← hen] at hel
          clear hen
          have HBW := hide (ofNat_toNat (x := W) (by omega))
          have hpl : (packed W (aboveL l)).length ≤ 8388609 := by rw [packed_len, hal2.out]; have := psz_le (n := j) hW64; omega
          obtain ⟨pn, hpn⟩ : ∃ k, k = (packed W (aboveL l)).length := ⟨_, rfl⟩
          rw [← hpn] at hpl
          have HPn := hide hpn
          clear hpn
          go_wp2_with (first
            | (go_at_call 22; refine HWd.out.mono ?_; rintro en1 w1 ⟨rfl, rfl⟩)
            | (go_at_call 91; refine (HTu.out _).mono ?_; rintro en1 w1 ⟨rfl, rfl⟩)
            | (go_at_call 73; refine (HUi.out _).mono ?_; rintro en1 w1 ⟨v1, rfl, hown, hfr⟩; have HO1 := hide hown; have HF1 := hide hfr; rw [← HEn.out] at HO1; have hg1 := hfr.size; have HS1 := hide (Src.one (P := Try.prog) w1 (e := 5) Try.underlying23 (.int .u8 (W : Nat)) rfl); have HO1' := hide (HO1.out.fr0 ((Fr.refl No w1).alloc (.cells #[.int .u8 (W : Nat)] 5))); have b1 : (en + 1) * 1 ≤ 140737488355328 := (by omega); have b2 : en + 1 ≤ maxLen := (by unfold maxLen; omega); have b3 : wr.heap.size ≤ (w1.alloc (.cells #[.int .u8 (W : Nat)] 5)).heap.size := (by simp; omega); clear hown hfr)
            | (at_builtin; refine wpList_append_gen _ rfl (.tmp 50) (.tmp 53) 23 23 rfl wr.heap.size 5 j0 (.int .u8 0) 1 1 Try.underlying23 hj0 jz jsz jby rfl v1 en (by8 E) rfl HO1'.out _ 1 [.int .u8 (W : Nat)] rfl HS1.out b1 b2 b3 ?_; intro v2 w2 hown hfr hat; have HO2 := hide hown; have HF2 : Hid (Fr No wr w2) := hide ((HF1.out.alloc _).own hfr (fun g hg => .inl (HO1.out.lt g hg).1)); have hg2 := HF2.out.size; have HBi := hide (refBits_any A2 j c2 wr.heap.size W (aboveL l) w2 hal2.out H64.out q1 HQ2.out (by omega) hg2 (HRa.out.fr0 HF2.out)); rw [show bitsZ (aboveL l) W = packed W (aboveL l) by unfold bitsZ; rw [if_pos (by omega)]; rfl] at HBi; clear hown hfr hat)
            | (go_at_call 18; refine HBi.out.mono ?_; rintro en1 w3 ⟨v3, rfl, hown, hfr⟩; rw [← HPn.out] at hown; obtain ⟨A3, c3, rfl, _⟩ := hown.form; have HS3 := hide (Src.ofRd (P := Try.prog) (size := 1) w3 Try.underlying23 A3 pn c3 (by8 (packed W (aboveL l))) (by rw [by8_length, HPn.out]; omega) (by omega) hown.rd (by8_one _)); have HO3 := hide (HO2.out.fr0 hfr); have HF3 := hide (HF2.out.tr hfr); have hg3 := hfr.size; have c1 : (en + 1 + pn) * 1 ≤ 140737488355328 := (by omega); have c2' : en + 1 + pn ≤ maxLen := (by unfold maxLen; omega); have c3' : wr.heap.size ≤ w3.heap.size := (by omega); clear hown hfr)
            | (at_builtin; refine wpList_append_gen _ rfl (.tmp 55) (.tmp 58) 23 23 rfl wr.heap.size 5 j0 (.int .u8 0) 1 1 Try.underlying23 hj0 jz jsz jby rfl v2 (en + 1) _ rfl HO3.out _ pn (by8 (packed W (aboveL l))) rfl HS3.out c1 c2' c3' ?_; intro v4 w4 hown hfr hat; have HO4 := hide hown; have HF4 : Hid (Fr No wr w4) := hide (HF3.out.own hfr (fun g hg => .inl (HO3.out.lt g hg).1)); clear hown hfr hat))
          go_ret
          refine ⟨_, rfl, ?_, HFr.out.tr HF4.out⟩
          have h := HO4.out.lower hgw
          rw [HE1.out]
          have e8 : by8 [UInt8.ofNat W] = [.int .u8 (W : Nat)] := by simp only [by8, List.map_cons, List.map_nil, HBW.out]
          rw [by8_append, by8_append, e8]
          have el : (E ++ [UInt8.ofNat W] ++ packed W (aboveL l)).length = en + 1 + pn := by simp [HEn.out, HPn.out]; omega
          rw [el]
          exact h
end Go.Proofs.Ytpnhnnhocekchaa
