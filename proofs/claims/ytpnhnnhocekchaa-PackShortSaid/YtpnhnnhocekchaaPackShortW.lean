/- The walk of PackShort: it answers true; nothing that was there has changed. No condition. -/
import Derived.Test.YtpnhnnhocekchaaAwake03
import Derived.Laws.BitsLemmas
namespace Go.Proofs.Ytpnhnnhocekchaa
set_option linter.unusedVariables false
set_option linter.unusedSimpArgs false
open Go.RowKit

theorem and_i64 (x : Int) (m : Nat) (hm : m < 9223372036854775808) : 0 ≤ bits .and .i64 x (m : Int) ∧ bits .and .i64 x (m : Int) ≤ m := by
  have h : bits .and .i64 x (m : Int) = IntKind.i64.wrap (((BitVec.ofInt 64 x &&& BitVec.ofInt 64 (m : Int)).toNat : Nat) : Int) := rfl
  have h2 : (BitVec.ofInt 64 x &&& BitVec.ofInt 64 (m : Int)).toNat ≤ m := by
    rw [BitVec.toNat_and, BitVec.ofInt_natCast]
    refine Nat.le_trans Nat.and_le_right ?_
    rw [BitVec.toNat_ofNat]
    exact Nat.mod_le _ _
  rw [h, IntKind.wrap_i64]
  omega
/-! A block of one number over and over has no bits behind it. -/
theorem min_rep (n : Int) (k : Nat) : minL (List.replicate (k + 1) n) = n := minL_is (by simp [List.replicate_succ]) (fun x hx => by rw [List.eq_of_mem_replicate hx]; exact Int.le_refl _)
theorem above_rep (n : Int) (k : Nat) : aboveL (List.replicate (k + 1) n) = List.replicate (k + 1) 0 := by
  unfold aboveL
  rw [min_rep, List.map_replicate, Int.sub_self]
  rfl
theorem wid_rep (k : Nat) : wid (List.replicate k 0) = 0 := by
  have h : In64 (List.replicate k 0) := fun u hu => by rw [List.eq_of_mem_replicate hu]; omega
  have := (wid_le h 0).2 (fun u hu => by rw [List.eq_of_mem_replicate hu]; decide)
  omega
theorem one_rep (n : Int) (k : Nat) : oneB (List.replicate (k + 1) n) = enc (zz n) ++ [0] := by
  unfold oneB
  rw [min_rep, above_rep, wid_rep, packed_0, List.append_nil]
  rfl
theorem put_rep (n : Int) (k : Nat) (hk : k < 128) : putR (List.replicate (k + 1) n) = enc (zz n) ++ [0] := by
  unfold putR
  rw [List.length_replicate, show chunks (k + 1) = 0 + 1 by unfold chunks; omega, putUp_succ]
  have e : chunkL (List.replicate (k + 1) n) 0 = List.replicate (k + 1) n := by
    unfold chunkL
    rw [Nat.mul_zero, List.drop_zero, List.take_of_length_le (by rw [List.length_replicate]; omega)]
  rw [e, one_rep]
  rfl
theorem rep_set (n : Int) {K j : Nat} (h : j < K) : (iz .i64 (List.replicate j n ++ List.replicate (K - j) 0)).set j (.int .i64 n) = iz .i64 (List.replicate (j + 1) n ++ List.replicate (K - (j + 1)) 0) := by
  have e : List.replicate (K - j) (0 : Int) = 0 :: List.replicate (K - (j + 1)) 0 := by
    rw [show K - j = (K - (j + 1)) + 1 by omega, List.replicate_succ]
  have e2 : (List.replicate j n ++ List.replicate (K - j) (0 : Int)).set j n = List.replicate (j + 1) n ++ List.replicate (K - (j + 1)) 0 := by
    rw [e, List.set_append, if_neg (by rw [List.length_replicate]; omega), List.length_replicate, Nat.sub_self, List.set_cons_zero, List.replicate_succ']
    simp
  rw [← e2]
  simp [iz, List.map_set]
theorem rep_at (n : Int) {K j : Nat} (h : j < K) : (iz .i64 (List.replicate j n ++ List.replicate (K - j) 0))[j]? = some (.int .i64 0) := by
  unfold iz
  rw [List.getElem?_map, List.getElem?_append_right (by rw [List.length_replicate]; exact Nat.le_refl _), List.length_replicate, Nat.sub_self, List.getElem?_replicate, if_pos (by omega)]
  rfl
theorem make_i64 (k : Nat) (hk : k ≤ 1048576) (W : World) : (Instr.makeSlice 41 (.int .i64 (k : Nat)) (.int .i64 (k : Nat))).run Try.prog W = .ok (.slice (some ⟨W.heap.size, 0, none⟩) k k) (W.alloc (.cells (madeCells #[.int .i64 0] k) 2)) := by
  obtain ⟨i0, hi, hz, hsz, hby⟩ := info_parts Try.infoKI64
  have h := run_make (P := Try.prog) W 41 2 i0 (.int .i64 0) Try.underlying41 hi hz .i64 .i64 (k : Int) (k : Int) (by omega) (by omega) (by rw [hby]; omega) (by omega)
  rw [Int.toNat_natCast, hsz, Nat.mul_one] at h
  exact h

set_option maxRecDepth 100000 in
set_option maxHeartbeats 1000000 in
theorem packshort_any (A : Option Addr) (m c : Nat) (n ti : Int) (us : List Nat) (w : World) (hn : -9223372036854775808 ≤ n ∧ n ≤ 9223372036854775807) (hul : us.length = m) (h64 : In64 us) (hm : m ≤ c) (hc : c ≤ maxLen) (hr : Rd w w.heap.size A (nz us)) :
    Calls Try.prog 8 #[.slice A m c, .int .i64 n, .int .i64 ti] w (RetB true w) := by
  have HAw := hide awake03_any
  by_cases h1 : 1000 < m
  · have h1' : (1000 : Int) < (m : Int) := by omega
    clear hn hul h64 hm hc hr
    go_enter Try.func8, Try.ntmps8
    go_wp2_with (fail)
    refine (HAw.out _).mono ?_
    rintro en w1 ⟨rfl, hfr⟩
    have HF := hide hfr
    clear hfr
    go_wp2
    go_ret
    exact ⟨rfl, HF.out⟩
  have h1' : ¬ (1000 : Int) < (m : Int) := by omega
  have HMC := hide hm
  have HC := hide hc
  obtain ⟨wd, hwd⟩ : ∃ x, x = wid us := ⟨_, rfl⟩
  have hwd2 : wd ≤ 64 := by rw [hwd]; exact wid_64 h64
  have HWi := hide (fun (W : World) (f : Fr No w W) => width_any A m c _ us W hul h64 hm hc ((hr.fr0 f).more f.size))
  rw [← hwd] at HWi
  have HBi := hide (fun (W : World) (f : Fr No w W) => bits_any A m c _ (wd : Nat) us W hul h64 hm hc (by omega) (Nat.le_refl _) ((hr.fr0 f).more f.size))
  obtain ⟨P, hP⟩ : ∃ P, P = bitsZ us (wd : Int) := ⟨_, rfl⟩
  have hPl : P.length = psz wd m := by
    rw [hP]; unfold bitsZ; rw [if_pos (by omega), ← hul]; exact packed_len _ _
  rw [← hP] at HBi
  obtain ⟨wm, hwm⟩ : ∃ x, x = wd * m := ⟨_, rfl⟩
  have e1 : (wd : Int) * (m : Int) = (wm : Int) := by rw [hwm]; simp
  have hwm2 : wm ≤ 64000 := by rw [hwm]; have := Nat.mul_le_mul hwd2 (show m ≤ 1000 by omega); omega
  obtain ⟨sz, hsz⟩ : ∃ x, x = psz wd m := ⟨_, rfl⟩
  have e2 : ((wm : Int) + 7) / 8 = (sz : Int) := by rw [hsz]; unfold psz; omega
  rw [← hsz] at hPl
  have HPl := hide hPl
  obtain ⟨g1, g2⟩ := and_i64 ti 127 (by omega)
  obtain ⟨kk, hg⟩ := Int.eq_ofNat_of_zero_le g1
  have e3 : bits .and .i64 ti 127 = (kk : Int) := hg
  have hkk : kk ≤ 127 := by omega
  obtain ⟨K, hK⟩ : ∃ K, K = kk + 1 := ⟨_, rfl⟩
  have e4 : (kk : Int) + 1 = (K : Int) := by omega
  have hK2 : 1 ≤ K ∧ K ≤ 128 := by omega
  have hmk := make_i64 K (by omega)
  have HE := hide (put_rep n kk (by omega))
  have HE1 := hide (put_rep n 0 (by omega))
  rw [← hK] at HE
  obtain ⟨E, hEE⟩ : ∃ E, E = enc (zz n) ++ [(0 : UInt8)] := ⟨_, rfl⟩
  have hel : 2 ≤ E.length ∧ E.length ≤ 11 ∧ E.getD (E.length - 1) 0 = 0 := by
    have := enc_len (zz n)
    rw [hEE, List.length_append, List.length_singleton]
    refine ⟨by omega, by omega, ?_⟩
    rw [Nat.add_sub_cancel, List.getD_eq_getElem?_getD, List.getElem?_append_right (Nat.le_refl _)]
    simp
  rw [← hEE] at HE HE1
  obtain ⟨en0, hen⟩ : ∃ k, k = E.length := ⟨_, rfl⟩
  rw [← hen] at hel
  obtain ⟨q1, q2, q3⟩ := hel
  have HEn := hide hen
  have HQ3 := hide q3
  have hete : en0 - 1 < en0 := by omega
  have HIn := hide (show ∀ k, InI (List.replicate k n) from fun k x hx => by rw [List.eq_of_mem_replicate hx]; exact hn)
  clear hK hP hPl hwm hsz g1 g2 hg hEE hen q3 hwd hul h64 hc hr hm hn
  go_enter Try.func8, Try.ntmps8
  go_wp2_with (fail)
  refine (HAw.out _).mono ?_
  rintro en w1 ⟨rfl, hfr⟩
  have F1 : Hid (Fr No w w1) := hide hfr
  clear hfr
  go_wp2_with (fail)
  refine (HWi.out _ F1.out).mono ?_
  rintro en w2 ⟨rfl, rfl⟩
  go_wp2_with (fail)
  refine (HBi.out _ F1.out).mono ?_
  rintro en w3 ⟨v3, rfl, hown, hfr⟩
  rw [HPl.out] at hown
  obtain ⟨B3, d3, rfl, _⟩ := hown.form
  have F3 : Hid (Fr No w w3) := hide (F1.out.tr hfr)
  clear hfr hown
  have HO := hide (made_own w3 K 2 (.int .i64 0) _ rfl (by unfold maxLen; omega))
  rw [show List.replicate K (Value.int .i64 0) = iz .i64 (List.replicate 0 n ++ List.replicate (K - 0) 0) by simp [iz]] at HO
  generalize madeCells #[Value.int .i64 0] K = z at hmk HO
  have HF0 := hide ((Fr.refl No w3).alloc (.cells z 2))
  go_wp2_with (rw [e1])
  go_wp2
  go_loopw [10] (fun ix wr => ∃ j, j ≤ K ∧ ix = .int .i64 (j : Nat) ∧ Hid (Own wr w3.heap.size 2 1 (.slice (some ⟨w3.heap.size, 0, none⟩) K K) K (iz .i64 (List.replicate j n ++ List.replicate (K - j) 0))) ∧ Hid (Fr No w3 wr)) (fun ix _ => K - (intOf ix).toNat)
  case atStart => exact ⟨0, by omega, rfl, HO, HF0⟩
  case round =>
    obtain ⟨j, hj, rfl, HOw, HFr⟩ := hrel
    by_cases hlt : j < K
    · have hlt' : (j : Int) ≤ (kk : Int) := by omega
      obtain ⟨hco, hf1, hput⟩ := HOw.out.put (k := j) hlt
      rw [rep_at n hlt] at hco
      have HPut := hide hput
      clear hput
      go_wp2
      go_roundw
      case rel => exact ⟨j + 1, by omega, by go_num, hide (by rw [← rep_set n hlt]; exact HPut.out _), hide (Fr.putG _ _ _ _ _ HFr.out (Nat.le_refl _))⟩
      case measure => simp [intOf]; omega
    · obtain rfl : j = K := by omega
      have hlt' : ¬ (j : Int) ≤ (kk : Int) := by omega
      have hab := HOw.out
      rw [Nat.sub_self, List.replicate_zero, List.append_nil] at hab
      have F4 : Hid (Fr No w wr) := hide (F3.out.tr HFr.out)
      have HPu := hide (put_any (some ⟨w3.heap.size, 0, none⟩) j j wr.heap.size (List.replicate j n) wr (List.length_replicate) (HIn.out j) (Nat.le_refl _) (by unfold maxLen; omega) (by omega) (Nat.le_refl _) hab.rd)
      rw [HE.out] at HPu
      clear hab HOw HFr hlt
      go_wp2_with (fail)
      refine HPu.out.mono ?_
      rintro en w5 ⟨v5, rfl, hown, hfr⟩
      rw [← HEn.out] at hown
      obtain ⟨B5, d5, rfl, y1, y2, _⟩ := hown.form
      have O5 := hide hown
      have F5 : Hid (Fr No w w5) := hide (F4.out.tr hfr)
      have HP2 := hide (put_any (some ⟨w5.heap.size, 0, none⟩) 1 1 _ [n] (w5.alloc (.cells #[.int .i64 n] 2)) rfl (HIn.out 1) (Nat.le_refl _) (by unfold maxLen; omega) (by omega) (Nat.le_refl _) (Rd.litI rfl))
      rw [show putR [n] = E from HE1.out] at HP2
      clear hown hfr HPu
      go_wp2_with (fail)
      refine HP2.out.mono ?_
      rintro en w6 ⟨v6, rfl, hown, hfr⟩
      rw [← HEn.out] at hown
      obtain ⟨B6, d6, rfl, _⟩ := hown.form
      have F6 : Hid (Fr No w5 w6) := hide (((Fr.refl No w5).alloc _).tr hfr)
      obtain ⟨ad, rfl, _, hcb⟩ := ((O5.out.fr0 F6.out).rd).byte (k := en0 - 1) (by rw [← HEn.out]; exact hete)
      rw [HQ3.out] at hcb
      have F7 := hide (F5.out.tr F6.out)
      clear hown hfr HP2
      go_wp2
      go_ret
      exact ⟨by simp, F7.out⟩
end Go.Proofs.Ytpnhnnhocekchaa
