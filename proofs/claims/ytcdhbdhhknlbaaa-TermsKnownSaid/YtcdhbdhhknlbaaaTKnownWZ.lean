/- TermsKnown, walked. -/
import Derived.Test.YtcdhbdhhknlbaaaK9
import Derived.Test.YtcdhbdhhknlbaaaTKnownBZ
namespace Go.Proofs.Ytcdhbdhhknlbaaa
set_option linter.unusedVariables false
set_option linter.unusedSimpArgs false
open Go.RowKit

theorem Try.infoU8 : (Try.prog.info? 5).map (fun i => (i.zero, i.size, i.bytes)) = some (some (.int .u8 0), 1, 1) := by kernel_rfl
theorem make_u8 (n : Nat) (hn : n ≤ 1048576) (W : World) : (Instr.makeSlice 24 (.int .i64 (n : Nat)) (.int .i64 (n : Nat))).run Try.prog W = .ok (.slice (some ⟨W.heap.size, 0, none⟩) n n) (W.alloc (.cells (madeCells #[.int .u8 0] n) 5)) := by
  obtain ⟨i0, hi, hz, hsz, hby⟩ := info_parts Try.infoU8
  have h := run_make (P := Try.prog) W 24 5 i0 (.int .u8 0) Try.underlying24 hi hz .i64 .i64 (n : Int) (n : Int) (by omega) (by omega) (by rw [hby]; omega) (by omega)
  rw [h, hsz]
  simp [Value.cells]
/-- a text of n zero bytes, made and turned. -/
theorem zeros (n : Nat) (hn : n ≤ 1048576) : ∃ (Z : Array Value) (t : Tx), t = List.replicate n 0 ∧ (∀ W : World, (Instr.makeSlice 24 (.int .i64 (n : Nat)) (.int .i64 (n : Nat))).run Try.prog W = .ok (.slice (some ⟨W.heap.size, 0, none⟩) n n) (W.alloc (.cells Z 5))) ∧
    ∀ W : World, (convert 24 9 (.slice (some ⟨W.heap.size, 0, none⟩) n n)).run Try.prog (W.alloc (.cells Z 5)) = .ok (.string ⟨t.toArray⟩) (W.alloc (.cells Z 5)) := by
  refine ⟨madeCells #[.int .u8 0] n, List.replicate n 0, rfl, make_u8 n hn, fun W => ?_⟩
  have h := Rd.block (heap_alloc_new W (.cells (madeCells #[.int .u8 0] n) 5))
  rw [made_list] at h
  exact conv_rd _ _ n n (List.replicate n 0) (by simp) (by rw [show by8 (List.replicate n (0 : UInt8)) = List.replicate n (.int .u8 0) by simp [by8]]; exact h)
theorem t_ab : ∀ t ∈ ([[98], [97]] : List Tx), t.length ≤ maxLen := by unfold maxLen; decide
theorem t_aa : ∀ t ∈ ([[97], [97]] : List Tx), t.length ≤ maxLen := by unfold maxLen; decide
theorem t_a : ∀ t ∈ ([[97]] : List Tx), t.length ≤ maxLen := by unfold maxLen; decide
theorem u_11 : U64s [1, 1] := by intro v hv; simp at hv; rw [hv]; decide
theorem u_12 : U64s [1, 2] := by intro v hv; simp at hv; rcases hv with rfl | rfl <;> decide
theorem u_1 : U64s [1] := by intro v hv; rw [List.mem_singleton.1 hv]; decide
theorem build_litz (w : World) (Z cs ds : Array Value) (l : List Tx) (vs : List Nat) (n m : Nat) (hc : cs.toList = svs l) (hd : ds.toList = un vs) (hn : l.length = n) (hm : vs.length = m) (hn2 : n ≤ 1000) (hm2 : m ≤ 1000) (ht : ∀ t ∈ l, t.length ≤ maxLen) (hu : U64s vs) :
    Calls Try.prog 13 #[.slice (some ⟨w.heap.size + 1, 0, none⟩) n n, .slice (some ⟨w.heap.size + 1 + 1, 0, none⟩) m m] (((w.alloc (.cells Z 5)).alloc (.cells cs 9)).alloc (.cells ds 40)) (BuildP (((w.alloc (.cells Z 5)).alloc (.cells cs 9)).alloc (.cells ds 40)) l vs) := by
  have h := build_lit (w.alloc (.cells Z 5)) cs ds l vs n m hc hd hn hm hn2 hm2 ht hu
  rwa [show (w.alloc (.cells Z 5)).heap.size = w.heap.size + 1 by simp] at h

set_option maxRecDepth 100000 in
set_option maxHeartbeats 8000000 in
theorem tknown_any (w : World) : Calls Try.prog 7 #[] w (RetB true w) := by
  obtain ⟨Z7, t7, ht7, mk7, cv7⟩ := zeros 4097 (by omega)
  obtain ⟨Z6, t6, ht6, mk6, cv6⟩ := zeros 4096 (by omega)
  have e7 : ((4097 : Nat) : Int) = 4097 := rfl
  have e6 : ((4096 : Nat) : Int) = 4096 := rfl
  rw [e7] at mk7
  rw [e6] at mk6
  clear e7 e6
  have H7 := hide ht7
  have H6 := hide ht6
  have HF := hide (Fr.refl No w)
  clear ht7 ht6
  go_enter Try.func7, Try.ntmps7
  go_wp2_with (fail)
  refine (given_any w).mono ?_
  rintro en w1 ⟨G1, rfl, hD, hfr⟩
  have HD := hide hD
  clear hD
  have HF : Hid (Fr No w w1) := hide (HF.out.tr hfr)
  clear hfr
  have HFi := hide (pfind_any w.heap.size _ litL litV [99] w1 HD.out)
  rw [show findV litL [99] = .tuple #[.int .i64 0, .bool false] from rfl] at HFi
  go_wp2_with (fail)
  refine (HFi.out).mono ?_
  rintro en w2 ⟨rfl, hfr⟩
  have HF : Hid (Fr No w w2) := hide (HF.out.tr hfr)
  clear hfr
  clear HFi
  go_wp2_with (fail)
  refine (build_lit w2 #[.string ⟨#[98]⟩, .string ⟨#[97]⟩] #[.int .u64 1, .int .u64 1] [[98], [97]] [1, 1] 2 2 rfl rfl rfl rfl (by omega) (by omega) t_ab u_11).mono ?_
  rintro en w3 hbp
  obtain ⟨rfl, hfr⟩ := build_no hbp (fun h => absurd h.2.2.2.1 (by decide))
  clear hbp
  have HF : Hid (Fr No w w3) := hide (((HF.out.alloc _).alloc _).tr hfr)
  clear hfr
  go_wp2_with (fail)
  refine (build_lit w3 #[.string ⟨#[97]⟩, .string ⟨#[97]⟩] #[.int .u64 1, .int .u64 1] [[97], [97]] [1, 1] 2 2 rfl rfl rfl rfl (by omega) (by omega) t_aa u_11).mono ?_
  rintro en w4 hbp
  obtain ⟨rfl, hfr⟩ := build_no hbp (fun h => absurd h.2.2.2.1 (by decide))
  clear hbp
  have HF : Hid (Fr No w w4) := hide (((HF.out.alloc _).alloc _).tr hfr)
  clear hfr
  go_wp2_with (fail)
  refine (build_lit1 w4 #[.string ⟨#[97]⟩] [[97]] 1 rfl rfl (by omega) t_a).mono ?_
  rintro en w5 hbp
  obtain ⟨rfl, hfr⟩ := build_no hbp (fun h => absurd h.2.1 (by decide))
  clear hbp
  have HF : Hid (Fr No w w5) := hide ((HF.out.alloc _).tr hfr)
  clear hfr
  go_wp2_with (fail)
  refine (build_litz w5 Z7 #[.string ⟨t7.toArray⟩] #[.int .u64 1] [t7] [1] 1 1 rfl rfl rfl rfl (by omega) (by omega) (by intro t ht; rw [List.mem_singleton.1 ht, H7.out, List.length_replicate]; unfold maxLen; omega) u_1).mono ?_
  rintro en w6 hbp
  obtain ⟨rfl, hfr⟩ := build_no hbp (fun h => by have := h.2.2.1 t7 (List.mem_singleton.2 rfl); rw [H7.out, List.length_replicate] at this; omega)
  clear hbp
  have HF : Hid (Fr No w w6) := hide ((((HF.out.alloc _).alloc _).alloc _).tr hfr)
  clear hfr
  go_wp2_with (fail)
  refine (build_litz w6 Z6 #[.string ⟨#[]⟩, .string ⟨t6.toArray⟩] #[.int .u64 1, .int .u64 2] [[], t6] [1, 2] 2 2 rfl rfl rfl rfl (by omega) (by omega) (by intro t ht; simp only [List.mem_cons, List.not_mem_nil, or_false] at ht; rcases ht with rfl | rfl; exact Nat.zero_le _; rw [H6.out, List.length_replicate]; unfold maxLen; omega) u_12).mono ?_
  rintro en w7 hbp
  obtain ⟨A6, m6, _, rfl, _, hfr⟩ := build_yes hbp ⟨by simp, rfl, (by intro t ht; simp only [List.mem_cons, List.not_mem_nil, or_false] at ht; rcases ht with rfl | rfl; exact Nat.zero_le _; rw [H6.out, List.length_replicate]; exact Nat.le_refl _), (by rw [H6.out, List.replicate_succ]; exact List.nil_lt_cons _ _), trivial⟩
  clear hbp
  have HF : Hid (Fr No w w7) := hide ((((HF.out.alloc _).alloc _).alloc _).tr hfr)
  clear hfr
  go_wp2_with (fail)
  refine (build_nil w7).mono ?_
  rintro en w8 hbp
  obtain ⟨Ab, mb, hmb, rfl, hob, hfr⟩ := build_yes hbp ⟨by simp, rfl, (fun t ht => nomatch ht), trivial⟩
  rw [show dictB [] [] = [0] from rfl] at hmb hob
  obtain rfl : mb = 1 := hmb
  have HOb := hide hob
  have HFb := hide (Fr.refl No w8)
  clear hbp hob
  have HF : Hid (Fr No w w8) := hide (HF.out.tr hfr)
  clear hfr
  go_wp2_with (fail)
  refine (dfind_nil _ w8).mono ?_
  rintro en w9 ⟨rfl, hfr⟩
  have HF : Hid (Fr No w w9) := hide (HF.out.tr hfr)
  have HFb : Hid (Fr No w8 w9) := hide (HFb.out.tr hfr)
  clear hfr
  go_wp2_with (fail)
  refine (drange_nil _ _ w9).mono ?_
  rintro en w10 ⟨rfl, hfr⟩
  have HF : Hid (Fr No w w10) := hide (HF.out.tr hfr)
  have HFb : Hid (Fr No w8 w10) := hide (HFb.out.tr hfr)
  clear hfr
  go_wp2_with (fail)
  refine (awake_any w10).mono ?_
  rintro en w11 ⟨rfl, hfr⟩
  have HF : Hid (Fr No w w11) := hide (HF.out.tr hfr)
  have HFb : Hid (Fr No w8 w11) := hide (HFb.out.tr hfr)
  clear hfr
  go_wp2_with (fail)
  refine (given_any w11).mono ?_
  rintro en w12 ⟨G11x, rfl, hD, hfr⟩
  have HD := hide hD
  clear hD
  have HF : Hid (Fr No w w12) := hide (HF.out.tr hfr)
  have HFb : Hid (Fr No w8 w12) := hide (HFb.out.tr hfr)
  clear hfr
  have HT := hide (pterm_any w11.heap.size _ litL litV w12 (2) HD.out)
  rw [show sv (termAt litL (2)) = .string ⟨#[97, 98, 99]⟩ from rfl] at HT
  go_wp2_with (fail)
  refine (HT.out).mono ?_
  rintro en w13 ⟨rfl, hfr⟩
  have HF : Hid (Fr No w w13) := hide (HF.out.tr hfr)
  have HFb : Hid (Fr No w8 w13) := hide (HFb.out.tr hfr)
  clear hfr
  clear HT HD
  go_wp2_with (fail)
  refine (given_any w13).mono ?_
  rintro en w14 ⟨G13x, rfl, hD, hfr⟩
  have HD := hide hD
  clear hD
  have HF : Hid (Fr No w w14) := hide (HF.out.tr hfr)
  have HFb : Hid (Fr No w8 w14) := hide (HFb.out.tr hfr)
  clear hfr
  have HT := hide (pterm_any w13.heap.size _ litL litV w14 (4) HD.out)
  rw [show sv (termAt litL (4)) = .string ⟨#[]⟩ from rfl] at HT
  go_wp2_with (fail)
  refine (HT.out).mono ?_
  rintro en w15 ⟨rfl, hfr⟩
  have HF : Hid (Fr No w w15) := hide (HF.out.tr hfr)
  have HFb : Hid (Fr No w8 w15) := hide (HFb.out.tr hfr)
  clear hfr
  clear HT HD
  go_wp2_with (fail)
  refine (given_any w15).mono ?_
  rintro en w16 ⟨G15x, rfl, hD, hfr⟩
  have HD := hide hD
  clear hD
  have HF : Hid (Fr No w w16) := hide (HF.out.tr hfr)
  have HFb : Hid (Fr No w8 w16) := hide (HFb.out.tr hfr)
  clear hfr
  have HT := hide (pterm_any w15.heap.size _ litL litV w16 (-1) HD.out)
  rw [show sv (termAt litL (-1)) = .string ⟨#[]⟩ from rfl] at HT
  go_wp2_with (fail)
  refine (HT.out).mono ?_
  rintro en w17 ⟨rfl, hfr⟩
  have HF : Hid (Fr No w w17) := hide (HF.out.tr hfr)
  have HFb : Hid (Fr No w8 w17) := hide (HFb.out.tr hfr)
  clear hfr
  clear HT HD
  go_wp2_with (fail)
  refine (prefix_any [] 0 4 true true w17 (by unfold maxLen; decide) rfl rfl).mono ?_
  rintro en w18 ⟨rfl, hfr⟩
  have HF : Hid (Fr No w w18) := hide (HF.out.tr hfr)
  have HFb : Hid (Fr No w8 w18) := hide (HFb.out.tr hfr)
  clear hfr
  go_wp2_with (fail)
  refine (prefix_any [99] 4 4 true true w18 (by unfold maxLen; decide) rfl rfl).mono ?_
  rintro en w19 ⟨rfl, hfr⟩
  have HF : Hid (Fr No w w19) := hide (HF.out.tr hfr)
  have HFb : Hid (Fr No w8 w19) := hide (HFb.out.tr hfr)
  clear hfr
  go_wp2_with (fail)
  refine (prefix_any [97, 97] 1 1 true true w19 (by unfold maxLen; decide) rfl rfl).mono ?_
  rintro en w20 ⟨rfl, hfr⟩
  have HF : Hid (Fr No w w20) := hide (HF.out.tr hfr)
  have HFb : Hid (Fr No w8 w20) := hide (HFb.out.tr hfr)
  clear hfr
  go_wp2_with (fail)
  refine (between_any [97, 98] [98] 1 4 w20 rfl rfl).mono ?_
  rintro en w21 ⟨rfl, hfr⟩
  have HF : Hid (Fr No w w21) := hide (HF.out.tr hfr)
  have HFb : Hid (Fr No w8 w21) := hide (HFb.out.tr hfr)
  clear hfr
  go_wp2_with (fail)
  refine (between_any [97, 97] [97, 97] 1 1 w21 rfl rfl).mono ?_
  rintro en w22 ⟨rfl, hfr⟩
  have HF : Hid (Fr No w w22) := hide (HF.out.tr hfr)
  have HFb : Hid (Fr No w8 w22) := hide (HFb.out.tr hfr)
  clear hfr
  go_wp2_with (fail)
  refine (between_any [99] [97] 4 4 w22 rfl rfl).mono ?_
  rintro en w23 ⟨rfl, hfr⟩
  have HF : Hid (Fr No w w23) := hide (HF.out.tr hfr)
  have HFb : Hid (Fr No w8 w23) := hide (HFb.out.tr hfr)
  clear hfr
  go_wp2_with (fail)
  refine (between_any [98] [97] 3 3 w23 rfl rfl).mono ?_
  rintro en w24 ⟨rfl, hfr⟩
  have HF : Hid (Fr No w w24) := hide (HF.out.tr hfr)
  have HFb : Hid (Fr No w8 w24) := hide (HFb.out.tr hfr)
  clear hfr
  have HK := hide (kbytes_any Ab (some ⟨w24.heap.size, 0, none⟩) 1 1 1 1 (w24.alloc (.cells #[.int .u8 0] 5)).heap.size (w24.heap.size + 1) [0] [0] (w24.alloc (.cells #[.int .u8 0] 5)) rfl rfl (Nat.le_refl _) (by unfold maxLen; omega) (Nat.le_refl _) (by unfold maxLen; omega) (HOb.out.fr0 (HFb.out.alloc _)).rd (Rd.block (heap_alloc_new w24 (.cells #[.int .u8 0] 5))))
  rw [decide_eq_true rfl] at HK
  go_wp2_with (fail)
  refine (HK.out).mono ?_
  rintro en w25 ⟨rfl, hq⟩
  have HF : Hid (Fr No w w25) := hide (by obtain ⟨nq, rfl⟩ := hq; exact (HF.out.alloc _).drewN nq)
  clear hq HK
  go_wp2_with (fail)
  refine (bad_any (some ⟨w25.heap.size, 0, none⟩) 3 3 (w25.heap.size + 1) [1, 1, 97] (w25.alloc (.cells #[.int .u8 1, .int .u8 1, .int .u8 97] 5)) rfl (Nat.le_refl _) (by unfold maxLen; omega) (by omega) (by simp) (Rd.block (heap_alloc_new w25 (.cells #[.int .u8 1, .int .u8 1, .int .u8 97] 5))) nf_1).mono ?_
  rintro en w26 ⟨rfl, hfr⟩
  have HF : Hid (Fr No w w26) := hide ((HF.out.alloc _).tr hfr)
  clear hfr
  go_wp2_with (fail)
  refine (bad_any (some ⟨w26.heap.size, 0, none⟩) 8 8 (w26.heap.size + 1) [2, 1, 98, 0, 1, 97, 1, 1] (w26.alloc (.cells #[.int .u8 2, .int .u8 1, .int .u8 98, .int .u8 0, .int .u8 1, .int .u8 97, .int .u8 1, .int .u8 1] 5)) rfl (Nat.le_refl _) (by unfold maxLen; omega) (by omega) (by simp) (Rd.block (heap_alloc_new w26 (.cells #[.int .u8 2, .int .u8 1, .int .u8 98, .int .u8 0, .int .u8 1, .int .u8 97, .int .u8 1, .int .u8 1] 5))) nf_ba).mono ?_
  rintro en w27 ⟨rfl, hfr⟩
  have HF : Hid (Fr No w w27) := hide ((HF.out.alloc _).tr hfr)
  clear hfr
  go_wp2_with (fail)
  refine (bad_any (some ⟨w27.heap.size, 0, none⟩) 9 9 (w27.heap.size + 1) [2, 1, 97, 0, 2, 97, 98, 1, 1] (w27.alloc (.cells #[.int .u8 2, .int .u8 1, .int .u8 97, .int .u8 0, .int .u8 2, .int .u8 97, .int .u8 98, .int .u8 1, .int .u8 1] 5)) rfl (Nat.le_refl _) (by unfold maxLen; omega) (by omega) (by simp) (Rd.block (heap_alloc_new w27 (.cells #[.int .u8 2, .int .u8 1, .int .u8 97, .int .u8 0, .int .u8 2, .int .u8 97, .int .u8 98, .int .u8 1, .int .u8 1] 5))) nf_aab).mono ?_
  rintro en w28 ⟨rfl, hfr⟩
  have HF : Hid (Fr No w w28) := hide ((HF.out.alloc _).tr hfr)
  clear hfr
  go_wp2_with (fail)
  refine (bad_any none 0 0 0 [] w28 rfl (Nat.le_refl _) (Nat.zero_le _) (by omega) (Nat.zero_le _) (Rd.nil _ _ _) nf_nil).mono ?_
  rintro en w29 ⟨rfl, hfr⟩
  have HF : Hid (Fr No w w29) := hide (HF.out.tr hfr)
  clear hfr
  go_wp2_with (fail)
  refine (bad_any (some ⟨w29.heap.size, 0, none⟩) 2 2 (w29.heap.size + 1) [0, 0] (w29.alloc (.cells #[.int .u8 0, .int .u8 0] 5)) rfl (Nat.le_refl _) (by unfold maxLen; omega) (by omega) (by simp) (Rd.block (heap_alloc_new w29 (.cells #[.int .u8 0, .int .u8 0] 5))) nf_00).mono ?_
  rintro en w30 ⟨rfl, hfr⟩
  have HF : Hid (Fr No w w30) := hide ((HF.out.alloc _).tr hfr)
  clear hfr
  go_wp2_with (fail)
  refine (dlen_nil w30).mono ?_
  rintro en w31 ⟨rfl, rfl⟩
  have HT := hide (dterm_nil 0 w30)
  rw [show sv [] = .string ⟨#[]⟩ from rfl] at HT
  go_wp2_with (fail)
  refine (HT.out).mono ?_
  rintro en w32 ⟨rfl, hfr⟩
  have HF : Hid (Fr No w w32) := hide (HF.out.tr hfr)
  clear hfr
  go_wp2_with (fail)
  go_ret
  exact ⟨rfl, HF.out⟩
end Go.Proofs.Ytcdhbdhhknlbaaa
