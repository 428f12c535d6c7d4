/- The walk of FrameBursts: it answers true; nothing that was there has changed. -/
import Derived.Test.YtapfbjaopbcgjaaBurstP
import Derived.Test.YtapfbjaopbcgjaaSealsW
import Derived.Test.YtapfbjaopbcgjaaFBackW
namespace Go.Proofs.Ytapfbjaopbcgjaa
set_option linter.unusedVariables false
set_option linter.unusedSimpArgs false
open Go.RowKit

section
variable (kind : UInt8) (A : Option Addr) (n c : Nat) (bss : List (List UInt8)) (at_ : Int) (bu : Nat) (w : World)

theorem by8_put (xs : List UInt8) (k : Nat) (b : UInt8) : (by8 xs).set k (.int .u8 (b.toNat : Nat)) = by8 (xs.set k b) := by
  simp [by8, List.map_set]
theorem xor_one (x : UInt8) (r : Nat) (hr : r < 8) : bits .xor .u8 ((x.toNat : Nat) : Int) ((2 : Int) ^ r % 256) = (((x ^^^ UInt8.ofNat (2 ^ r)).toNat : Nat) : Int) := by
  have hp : 2 ^ r < 256 := by
    have : 2 ^ r ≤ 2 ^ 7 := Nat.pow_le_pow_right (by omega) (by omega)
    omega
  have e : (2 : Int) ^ r % 256 = ((2 ^ r : Nat) : Int) := by
    have e1 : ((2 ^ r : Nat) : Int) = (2 : Int) ^ r := by simp
    rw [← e1]
    generalize 2 ^ r = z at hp
    omega
  rw [e, u8_xor_nat _ _ x.toNat_lt hp, UInt8.toNat_xor, ofNat_toNat hp]
theorem bit_and32 (b q : Nat) (hb : b < 4294967296) : bits .and .u32 ((b : Int) / 2 ^ q) 1 = ((b / 2 ^ q % 2 : Nat) : Int) := by
  have h : b / 2 ^ q ≤ b := Nat.div_le_self _ _
  have e1 : ((b / 2 ^ q : Nat) : Int) = (b : Int) / 2 ^ q := by simp
  rw [← e1]
  have := u32_and_nat (b / 2 ^ q) 1 (by omega) (by omega)
  rw [Nat.and_one_is_mod] at this
  exact this

set_option maxRecDepth 100000 in
set_option maxHeartbeats 4000000 in
theorem burst_any (hl : bss.length = n) (hn : n ≤ c) (hc : c ≤ maxLen) (hr : BSl w w.heap.size A bss) (hbs : ∀ b ∈ bss, b.length ≤ 140737488351232)
    (ha1 : -9223372036854775808 ≤ at_) (ha2 : at_ ≤ 9223372036854775807) (hbu : bu < 4294967296) :
    Calls Try.prog 7 #[.int .u8 (kind.toNat : Nat), .slice A n c, .int .i64 at_, .int .u32 (bu : Nat)] w (RetB true w) := by
  have HC := hide hc
  unfold maxLen at hc
  have HR := hide hr
  have HL := hide hl
  have HBS := hide hbs
  clear hr hl hbs
  obtain ⟨i1, hi1, hz1, hsz1, hby1⟩ := info_parts Try.info5
  have HS := hide (fun W (h : BSl W W.heap.size A bss) => Calls.mono (seal_any kind A n c W.heap.size bss W HL.out hn HC.out (Nat.le_refl _) h (fun b hb => by have := HBS.out b hb; omega)) (fun _ _ h => h.uni))
  have HSB := hide (seB_len kind bss)
  go_enter Try.func7, Try.ntmps7
  go_wp2
  go_loop [9, 10] (fun s i => ∃ (k T : Nat), k ≤ n ∧ i = .int .i64 k ∧ s = .int .i64 (T : Nat) ∧ Hid (T = (bss.take k).flatten.length)) (fun _ i => n - (intOf i).toNat)
  case atStart => exact ⟨0, 0, by omega, rfl, rfl, hide rfl⟩
  case round =>
    obtain ⟨k, T, hk, rfl, rfl, HT⟩ := hrel
    by_cases hT : T < 100000
    · have hTd : decide ((T : Int) < 100000) = true := by
        apply decide_eq_true
        omega
      by_cases hlt : k < n
      · obtain ⟨bs, hx⟩ : ∃ bs, bss[k]? = some bs := ⟨_, List.getElem?_eq_getElem (by rw [HL.out]; exact hlt)⟩
        obtain ⟨ad, Aj, cj, rfl, _, hcell, hj1, hj2, _⟩ := HR.out k bs hx
        have hbl := HBS.out bs (List.mem_of_getElem? hx)
        have HN := hide (show T + bs.length = (bss.take (k + 1)).flatten.length by rw [flat_succ hx, List.length_append, ← HT.out])
        generalize bs.length = m at hcell hj1 hbl HN
        have hsum : (T : Int) + (m : Int) ≤ 140737488451232 := by omega
        clear hx hT
        unfold maxLen at hj2
        go_wp2
        go_round
        case rel => exact ⟨k + 1, T + m, by omega, by go_num, by go_num, HN⟩
        case measure => simp [intOf]; omega
      · obtain rfl : n = k := by omega
        have hTg : decide ((100000 : Int) ≤ (T : Int)) = false := by
          apply decide_eq_false
          omega
        clear hT hlt hk
        have hq : (seE kind bss != 0) = true ∨ ((seE kind bss != 0) = false ∧ longB kind bss = false ∧ seB kind bss = sealB kind bss) := by
          unfold seE seB
          cases h : longB kind bss with
          | true => exact .inl rfl
          | false => exact .inr ⟨rfl, rfl, rfl⟩
        rcases hq with he | ⟨he, hlg, hsb⟩
        · generalize seE kind bss = e at HS he
          go_wp2_with (first
            | (go_at_call 10; refine (HS.out w HR.out).mono ?_; rintro en w2 ⟨Ab, cb, rfl, hown, hq1, hq2, hfr⟩; have F2 := hide hfr; clear hown hfr hq1 hq2)
            | (go_at_call 9; refine (awake04_any _).mono ?_; rintro en w11 ⟨rfl, hfr⟩; have F11 := hide (F2.out.tr hfr); clear hfr))
          go_ret
          exact ⟨rfl, F11.out⟩
        · have HLG := hide hlg
          generalize seE kind bss = e at HS he
          rw [hsb] at HS HSB
          clear hlg hsb
          by_cases hb0 : bu = 0
          · subst hb0
            go_wp2_with (first
              | (go_at_call 10; refine (HS.out w HR.out).mono ?_; rintro en w2 ⟨Ab, cb, rfl, hown, hq1, hq2, hfr⟩; have F2 := hide hfr; clear hown hfr hq1 hq2)
              | (go_at_call 9; refine (awake04_any _).mono ?_; rintro en w11 ⟨rfl, hfr⟩; have F11 := hide (F2.out.tr hfr); clear hfr))
            go_ret
            exact ⟨rfl, F11.out⟩
          · have hbb : ((bu : Int) == 0) = false := by simp; omega
            obtain ⟨sb, HSBE⟩ : ∃ sb, Hid (sb = sealB kind bss) := ⟨_, hide rfl⟩
            rw [← HSBE.out] at HS HSB
            have HN9 := hide (show 9 ≤ sb.length by rw [HSBE.out, seal_len]; have := head_len kind bss; omega)
            obtain ⟨N, HN⟩ : ∃ N, Hid (N = sb.length) := ⟨_, hide rfl⟩
            have HG := hide (fun W W' en (h : GivesS2 e sb W en W') => h)
            unfold GivesS2 at HS
            rw [← HN.out] at HS HSB HN9
            have hN9 := HN9.out
            have hN24 : (N : Int) ≤ 16777216 := by have := HSB.out; omega
            obtain ⟨M, hM⟩ : ∃ M, M = 8 * N := ⟨_, rfl⟩
            have hM0 : 72 ≤ M := by omega
            have e8 : (8 : Int) * (N : Int) = (M : Int) := by omega
            have hM30 : (M : Int) ≤ 134217728 := by omega
            have HM8 := hide hM
            have hcase : ∃ a : Nat, a < M ∧ ((at_.tmod (M : Int) = (a : Int)) ∨ (∃ z : Int, at_.tmod (M : Int) = z ∧ z < 0 ∧ -(M : Int) < z ∧ z + M = a)) := by
              have t1 := Int.tmod_lt_of_pos at_ (b := (M : Int)) (by omega)
              have t2 := Int.lt_tmod_of_pos at_ (b := (M : Int)) (by omega)
              by_cases hz : 0 ≤ at_.tmod (M : Int)
              · obtain ⟨a, ha⟩ := Int.eq_ofNat_of_zero_le hz
                exact ⟨a, by omega, .inl ha⟩
              · obtain ⟨a, ha⟩ := Int.eq_ofNat_of_zero_le (a := at_.tmod (M : Int) + M) (by omega)
                exact ⟨a, by omega, .inr ⟨_, rfl, by omega, by omega, ha⟩⟩
            clear hM hN24
            obtain ⟨a, haN, hcase⟩ := hcase
            have b1 : Hid ((0 + N) * 1 ≤ 140737488355328) := hide (by have := HSB.out; omega)
            have b2 : 0 + N ≤ maxLen := by have := HSB.out; unfold maxLen; omega
            have hda : decide ((a : Int) < 0) = false := by
              apply decide_eq_false
              omega
            rcases hcase with hz | ⟨z, hz, hy1, hy2, hy3⟩
            all_goals
              go_upto_region 14 with (first
                | (go_at_call 10; refine (HS.out w HR.out).mono ?_; rintro en w2 ⟨Ab, cb, rfl, hown, hq1, hq2, hfr⟩; have F2 := hide hfr; have R2 := hide hown.rd; clear hown hfr hq1 hq2)
                | (go_at_call 9; refine (awake04_any _).mono ?_; rintro en w3 ⟨rfl, hfr⟩; have F3 := hide (F2.out.tr hfr); have HSr := hide (Src.ofRd (P := Try.prog) (size := 1) w3 Try.underlying23 Ab N cb (by8 sb) (by rw [by8_length, ← HN.out]; omega) (by omega) (R2.out.fr0 hfr) (by8_one _)); clear hfr))
              clear hTd hTg he hbb
              go_wp2_with (at_builtin; refine wpList_append_gen _ rfl _ _ 23 23 rfl w.heap.size 5 i1 (.int .u8 0) 1 1 Try.underlying23 hi1 hz1 hsz1 hby1 rfl (.slice none 0 0) 0 [] rfl (Own.nil _ _ _ _) _ N (by8 sb) rfl HSr.out b1.out b2 F3.out.size ?_; intro v4 w4 hown hfr hat; have O4 := hide hown; have F4 : Hid (Fr No w w4) := hide (F3.out.own hfr (fun g hg => by cases hg)); clear hown hfr hat)
              have O5 : Hid (Own w4 w.heap.size 5 1 v4 N (by8 sb)) := hide (by
                have h := O4.out
                rw [Nat.zero_add, List.nil_append] at h
                exact h)
              clear O4 hz
              obtain ⟨A4, c4, rfl, hv1, hv2, _, _, _⟩ := O5.out.form
              have HV2 := hide hv2
              unfold maxLen at hv2
              have hp0 : 0 < N := by omega
              go_loopw [16, 17] (fun h i wr => ∃ (k : Nat) (cl : List UInt8) (hb : Bool), k ≤ 32 ∧ a + k ≤ M ∧ i = .int .i64 k ∧ h = .bool hb ∧ Hid (hb = decide (bu % 2 ^ k ≠ 0)) ∧ Hid (cl.length = N) ∧ Hid (leVal cl = leVal sb ^^^ (bu % 2 ^ k) * 2 ^ a) ∧ Hid (Own wr w.heap.size 5 1 (.slice A4 N c4) N (by8 cl)) ∧ Hid (Fr No w wr)) (fun _ i _ => 32 - (intOf i).toNat)
              case atStart => exact ⟨0, sb, false, by omega, by omega, rfl, rfl, hide (by simp [Nat.mod_one]), hide HN.out.symm, hide (by simp [Nat.mod_one]), O5, F4⟩
              case round =>
                clear O5 F4
                obtain ⟨k, cl, hb, hk, hak, rfl, rfl, HB, HCL, HV, OW, FW⟩ := hrel
                by_cases hgo : k < 32 ∧ a + k < M
                · obtain ⟨hk32, hakN⟩ := hgo
                  have HAK := hide hakN
                  have HAK2 := hide hak
                  have HAN := hide haN
                  have e1 := bit_and32 bu k hbu
                  have hm2 : bu / 2 ^ k % 2 = 0 ∨ bu / 2 ^ k % 2 = 1 := by omega
                  rcases hm2 with hm | hm
                  · have HN2 := hide (burst_skip HV.out hm)
                    have HB2 := hide (show hb = decide (bu % 2 ^ (k + 1) ≠ 0) by rw [mod_zero hm]; exact HB.out)
                    rw [hm] at e1
                    clear hm
                    go_wp2
                    go_roundw
                    case rel => exact ⟨k + 1, cl, hb, by omega, by have := HAK.out; omega, by go_num, rfl, HB2, HCL, HN2, OW, FW⟩
                    case measure => simp [intOf]; omega
                  · have HN2 := hide (burst_step HV.out hm (by rw [HCL.out, ← HM8.out]; exact hakN))
                    have HB2 := hide (show true = decide (bu % 2 ^ (k + 1) ≠ 0) from (decide_eq_true (mod_one hm)).symm)
                    rw [hm] at e1
                    clear hm
                    obtain ⟨q, hq⟩ : ∃ q, q = (a + k) / 8 := ⟨_, rfl⟩
                    obtain ⟨r, hr⟩ : ∃ r, r = (a + k) % 8 := ⟨_, rfl⟩
                    rw [← hq, ← hr] at HN2
                    have hqN : q < N := by have := HM8.out; omega
                    have hqI : ((a : Int) + (k : Int)) / 8 = (q : Int) := by omega
                    have hrI : ((a : Int) + (k : Int)) % 8 = (r : Int) := by omega
                    have hr8 : r < 8 := by omega
                    clear hq hr
                    obtain ⟨g, rfl, hg1, hg2, hcl, hfz, hst⟩ := OW.out.store (k := q) hqN
                    rw [by8_get cl q (by rw [HCL.out]; exact hqN)] at hcl
                    have HST := hide hst
                    clear hst
                    generalize cl.getD q 0 = x at hcl HN2
                    have hxo := xor_one x r hr8
                    obtain ⟨y, hy⟩ : ∃ y, y = x ^^^ UInt8.ofNat (2 ^ r) := ⟨_, rfl⟩
                    rw [← hy] at hxo HN2
                    clear hy
                    have HPU := hide (by8_put cl q y)
                    go_wp2
                    go_roundw
                    case rel => exact ⟨k + 1, cl.set q y, true, by omega, by have := HAK.out; omega, by go_num, rfl, HB2, hide (by rw [List.length_set]; exact HCL.out), HN2, hide (by rw [← HPU.out]; exact HST.out _), hide (FW.out.setCell (p := ⟨g, q, none⟩) (fun h => absurd h (by show ¬ g < w.heap.size; omega)) _)⟩
                    case measure => simp [intOf]; omega
                · have hgo2 : ¬ k < 32 ∨ ¬ a + k < M := by omega
                  have HAM := hide (show a ≤ 8 * N by rw [← HM8.out]; omega)
                  have HO := hide (show hb = true → ∀ kd, openE kd cl = 20 from fun h kd => by
                    have h1 : bu % 2 ^ k ≠ 0 := by
                      have h2 := HB.out
                      rw [h] at h2
                      exact of_decide_eq_true h2.symm
                    have h3 : bu % 2 ^ k < 4294967296 := Nat.lt_of_le_of_lt (Nat.mod_le _ _) hbu
                    have h4 := HV.out
                    rw [HSBE.out] at h4
                    refine burst_open HLG.out ?_ (by omega) h3 ?_ h4
                    · rw [HCL.out, HN.out, HSBE.out]
                    · rw [← HSBE.out, ← HN.out]; exact HAM.out)
                  have hx : (decide ((k : Int) < 32) = false) ∨ (decide ((k : Int) < 32) = true ∧ decide ((a : Int) + (k : Int) < (M : Int)) = false) := by
                    by_cases h : k < 32
                    · exact .inr ⟨by apply decide_eq_true; omega, by apply decide_eq_false; omega⟩
                    · exact .inl (by apply decide_eq_false; omega)
                  have hrd := OW.out.rd
                  have HRD := hide hrd
                  have HHV := hide (show N ≤ c4 from hv1)
                  clear hgo hgo2 hrd
                  cases hb
                  · rcases hx with hx | ⟨hx, hx2⟩
                    all_goals
                      go_wp2
                      go_ret
                      exact ⟨rfl, FW.out⟩
                  · have HBd := hide (fun (kd : UInt8) (W : World) (h : Rd W W.heap.size A4 (by8 cl)) => bad_any kd A4 N c4 W.heap.size cl W HCL.out HHV.out HV2.out (Nat.le_refl _) h)
                    have HBd2 := hide (show ∀ (kd : UInt8) (W : World), Rd W W.heap.size A4 (by8 cl) → Calls Try.prog 23 #[.int .u8 (kd.toNat : Nat), .slice A4 N c4] W (RetB true W) from fun kd W h => by
                      have h1 := HBd.out kd W h
                      rw [decide_eq_true (HO.out rfl kd)] at h1
                      exact h1)
                    by_cases hk : kindOK cl = true
                    · have HK := hide (kind_yes A4 N c4 _ cl wr HCL.out HHV.out HV2.out HRD.out hk)
                      generalize cl.getD 3 0 = kb at HK
                      rcases hx with hx | ⟨hx, hx2⟩
                      all_goals
                        go_wp2_with (first
                          | (go_at_call 19; refine HK.out.mono ?_; rintro en w5 ⟨rfl, nq, rfl⟩; have R5 := hide (show Rd (wr.drewN nq) (wr.drewN nq).heap.size A4 (by8 cl) from HRD.out.fr0 ((Fr.refl No wr).drewN nq)); have F5 := hide (FW.out.drewN nq); generalize wr.drewN nq = w5 at R5 F5 ⊢)
                          | (go_at_call 23; have mk := F6; clear mk; refine (HBd2.out kb w6 (R6.out.more F56.out)).mono ?_; rintro en w7 ⟨rfl, hfr⟩; have F7 := hide (F6.out.tr hfr); clear hfr)
                          | (go_at_call 23; refine (HBd2.out kind w5 R5.out).mono ?_; rintro en w6 ⟨rfl, hfr⟩; have F6 := hide (F5.out.tr hfr); have R6 := hide (R5.out.fr0 hfr); have F56 := hide hfr.size; clear hfr))
                        go_ret
                        exact ⟨rfl, F7.out⟩
                    · have HK := hide (kind_no A4 N c4 _ cl wr HCL.out HHV.out HV2.out HRD.out (by simpa using hk))
                      have kb : UInt8 := 0
                      rcases hx with hx | ⟨hx, hx2⟩
                      all_goals
                        go_wp2_with (first
                          | (go_at_call 19; refine HK.out.mono ?_; rintro en w5 ⟨rfl, nq, rfl⟩; have R5 := hide (show Rd (wr.drewN nq) (wr.drewN nq).heap.size A4 (by8 cl) from HRD.out.fr0 ((Fr.refl No wr).drewN nq)); have F5 := hide (FW.out.drewN nq); generalize wr.drewN nq = w5 at R5 F5 ⊢)
                          | (go_at_call 23; have mk := F6; clear mk; refine (HBd2.out kb w6 (R6.out.more F56.out)).mono ?_; rintro en w7 ⟨rfl, hfr⟩; have F7 := hide (F6.out.tr hfr); clear hfr)
                          | (go_at_call 23; refine (HBd2.out kind w5 R5.out).mono ?_; rintro en w6 ⟨rfl, hfr⟩; have F6 := hide (F5.out.tr hfr); have R6 := hide (R5.out.fr0 hfr); have F56 := hide hfr.size; clear hfr))
                        go_ret
                        exact ⟨rfl, F6.out⟩
    · have hTd : decide ((T : Int) < 100000) = false := by
        apply decide_eq_false
        omega
      have hTg : decide ((100000 : Int) ≤ (T : Int)) = true := by
        apply decide_eq_true
        omega
      clear hT
      by_cases hlt : k < n
      all_goals
        go_wp2_with (first
          | (go_at_call 10; refine (HS.out w HR.out).mono ?_; rintro en w2 ⟨Ab, cb, rfl, hown, hq1, hq2, hfr⟩; have F2 := hide hfr; clear hown hfr hq1 hq2)
          | (go_at_call 9; refine (awake04_any _).mono ?_; rintro en w11 ⟨rfl, hfr⟩; have F11 := hide (F2.out.tr hfr); clear hfr))
        go_ret
        exact ⟨rfl, F11.out⟩
end
end Go.Proofs.Ytapfbjaopbcgjaa
