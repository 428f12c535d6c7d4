/- The walk of CodecBack: it answers true; nothing that was there has changed. Condition: texts of at most 2^20 letters each. -/
import Derived.Test.YtpcoadbbngmpbaaBackP
import Derived.Test.YtpcoadbbngmpbaaPutI
import Derived.Test.YtpcoadbbngmpbaaPutT
import Derived.Test.YtpcoadbbngmpbaaAwake02
import Derived.Deep.RegionWith
namespace Go.Proofs.Ytpcoadbbngmpbaa
set_option linter.unusedVariables false
set_option linter.unusedSimpArgs false
open Go.RowKit

theorem give_form {W w' : World} {en : Ending} {t : List UInt8} (h : GivesB W t en w') : ∃ v, en = .returned v ∧ Own w' W.heap.size 5 1 v t.length (by8 t) ∧ Fr No W w' := h

theorem RD.drew1 {w : World} {g : Nat} {bs : List UInt8} {a : Nat} {e : Int} (h : RD w g bs a e) : RD w.drew g bs a e := h
def u64s (us : List Nat) : List Value := us.map fun u => .int .u64 (u : Nat)
def i64s (ns : List Int) : List Value := ns.map fun n => .int .i64 n
def strs (ts : List ByteArray) : List Value := ts.map fun s => .string s

set_option maxRecDepth 100000 in
set_option maxHeartbeats 400000 in
theorem back_many (A1 A2 A3 : Option Addr) (l1 c1 l2 c2 l3 c3 : Nat) (cut : Int) (W : World) (h1 : l1 ≤ 140737488355328) (h2 : l2 ≤ 140737488355328) (h3 : l3 ≤ 140737488355328) (hmany : 200 < l1 + l2 + l3) :
    Calls Try.prog 5 #[.slice A1 l1 c1, .slice A2 l2 c2, .slice A3 l3 c3, .int .i64 cut] W (RetB true W) := by
  have hd : decide ((200 : Int) < (l1 : Int) + (l2 : Int) + (l3 : Int)) = true := by simp; omega
  go_enter Try.func5, Try.ntmps5
  go_wp2_with (go_at_call 13; refine (awake_any _).mono ?_; rintro en w1 ⟨rfl, hfr⟩; have F1 := hide hfr; clear hfr)
  go_ret
  exact ⟨rfl, F1.out⟩

section
variable (A1 A2 A3 : Option Addr) (l1 c1 l2 c2 l3 c3 : Nat) (us : List Nat) (ns : List Int) (ts : List ByteArray) (cut : Int) (W : World)

set_option maxRecDepth 100000 in
set_option maxHeartbeats 8000000 in
theorem back_few (e1 : us.length = l1) (e2 : ns.length = l2) (e3 : ts.length = l3) (hc1 : l1 ≤ c1) (hc2 : l2 ≤ c2) (hc3 : l3 ≤ c3) (hd1 : c1 ≤ maxLen) (hd2 : c2 ≤ maxLen) (hd3 : c3 ≤ maxLen) (hfew : l1 + l2 + l3 ≤ 200)
    (hus : ∀ u ∈ us, u < 18446744073709551616) (hns : ∀ n ∈ ns, -9223372036854775808 ≤ n ∧ n ≤ 9223372036854775807) (hts : ∀ s ∈ ts, s.size ≤ 1048576) (hcut1 : -9223372036854775808 ≤ cut) (hcut2 : cut ≤ 9223372036854775807)
    (r1 : Rd W W.heap.size A1 (u64s us)) (r2 : Rd W W.heap.size A2 (i64s ns)) (r3 : Rd W W.heap.size A3 (strs ts)) :
    Calls Try.prog 5 #[.slice A1 l1 c1, .slice A2 l2 c2, .slice A3 l3 c3, .int .i64 cut] W (RetB true W) := by
  unfold maxLen at hd1 hd2 hd3
  have hd : decide ((200 : Int) < (l1 : Int) + (l2 : Int) + (l3 : Int)) = false := by simp; omega
  have E1 := hide e1
  have E2 := hide e2
  have E3 := hide e3
  have R1 := hide r1
  have R2 := hide r2
  have R3 := hide r3
  have US := hide hus
  have NS := hide hns
  have TS := hide hts
  have B1 : Hid (∀ k, (gone enc us k).length ≤ 2000) := fun k => Nat.le_trans (gone_len enc 10 us (fun x _ => (enc_len x).2) k) (by omega)
  have B2 : Hid (∀ k, (gone (fun n => enc (zz n)) ns k).length ≤ 2000) := fun k => Nat.le_trans (gone_len _ 10 ns (fun x _ => (enc_len _).2) k) (by omega)
  have B3 : Hid (∀ k, (gone encT ts k).length ≤ 210000000) := fun k => Nat.le_trans (gone_len encT 1048586 ts (fun x hx => by
    have := (enc_len x.size).2
    have := hts x hx
    unfold encT
    rw [List.length_append, size_list]
    omega) k) (by
      have : ts.length * 1048586 ≤ 200 * 1048586 := Nat.mul_le_mul_right _ (by omega)
      omega)
  clear e1 e2 e3 r1 r2 r3 hus hns hts
  go_enter Try.func5, Try.ntmps5
  go_wp2_with (go_at_call 13; refine (awake_any _).mono ?_; rintro en w1 ⟨rfl, hfr⟩; have F1 := hide hfr; clear hfr)
  clear hd
  go_loopw [9, 10] (fun v i wr => ∃ (k : Nat), k ≤ l1 ∧ i = .int .i64 k ∧ Hid (Own wr W.heap.size 5 1 v (gone enc us k).length (by8 (gone enc us k))) ∧ Hid (Fr No W wr)) (fun _ i _ => l1 - (intOf i).toNat)
  case atStart => exact ⟨0, by omega, rfl, hide (Own.nil _ _ _ _), F1⟩
  case round =>
    obtain ⟨k, hk, rfl, OW, FW⟩ := hrel
    by_cases hlt : k < l1
    · obtain ⟨u, hx⟩ : ∃ u, us[k]? = some u := ⟨_, List.getElem?_eq_getElem (by rw [E1.out]; exact hlt)⟩
      obtain ⟨ad, rfl, _, hcell⟩ := (R1.out.fr0 FW.out) k (.int .u64 (u : Nat)) (by simp [u64s, hx])
      obtain ⟨Av, cv, rfl, hv1, hv2, _, hvr, _⟩ := OW.out.form
      have HP := hide (putU_any Av _ cv _ (gone enc us k) u wr rfl hv1 hv2 (by have := B1.out k; omega) (Nat.le_refl _) hvr (US.out u (List.mem_of_getElem? hx)))
      rw [← gone_succ enc us hx] at HP
      obtain ⟨nx, HNX⟩ : ∃ nx, Hid (gone enc us (k + 1) = nx) := ⟨_, hide rfl⟩
      rw [HNX.out] at HP
      clear hvr hx
      have hW := FW.out.size
      go_wp2_with (go_at_call 15; refine HP.out.mono ?_; rintro en w2 ⟨v2, rfl, hown, hfr⟩; have O2 := hide (hown.lower hW); have F2 := hide (FW.out.tr hfr); clear hown hfr)
      go_roundw
      case rel => exact ⟨k + 1, by omega, by go_num, hide (by rw [HNX.out]; exact O2.out), F2⟩
      case measure => simp [intOf]; omega
    · obtain rfl : l1 = k := by omega
      obtain ⟨X1, HX1⟩ : ∃ X1, Hid (gone enc us l1 = X1) := ⟨_, hide rfl⟩
      rw [HX1.out] at OW
      have b1 : X1.length ≤ 2000 := by rw [← HX1.out]; exact B1.out l1
      go_wp2
      clear hlt hk
      go_loopw [9, 11] (fun v i wr => ∃ (k : Nat) (dn : List UInt8), k ≤ l2 ∧ i = .int .i64 k ∧ Hid (dn = X1 ++ gone (fun n => enc (zz n)) ns k) ∧ Hid (Own wr W.heap.size 5 1 v dn.length (by8 dn)) ∧ Hid (Fr No W wr)) (fun _ i _ => l2 - (intOf i).toNat)
      case atStart => exact ⟨0, X1, by omega, rfl, hide (by rw [gone_zero, List.append_nil]), OW, FW⟩
      case round =>
        clear OW FW
        obtain ⟨k2, dn, hk2, rfl, HD, OW, FW⟩ := hrel
        by_cases hlt : k2 < l2
        · obtain ⟨x, hx⟩ : ∃ u, ns[k2]? = some u := ⟨_, List.getElem?_eq_getElem (by rw [E2.out]; exact hlt)⟩
          obtain ⟨ad, rfl, _, hcell⟩ := (R2.out.fr0 FW.out) k2 (.int .i64 x) (by simp [i64s, hx])
          obtain ⟨Av, cv, rfl, hv1, hv2, _, hvr, _⟩ := OW.out.form
          have hxb := NS.out x (List.mem_of_getElem? hx)
          have HP := hide (putI_any Av _ cv _ dn x wr rfl hv1 hv2 (by have := B2.out k2; rw [HD.out, List.length_append]; omega) (Nat.le_refl _) hvr hxb.1 hxb.2)
          obtain ⟨nx, HNX⟩ : ∃ nx, Hid (nx = dn ++ enc (zz x)) := ⟨_, hide rfl⟩
          rw [← HNX.out] at HP
          have HE := hide (show nx = X1 ++ gone (fun n => enc (zz n)) ns (k2 + 1) by rw [HNX.out, HD.out, List.append_assoc, gone_succ (fun n => enc (zz n)) ns hx])
          clear hvr hx hxb
          have hW := FW.out.size
          go_wp2_with (go_at_call 16; refine HP.out.mono ?_; rintro en w2 ⟨v2, rfl, hown, hfr⟩; have O2 := hide (hown.lower hW); have F2 := hide (FW.out.tr hfr); clear hown hfr)
          go_roundw
          case rel => exact ⟨k2 + 1, nx, by omega, by go_num, HE, O2, F2⟩
          case measure => simp [intOf]; omega
        · obtain rfl : l2 = k2 := by omega
          obtain ⟨X2, HX2⟩ : ∃ X2, Hid (gone (fun n => enc (zz n)) ns l2 = X2) := ⟨_, hide rfl⟩
          rw [HX2.out] at HD
          have b2 : X2.length ≤ 2000 := by rw [← HX2.out]; exact B2.out l2
          go_wp2
          clear hlt hk2
          go_loopw [9, 12] (fun v i wr => ∃ (k : Nat) (dn : List UInt8), k ≤ l3 ∧ i = .int .i64 k ∧ Hid (dn = X1 ++ X2 ++ gone encT ts k) ∧ Hid (Own wr W.heap.size 5 1 v dn.length (by8 dn)) ∧ Hid (Fr No W wr)) (fun _ i _ => l3 - (intOf i).toNat)
          case atStart => exact ⟨0, dn, by omega, rfl, hide (by rw [gone_zero, List.append_nil]; exact HD.out), OW, FW⟩
          case round =>
            clear OW FW HD
            obtain ⟨k3, dn, hk3, rfl, HD, OW, FW⟩ := hrel
            by_cases hlt : k3 < l3
            · obtain ⟨s, hx⟩ : ∃ u, ts[k3]? = some u := ⟨_, List.getElem?_eq_getElem (by rw [E3.out]; exact hlt)⟩
              obtain ⟨ad, rfl, _, hcell⟩ := (R3.out.fr0 FW.out) k3 (.string s) (by simp [strs, hx])
              obtain ⟨Av, cv, rfl, hv1, hv2, _, hvr, _⟩ := OW.out.form
              have hxb := TS.out s (List.mem_of_getElem? hx)
              have HP := hide (putText_any Av _ cv _ dn s wr rfl hv1 hv2 (by have := B3.out k3; rw [HD.out, List.length_append, List.length_append]; omega) (Nat.le_refl _) hvr)
              obtain ⟨nx, HNX⟩ : ∃ nx, Hid (nx = dn ++ enc s.size ++ s.data.toList) := ⟨_, hide rfl⟩
              rw [← HNX.out] at HP
              have HE := hide (show nx = X1 ++ X2 ++ gone encT ts (k3 + 1) by
                rw [HNX.out, HD.out, gone_succ encT ts hx]
                unfold encT
                simp only [List.append_assoc])
              clear hvr hx hxb
              have hW := FW.out.size
              go_wp2_with (go_at_call 18; refine HP.out.mono ?_; rintro en w2 ⟨v2, rfl, hown, hfr⟩; have O2 := hide (hown.lower hW); have F2 := hide (FW.out.tr hfr); clear hown hfr)
              go_roundw
              case rel => exact ⟨k3 + 1, nx, by omega, by go_num, HE, O2, F2⟩
              case measure => simp [intOf]; omega
            · obtain rfl : l3 = k3 := by omega
              obtain ⟨X3, HX3⟩ : ∃ X3, Hid (gone encT ts l3 = X3) := ⟨_, hide rfl⟩
              rw [HX3.out] at HD
              have b3 : dn.length ≤ 210004000 := by
                have := B3.out l3
                rw [HX3.out] at this
                rw [HD.out, List.length_append, List.length_append]
                omega
              obtain ⟨full, rfl⟩ : ∃ full, full = dn := ⟨_, rfl⟩
              obtain ⟨Av, cv, rfl, hv1, hv2, _, hvr, _⟩ := OW.out.form
              have QV := hide hvr
              have HV2 := hide hv2
              clear hvr
              unfold maxLen at hv2
              obtain ⟨N, HN⟩ : ∃ N, Hid (full.length = N) := ⟨_, hide rfl⟩
              rw [HN.out] at b3 hv1 ⊢
              clear hlt hk3 B1 B2 B3 OW
              by_cases hbig : 20000 < N
              · go_wp2
                go_ret
                exact ⟨rfl, FW.out⟩
              · have hcase : ∃ a : Nat, a ≤ N ∧ Hid (N = 0 ∨ a < N) ∧ ((N = 0 ∧ a = 0) ∨ (0 < N ∧ cut.tmod N = (a : Int)) ∨ (0 < N ∧ ∃ z : Int, cut.tmod N = z ∧ z < 0 ∧ -(N : Int) < z ∧ z + N = a)) := by
                  by_cases h0 : N = 0
                  · exact ⟨0, by omega, hide (.inl h0), .inl ⟨h0, rfl⟩⟩
                  · have hN0 : 0 < N := by omega
                    have t1 := Int.tmod_lt_of_pos cut (b := (N : Int)) (by omega)
                    have t2 := Int.lt_tmod_of_pos cut (b := (N : Int)) (by omega)
                    by_cases hz : 0 ≤ cut.tmod N
                    · obtain ⟨a, ha⟩ := Int.eq_ofNat_of_zero_le hz
                      exact ⟨a, by omega, hide (.inr (by omega)), .inr (.inl ⟨hN0, ha⟩)⟩
                    · obtain ⟨a, ha⟩ := Int.eq_ofNat_of_zero_le (a := cut.tmod N + N) (by omega)
                      exact ⟨a, by omega, hide (.inr (by omega)), .inr (.inr ⟨hN0, _, rfl, by omega, by omega, ha⟩)⟩
                obtain ⟨a, haN, HA, hcase⟩ := hcase
                have HSm : Hid (∀ (k : Nat) (x : ByteArray), ts[k]? = some x → x.size ≤ 20000) := fun k x hx => by
                  have h1 := gone_split encT ts hx
                  rw [← gone_all encT ts (k := l3) (by rw [E3.out]; omega), HX3.out] at h1
                  have h2 : full.length = X1.length + X2.length + X3.length := by rw [HD.out, List.length_append, List.length_append]
                  have h3 : X3.length = (gone encT ts k).length + ((enc x.size).length + x.size + ((ts.drop (k + 1)).flatMap encT).length) := by
                    rw [h1]
                    simp only [List.length_append, encT, size_list]
                  have := HN.out
                  omega
                have haC : a ≤ cv := by omega
                rcases hcase with ⟨hN0, ha0⟩ | ⟨hN0, hz⟩ | ⟨hN0, z, hz, hz1, hz2, hz3⟩
                · have HA0 := hide ha0
                  clear ha0
                  have HF1 := hide (FW.out)
                  go_wp2_with (first
                    | (go_at_call 8; have mk := HS1; clear mk; refine (newReader_any Av _ cv _ full w5 (by have := HN.out; omega) (by omega) HV2.out (by omega) (Nat.le_refl _) ((QV.out.fr0 F5.out).more F5.out.size)).mono ?_; rintro en w6 ⟨gr, rfl, hg, hrd, hfr⟩; have RR0 := hide hrd; have RS0 := hide (HS1.out.fr0 hfr); have FF0 := hide ((FW.out.tr F5.out).tr hfr); have hgr := hg; have hne : gr ≠ gs := Nat.ne_of_gt (Nat.lt_of_lt_of_le HS1.out.lt hg); clear hrd hfr hg)
                    | (go_at_call 8; refine (newReader_any Av _ cv _ (full.take a) wr (by rw [List.length_take, HN.out]; omega) (by omega) HV2.out (by omega) (Nat.le_refl _) (by rw [by8_take]; exact QV.out.tk a)).mono ?_; rintro en w5 ⟨gs, rfl, hg, hrd, hfr⟩; have HS1 := hide hrd; have F5 := hide hfr; have hgs := hg; clear hrd hfr hg))
                  have hsz1 := FW.out.size
                  have hsz2 := F5.out.size
                  have hgsW : W.heap.size ≤ gs := by omega
                  have hgrW : W.heap.size ≤ gr := by omega
                  have CC0 : Hid (Cut a 0 0 0) := hide (.inr ⟨rfl, rfl, Nat.zero_le _⟩)
                  clear FW F5 HS1 QV
                  go_loopw [17, 18] (fun ok i wr => ∃ (k pos a' : Nat) (e' : Int), k ≤ l1 ∧ i = .int .i64 k ∧ ok = .bool true ∧ Hid (pos = (gone enc us k).length) ∧ Hid (RD wr gs (full.take a) a' e') ∧ Hid (RD wr gr full pos 0) ∧ Hid (Cut a pos a' e') ∧ Hid (Fr No W wr)) (fun _ i _ => l1 - (intOf i).toNat)
                  case atStart => exact ⟨0, 0, 0, 0, by omega, rfl, rfl, hide rfl, RS0, RR0, CC0, FF0⟩
                  case round =>
                    clear RS0 RR0 CC0 FF0 
                    obtain ⟨k, pos, a', e', hk, rfl, rfl, HP, RSh, RRd, HC, FF⟩ := hrel
                    by_cases hlt : k < l1
                    · obtain ⟨x, hx⟩ : ∃ x, us[k]? = some x := ⟨_, List.getElem?_eq_getElem (by rw [E1.out]; exact hlt)⟩
                      obtain ⟨ad, rfl, _, hcell⟩ := (R1.out.fr0 FF.out) k (.int .u64 (x : Nat)) (by simp [u64s, hx])
                      have hmem := List.mem_of_getElem? hx
                      have HDr : Hid (full.drop pos = enc x ++ ((us.drop (k + 1)).flatMap enc ++ (X2 ++ X3))) := hide (by
                        rw [HP.out]
                        rw [HD.out, ← HX1.out, gone_all enc us (k := l1) (by rw [E1.out]; omega), gone_split enc us hx]
                        simp only [List.append_assoc]
                        rw [List.drop_left])
                      have HW := hide (uint_whole (US.out x hmem) HDr.out)
                      have HCt := hide (uint_cut (US.out x hmem) HDr.out HC.out)
                      have HQ := hide (show pos + (enc x).length = (gone enc us (k + 1)).length by rw [HP.out, gone_succ enc us hx, List.length_append]; try omega)
                      have CS := hide (fun (W : World) (h : RD W gs (full.take a) a' e') => uint_any gs (full.take a) a' e' W h)
                      have CR := hide (fun (W : World) (h : RD W gr full pos 0) => uint_any gr full pos 0 W h)
                      generalize uintR (full.take a) a' e' = y at HCt CS
                      rw [HW.out] at CR
                      skip
                      obtain ⟨pn, HPN⟩ : ∃ pn, Hid (pos + (enc x).length = pn) := ⟨_, hide rfl⟩
                      rw [HPN.out] at HCt HQ CR
                      have hb : ((x : Int) == (x : Int)) = true := by simp
                      have HXX := hide hx
                      clear hx hmem HDr HW
                      go_wp2_with (go_at_call 9; refine (CS.out _ RSh.out).mono ?_; rintro en w3 ⟨rfl, hrd, hfr⟩; have S3 := hide hrd; have RQ3 := hide (RRd.out.other RSh.out hfr hne); have F3 := hide (FF.out.own1 hfr hgsW); have hcell3 : w3.cell? (ad.add k) = some (.int .u64 (x : Nat)) := (((R1.out.fr0 (FF.out.own1 hfr hgsW)) k (.int .u64 (x : Nat)) (by simp [u64s, HXX.out])).elim (fun ad' h => by have e := Option.some.inj h.1; rw [e]; exact h.2.2)); clear hrd hfr)
                      go_region_with (go_at_call 9; refine (CR.out _ (RD.drew1 RQ3.out)).mono ?_; rintro en w4 ⟨rfl, hrd, hfr⟩; have R4 := hide hrd; have f4 : Hid (Fr (Is gr) w3 w4) := ⟨hfr.os, hfr.tape, hfr.output, hfr.size, hfr.block⟩; have S4 := hide (S3.out.other RQ3.out f4.out (fun e => hne e.symm)); have F4 := hide (F3.out.own1 f4.out hgrW); clear hrd hfr; have hcell4 : w4.cell? (ad.add k) = some (.int .u64 (x : Nat)) := (((R1.out.fr0 F4.out) k (.int .u64 (x : Nat)) (by simp [u64s, HXX.out])).elim (fun ad' h => by have e := Option.some.inj h.1; rw [e]; exact h.2.2)))
                      all_goals (try go_wp2)
                      all_goals
                        go_roundw
                        case rel => exact ⟨k + 1, pn, _, _, by omega, by go_num, rfl, HQ, S4, R4, HCt, F4⟩
                        case measure => simp [intOf]; omega
                    · obtain rfl : k = l1 := by omega
                      obtain ⟨pos0, hp0⟩ : ∃ p, p = pos := ⟨_, rfl⟩
                      rw [← hp0] at HP RRd HC
                      obtain ⟨a0, e0, RS0, RR0, CC0, FF0⟩ : ∃ (a0 : Nat) (e0 : Int), Hid (RD wr gs (full.take a) a0 e0) ∧ Hid (RD wr gr full pos0 0) ∧ Hid (Cut a pos0 a0 e0) ∧ Hid (Fr No W wr) := ⟨a', e', RSh, RRd, HC, FF⟩
                      have P1 := hide (show pos0 = X1.length by rw [HP.out, HX1.out])
                      clear RSh RRd HC FF HP hp0
                      go_wp2
                      clear hlt hk
                      go_loopw [17, 19] (fun ok i wr => ∃ (k pos a' : Nat) (e' : Int), k ≤ l2 ∧ i = .int .i64 k ∧ ok = .bool true ∧ Hid (pos = X1.length + (gone (fun n => enc (zz n)) ns k).length) ∧ Hid (RD wr gs (full.take a) a' e') ∧ Hid (RD wr gr full pos 0) ∧ Hid (Cut a pos a' e') ∧ Hid (Fr No W wr)) (fun _ i _ => l2 - (intOf i).toNat)
                      case atStart => exact ⟨0, pos0, a0, e0, by omega, rfl, rfl, hide (by rw [P1.out]; rfl), RS0, RR0, CC0, FF0⟩
                      case round =>
                        clear RS0 RR0 CC0 FF0 P1
                        obtain ⟨k, pos, a', e', hk, rfl, rfl, HP, RSh, RRd, HC, FF⟩ := hrel
                        by_cases hlt : k < l2
                        · obtain ⟨x, hx⟩ : ∃ x, ns[k]? = some x := ⟨_, List.getElem?_eq_getElem (by rw [E2.out]; exact hlt)⟩
                          obtain ⟨ad, rfl, _, hcell⟩ := (R2.out.fr0 FF.out) k (.int .i64 x) (by simp [i64s, hx])
                          have hmem := List.mem_of_getElem? hx
                          have HDr : Hid (full.drop pos = enc (zz x) ++ ((ns.drop (k + 1)).flatMap (fun n => enc (zz n)) ++ X3)) := hide (by
                            rw [HP.out]
                            rw [HD.out, ← HX2.out, gone_all _ ns (k := l2) (by rw [E2.out]; omega), gone_split (fun n => enc (zz n)) ns hx]
                            simp only [List.append_assoc]
                            rw [← List.append_assoc X1, ← List.length_append, List.drop_left])
                          have HW := hide (uint_whole (zz_lt (NS.out x hmem).1 (NS.out x hmem).2) HDr.out)
                          have HCt := hide (uint_cut (zz_lt (NS.out x hmem).1 (NS.out x hmem).2) HDr.out HC.out)
                          have HQ := hide (show pos + (enc (zz x)).length = X1.length + (gone (fun n => enc (zz n)) ns (k + 1)).length by rw [HP.out, gone_succ (fun n => enc (zz n)) ns hx, List.length_append]; try omega)
                          have CS := hide (fun (W : World) (h : RD W gs (full.take a) a' e') => int_any gs (full.take a) a' e' W h)
                          have CR := hide (fun (W : World) (h : RD W gr full pos 0) => int_any gr full pos 0 W h)
                          generalize uintR (full.take a) a' e' = y at HCt CS
                          rw [HW.out] at CR
                          simp only [unzz_zz] at CR
                          obtain ⟨pn, HPN⟩ : ∃ pn, Hid (pos + (enc (zz x)).length = pn) := ⟨_, hide rfl⟩
                          rw [HPN.out] at HCt HQ CR
                          have hb : (x == x) = true := by simp
                          have HXX := hide hx
                          clear hx hmem HDr HW
                          go_wp2_with (go_at_call 11; refine (CS.out _ RSh.out).mono ?_; rintro en w3 ⟨rfl, hrd, hfr⟩; have S3 := hide hrd; have RQ3 := hide (RRd.out.other RSh.out hfr hne); have F3 := hide (FF.out.own1 hfr hgsW); have hcell3 : w3.cell? (ad.add k) = some (.int .i64 x) := (((R2.out.fr0 (FF.out.own1 hfr hgsW)) k (.int .i64 x) (by simp [i64s, HXX.out])).elim (fun ad' h => by have e := Option.some.inj h.1; rw [e]; exact h.2.2)); clear hrd hfr)
                          go_region_with (go_at_call 11; refine (CR.out _ (RD.drew1 RQ3.out)).mono ?_; rintro en w4 ⟨rfl, hrd, hfr⟩; have R4 := hide hrd; have f4 : Hid (Fr (Is gr) w3 w4) := ⟨hfr.os, hfr.tape, hfr.output, hfr.size, hfr.block⟩; have S4 := hide (S3.out.other RQ3.out f4.out (fun e => hne e.symm)); have F4 := hide (F3.out.own1 f4.out hgrW); clear hrd hfr; have hcell4 : w4.cell? (ad.add k) = some (.int .i64 x) := (((R2.out.fr0 F4.out) k (.int .i64 x) (by simp [i64s, HXX.out])).elim (fun ad' h => by have e := Option.some.inj h.1; rw [e]; exact h.2.2)))
                          all_goals (try go_wp2)
                          all_goals
                            go_roundw
                            case rel => exact ⟨k + 1, pn, _, _, by omega, by go_num, rfl, HQ, S4, R4, HCt, F4⟩
                            case measure => simp [intOf]; omega
                        · obtain rfl : k = l2 := by omega
                          obtain ⟨pos0, hp0⟩ : ∃ p, p = pos := ⟨_, rfl⟩
                          rw [← hp0] at HP RRd HC
                          obtain ⟨a0, e0, RS0, RR0, CC0, FF0⟩ : ∃ (a0 : Nat) (e0 : Int), Hid (RD wr gs (full.take a) a0 e0) ∧ Hid (RD wr gr full pos0 0) ∧ Hid (Cut a pos0 a0 e0) ∧ Hid (Fr No W wr) := ⟨a', e', RSh, RRd, HC, FF⟩
                          have P2 := hide (show pos0 = X1.length + X2.length by rw [HP.out, HX2.out])
                          clear RSh RRd HC FF HP hp0
                          go_wp2
                          clear hlt hk
                          go_loopw [17, 20] (fun ok i wr => ∃ (k pos a' : Nat) (e' : Int), k ≤ l3 ∧ i = .int .i64 k ∧ ok = .bool true ∧ Hid (pos = X1.length + X2.length + (gone encT ts k).length) ∧ Hid (RD wr gs (full.take a) a' e') ∧ Hid (RD wr gr full pos 0) ∧ Hid (Cut a pos a' e') ∧ Hid (Fr No W wr)) (fun _ i _ => l3 - (intOf i).toNat)
                          case atStart => exact ⟨0, pos0, a0, e0, by omega, rfl, rfl, hide (by rw [P2.out]; rfl), RS0, RR0, CC0, FF0⟩
                          case round =>
                            clear RS0 RR0 CC0 FF0 P2
                            obtain ⟨k, pos, a', e', hk, rfl, rfl, HP, RSh, RRd, HC, FF⟩ := hrel
                            by_cases hlt : k < l3
                            · obtain ⟨x, hx⟩ : ∃ x, ts[k]? = some x := ⟨_, List.getElem?_eq_getElem (by rw [E3.out]; exact hlt)⟩
                              obtain ⟨ad, rfl, _, hcell⟩ := (R3.out.fr0 FF.out) k (.string x) (by simp [strs, hx])
                              have hmem := List.mem_of_getElem? hx
                              have HDr : Hid (full.drop pos = encT x ++ ((ts.drop (k + 1)).flatMap encT)) := hide (by
                                rw [HP.out]
                                rw [HD.out, ← HX3.out, gone_all _ ts (k := l3) (by rw [E3.out]; omega), gone_split encT ts hx]
                                rw [← List.append_assoc, ← List.length_append, ← List.length_append, List.drop_left])
                              have HW := hide (text_whole (most := 20000) (HSm.out k x hx) (by have := HSm.out k x hx; omega) HDr.out)
                              have HCt := hide (text_cut' (most := 20000) (HSm.out k x hx) (by have := HSm.out k x hx; omega) HDr.out HC.out)
                              have HQ := hide (show pos + (encT x).length = X1.length + X2.length + (gone encT ts (k + 1)).length by rw [HP.out, gone_succ encT ts hx, List.length_append]; try omega)
                              have CS := hide (fun (W : World) (h : RD W gs (full.take a) a' e') => text_any gs (full.take a) a' e' (20000 : Nat) W h (by decide) (by decide))
                              have CR := hide (fun (W : World) (h : RD W gr full pos 0) => text_any gr full pos 0 (20000 : Nat) W h (by decide) (by decide))
                              generalize textS (full.take a) a' e' (20000 : Nat) = y at HCt CS
                              rw [HW.out] at CR
                              (have ets : (⟨x.data.toList.toArray⟩ : ByteArray) = x := (by cases x; simp)); simp only [ets] at CR; rw [show (((20000 : Nat)) : Int) = 20000 from rfl] at CS CR
                              obtain ⟨pn, HPN⟩ : ∃ pn, Hid (pos + (encT x).length = pn) := ⟨_, hide rfl⟩
                              rw [HPN.out] at HCt HQ CR
                              have hb : (x == x) = true := by (show (x.data == x.data) = true; exact beq_self_eq_true _)
                              have HXX := hide hx
                              clear hx hmem HDr HW
                              go_wp2_with (go_at_call 24; refine (CS.out _ RSh.out).mono ?_; rintro en w3 ⟨rfl, hrd, hfr⟩; have S3 := hide hrd; have RQ3 := hide (RRd.out.other RSh.out hfr hne); have F3 := hide (FF.out.own1 hfr hgsW); have hcell3 : w3.cell? (ad.add k) = some (.string x) := (((R3.out.fr0 (FF.out.own1 hfr hgsW)) k (.string x) (by simp [strs, HXX.out])).elim (fun ad' h => by have e := Option.some.inj h.1; rw [e]; exact h.2.2)); clear hrd hfr)
                              go_region_with (go_at_call 24; refine (CR.out _ (RD.drew1 RQ3.out)).mono ?_; rintro en w4 ⟨rfl, hrd, hfr⟩; have R4 := hide hrd; have f4 : Hid (Fr (Is gr) w3 w4) := ⟨hfr.os, hfr.tape, hfr.output, hfr.size, hfr.block⟩; have S4 := hide (S3.out.other RQ3.out f4.out (fun e => hne e.symm)); have F4 := hide (F3.out.own1 f4.out hgrW); clear hrd hfr; have hcell4 : w4.cell? (ad.add k) = some (.string x) := (((R3.out.fr0 F4.out) k (.string x) (by simp [strs, HXX.out])).elim (fun ad' h => by have e := Option.some.inj h.1; rw [e]; exact h.2.2)))
                              all_goals (try go_wp2)
                              all_goals
                                go_roundw
                                case rel => exact ⟨k + 1, pn, _, _, by omega, by go_num, rfl, HQ, S4, R4, HCt, F4⟩
                                case measure => simp [intOf]; omega
                            · obtain rfl : k = l3 := by omega
                              have hpos : pos = full.length := by rw [HP.out, HD.out, HX3.out, List.length_append, List.length_append]
                              have HLf := hide (fun (W : World) (h : RD W gr full pos 0) => left_any gr full pos 0 W h)
                              have HEn := hide (fun (W : World) (h : RD W gr full pos 0) => end_any gr full pos 0 W h)
                              rw [hpos, Nat.sub_self] at HLf
                              rw [hpos, show endE full full.length 0 = 0 from if_neg (by omega)] at HEn
                              rw [hpos] at RRd
                              have he20 : Hid (N = 0 ∨ e' = 20) := by
                                rcases HA.out with h | h
                                · exact .inl h
                                · refine .inr ?_
                                  rcases HC.out with h2 | ⟨_, _, h2⟩
                                  · exact h2
                                  · have := HN.out
                                    omega
                              clear hpos HP HC
                              have hfin : N = 0 ∨ (0 < N ∧ e' = 20) := by
                                rcases he20.out with h | h
                                · exact .inl h
                                · by_cases h0 : N = 0
                                  · exact .inl h0
                                  · exact .inr ⟨by omega, h⟩
                              have hN1 : (((N : Nat) : Int) == 0) = true ∨ (((N : Nat) : Int) == 0) = false ∧ e' = 20 := by
                                rcases hfin with h | h
                                · exact .inl (by simp; omega)
                                · exact .inr ⟨by simp; omega, h.2⟩
                              clear hfin he20
                              rcases hN1 with hN1 | ⟨hN1, rfl⟩
                              all_goals
                                go_wp2_with (first
                                  | (go_at_call 10; refine (HLf.out _ RRd.out).mono ?_; rintro en w8 ⟨rfl, nq, rfl⟩)
                                  | (go_at_call 25; refine (HEn.out _ (RRd.out.drewN _)).mono ?_; rintro en w9 ⟨rfl, hrd, hfr⟩; have S9 := hide ((RSh.out.drewN nq).other (RRd.out.drewN nq) hfr (fun e => hne e.symm)); have F9 := hide ((FF.out.drewN nq).own1 hfr hgrW); clear hrd hfr)
                                  | (go_at_call 12; refine (err_any gs (full.take a) a' 20 _ S9.out).mono ?_; rintro en w10 ⟨rfl, rfl⟩))
                                go_ret
                                exact ⟨rfl, F9.out⟩
                · skip
                  have HF1 := hide (FW.out)
                  go_wp2_with (first
                    | (go_at_call 8; have mk := HS1; clear mk; refine (newReader_any Av _ cv _ full w5 (by have := HN.out; omega) (by omega) HV2.out (by omega) (Nat.le_refl _) ((QV.out.fr0 F5.out).more F5.out.size)).mono ?_; rintro en w6 ⟨gr, rfl, hg, hrd, hfr⟩; have RR0 := hide hrd; have RS0 := hide (HS1.out.fr0 hfr); have FF0 := hide ((FW.out.tr F5.out).tr hfr); have hgr := hg; have hne : gr ≠ gs := Nat.ne_of_gt (Nat.lt_of_lt_of_le HS1.out.lt hg); clear hrd hfr hg)
                    | (go_at_call 8; refine (newReader_any Av _ cv _ (full.take a) wr (by rw [List.length_take, HN.out]; omega) (by omega) HV2.out (by omega) (Nat.le_refl _) (by rw [by8_take]; exact QV.out.tk a)).mono ?_; rintro en w5 ⟨gs, rfl, hg, hrd, hfr⟩; have HS1 := hide hrd; have F5 := hide hfr; have hgs := hg; clear hrd hfr hg))
                  have hsz1 := FW.out.size
                  have hsz2 := F5.out.size
                  have hgsW : W.heap.size ≤ gs := by omega
                  have hgrW : W.heap.size ≤ gr := by omega
                  have CC0 : Hid (Cut a 0 0 0) := hide (.inr ⟨rfl, rfl, Nat.zero_le _⟩)
                  clear FW F5 HS1 QV
                  go_loopw [17, 18] (fun ok i wr => ∃ (k pos a' : Nat) (e' : Int), k ≤ l1 ∧ i = .int .i64 k ∧ ok = .bool true ∧ Hid (pos = (gone enc us k).length) ∧ Hid (RD wr gs (full.take a) a' e') ∧ Hid (RD wr gr full pos 0) ∧ Hid (Cut a pos a' e') ∧ Hid (Fr No W wr)) (fun _ i _ => l1 - (intOf i).toNat)
                  case atStart => exact ⟨0, 0, 0, 0, by omega, rfl, rfl, hide rfl, RS0, RR0, CC0, FF0⟩
                  case round =>
                    clear RS0 RR0 CC0 FF0 
                    obtain ⟨k, pos, a', e', hk, rfl, rfl, HP, RSh, RRd, HC, FF⟩ := hrel
                    by_cases hlt : k < l1
                    · obtain ⟨x, hx⟩ : ∃ x, us[k]? = some x := ⟨_, List.getElem?_eq_getElem (by rw [E1.out]; exact hlt)⟩
                      obtain ⟨ad, rfl, _, hcell⟩ := (R1.out.fr0 FF.out) k (.int .u64 (x : Nat)) (by simp [u64s, hx])
                      have hmem := List.mem_of_getElem? hx
                      have HDr : Hid (full.drop pos = enc x ++ ((us.drop (k + 1)).flatMap enc ++ (X2 ++ X3))) := hide (by
                        rw [HP.out]
                        rw [HD.out, ← HX1.out, gone_all enc us (k := l1) (by rw [E1.out]; omega), gone_split enc us hx]
                        simp only [List.append_assoc]
                        rw [List.drop_left])
                      have HW := hide (uint_whole (US.out x hmem) HDr.out)
                      have HCt := hide (uint_cut (US.out x hmem) HDr.out HC.out)
                      have HQ := hide (show pos + (enc x).length = (gone enc us (k + 1)).length by rw [HP.out, gone_succ enc us hx, List.length_append]; try omega)
                      have CS := hide (fun (W : World) (h : RD W gs (full.take a) a' e') => uint_any gs (full.take a) a' e' W h)
                      have CR := hide (fun (W : World) (h : RD W gr full pos 0) => uint_any gr full pos 0 W h)
                      generalize uintR (full.take a) a' e' = y at HCt CS
                      rw [HW.out] at CR
                      skip
                      obtain ⟨pn, HPN⟩ : ∃ pn, Hid (pos + (enc x).length = pn) := ⟨_, hide rfl⟩
                      rw [HPN.out] at HCt HQ CR
                      have hb : ((x : Int) == (x : Int)) = true := by simp
                      have HXX := hide hx
                      clear hx hmem HDr HW
                      go_wp2_with (go_at_call 9; refine (CS.out _ RSh.out).mono ?_; rintro en w3 ⟨rfl, hrd, hfr⟩; have S3 := hide hrd; have RQ3 := hide (RRd.out.other RSh.out hfr hne); have F3 := hide (FF.out.own1 hfr hgsW); have hcell3 : w3.cell? (ad.add k) = some (.int .u64 (x : Nat)) := (((R1.out.fr0 (FF.out.own1 hfr hgsW)) k (.int .u64 (x : Nat)) (by simp [u64s, HXX.out])).elim (fun ad' h => by have e := Option.some.inj h.1; rw [e]; exact h.2.2)); clear hrd hfr)
                      go_region_with (go_at_call 9; refine (CR.out _ (RD.drew1 RQ3.out)).mono ?_; rintro en w4 ⟨rfl, hrd, hfr⟩; have R4 := hide hrd; have f4 : Hid (Fr (Is gr) w3 w4) := ⟨hfr.os, hfr.tape, hfr.output, hfr.size, hfr.block⟩; have S4 := hide (S3.out.other RQ3.out f4.out (fun e => hne e.symm)); have F4 := hide (F3.out.own1 f4.out hgrW); clear hrd hfr; have hcell4 : w4.cell? (ad.add k) = some (.int .u64 (x : Nat)) := (((R1.out.fr0 F4.out) k (.int .u64 (x : Nat)) (by simp [u64s, HXX.out])).elim (fun ad' h => by have e := Option.some.inj h.1; rw [e]; exact h.2.2)))
                      all_goals (try go_wp2)
                      all_goals
                        go_roundw
                        case rel => exact ⟨k + 1, pn, _, _, by omega, by go_num, rfl, HQ, S4, R4, HCt, F4⟩
                        case measure => simp [intOf]; omega
                    · obtain rfl : k = l1 := by omega
                      obtain ⟨pos0, hp0⟩ : ∃ p, p = pos := ⟨_, rfl⟩
                      rw [← hp0] at HP RRd HC
                      obtain ⟨a0, e0, RS0, RR0, CC0, FF0⟩ : ∃ (a0 : Nat) (e0 : Int), Hid (RD wr gs (full.take a) a0 e0) ∧ Hid (RD wr gr full pos0 0) ∧ Hid (Cut a pos0 a0 e0) ∧ Hid (Fr No W wr) := ⟨a', e', RSh, RRd, HC, FF⟩
                      have P1 := hide (show pos0 = X1.length by rw [HP.out, HX1.out])
                      clear RSh RRd HC FF HP hp0
                      go_wp2
                      clear hlt hk
                      go_loopw [17, 19] (fun ok i wr => ∃ (k pos a' : Nat) (e' : Int), k ≤ l2 ∧ i = .int .i64 k ∧ ok = .bool true ∧ Hid (pos = X1.length + (gone (fun n => enc (zz n)) ns k).length) ∧ Hid (RD wr gs (full.take a) a' e') ∧ Hid (RD wr gr full pos 0) ∧ Hid (Cut a pos a' e') ∧ Hid (Fr No W wr)) (fun _ i _ => l2 - (intOf i).toNat)
                      case atStart => exact ⟨0, pos0, a0, e0, by omega, rfl, rfl, hide (by rw [P1.out]; rfl), RS0, RR0, CC0, FF0⟩
                      case round =>
                        clear RS0 RR0 CC0 FF0 P1
                        obtain ⟨k, pos, a', e', hk, rfl, rfl, HP, RSh, RRd, HC, FF⟩ := hrel
                        by_cases hlt : k < l2
                        · obtain ⟨x, hx⟩ : ∃ x, ns[k]? = some x := ⟨_, List.getElem?_eq_getElem (by rw [E2.out]; exact hlt)⟩
                          obtain ⟨ad, rfl, _, hcell⟩ := (R2.out.fr0 FF.out) k (.int .i64 x) (by simp [i64s, hx])
                          have hmem := List.mem_of_getElem? hx
                          have HDr : Hid (full.drop pos = enc (zz x) ++ ((ns.drop (k + 1)).flatMap (fun n => enc (zz n)) ++ X3)) := hide (by
                            rw [HP.out]
                            rw [HD.out, ← HX2.out, gone_all _ ns (k := l2) (by rw [E2.out]; omega), gone_split (fun n => enc (zz n)) ns hx]
                            simp only [List.append_assoc]
                            rw [← List.append_assoc X1, ← List.length_append, List.drop_left])
                          have HW := hide (uint_whole (zz_lt (NS.out x hmem).1 (NS.out x hmem).2) HDr.out)
                          have HCt := hide (uint_cut (zz_lt (NS.out x hmem).1 (NS.out x hmem).2) HDr.out HC.out)
                          have HQ := hide (show pos + (enc (zz x)).length = X1.length + (gone (fun n => enc (zz n)) ns (k + 1)).length by rw [HP.out, gone_succ (fun n => enc (zz n)) ns hx, List.length_append]; try omega)
                          have CS := hide (fun (W : World) (h : RD W gs (full.take a) a' e') => int_any gs (full.take a) a' e' W h)
                          have CR := hide (fun (W : World) (h : RD W gr full pos 0) => int_any gr full pos 0 W h)
                          generalize uintR (full.take a) a' e' = y at HCt CS
                          rw [HW.out] at CR
                          simp only [unzz_zz] at CR
                          obtain ⟨pn, HPN⟩ : ∃ pn, Hid (pos + (enc (zz x)).length = pn) := ⟨_, hide rfl⟩
                          rw [HPN.out] at HCt HQ CR
                          have hb : (x == x) = true := by simp
                          have HXX := hide hx
                          clear hx hmem HDr HW
                          go_wp2_with (go_at_call 11; refine (CS.out _ RSh.out).mono ?_; rintro en w3 ⟨rfl, hrd, hfr⟩; have S3 := hide hrd; have RQ3 := hide (RRd.out.other RSh.out hfr hne); have F3 := hide (FF.out.own1 hfr hgsW); have hcell3 : w3.cell? (ad.add k) = some (.int .i64 x) := (((R2.out.fr0 (FF.out.own1 hfr hgsW)) k (.int .i64 x) (by simp [i64s, HXX.out])).elim (fun ad' h => by have e := Option.some.inj h.1; rw [e]; exact h.2.2)); clear hrd hfr)
                          go_region_with (go_at_call 11; refine (CR.out _ (RD.drew1 RQ3.out)).mono ?_; rintro en w4 ⟨rfl, hrd, hfr⟩; have R4 := hide hrd; have f4 : Hid (Fr (Is gr) w3 w4) := ⟨hfr.os, hfr.tape, hfr.output, hfr.size, hfr.block⟩; have S4 := hide (S3.out.other RQ3.out f4.out (fun e => hne e.symm)); have F4 := hide (F3.out.own1 f4.out hgrW); clear hrd hfr; have hcell4 : w4.cell? (ad.add k) = some (.int .i64 x) := (((R2.out.fr0 F4.out) k (.int .i64 x) (by simp [i64s, HXX.out])).elim (fun ad' h => by have e := Option.some.inj h.1; rw [e]; exact h.2.2)))
                          all_goals (try go_wp2)
                          all_goals
                            go_roundw
                            case rel => exact ⟨k + 1, pn, _, _, by omega, by go_num, rfl, HQ, S4, R4, HCt, F4⟩
                            case measure => simp [intOf]; omega
                        · obtain rfl : k = l2 := by omega
                          obtain ⟨pos0, hp0⟩ : ∃ p, p = pos := ⟨_, rfl⟩
                          rw [← hp0] at HP RRd HC
                          obtain ⟨a0, e0, RS0, RR0, CC0, FF0⟩ : ∃ (a0 : Nat) (e0 : Int), Hid (RD wr gs (full.take a) a0 e0) ∧ Hid (RD wr gr full pos0 0) ∧ Hid (Cut a pos0 a0 e0) ∧ Hid (Fr No W wr) := ⟨a', e', RSh, RRd, HC, FF⟩
                          have P2 := hide (show pos0 = X1.length + X2.length by rw [HP.out, HX2.out])
                          clear RSh RRd HC FF HP hp0
                          go_wp2
                          clear hlt hk
                          go_loopw [17, 20] (fun ok i wr => ∃ (k pos a' : Nat) (e' : Int), k ≤ l3 ∧ i = .int .i64 k ∧ ok = .bool true ∧ Hid (pos = X1.length + X2.length + (gone encT ts k).length) ∧ Hid (RD wr gs (full.take a) a' e') ∧ Hid (RD wr gr full pos 0) ∧ Hid (Cut a pos a' e') ∧ Hid (Fr No W wr)) (fun _ i _ => l3 - (intOf i).toNat)
                          case atStart => exact ⟨0, pos0, a0, e0, by omega, rfl, rfl, hide (by rw [P2.out]; rfl), RS0, RR0, CC0, FF0⟩
                          case round =>
                            clear RS0 RR0 CC0 FF0 P2
                            obtain ⟨k, pos, a', e', hk, rfl, rfl, HP, RSh, RRd, HC, FF⟩ := hrel
                            by_cases hlt : k < l3
                            · obtain ⟨x, hx⟩ : ∃ x, ts[k]? = some x := ⟨_, List.getElem?_eq_getElem (by rw [E3.out]; exact hlt)⟩
                              obtain ⟨ad, rfl, _, hcell⟩ := (R3.out.fr0 FF.out) k (.string x) (by simp [strs, hx])
                              have hmem := List.mem_of_getElem? hx
                              have HDr : Hid (full.drop pos = encT x ++ ((ts.drop (k + 1)).flatMap encT)) := hide (by
                                rw [HP.out]
                                rw [HD.out, ← HX3.out, gone_all _ ts (k := l3) (by rw [E3.out]; omega), gone_split encT ts hx]
                                rw [← List.append_assoc, ← List.length_append, ← List.length_append, List.drop_left])
                              have HW := hide (text_whole (most := 20000) (HSm.out k x hx) (by have := HSm.out k x hx; omega) HDr.out)
                              have HCt := hide (text_cut' (most := 20000) (HSm.out k x hx) (by have := HSm.out k x hx; omega) HDr.out HC.out)
                              have HQ := hide (show pos + (encT x).length = X1.length + X2.length + (gone encT ts (k + 1)).length by rw [HP.out, gone_succ encT ts hx, List.length_append]; try omega)
                              have CS := hide (fun (W : World) (h : RD W gs (full.take a) a' e') => text_any gs (full.take a) a' e' (20000 : Nat) W h (by decide) (by decide))
                              have CR := hide (fun (W : World) (h : RD W gr full pos 0) => text_any gr full pos 0 (20000 : Nat) W h (by decide) (by decide))
                              generalize textS (full.take a) a' e' (20000 : Nat) = y at HCt CS
                              rw [HW.out] at CR
                              (have ets : (⟨x.data.toList.toArray⟩ : ByteArray) = x := (by cases x; simp)); simp only [ets] at CR; rw [show (((20000 : Nat)) : Int) = 20000 from rfl] at CS CR
                              obtain ⟨pn, HPN⟩ : ∃ pn, Hid (pos + (encT x).length = pn) := ⟨_, hide rfl⟩
                              rw [HPN.out] at HCt HQ CR
                              have hb : (x == x) = true := by (show (x.data == x.data) = true; exact beq_self_eq_true _)
                              have HXX := hide hx
                              clear hx hmem HDr HW
                              go_wp2_with (go_at_call 24; refine (CS.out _ RSh.out).mono ?_; rintro en w3 ⟨rfl, hrd, hfr⟩; have S3 := hide hrd; have RQ3 := hide (RRd.out.other RSh.out hfr hne); have F3 := hide (FF.out.own1 hfr hgsW); have hcell3 : w3.cell? (ad.add k) = some (.string x) := (((R3.out.fr0 (FF.out.own1 hfr hgsW)) k (.string x) (by simp [strs, HXX.out])).elim (fun ad' h => by have e := Option.some.inj h.1; rw [e]; exact h.2.2)); clear hrd hfr)
                              go_region_with (go_at_call 24; refine (CR.out _ (RD.drew1 RQ3.out)).mono ?_; rintro en w4 ⟨rfl, hrd, hfr⟩; have R4 := hide hrd; have f4 : Hid (Fr (Is gr) w3 w4) := ⟨hfr.os, hfr.tape, hfr.output, hfr.size, hfr.block⟩; have S4 := hide (S3.out.other RQ3.out f4.out (fun e => hne e.symm)); have F4 := hide (F3.out.own1 f4.out hgrW); clear hrd hfr; have hcell4 : w4.cell? (ad.add k) = some (.string x) := (((R3.out.fr0 F4.out) k (.string x) (by simp [strs, HXX.out])).elim (fun ad' h => by have e := Option.some.inj h.1; rw [e]; exact h.2.2)))
                              all_goals (try go_wp2)
                              all_goals
                                go_roundw
                                case rel => exact ⟨k + 1, pn, _, _, by omega, by go_num, rfl, HQ, S4, R4, HCt, F4⟩
                                case measure => simp [intOf]; omega
                            · obtain rfl : k = l3 := by omega
                              have hpos : pos = full.length := by rw [HP.out, HD.out, HX3.out, List.length_append, List.length_append]
                              have HLf := hide (fun (W : World) (h : RD W gr full pos 0) => left_any gr full pos 0 W h)
                              have HEn := hide (fun (W : World) (h : RD W gr full pos 0) => end_any gr full pos 0 W h)
                              rw [hpos, Nat.sub_self] at HLf
                              rw [hpos, show endE full full.length 0 = 0 from if_neg (by omega)] at HEn
                              rw [hpos] at RRd
                              have he20 : Hid (N = 0 ∨ e' = 20) := by
                                rcases HA.out with h | h
                                · exact .inl h
                                · refine .inr ?_
                                  rcases HC.out with h2 | ⟨_, _, h2⟩
                                  · exact h2
                                  · have := HN.out
                                    omega
                              clear hpos HP HC
                              have hfin : N = 0 ∨ (0 < N ∧ e' = 20) := by
                                rcases he20.out with h | h
                                · exact .inl h
                                · by_cases h0 : N = 0
                                  · exact .inl h0
                                  · exact .inr ⟨by omega, h⟩
                              have hN1 : (((N : Nat) : Int) == 0) = true ∨ (((N : Nat) : Int) == 0) = false ∧ e' = 20 := by
                                rcases hfin with h | h
                                · exact .inl (by simp; omega)
                                · exact .inr ⟨by simp; omega, h.2⟩
                              clear hfin he20
                              rcases hN1 with hN1 | ⟨hN1, rfl⟩
                              all_goals
                                go_wp2_with (first
                                  | (go_at_call 10; refine (HLf.out _ RRd.out).mono ?_; rintro en w8 ⟨rfl, nq, rfl⟩)
                                  | (go_at_call 25; refine (HEn.out _ (RRd.out.drewN _)).mono ?_; rintro en w9 ⟨rfl, hrd, hfr⟩; have S9 := hide ((RSh.out.drewN nq).other (RRd.out.drewN nq) hfr (fun e => hne e.symm)); have F9 := hide ((FF.out.drewN nq).own1 hfr hgrW); clear hrd hfr)
                                  | (go_at_call 12; refine (err_any gs (full.take a) a' 20 _ S9.out).mono ?_; rintro en w10 ⟨rfl, rfl⟩))
                                go_ret
                                exact ⟨rfl, F9.out⟩
                · skip
                  have HF1 := hide (FW.out)
                  go_wp2_with (first
                    | (go_at_call 8; have mk := HS1; clear mk; refine (newReader_any Av _ cv _ full w5 (by have := HN.out; omega) (by omega) HV2.out (by omega) (Nat.le_refl _) ((QV.out.fr0 F5.out).more F5.out.size)).mono ?_; rintro en w6 ⟨gr, rfl, hg, hrd, hfr⟩; have RR0 := hide hrd; have RS0 := hide (HS1.out.fr0 hfr); have FF0 := hide ((FW.out.tr F5.out).tr hfr); have hgr := hg; have hne : gr ≠ gs := Nat.ne_of_gt (Nat.lt_of_lt_of_le HS1.out.lt hg); clear hrd hfr hg)
                    | (go_at_call 8; refine (newReader_any Av _ cv _ (full.take a) wr (by rw [List.length_take, HN.out]; omega) (by omega) HV2.out (by omega) (Nat.le_refl _) (by rw [by8_take]; exact QV.out.tk a)).mono ?_; rintro en w5 ⟨gs, rfl, hg, hrd, hfr⟩; have HS1 := hide hrd; have F5 := hide hfr; have hgs := hg; clear hrd hfr hg))
                  have hsz1 := FW.out.size
                  have hsz2 := F5.out.size
                  have hgsW : W.heap.size ≤ gs := by omega
                  have hgrW : W.heap.size ≤ gr := by omega
                  have CC0 : Hid (Cut a 0 0 0) := hide (.inr ⟨rfl, rfl, Nat.zero_le _⟩)
                  clear FW F5 HS1 QV
                  go_loopw [17, 18] (fun ok i wr => ∃ (k pos a' : Nat) (e' : Int), k ≤ l1 ∧ i = .int .i64 k ∧ ok = .bool true ∧ Hid (pos = (gone enc us k).length) ∧ Hid (RD wr gs (full.take a) a' e') ∧ Hid (RD wr gr full pos 0) ∧ Hid (Cut a pos a' e') ∧ Hid (Fr No W wr)) (fun _ i _ => l1 - (intOf i).toNat)
                  case atStart => exact ⟨0, 0, 0, 0, by omega, rfl, rfl, hide rfl, RS0, RR0, CC0, FF0⟩
                  case round =>
                    clear RS0 RR0 CC0 FF0 
                    obtain ⟨k, pos, a', e', hk, rfl, rfl, HP, RSh, RRd, HC, FF⟩ := hrel
                    by_cases hlt : k < l1
                    · obtain ⟨x, hx⟩ : ∃ x, us[k]? = some x := ⟨_, List.getElem?_eq_getElem (by rw [E1.out]; exact hlt)⟩
                      obtain ⟨ad, rfl, _, hcell⟩ := (R1.out.fr0 FF.out) k (.int .u64 (x : Nat)) (by simp [u64s, hx])
                      have hmem := List.mem_of_getElem? hx
                      have HDr : Hid (full.drop pos = enc x ++ ((us.drop (k + 1)).flatMap enc ++ (X2 ++ X3))) := hide (by
                        rw [HP.out]
                        rw [HD.out, ← HX1.out, gone_all enc us (k := l1) (by rw [E1.out]; omega), gone_split enc us hx]
                        simp only [List.append_assoc]
                        rw [List.drop_left])
                      have HW := hide (uint_whole (US.out x hmem) HDr.out)
                      have HCt := hide (uint_cut (US.out x hmem) HDr.out HC.out)
                      have HQ := hide (show pos + (enc x).length = (gone enc us (k + 1)).length by rw [HP.out, gone_succ enc us hx, List.length_append]; try omega)
                      have CS := hide (fun (W : World) (h : RD W gs (full.take a) a' e') => uint_any gs (full.take a) a' e' W h)
                      have CR := hide (fun (W : World) (h : RD W gr full pos 0) => uint_any gr full pos 0 W h)
                      generalize uintR (full.take a) a' e' = y at HCt CS
                      rw [HW.out] at CR
                      skip
                      obtain ⟨pn, HPN⟩ : ∃ pn, Hid (pos + (enc x).length = pn) := ⟨_, hide rfl⟩
                      rw [HPN.out] at HCt HQ CR
                      have hb : ((x : Int) == (x : Int)) = true := by simp
                      have HXX := hide hx
                      clear hx hmem HDr HW
                      go_wp2_with (go_at_call 9; refine (CS.out _ RSh.out).mono ?_; rintro en w3 ⟨rfl, hrd, hfr⟩; have S3 := hide hrd; have RQ3 := hide (RRd.out.other RSh.out hfr hne); have F3 := hide (FF.out.own1 hfr hgsW); have hcell3 : w3.cell? (ad.add k) = some (.int .u64 (x : Nat)) := (((R1.out.fr0 (FF.out.own1 hfr hgsW)) k (.int .u64 (x : Nat)) (by simp [u64s, HXX.out])).elim (fun ad' h => by have e := Option.some.inj h.1; rw [e]; exact h.2.2)); clear hrd hfr)
                      go_region_with (go_at_call 9; refine (CR.out _ (RD.drew1 RQ3.out)).mono ?_; rintro en w4 ⟨rfl, hrd, hfr⟩; have R4 := hide hrd; have f4 : Hid (Fr (Is gr) w3 w4) := ⟨hfr.os, hfr.tape, hfr.output, hfr.size, hfr.block⟩; have S4 := hide (S3.out.other RQ3.out f4.out (fun e => hne e.symm)); have F4 := hide (F3.out.own1 f4.out hgrW); clear hrd hfr; have hcell4 : w4.cell? (ad.add k) = some (.int .u64 (x : Nat)) := (((R1.out.fr0 F4.out) k (.int .u64 (x : Nat)) (by simp [u64s, HXX.out])).elim (fun ad' h => by have e := Option.some.inj h.1; rw [e]; exact h.2.2)))
                      all_goals (try go_wp2)
                      all_goals
                        go_roundw
                        case rel => exact ⟨k + 1, pn, _, _, by omega, by go_num, rfl, HQ, S4, R4, HCt, F4⟩
                        case measure => simp [intOf]; omega
                    · obtain rfl : k = l1 := by omega
                      obtain ⟨pos0, hp0⟩ : ∃ p, p = pos := ⟨_, rfl⟩
                      rw [← hp0] at HP RRd HC
                      obtain ⟨a0, e0, RS0, RR0, CC0, FF0⟩ : ∃ (a0 : Nat) (e0 : Int), Hid (RD wr gs (full.take a) a0 e0) ∧ Hid (RD wr gr full pos0 0) ∧ Hid (Cut a pos0 a0 e0) ∧ Hid (Fr No W wr) := ⟨a', e', RSh, RRd, HC, FF⟩
                      have P1 := hide (show pos0 = X1.length by rw [HP.out, HX1.out])
                      clear RSh RRd HC FF HP hp0
                      go_wp2
                      clear hlt hk
                      go_loopw [17, 19] (fun ok i wr => ∃ (k pos a' : Nat) (e' : Int), k ≤ l2 ∧ i = .int .i64 k ∧ ok = .bool true ∧ Hid (pos = X1.length + (gone (fun n => enc (zz n)) ns k).length) ∧ Hid (RD wr gs (full.take a) a' e') ∧ Hid (RD wr gr full pos 0) ∧ Hid (Cut a pos a' e') ∧ Hid (Fr No W wr)) (fun _ i _ => l2 - (intOf i).toNat)
                      case atStart => exact ⟨0, pos0, a0, e0, by omega, rfl, rfl, hide (by rw [P1.out]; rfl), RS0, RR0, CC0, FF0⟩
                      case round =>
                        clear RS0 RR0 CC0 FF0 P1
                        obtain ⟨k, pos, a', e', hk, rfl, rfl, HP, RSh, RRd, HC, FF⟩ := hrel
                        by_cases hlt : k < l2
                        · obtain ⟨x, hx⟩ : ∃ x, ns[k]? = some x := ⟨_, List.getElem?_eq_getElem (by rw [E2.out]; exact hlt)⟩
                          obtain ⟨ad, rfl, _, hcell⟩ := (R2.out.fr0 FF.out) k (.int .i64 x) (by simp [i64s, hx])
                          have hmem := List.mem_of_getElem? hx
                          have HDr : Hid (full.drop pos = enc (zz x) ++ ((ns.drop (k + 1)).flatMap (fun n => enc (zz n)) ++ X3)) := hide (by
                            rw [HP.out]
                            rw [HD.out, ← HX2.out, gone_all _ ns (k := l2) (by rw [E2.out]; omega), gone_split (fun n => enc (zz n)) ns hx]
                            simp only [List.append_assoc]
                            rw [← List.append_assoc X1, ← List.length_append, List.drop_left])
                          have HW := hide (uint_whole (zz_lt (NS.out x hmem).1 (NS.out x hmem).2) HDr.out)
                          have HCt := hide (uint_cut (zz_lt (NS.out x hmem).1 (NS.out x hmem).2) HDr.out HC.out)
                          have HQ := hide (show pos + (enc (zz x)).length = X1.length + (gone (fun n => enc (zz n)) ns (k + 1)).length by rw [HP.out, gone_succ (fun n => enc (zz n)) ns hx, List.length_append]; try omega)
                          have CS := hide (fun (W : World) (h : RD W gs (full.take a) a' e') => int_any gs (full.take a) a' e' W h)
                          have CR := hide (fun (W : World) (h : RD W gr full pos 0) => int_any gr full pos 0 W h)
                          generalize uintR (full.take a) a' e' = y at HCt CS
                          rw [HW.out] at CR
                          simp only [unzz_zz] at CR
                          obtain ⟨pn, HPN⟩ : ∃ pn, Hid (pos + (enc (zz x)).length = pn) := ⟨_, hide rfl⟩
                          rw [HPN.out] at HCt HQ CR
                          have hb : (x == x) = true := by simp
                          have HXX := hide hx
                          clear hx hmem HDr HW
                          go_wp2_with (go_at_call 11; refine (CS.out _ RSh.out).mono ?_; rintro en w3 ⟨rfl, hrd, hfr⟩; have S3 := hide hrd; have RQ3 := hide (RRd.out.other RSh.out hfr hne); have F3 := hide (FF.out.own1 hfr hgsW); have hcell3 : w3.cell? (ad.add k) = some (.int .i64 x) := (((R2.out.fr0 (FF.out.own1 hfr hgsW)) k (.int .i64 x) (by simp [i64s, HXX.out])).elim (fun ad' h => by have e := Option.some.inj h.1; rw [e]; exact h.2.2)); clear hrd hfr)
                          go_region_with (go_at_call 11; refine (CR.out _ (RD.drew1 RQ3.out)).mono ?_; rintro en w4 ⟨rfl, hrd, hfr⟩; have R4 := hide hrd; have f4 : Hid (Fr (Is gr) w3 w4) := ⟨hfr.os, hfr.tape, hfr.output, hfr.size, hfr.block⟩; have S4 := hide (S3.out.other RQ3.out f4.out (fun e => hne e.symm)); have F4 := hide (F3.out.own1 f4.out hgrW); clear hrd hfr; have hcell4 : w4.cell? (ad.add k) = some (.int .i64 x) := (((R2.out.fr0 F4.out) k (.int .i64 x) (by simp [i64s, HXX.out])).elim (fun ad' h => by have e := Option.some.inj h.1; rw [e]; exact h.2.2)))
                          all_goals (try go_wp2)
                          all_goals
                            go_roundw
                            case rel => exact ⟨k + 1, pn, _, _, by omega, by go_num, rfl, HQ, S4, R4, HCt, F4⟩
                            case measure => simp [intOf]; omega
                        · obtain rfl : k = l2 := by omega
                          obtain ⟨pos0, hp0⟩ : ∃ p, p = pos := ⟨_, rfl⟩
                          rw [← hp0] at HP RRd HC
                          obtain ⟨a0, e0, RS0, RR0, CC0, FF0⟩ : ∃ (a0 : Nat) (e0 : Int), Hid (RD wr gs (full.take a) a0 e0) ∧ Hid (RD wr gr full pos0 0) ∧ Hid (Cut a pos0 a0 e0) ∧ Hid (Fr No W wr) := ⟨a', e', RSh, RRd, HC, FF⟩
                          have P2 := hide (show pos0 = X1.length + X2.length by rw [HP.out, HX2.out])
                          clear RSh RRd HC FF HP hp0
                          go_wp2
                          clear hlt hk
                          go_loopw [17, 20] (fun ok i wr => ∃ (k pos a' : Nat) (e' : Int), k ≤ l3 ∧ i = .int .i64 k ∧ ok = .bool true ∧ Hid (pos = X1.length + X2.length + (gone encT ts k).length) ∧ Hid (RD wr gs (full.take a) a' e') ∧ Hid (RD wr gr full pos 0) ∧ Hid (Cut a pos a' e') ∧ Hid (Fr No W wr)) (fun _ i _ => l3 - (intOf i).toNat)
                          case atStart => exact ⟨0, pos0, a0, e0, by omega, rfl, rfl, hide (by rw [P2.out]; rfl), RS0, RR0, CC0, FF0⟩
                          case round =>
                            clear RS0 RR0 CC0 FF0 P2
                            obtain ⟨k, pos, a', e', hk, rfl, rfl, HP, RSh, RRd, HC, FF⟩ := hrel
                            by_cases hlt : k < l3
                            · obtain ⟨x, hx⟩ : ∃ x, ts[k]? = some x := ⟨_, List.getElem?_eq_getElem (by rw [E3.out]; exact hlt)⟩
                              obtain ⟨ad, rfl, _, hcell⟩ := (R3.out.fr0 FF.out) k (.string x) (by simp [strs, hx])
                              have hmem := List.mem_of_getElem? hx
                              have HDr : Hid (full.drop pos = encT x ++ ((ts.drop (k + 1)).flatMap encT)) := hide (by
                                rw [HP.out]
                                rw [HD.out, ← HX3.out, gone_all _ ts (k := l3) (by rw [E3.out]; omega), gone_split encT ts hx]
                                rw [← List.append_assoc, ← List.length_append, ← List.length_append, List.drop_left])
                              have HW := hide (text_whole (most := 20000) (HSm.out k x hx) (by have := HSm.out k x hx; omega) HDr.out)
                              have HCt := hide (text_cut' (most := 20000) (HSm.out k x hx) (by have := HSm.out k x hx; omega) HDr.out HC.out)
                              have HQ := hide (show pos + (encT x).length = X1.length + X2.length + (gone encT ts (k + 1)).length by rw [HP.out, gone_succ encT ts hx, List.length_append]; try omega)
                              have CS := hide (fun (W : World) (h : RD W gs (full.take a) a' e') => text_any gs (full.take a) a' e' (20000 : Nat) W h (by decide) (by decide))
                              have CR := hide (fun (W : World) (h : RD W gr full pos 0) => text_any gr full pos 0 (20000 : Nat) W h (by decide) (by decide))
                              generalize textS (full.take a) a' e' (20000 : Nat) = y at HCt CS
                              rw [HW.out] at CR
                              (have ets : (⟨x.data.toList.toArray⟩ : ByteArray) = x := (by cases x; simp)); simp only [ets] at CR; rw [show (((20000 : Nat)) : Int) = 20000 from rfl] at CS CR
                              obtain ⟨pn, HPN⟩ : ∃ pn, Hid (pos + (encT x).length = pn) := ⟨_, hide rfl⟩
                              rw [HPN.out] at HCt HQ CR
                              have hb : (x == x) = true := by (show (x.data == x.data) = true; exact beq_self_eq_true _)
                              have HXX := hide hx
                              clear hx hmem HDr HW
                              go_wp2_with (go_at_call 24; refine (CS.out _ RSh.out).mono ?_; rintro en w3 ⟨rfl, hrd, hfr⟩; have S3 := hide hrd; have RQ3 := hide (RRd.out.other RSh.out hfr hne); have F3 := hide (FF.out.own1 hfr hgsW); have hcell3 : w3.cell? (ad.add k) = some (.string x) := (((R3.out.fr0 (FF.out.own1 hfr hgsW)) k (.string x) (by simp [strs, HXX.out])).elim (fun ad' h => by have e := Option.some.inj h.1; rw [e]; exact h.2.2)); clear hrd hfr)
                              go_region_with (go_at_call 24; refine (CR.out _ (RD.drew1 RQ3.out)).mono ?_; rintro en w4 ⟨rfl, hrd, hfr⟩; have R4 := hide hrd; have f4 : Hid (Fr (Is gr) w3 w4) := ⟨hfr.os, hfr.tape, hfr.output, hfr.size, hfr.block⟩; have S4 := hide (S3.out.other RQ3.out f4.out (fun e => hne e.symm)); have F4 := hide (F3.out.own1 f4.out hgrW); clear hrd hfr; have hcell4 : w4.cell? (ad.add k) = some (.string x) := (((R3.out.fr0 F4.out) k (.string x) (by simp [strs, HXX.out])).elim (fun ad' h => by have e := Option.some.inj h.1; rw [e]; exact h.2.2)))
                              all_goals (try go_wp2)
                              all_goals
                                go_roundw
                                case rel => exact ⟨k + 1, pn, _, _, by omega, by go_num, rfl, HQ, S4, R4, HCt, F4⟩
                                case measure => simp [intOf]; omega
                            · obtain rfl : k = l3 := by omega
                              have hpos : pos = full.length := by rw [HP.out, HD.out, HX3.out, List.length_append, List.length_append]
                              have HLf := hide (fun (W : World) (h : RD W gr full pos 0) => left_any gr full pos 0 W h)
                              have HEn := hide (fun (W : World) (h : RD W gr full pos 0) => end_any gr full pos 0 W h)
                              rw [hpos, Nat.sub_self] at HLf
                              rw [hpos, show endE full full.length 0 = 0 from if_neg (by omega)] at HEn
                              rw [hpos] at RRd
                              have he20 : Hid (N = 0 ∨ e' = 20) := by
                                rcases HA.out with h | h
                                · exact .inl h
                                · refine .inr ?_
                                  rcases HC.out with h2 | ⟨_, _, h2⟩
                                  · exact h2
                                  · have := HN.out
                                    omega
                              clear hpos HP HC
                              have hfin : N = 0 ∨ (0 < N ∧ e' = 20) := by
                                rcases he20.out with h | h
                                · exact .inl h
                                · by_cases h0 : N = 0
                                  · exact .inl h0
                                  · exact .inr ⟨by omega, h⟩
                              have hN1 : (((N : Nat) : Int) == 0) = true ∨ (((N : Nat) : Int) == 0) = false ∧ e' = 20 := by
                                rcases hfin with h | h
                                · exact .inl (by simp; omega)
                                · exact .inr ⟨by simp; omega, h.2⟩
                              clear hfin he20
                              rcases hN1 with hN1 | ⟨hN1, rfl⟩
                              all_goals
                                go_wp2_with (first
                                  | (go_at_call 10; refine (HLf.out _ RRd.out).mono ?_; rintro en w8 ⟨rfl, nq, rfl⟩)
                                  | (go_at_call 25; refine (HEn.out _ (RRd.out.drewN _)).mono ?_; rintro en w9 ⟨rfl, hrd, hfr⟩; have S9 := hide ((RSh.out.drewN nq).other (RRd.out.drewN nq) hfr (fun e => hne e.symm)); have F9 := hide ((FF.out.drewN nq).own1 hfr hgrW); clear hrd hfr)
                                  | (go_at_call 12; refine (err_any gs (full.take a) a' 20 _ S9.out).mono ?_; rintro en w10 ⟨rfl, rfl⟩))
                                go_ret
                                exact ⟨rfl, F9.out⟩
end
end Go.Proofs.Ytpcoadbbngmpbaa
