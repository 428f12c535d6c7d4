/- The document's sealed bytes: the reference's Seal. Condition: each section has at most 2^47 bytes. -/
import Derived.Test.YtapfbjaopbcgjaaRefSum
import Derived.Test.YtapfbjaopbcgjaaSealW
import Derived.Test.YtapfbjaopbcgjaaRefUint
namespace Go.Proofs.Ytapfbjaopbcgjaa
set_option linter.unusedVariables false
set_option linter.unusedSimpArgs false
open Go.RowKit

theorem head_cells (kind : UInt8) : (#[Value.int .u8 76, .int .u8 84, .int .u8 1, .int .u8 (kind.toNat : Nat)] : Array Value).toList = by8 [76, 84, 1, kind] := rfl

set_option maxRecDepth 100000 in
set_option maxHeartbeats 1600000 in
theorem refSeal_any (kind : UInt8) (A : Option Addr) (n c B : Nat) (bss : List (List UInt8)) (w : World) (hl : bss.length = n) (hn : n ≤ c) (hc : c ≤ maxLen) (hB : B ≤ w.heap.size) (hr : BSl w B A bss) (hbs : ∀ b ∈ bss, b.length ≤ 140737488355328) :
    Calls Try.prog 11 #[.int .u8 (kind.toNat : Nat), .slice A n c] w (GivesSeal kind bss w) := by
  unfold maxLen at hc
  have HR := hide hr
  have HL := hide hl
  have HBS := hide hbs
  clear hr hl hbs
  by_cases hmany : 1024 < n
  · have HX := hide (show longB kind bss = true from decide_eq_true (.inl (by rw [HL.out]; exact hmany)))
    go_enter Try.func11, Try.ntmps11
    go_wp2
    go_ret2
    exact .inl ⟨HX.out, rfl, Fr.refl _ _⟩
  · obtain ⟨i0, hi, hz, hsz, hby⟩ := info_parts Try.info5
    have hel := (enc_len n)
    have HEn : Hid (∀ (W W' : World) (en : Ending), GivesB W (enc n) en W' → _) := hide (fun W W' en h => give_slice rfl h)
    generalize hq : (enc n).length = el at HEn hel
    have HEL := hide hq
    clear hq
    have b1 : (4 + el) * 1 ≤ 140737488355328 := by omega
    have b2 : 4 + el ≤ maxLen := by unfold maxLen; omega
    go_enter Try.func11, Try.ntmps11
    go_wp2_with (first
      | (go_at_call 28; refine (refUint_any n _ (by omega)).mono ?_; intro en w1 hg1; obtain ⟨A1, c1, rfl, hq1, hq2, hq3, hfr⟩ := HEn.out _ _ _ hg1; have HS1 := hide (Src.ofRd (P := Try.prog) (size := 1) w1 Try.underlying23 A1 el c1 (by8 (enc n)) (by rw [by8_length, HEL.out]; omega) (by omega) hq3 (by8_one _)); have O1 := hide ((own_new8 w _ 4 _ 5 (head_cells kind) rfl (by unfold maxLen; omega)).fr0 hfr); have F1 : Hid (Fr No w w1) := hide (((Fr.refl No w).alloc _).tr hfr); have hw1 := F1.out.size; clear hg1 hq3 hfr)
      | (at_builtin; refine wpList_append_gen _ rfl (.tmp 21) (.tmp 22) 23 23 rfl w.heap.size 5 i0 (.int .u8 0) 1 1 Try.underlying23 hi hz hsz hby rfl _ 4 _ rfl O1.out _ el (by8 (enc n)) rfl HS1.out b1 b2 hw1 ?_; intro v2 w2 hown hfr hat; have O2 := hide hown; have F2 : Hid (Fr No w w2) := hide (F1.out.own hfr (fun g hg => .inl (O1.out.lt g hg).1)); clear hown hfr hat))
    have hn1024 : n ≤ 1024 := by omega
    obtain ⟨hd, HHd⟩ : ∃ hd, Hid (hd = [76, 84, 1, kind] ++ enc n) := ⟨_, hide rfl⟩
    have O2' : Hid (Own w2 w.heap.size 5 1 v2 hd.length (by8 hd)) := hide (by
      rw [HHd.out, List.length_append, by8_append, HEL.out]
      exact O2.out)
    have hhd : hd.length ≤ 14 := by
      rw [HHd.out, List.length_append, HEL.out]
      simp
      omega
    clear hmany O1 O2 F1 HS1 HEn
    go_loopw [6, 8, 9] (fun v s i wr => ∃ (k T : Nat) (dn : List UInt8), k ≤ n ∧ i = .int .i64 k ∧ s = .int .i64 (T : Nat) ∧ T ≤ k * 140737488355328 ∧ Hid (T = (bss.take k).flatten.length) ∧ Hid (dn = hd ++ lensB (bss.take k)) ∧ Hid (Own wr w.heap.size 5 1 v dn.length (by8 dn)) ∧ Hid (Fr No w wr)) (fun _ _ i _ => n - (intOf i).toNat)
    case atStart => exact ⟨0, 0, hd, by omega, rfl, rfl, by omega, hide rfl, hide (by simp [lensB]), O2', F2⟩
    case round =>
      clear O2' F2
      obtain ⟨k, T, dn, hk, rfl, rfl, hT, HT, HD, OW, FW⟩ := hrel
      have hT57 : T ≤ 144115188075855872 := by
        have : k * 140737488355328 ≤ 1024 * 140737488355328 := Nat.mul_le_mul_right _ (by omega)
        omega
      have hdn : dn.length ≤ 10254 := by
        have := lens_take_len bss k (by omega)
        rw [HD.out, List.length_append]
        omega
      by_cases hlt : k < n
      · obtain ⟨bs, hx⟩ : ∃ bs, bss[k]? = some bs := ⟨_, List.getElem?_eq_getElem (by rw [HL.out]; exact hlt)⟩
        obtain ⟨ad, Aj, cj, rfl, _, hcell, hj1, hj2, _⟩ := (HR.out.fr0 FW.out) k bs hx
        have HN := hide (flat_succ hx)
        have HM := hide (lens_succ hx)
        have hbl := HBS.out bs (List.mem_of_getElem? hx)
        obtain ⟨m, hm⟩ : ∃ m, m = bs.length := ⟨_, rfl⟩
        rw [← hm] at hcell hj1 HM hbl
        have HTn := hide (show T + m = (bss.take (k + 1)).flatten.length by rw [HN.out, List.length_append, HT.out, ← hm])
        clear hx hm
        obtain ⟨nx, HNX⟩ : ∃ nx, Hid (nx = dn ++ enc m) := ⟨_, hide rfl⟩
        have HNE := hide (show nx = hd ++ lensB (bss.take (k + 1)) by rw [HNX.out, HD.out, HM.out, List.append_assoc])
        have hlm := (enc_len m)
        have HEm := hide (fun W W' en (h : GivesB W (enc m) en W') => give_slice rfl h)
        have HNl := hide (show nx.length = dn.length + (enc m).length by rw [HNX.out, List.length_append])
        have HN8 := hide (show by8 dn ++ by8 (enc m) = by8 nx by rw [HNX.out, by8_append])
        generalize hq : (enc m).length = lm at HEm hlm HNl
        have HLM := hide hq
        clear hq
        obtain ⟨d, hdd⟩ : ∃ d, d = dn.length := ⟨_, rfl⟩
        rw [← hdd] at HNl OW hdn
        clear hdd
        have c1 : (d + lm) * 1 ≤ 140737488355328 := by omega
        have c2 : d + lm ≤ maxLen := by unfold maxLen; omega
        have hTm : T + m ≤ (k + 1) * 140737488355328 := by omega
        unfold maxLen at hj2
        have HCE := hide (fun W (h : W.heap.size = W.heap.size) (f : Fr No wr W) => f.cell hcell (fun h => h))
        go_wp2_with (first
          | (go_at_call 28; refine (refUint_any m _ (by omega)).mono ?_; intro en w3 hg1; obtain ⟨A3, c3, rfl, hq1, hq2, hq3, hfr⟩ := HEm.out _ _ _ hg1; have HS3 := hide (Src.ofRd (P := Try.prog) (size := 1) w3 Try.underlying23 A3 lm c3 (by8 (enc m)) (by rw [by8_length, HLM.out]; omega) (by omega) hq3 (by8_one _)); have O3 := hide (OW.out.fr0 hfr); have F3 := hide (FW.out.tr hfr); have hw3 := F3.out.size; have hcell3 := hfr.cell hcell (fun h => h); clear hg1 hq3 hfr)
          | (at_builtin; refine wpList_append_gen _ rfl (.tmp 37) (.tmp 38) 23 23 rfl w.heap.size 5 i0 (.int .u8 0) 1 1 Try.underlying23 hi hz hsz hby rfl _ d _ rfl O3.out _ lm (by8 (enc m)) rfl HS3.out c1 c2 hw3 ?_; intro v4 w4 hown hfr hat; have O4 := hide hown; have F4 : Hid (Fr No w w4) := hide (F3.out.own hfr (fun g hg => .inl (O3.out.lt g hg).1)); have hcell4 : w4.cell? (ad.add k) = some (.slice Aj m cj) := hfr.cell hcell3 (fun e => by have h1 := (O3.out.lt _ e).1; rw [block_of_add] at h1; omega); clear hown hfr hat))
        go_roundw
        case rel => exact ⟨k + 1, T + m, nx, by omega, by go_num, by go_num, hTm, HTn, HNE, hide (by rw [HNl.out, ← HN8.out]; exact O4.out), F4⟩
        case measure => simp [intOf]; omega
      · obtain rfl : n = k := by omega
        have hall : bss.take n = bss := List.take_of_length_le (Nat.le_of_eq HL.out)
        rw [hall] at HT HD
        have HE := hide (show dn = headB kind bss by
          rw [HD.out, HHd.out]
          unfold headB
          rw [HL.out])
        clear hlt hk hall
        obtain ⟨Av, cv, rfl, hv1, hv2, _, _, _⟩ := OW.out.form
        unfold maxLen at hv2
        by_cases hbig : 16777216 < dn.length + T + 4
        · have HX := hide (show longB kind bss = true from decide_eq_true (.inr (by rw [← HE.out]; have := HT.out; omega)))
          generalize dn.length = d at *
          have hbb : decide ((16777216 : Int) < (d : Int) + (T : Int) + 4) = true := by
            apply decide_eq_true
            omega
          clear hbig HT
          go_wp2
          go_ret2
          exact .inl ⟨HX.out, rfl, FW.out⟩
        · have HX := hide (show longB kind bss = false from decide_eq_false (by rw [← HE.out, HL.out]; have := HT.out; omega))
          have hle : dn.length + T ≤ 16777212 := by omega
          have HLe := hide (flat_le bss)
          obtain ⟨d, hd'⟩ : ∃ d, d = dn.length := ⟨_, rfl⟩
          rw [← hd'] at OW hbig hv1 hdn hle ⊢
          have HDL := hide hd'
          clear hd' hbig
          have hbb : decide ((16777216 : Int) < (d : Int) + (T : Int) + 4) = false := by
            apply decide_eq_false
            omega
          go_wp2
          clear hbb
          clear hv1 hv2
          go_loopw [6, 11] (fun v i wr2 => ∃ (j : Nat) (en : List UInt8), j ≤ n ∧ i = .int .i64 j ∧ Hid (en = dn ++ (bss.take j).flatten) ∧ Hid (Own wr2 w.heap.size 5 1 v en.length (by8 en)) ∧ Hid (Fr No w wr2)) (fun _ i _ => n - (intOf i).toNat)
          case atStart => exact ⟨0, dn, by omega, rfl, hide (by simp), hide (by rw [← HDL.out]; exact OW.out), FW⟩
          case round =>
            clear OW FW
            obtain ⟨j, en, hj, rfl, HN, OW, FW⟩ := hrel
            have hel : en.length ≤ 16777212 := by
              have := HLe.out j
              rw [← HT.out] at this
              rw [HN.out, List.length_append, ← HDL.out]
              omega
            by_cases hlt : j < n
            · obtain ⟨bs, hx⟩ : ∃ bs, bss[j]? = some bs := ⟨_, List.getElem?_eq_getElem (by rw [HL.out]; exact hlt)⟩
              obtain ⟨ad, Aj, cj, rfl, _, hcell, hj1, hj2, hrj⟩ := (HR.out.fr0 FW.out) j bs hx
              have hbl := HBS.out bs (List.mem_of_getElem? hx)
              obtain ⟨nx, HNX⟩ : ∃ nx, Hid (nx = en ++ bs) := ⟨_, hide rfl⟩
              have HNE := hide (show nx = dn ++ (bss.take (j + 1)).flatten by rw [HNX.out, HN.out, flat_succ hx, List.append_assoc])
              have HNl := hide (show nx.length = en.length + bs.length by rw [HNX.out, List.length_append])
              have HN8 := hide (show by8 en ++ by8 bs = by8 nx by rw [HNX.out, by8_append])
              have hnx : nx.length ≤ 16777212 := by
                have := HLe.out (j + 1)
                rw [← HT.out] at this
                rw [HNE.out, List.length_append, ← HDL.out]
                omega
              have HS := hide (Src.ofRd (P := Try.prog) (size := 1) wr Try.underlying23 Aj bs.length cj (by8 bs) (by rw [by8_length]; omega) (by omega) hrj (by8_one _))
              obtain ⟨m, hm⟩ : ∃ m, m = bs.length := ⟨_, rfl⟩
              rw [← hm] at hcell hj1 hbl HNl HS
              obtain ⟨e, he⟩ : ∃ e, e = en.length := ⟨_, rfl⟩
              rw [← he] at OW hel HNl
              rw [HNl.out] at hnx
              unfold maxLen at hj2
              clear hx hm he hrj
              have c1 : (e + m) * 1 ≤ 140737488355328 := by omega
              have c2 : e + m ≤ maxLen := by unfold maxLen; omega
              have hW := FW.out.size
              go_wp2_with (at_builtin; refine wpList_append_gen _ rfl _ _ 23 23 rfl w.heap.size 5 i0 (.int .u8 0) 1 1 Try.underlying23 hi hz hsz hby rfl _ e (by8 en) rfl OW.out _ m (by8 bs) rfl HS.out c1 c2 hW ?_; intro v2 w2 hown hfr hat; have O2 := hide hown; have F2 : Hid (Fr No w w2) := hide (FW.out.own hfr (fun g hg => .inl (OW.out.lt g hg).1)); clear hown hfr hat)
              go_roundw
              case rel => exact ⟨j + 1, nx, by omega, by go_num, HNE, hide (by rw [HNl.out, ← HN8.out]; exact O2.out), F2⟩
              case measure => simp [intOf]; omega
            · obtain rfl : n = j := by omega
              have HB := hide (show en = bodyB kind bss by
                rw [HN.out, List.take_of_length_le (Nat.le_of_eq HL.out), HE.out]
                rfl)
              have hW := FW.out.size
              go_wp2_with (go_at_call 29; refine (sealed_any _ _ en w.heap.size _ rfl OW.out (by omega) hW).mono ?_; rintro e5 w5 ⟨v5, rfl, hown, hfr⟩; have O5 := hide hown; have F5 : Hid (Fr No w w5) := hide (FW.out.own hfr (fun g hg => .inl (OW.out.lt g hg).1)); clear hown hfr)
              go_ret2
              refine .inr ⟨HX.out, _, rfl, ?_, F5.out⟩
              have e6 : sealB kind bss = en ++ fourB (crcOf en) := by
                unfold sealB
                rw [← HB.out]
              rw [e6, List.length_append]
              exact O5.out
end Go.Proofs.Ytapfbjaopbcgjaa
