/- Several texts in one: StoRB, StoLen, StoOp2, StoKept, StoKeW, StoLD, StoKD, StoAll. -/
import Derived.Test.YtpnhnnhocekchaaK12
namespace Go.Proofs.Ytpnhnnhocekchaa
set_option linter.unusedVariables false
set_option linter.unusedSimpArgs false
open Go.RowKit

set_option maxRecDepth 100000 in
set_option maxHeartbeats 4000000 in
theorem refBuild_any (A : Option Addr) (n c B : Nat) (ds : List (List EntV)) (w : World) (hl : ds.length = n) (hn : n ≤ c) (hc : c ≤ maxLen) (hB : B ≤ w.heap.size) (hr : RdD w B A ds) :
    Calls Try.prog 40 #[.slice A n c] w (GivesB w (buildB ds)) := by
  obtain ⟨i5, hi5, hz5, hsz5, hby5⟩ := info_parts Try.info5
  have HL := hide hl
  have HMy := hide (may_any A n c B ds w hl hn hc hr)
  by_cases hm : mayB ds
  · have hn2 := hm.1
    rw [hl] at hn2
    have HMay := hide hm
    rw [decide_eq_true hm] at HMy
    have HCut := hide (fun (W : World) (hW : Fr No w W) => refCuts_any A n c B ds W hl hn hc hm (Nat.le_trans hB hW.size) (hr.fr0 hW))
    obtain ⟨cs, hcs⟩ : ∃ cs, cs = cutsB ds := ⟨_, rfl⟩
    have HCs := hide hcs
    have hcc := cuts_cnt (ds := ds)
    have hsm := cuts_small hm.2
    have HBe : Hid (buildB ds = enc n ++ enc cs.length ++ headB cs ++ bodyB cs) := hide (by
      unfold buildB
      rw [if_pos hm, hl, hcs])
    rw [← hcs, hl] at hcc
    rw [← hcs] at hsm
    obtain ⟨m, hmm⟩ : ∃ m, m = cs.length := ⟨_, rfl⟩
    have HM := hide hmm
    rw [← hmm] at hcc
    have hmn := hcc.1
    have HCc := hide hcc.2
    have HSm := hide hsm
    have HU := hide (fun (W : World) (u : Nat) (hu : u < 18446744073709551616) => refUint_any u W hu)
    clear hm hcs hmm hcc hsm hl hr
    go_enter Try.func40, Try.ntmps40
    go_wp2_with (first
      | (go_at_call 42; refine HMy.out.mono ?_; rintro en w0 ⟨rfl, hfr⟩; have HF0 : Hid (Fr No w w0) := hide hfr; clear hfr)
      | (go_at_call 44; refine (HCut.out _ HF0.out).mono ?_; rintro en w1 ⟨vM, vB, m', vals, rfl, hfr, htc⟩; have hmm2 : m' = m := (by have := htc.len; rw [HM.out, HCs.out]; exact this.symm); subst hmm2; have HT1 := hide htc; have HF1 : Hid (Fr No w w1) := hide (HF0.out.tr hfr); obtain ⟨AM, cM, rfl, _⟩ := htc.mo.form; obtain ⟨AB, cB, rfl, _⟩ := htc.bo.form; clear hfr htc))
    refine (HU.out _ n (by omega)).mono ?_
    rintro en w2 ⟨v2, rfl, hown, hfr⟩
    obtain ⟨l2, hl2⟩ : ∃ k, k = (enc n).length := ⟨_, rfl⟩
    have hb2 : l2 ≤ 10 := by rw [hl2]; exact (enc_len _).2
    rw [← hl2] at hown
    have HO2 := hide hown
    have HF2 : Hid (Fr No w1 w2) := hide hfr
    have HL2 := hide hl2
    clear hown hfr hl2
    go_wp2_with (fail)
    refine (HU.out _ m' (by omega)).mono ?_
    rintro en w3 ⟨v3, rfl, hown, hfr⟩
    obtain ⟨l3, hl3⟩ : ∃ k, k = (enc m').length := ⟨_, rfl⟩
    have hb3 : l3 ≤ 10 := by rw [hl3]; exact (enc_len _).2
    rw [← hl3] at hown
    obtain ⟨A3, c3, rfl, _⟩ := hown.form
    have HS3 := hide (Src.ofRd (P := Try.prog) (size := 1) w3 Try.underlying23 A3 l3 c3 (by8 (enc m')) (by rw [by8_length, hl3]; omega) (by omega) hown.rd (by8_one _))
    have HO3 := hide (HO2.out.fr0 hfr)
    have HF3 : Hid (Fr No w1 w3) := hide (HF2.out.tr hfr)
    have HL3 := hide hl3
    have b1 : (l2 + l3) * 1 ≤ 140737488355328 := by omega
    have b2 : l2 + l3 ≤ maxLen := by unfold maxLen; omega
    have b3 : w1.heap.size ≤ w3.heap.size := HF3.out.size
    clear hown hfr hl3
    go_wp2_with (first | (at_builtin; refine wpList_append_gen _ rfl (.tmp 20) (.tmp 24) 23 23 rfl w1.heap.size 5 i5 (.int .u8 0) 1 1 Try.underlying23 hi5 hz5 hsz5 hby5 rfl v2 l2 (by8 (enc n)) rfl HO3.out _ l3 (by8 (enc m')) rfl HS3.out b1 b2 b3 ?_; intro v4 w4 hown hfr hat; have HF4 : Hid (Fr No w1 w4) := hide (HF3.out.own hfr (fun g hg => .inl (HO3.out.lt g hg).1)); have HO4 := hide hown; clear hown hfr hat) | fail)
    go_loopw [5, 6] (fun v ix wr => ∃ (q z : Nat) (Z : List UInt8), q ≤ m' ∧ ix = .int .i64 q ∧ Hid (Z = enc n ++ enc m' ++ headB (cs.take q)) ∧ Hid (z = Z.length) ∧ z ≤ 20 + 20 * q ∧ Hid (Own wr w1.heap.size 5 1 v z (by8 Z)) ∧ Hid (Fr No w1 wr)) (fun _ ix _ => m' - (intOf ix).toNat)
    case atStart => exact ⟨0, l2 + l3, enc n ++ enc m', by omega, rfl, hide (by simp [headB]), hide (by rw [List.length_append, ← HL2.out, ← HL3.out]), by omega, hide (by rw [by8_append]; exact HO4.out), HF4⟩
    case round =>
      obtain ⟨wo, rfl⟩ : ∃ wo : World, wo = wr := ⟨_, rfl⟩
      obtain ⟨q, z, Z, hq, rfl, HZ, Hz, hzb, HO, HFr⟩ := hrel
      clear HO4 HF4 HO3 HF3 HS3 HO2 HF2
      by_cases hlt : q < m'
      · obtain ⟨x, hx⟩ : ∃ x, cs[q]? = some x := ⟨_, List.getElem?_eq_getElem (by rw [← HM.out]; exact hlt)⟩
        have hxm := List.mem_of_getElem? hx
        have hx1 := HCc.out x hxm
        have hx2 := HSm.out x hxm
        have HTo := HT1.out.fr0 HFr.out
        obtain ⟨gM, rfl, _, _, _, mc, _⟩ := HTo.mo.storeN (k := q) (by omega)
        obtain ⟨gB, rfl, _, _, _, bc, _⟩ := HTo.bo.storeN (k := q) (by omega)
        have km := mc q (by omega)
        have kb := bc q (by omega)
        rw [show (ints ((cutsB ds).map (·.1)))[q]? = some (.int .i64 (x.1 : Nat)) by unfold ints; rw [← HCs.out, List.getElem?_map, List.getElem?_map, hx]; rfl] at km
        obtain ⟨vq, hvq⟩ : ∃ vq, vals[q]? = some vq := ⟨_, List.getElem?_eq_getElem (by have := HT1.out.vlen; omega)⟩
        have hvo := HT1.out.va.own q vq x.2 hvq (by rw [← HCs.out, List.getElem?_map, hx]; rfl)
        rw [hvq] at kb
        obtain ⟨Ab, cb, rfl, y1, y2, _⟩ := hvo.form
        have KB := hide kb
        obtain ⟨xn, hxn⟩ : ∃ xn, xn = x.1 := ⟨_, rfl⟩
        obtain ⟨xl, hxl⟩ : ∃ xl, xl = x.2.length := ⟨_, rfl⟩
        rw [← hxn] at hx1 km
        rw [← hxl] at hx2 KB
        have HTk : Hid (headB (cs.take (q + 1)) = headB (cs.take q) ++ (enc xn ++ enc xl)) := hide (by rw [take_some hx, headB_snoc, hxn, hxl])
        have hx3 := hx1.1
        have hx4 := hx1.2
        clear hx hxm hx1 hxn hxl mc bc HTo hvq hvo y1 y2 kb
        go_wp2_with (fail)
        refine (HU.out _ xn (by omega)).mono ?_
        rintro en w5 ⟨v5, rfl, hown, hfr⟩
        obtain ⟨l5, hl5⟩ : ∃ k, k = (enc xn).length := ⟨_, rfl⟩
        have hb5 : l5 ≤ 10 := by rw [hl5]; exact (enc_len _).2
        rw [← hl5] at hown
        obtain ⟨A5, c5, rfl, _⟩ := hown.form
        have HS5 := hide (Src.ofRd (P := Try.prog) (size := 1) w5 Try.underlying23 A5 l5 c5 (by8 (enc xn)) (by rw [by8_length, hl5]; omega) (by omega) hown.rd (by8_one _))
        have HO5 := hide (HO.out.fr0 hfr)
        have HF5 : Hid (Fr No w1 w5) := hide (HFr.out.tr hfr)
        have HFo5 : Hid (Fr No wo w5) := hide hfr
        have HL5 := hide hl5
        have b1 : (z + l5) * 1 ≤ 140737488355328 := by omega
        have b2 : z + l5 ≤ maxLen := by unfold maxLen; omega
        have b3 : w1.heap.size ≤ w5.heap.size := HF5.out.size
        clear hown hfr hl5 km
        go_wp2_with (first | (at_builtin; refine wpList_append_gen _ rfl (.tmp 32) (.tmp 38) 23 23 rfl w1.heap.size 5 i5 (.int .u8 0) 1 1 Try.underlying23 hi5 hz5 hsz5 hby5 rfl u5 z (by8 Z) rfl HO5.out _ l5 (by8 (enc xn)) rfl HS5.out b1 b2 b3 ?_; intro v6 w6 hown hfr hat; have HF6 : Hid (Fr No w1 w6) := hide (HF5.out.own hfr (fun g hg => .inl (HO5.out.lt g hg).1)); have HO6 := hide hown; have kb6 : w6.cell? ⟨gB, q, none⟩ = some (.slice Ab xl cb) := (by obtain ⟨g', e, _, _, _, hc, _⟩ := (HT1.out.fr0 HF6.out).bo.storeN (k := q) (by omega); injection e with e; injection e with e; subst e; have h1 := (HT1.out.fr0 HF6.out).bo.storeN (k := q) (by omega); have h2 := (HFo5.out.cell KB.out (fun h => h)); exact hfr.cell h2 (fun e => by obtain ⟨_, cs', fz', hh⟩ := (HT1.out.fr0 HF5.out).bo.cellsT (k := gB) rfl; exact HO5.out.ne_blk e hh (by decide))); clear hown hfr hat) | fail)
        refine (HU.out _ xl (by omega)).mono ?_
        rintro en w7 ⟨v7, rfl, hown, hfr⟩
        obtain ⟨l7, hl7⟩ : ∃ k, k = (enc xl).length := ⟨_, rfl⟩
        have hb7 : l7 ≤ 10 := by rw [hl7]; exact (enc_len _).2
        rw [← hl7] at hown
        rw [← by8_append] at HO6
        obtain ⟨A7, c7, rfl, _⟩ := hown.form
        have HS7 := hide (Src.ofRd (P := Try.prog) (size := 1) w7 Try.underlying23 A7 l7 c7 (by8 (enc xl)) (by rw [by8_length, hl7]; omega) (by omega) hown.rd (by8_one _))
        have HO7 := hide (HO6.out.fr0 hfr)
        have HF7 : Hid (Fr No w1 w7) := hide (HF6.out.tr hfr)
        have HL7 := hide hl7
        have b1 : (z + l5 + l7) * 1 ≤ 140737488355328 := by omega
        have b2 : z + l5 + l7 ≤ maxLen := by unfold maxLen; omega
        have b3 : w1.heap.size ≤ w7.heap.size := HF7.out.size
        clear hown hfr hl7 kb6
        go_wp2_with (first | (at_builtin; refine wpList_append_gen _ rfl (.tmp 40) (.tmp 47) 23 23 rfl w1.heap.size 5 i5 (.int .u8 0) 1 1 Try.underlying23 hi5 hz5 hsz5 hby5 rfl v6 (z + l5) (by8 (Z ++ enc xn)) rfl HO7.out _ l7 (by8 (enc xl)) rfl HS7.out b1 b2 b3 ?_; intro v8 w8 hown hfr hat; have HF8 : Hid (Fr No w1 w8) := hide (HF7.out.own hfr (fun g hg => .inl (HO7.out.lt g hg).1)); have HO8 := hide hown; clear hown hfr hat) | fail)
        rw [← by8_append] at HO8
        go_roundw
        case rel => exact ⟨q + 1, z + l5 + l7, Z ++ enc xn ++ enc xl, by omega, by go_num, hide (by rw [HZ.out, HTk.out]; simp), hide (by rw [List.length_append, List.length_append, ← Hz.out, ← HL5.out, ← HL7.out]), by omega, HO8, HF8⟩
        case measure => simp [intOf]; omega
      · obtain rfl : q = m' := by omega
        have HX : Hid (Z = enc n ++ enc q ++ headB cs) := hide (by rw [HZ.out, List.take_of_length_le (by rw [← HM.out]; exact Nat.le_refl _)])
        obtain ⟨y, hy⟩ : ∃ y, y = z := ⟨_, rfl⟩
        obtain ⟨X, hX⟩ : ∃ X, X = Z := ⟨_, rfl⟩
        rw [← hX, ← hy] at HO
        rw [← hX] at HX
        have HYl : Hid (y = X.length) := hide (by rw [hy, hX]; exact Hz.out)
        have hyb : y ≤ 330000 := by omega
        clear hlt hy hX
        go_wp2
        go_loopw [5, 7] (fun v ix wr => ∃ (q2 z : Nat) (Z : List UInt8), q2 ≤ q ∧ ix = .int .i64 q2 ∧ Hid (Z = X ++ bodyB (cs.take q2)) ∧ Hid (z = Z.length) ∧ z ≤ y + 268426 * q2 ∧ Hid (Own wr w1.heap.size 5 1 v z (by8 Z)) ∧ Hid (Fr No w1 wr)) (fun _ ix _ => q - (intOf ix).toNat)
        case atStart => exact ⟨0, y, X, by omega, rfl, hide (by simp [bodyB]), HYl, by omega, HO, HFr⟩
        case round =>
          obtain ⟨wy, rfl⟩ : ∃ wy : World, wy = wr := ⟨_, rfl⟩
          clear HO HFr HZ Hz
          obtain ⟨q2, z2, Z2, hq2, rfl, HZ, Hz, hzb2, HO, HFr⟩ := hrel
          by_cases hlt : q2 < q
          · obtain ⟨x, hx⟩ : ∃ x, cs[q2]? = some x := ⟨_, List.getElem?_eq_getElem (by rw [← HM.out]; exact hlt)⟩
            have hx2 := HSm.out x (List.mem_of_getElem? hx)
            have HTo := HT1.out.fr0 HFr.out
            obtain ⟨gB, rfl, _, _, _, bc, _⟩ := HTo.bo.storeN (k := q2) (by omega)
            have kb := bc q2 (by omega)
            obtain ⟨vq, hvq⟩ : ∃ vq, vals[q2]? = some vq := ⟨_, List.getElem?_eq_getElem (by have := HT1.out.vlen; omega)⟩
            have hvo := HTo.va.own q2 vq x.2 hvq (by rw [← HCs.out, List.getElem?_map, hx]; rfl)
            rw [hvq] at kb
            obtain ⟨xb, hxb⟩ : ∃ xb, xb = x.2 := ⟨_, rfl⟩
            obtain ⟨xl, hxl⟩ : ∃ xl, xl = xb.length := ⟨_, rfl⟩
            rw [← hxb] at hvo hx2
            rw [← hxl] at hx2 hvo
            obtain ⟨Ab, cb, rfl, y1, y2, _⟩ := hvo.form
            have HTk : Hid (bodyB (cs.take (q2 + 1)) = bodyB (cs.take q2) ++ xb) := hide (by rw [take_some hx, bodyB_snoc, hxb])
            have HXl := hide hxl
            have HS2 := hide (Src.ofRd (P := Try.prog) (size := 1) wy Try.underlying23 Ab xl cb (by8 xb) (by rw [by8_length, hxl]; omega) (by omega) hvo.rd (by8_one _))
            have c1' : (z2 + xl) * 1 ≤ 140737488355328 := by omega
            have c2' : z2 + xl ≤ maxLen := by unfold maxLen; omega
            have c3' : w1.heap.size ≤ wy.heap.size := HFr.out.size
            clear hx hxb hxl HTo hvq hvo bc y1 y2
            go_wp2_with (first | (at_builtin; refine wpList_append_gen _ rfl (.tmp 55) (.tmp 59) 23 23 rfl w1.heap.size 5 i5 (.int .u8 0) 1 1 Try.underlying23 hi5 hz5 hsz5 hby5 rfl u5 z2 (by8 Z2) rfl HO.out _ xl (by8 xb) rfl HS2.out c1' c2' c3' ?_; intro v5 w5 hown hfr hat; have HO5 := hide hown; have HF5 : Hid (Fr No w1 w5) := hide (HFr.out.own hfr (fun k hk => .inl (HO.out.lt k hk).1)); clear hown hfr hat) | fail)
            go_roundw
            case rel => exact ⟨q2 + 1, z2 + xl, Z2 ++ xb, by omega, by go_num, hide (by rw [HZ.out, HTk.out, List.append_assoc]), hide (by rw [List.length_append, ← Hz.out, ← HXl.out]), by omega, hide (by rw [by8_append]; exact HO5.out), HF5⟩
            case measure => simp [intOf]; omega
          · obtain rfl : q2 = q := by omega
            clear hlt
            go_wp2
            go_ret
            have e : buildB ds = Z2 := by rw [HBe.out, HZ.out, HX.out, List.take_of_length_le (by rw [← HM.out]; exact Nat.le_refl _), ← HM.out]
            rw [e]
            refine ⟨_, rfl, ?_, HF1.out.tr HFr.out⟩
            rw [← Hz.out]
            exact HO.out.lower HF1.out.size
  · have hb : buildB ds = [] := by unfold buildB; rw [if_neg hm]
    rw [decide_eq_false hm] at HMy
    rw [hb]
    clear hm hb hr hl
    go_enter Try.func40, Try.ntmps40
    go_wp2_with (go_at_call 42; refine HMy.out.mono ?_; rintro en w0 ⟨rfl, hfr⟩; have HF0 : Hid (Fr No w w0) := hide hfr; clear hfr)
    go_ret
    exact ⟨_, rfl, Own.nil _ _ _ _, HF0.out⟩
end Go.Proofs.Ytpnhnnhocekchaa
namespace Go.Proofs.Ytpnhnnhocekchaa
set_option linter.unusedVariables false
set_option linter.unusedSimpArgs false
open Go.RowKit

theorem StoM.parts {w : World} {base g : Nat} {cs : List ChV} (h : StoM w base g cs) : ∃ A c ps, w.heap[g]? = some (.cells #[.slice A cs.length c, .int .i64 ((docsC cs).length : Nat)] 115 (0, 0)) ∧ OwnC w base (.slice A cs.length c) cs.length ps ∧ ps.map tri = chs 0 (cntC cs) ∧ cs.length ≤ c ∧ c ≤ maxLen ∧ (docsC cs).length ≤ 16384 := by
  obtain ⟨v, m, N, ps, q1, q2, q3, q4, rfl, q6, q7⟩ := h
  have hm : m = cs.length := by
    have h1 := q3.len
    have h2 := congrArg List.length q4
    rw [List.length_map, chs_len] at h2
    unfold cntC at h2
    rw [List.length_map] at h2
    omega
  subst hm
  obtain ⟨A, c, rfl, z1, z2, _⟩ := q3.row.form
  exact ⟨A, c, ps, q1, q3, q4, z1, z2, q6⟩
set_option maxRecDepth 100000 in
set_option maxHeartbeats 400000 in
theorem len_sto {w : World} {base g : Nat} {cs : List ChV} (h : StoM w base g cs) : Calls Try.prog 45 #[.pointer (some ⟨g, 0, none⟩)] w (Ret (.int .i64 ((docsC cs).length : Nat)) w) := by
  obtain ⟨A, c, ps, q1, _⟩ := h.parts
  have c1 : w.cell? ⟨g, 1, none⟩ = some (.int .i64 ((docsC cs).length : Nat)) := cell_of_row _ _ 1 _ _ _ q1
  generalize (docsC cs).length = N at *
  clear h q1
  go_enter Try.func45, Try.ntmps45
  go_wp2
  go_ret
  exact ⟨rfl, rfl⟩
set_option maxRecDepth 100000 in
set_option maxHeartbeats 400000 in
theorem len_none (w : World) : Calls Try.prog 45 #[.pointer none] w (Ret (.int .i64 0) w) := by
  go_enter Try.func45, Try.ntmps45
  go_wp2
  go_ret
  exact ⟨rfl, rfl⟩
set_option maxRecDepth 100000 in
set_option maxHeartbeats 400000 in
theorem chunks_sto {w : World} {base g : Nat} {cs : List ChV} (h : StoM w base g cs) : Calls Try.prog 46 #[.pointer (some ⟨g, 0, none⟩)] w (Ret (.int .i64 (cs.length : Nat)) w) := by
  obtain ⟨A, c, ps, q1, _⟩ := h.parts
  have c1 : w.cell? ⟨g, 0, none⟩ = some (.slice A cs.length c) := cell_of_row _ _ 0 _ _ _ q1
  generalize cs.length = N at *
  clear h q1
  go_enter Try.func46, Try.ntmps46
  go_wp2
  go_ret
  exact ⟨rfl, rfl⟩
set_option maxRecDepth 100000 in
set_option maxHeartbeats 400000 in
theorem chunks_none (w : World) : Calls Try.prog 46 #[.pointer none] w (Ret (.int .i64 0) w) := by
  go_enter Try.func46, Try.ntmps46
  go_wp2
  go_ret
  exact ⟨rfl, rfl⟩
/-- where a chunk begins and ends. -/
theorem StoM.chunkAt {w : World} {base g i : Nat} {cs : List ChV} {c : ChV} (h : StoM w base g cs) (hi : cs[i]? = some c) : ∃ gR cR A cA, w.cell? ⟨g, 0, none⟩ = some (.slice (some ⟨gR, 0, none⟩) cs.length cR) ∧ cs.length ≤ cR ∧ cR ≤ maxLen ∧
    w.cell? ⟨gR, i * 3, none⟩ = some (.int .i64 (cntB (cntC (cs.take i)) : Nat)) ∧ w.cell? ⟨gR, i * 3 + 1, none⟩ = some (.int .i64 ((cntB (cntC (cs.take i)) + c.2.length : Nat) : Int)) ∧ w.cell? ⟨gR, i * 3 + 2, none⟩ = some (.slice A c.1.length cA) ∧ c.1.length ≤ cA ∧ cA ≤ maxLen ∧ Own w base 5 1 (.slice A c.1.length cA) c.1.length (by8 c.1) := by
  obtain ⟨A, cc, ps, q1, q2, q3, q4, q5, q6⟩ := h.parts
  have hlt := (List.getElem?_eq_some_iff.1 hi).1
  obtain ⟨g', c', p, eg, z1, z2, ep, _, k0, k1, k2, kO⟩ := q2.at hlt
  injection eg with eg _ ec
  subst eg
  subst ec
  have htp : tri p = (cntB (cntC (cs.take i)), cntB (cntC (cs.take i)) + c.2.length, c.1) := by
    have h1 : (ps.map tri)[i]? = (chs 0 (cntC cs))[i]? := by rw [q3]
    have h2 : (cntC cs)[i]? = some (c.2.length, c.1) := by unfold cntC; rw [List.getElem?_map, hi]; rfl
    rw [List.getElem?_map, ep, chs_at h2] at h1
    have h3 : (cntC cs).take i = cntC (cs.take i) := by unfold cntC; rw [List.map_take]
    rw [h3] at h1
    simpa using h1
  have e0 : p.f = cntB (cntC (cs.take i)) := congrArg (·.1) htp
  have e1 : p.t = cntB (cntC (cs.take i)) + c.2.length := congrArg (·.2.1) htp
  have e2 : p.b = c.1 := congrArg (·.2.2) htp
  obtain ⟨Ab, cb, hbv, y1, y2, _⟩ := kO.form
  rw [e0] at k0
  rw [e1] at k1
  rw [e2] at hbv y1 kO
  rw [hbv] at k2 kO
  exact ⟨g', _, Ab, cb, cell_of_row _ _ 0 _ _ _ q1, q4, q5, k0, k1, k2, y1, y2, kO⟩
set_option maxRecDepth 100000 in
set_option maxHeartbeats 1000000 in
theorem chunk_sto {w : World} {base g i : Nat} {cs : List ChV} {c : ChV} (h : StoM w base g cs) (hi : cs[i]? = some c) : Calls Try.prog 47 #[.pointer (some ⟨g, 0, none⟩), .int .i64 (i : Nat)] w (RetQ (.tuple #[.int .i64 (cntB (cntC (cs.take i)) : Nat), .int .i64 ((cntB (cntC (cs.take i)) + c.2.length : Nat) : Int)]) w) := by
  obtain ⟨gR, cR, A, cA, y0, y1, y2, k0, k1, k2, _⟩ := h.chunkAt hi
  have hlt := (List.getElem?_eq_some_iff.1 hi).1
  have HC := hide (chunks_sto h)
  obtain ⟨n, hn⟩ : ∃ n, n = cs.length := ⟨_, rfl⟩
  rw [← hn] at HC y0 y1 hlt
  obtain ⟨f, hf⟩ : ∃ f, f = cntB (cntC (cs.take i)) := ⟨_, rfl⟩
  rw [← hf] at k0 k1 ⊢
  obtain ⟨t, ht⟩ : ∃ t, t = f + c.2.length := ⟨_, rfl⟩
  rw [← ht] at k1 ⊢
  unfold maxLen at y2
  have hd : decide ((n : Int) ≤ (i : Int)) = false := decide_eq_false (by omega)
  have hd2 : decide (n ≤ i) = false := decide_eq_false (by omega)
  have hltI : (i : Int) < (n : Int) := by omega
  clear h hi k2 hn hf ht
  go_enter Try.func47, Try.ntmps47
  go_wp2_with (go_at_call 46; refine HC.out.mono ?_; rintro en w1 ⟨rfl, rfl⟩)
  go_quiet (fail)
  go_wp2
  go_ret2
  exact ⟨rfl, _, rfl⟩
end Go.Proofs.Ytpnhnnhocekchaa
namespace Go.Proofs.Ytpnhnnhocekchaa
set_option linter.unusedVariables false
set_option linter.unusedSimpArgs false
open Go.RowKit

theorem chs_set (a : Nat) (L1 L2 : List (Nat × List UInt8)) (x : Nat × List UInt8) (y : List UInt8) : (chs a (L1 ++ x :: L2)).set L1.length (a + cntB L1, a + cntB L1 + x.1, y) = chs a (L1 ++ (x.1, y) :: L2) := by
  induction L1 generalizing a with
  | nil => simp [chs, cntB]
  | cons z r ih =>
    have h := ih (a + z.1)
    rw [cntB_cons]
    simp only [List.cons_append, chs, List.length_cons, List.set_cons_succ]
    rw [← Nat.add_assoc, h]
theorem chs_get (a : Nat) (L1 L2 : List (Nat × List UInt8)) (x : Nat × List UInt8) : (chs a (L1 ++ x :: L2))[L1.length]? = some (a + cntB L1, a + cntB L1 + x.1, x.2) := by
  have h : (L1 ++ x :: L2)[L1.length]? = some x := by simp
  have h2 := chs_at (a := a) h
  rwa [List.take_left] at h2
theorem cFlat_set {ps : List ChL} {i : Nat} {p : ChL} (hi : i < ps.length) (v : ChL) (hf : v.f = ps[i].f) (ht : v.t = ps[i].t) : cFlat (ps.set i v) = (cFlat ps).set (i * 3 + 2) (bVal v) := by
  induction ps generalizing i with
  | nil => simp at hi
  | cons q r ih =>
    have e : ∀ (q : ChL) (r : List ChL), cFlat (q :: r) = cRow q ++ cFlat r := fun _ _ => rfl
    have e3 : (cRow q).length = 3 := rfl
    cases i with
    | zero =>
      have hf : v.f = q.f := hf
      have ht : v.t = q.t := ht
      rw [List.set_cons_zero, e, e, List.set_append_left _ _ (by rw [e3]; omega)]
      show [Value.int .i64 (v.f : Nat), .int .i64 (v.t : Nat), bVal v] ++ _ = _
      rw [hf, ht]
      rfl
    | succ i =>
      have hi : i < r.length := by simpa using hi
      rw [List.set_cons_succ, e, e, List.set_append_right _ _ (by rw [e3]; omega), e3, show (i + 1) * 3 + 2 - 3 = i * 3 + 2 by omega, ih hi hf ht]
theorem OwnC.setb {w : World} {base n g c i : Nat} {ps : List ChL} {A : Option Addr} {cb : Nat} {sb : List UInt8} {p : ChL} (h : OwnC w base (.slice (some ⟨g, 0, none⟩) n c) n ps) (hp : ps[i]? = some p)
    (ho : Own w base 5 1 (.slice A sb.length cb) sb.length (by8 sb)) (hd : ∀ q ∈ ps, ∀ k, (bVal q).ownBlock = some k → (Value.slice A sb.length cb).ownBlock ≠ some k) :
    OwnC (w.setCell ⟨g, i * 3 + 2, none⟩ (.slice A sb.length cb)) base (.slice (some ⟨g, 0, none⟩) n c) n (ps.set i ⟨p.f, p.t, sb, A, cb⟩) := by
  obtain ⟨hi, hpe⟩ := List.getElem?_eq_some_iff.1 hp
  have hl := h.len
  obtain ⟨g', e1, _, _, hown, _, _, s1⟩ := h.row.storeN (k := i * 3 + 2) (by omega)
  have e1 : g = g' := by injection e1 with e1; injection e1
  subst e1
  obtain ⟨_, cs, fz, hgc⟩ := h.row.cellsT hown
  have f1 : Fr (Is g) w (w.setCell ⟨g, i * 3 + 2, none⟩ (.slice A sb.length cb)) := (Fr.refl (Is g) w).put _ _
  have o1 : Off (Is g) w 5 := off_is hgc (by decide)
  refine ⟨?_, ?_, ?_⟩
  · have e := cFlat_set (p := p) hi ⟨p.f, p.t, sb, A, cb⟩ (by rw [hpe]) (by rw [hpe])
    rw [e]
    exact s1 _
  · intro q hq
    rcases List.mem_or_eq_of_mem_set hq with hq | hq
    · exact (h.bs q hq).off f1 o1
    · rw [hq]
      exact ho.off f1 o1
  · rw [List.pairwise_iff_getElem]
    have hap := List.pairwise_iff_getElem.1 h.ap
    intro a b ha hb hab
    rw [List.length_set] at ha hb
    rw [List.getElem_set, List.getElem_set]
    by_cases e2 : i = a
    · subst e2
      rw [if_pos rfl, if_neg (by omega)]
      intro k hk hk2
      exact hd _ (List.getElem_mem hb) k hk2 hk
    · rw [if_neg e2]
      by_cases e3 : i = b
      · subst e3
        rw [if_pos rfl]
        intro k hk
        exact hd _ (List.getElem_mem ha) k hk
      · rw [if_neg e3]
        exact hap a b ha hb hab
/-- a chunk has got its bytes. -/
theorem OpS.setb {w W : World} {g gS b N m gR cR i k1 : Nat} {e : Int} {bs sb : List UInt8} {A : Option Addr} {cb : Nat} {L1 L2 : List (Nat × List UInt8)} {W0 : World} (h : OpS w W g gS bs b e N (.slice (some ⟨gR, 0, none⟩) m cR) m (L1 ++ (k1, []) :: L2)) (h0 : ∃ ps, OwnC W0 w.heap.size (.slice (some ⟨gR, 0, none⟩) m cR) m ps ∧ ps.map tri = chs 0 (L1 ++ (k1, []) :: L2)) (hf0 : Fr No w W0) (hi : i = L1.length)
    (hf : ∀ ps, OwnC W0 w.heap.size (.slice (some ⟨gR, 0, none⟩) m cR) m ps → OwnC W w.heap.size (.slice (some ⟨gR, 0, none⟩) m cR) m ps)
    (ho : Own W W0.heap.size 5 1 (.slice A sb.length cb) sb.length (by8 sb)) :
    OpS w (W.setCell ⟨gR, i * 3 + 2, none⟩ (.slice A sb.length cb)) g gS bs b e N (.slice (some ⟨gR, 0, none⟩) m cR) m (L1 ++ (k1, sb) :: L2) := by
  obtain ⟨ps, q1, q2⟩ := h0
  have q3 := hf ps q1
  have hpi : (ps.map tri)[i]? = some (cntB L1, cntB L1 + k1, []) := by
    rw [q2, hi, chs_get]
    simp
  rw [List.getElem?_map] at hpi
  obtain ⟨p, hp, hpt⟩ := Option.map_eq_some_iff.1 hpi
  have hfs := hf0.size
  have hlt : i < m := by
    have h1 := (List.getElem?_eq_some_iff.1 hp).1
    rw [q1.len] at h1
    exact h1
  obtain ⟨g', e1, hb1, _, hown, _, _, _⟩ := q3.row.storeN (k := i * 3 + 2) (by omega)
  have e1 : gR = g' := by injection e1 with e1; injection e1
  subst e1
  obtain ⟨_, cs, fz, hgc⟩ := q3.row.cellsT hown
  have f1 : Fr (Is gR) W (W.setCell ⟨gR, i * 3 + 2, none⟩ (.slice A sb.length cb)) := (Fr.refl (Is gR) W).put _ _
  have o1 : ∀ T, T ≠ 106 → Off (Is gR) W T := fun T hT => off_is hgc hT
  refine ⟨h.fr.trans f1 (fun j hj e => by have e : j = gR := e; omega), f1.blk h.b1 (o1 _ (by decide) _ _ _ h.b1), f1.blk h.b2 (o1 _ (by decide) _ _ _ h.b2), f1.blk h.st (o1 _ (by decide) _ _ _ h.st), h.rd.offT f1 (o1 _ (by decide)) (o1 _ (by decide)), ?_, h.hS, h.hg⟩
  refine ⟨_, q3.setb hp (ho.lower hfs) (fun q hq k hk hk2 => ?_), ?_⟩
  · have h1 := ((q1.bs q hq).lt k hk).2
    have h2 := (ho.lt k hk2).1
    omega
  · have hpf : p.f = cntB L1 := congrArg (·.1) hpt
    have hptt : p.t = cntB L1 + k1 := congrArg (·.2.1) hpt
    rw [List.map_set, q2, hi]
    have h3 := chs_set 0 L1 L2 (k1, []) sb
    rw [← h3]
    congr 1
    show (p.f, p.t, sb) = _
    rw [hpf, hptt]
    simp
/-- the chunk itself. -/
theorem OpS.at {w W : World} {g gS b N m gR cR i k1 : Nat} {e : Int} {bs sb : List UInt8} {L1 L2 : List (Nat × List UInt8)} (h : OpS w W g gS bs b e N (.slice (some ⟨gR, 0, none⟩) m cR) m (L1 ++ (k1, sb) :: L2)) (hi : i = L1.length) :
    ∃ A c, W.cell? ⟨gR, i * 3, none⟩ = some (.int .i64 (cntB L1 : Nat)) ∧ W.cell? ⟨gR, i * 3 + 1, none⟩ = some (.int .i64 ((cntB L1 + k1 : Nat) : Int)) ∧ W.cell? ⟨gR, i * 3 + 2, none⟩ = some (.slice A sb.length c) ∧ (∀ j, W.frozen? ⟨gR, j, none⟩ = false) ∧
      sb.length ≤ c ∧ c ≤ maxLen ∧ Own W w.heap.size 5 1 (.slice A sb.length c) sb.length (by8 sb) ∧ i < m := by
  obtain ⟨ps, q1, q2⟩ := h.ch
  have hpi : (ps.map tri)[i]? = some (cntB L1, cntB L1 + k1, sb) := by
    rw [q2, hi, chs_get]
    simp
  rw [List.getElem?_map] at hpi
  obtain ⟨p, hp, hpt⟩ := Option.map_eq_some_iff.1 hpi
  have hlt : i < m := by
    have h1 := (List.getElem?_eq_some_iff.1 hp).1
    rw [q1.len] at h1
    exact h1
  obtain ⟨g', c', p', eg, _, _, ep, _, k0, k1', k2, kO⟩ := q1.at hlt
  have eg : gR = g' := by injection eg with eg; injection eg with eg; injection eg
  subst eg
  rw [hp] at ep
  injection ep with ep
  subst ep
  have hpf : p.f = cntB L1 := congrArg (·.1) hpt
  have hptt : p.t = cntB L1 + k1 := congrArg (·.2.1) hpt
  have hpb : p.b = sb := congrArg (·.2.2) hpt
  obtain ⟨A, c, hv, y1, y2, _⟩ := kO.form
  obtain ⟨g2, e, _, _, _, _, hf, _⟩ := q1.row.storeN (k := 0) (by omega)
  have e : gR = g2 := by injection e with e; injection e
  rw [hpf] at k0
  rw [hptt] at k1'
  rw [hpb] at hv y1 kO
  rw [hv] at k2 kO
  exact ⟨A, c, k0, k1', k2, by rw [e]; exact hf, y1, y2, kO, hlt⟩

theorem cntC_kC (cs : List ChV) : cntB (cntC cs) = sumK (cs.map kC) := by
  unfold cntB cntC sumK
  rw [List.map_map, List.map_map]
  rfl
theorem cnt_le {cs : List ChV} {ks : List (Nat × Nat)} {i k1 k2 : Nat} (h : cs.map kC = ks.take i) (hk : ks[i]? = some (k1, k2)) : cntB (cntC cs) + k1 ≤ sumK ks := by
  have h1 := sumK_take ks (i + 1)
  rw [take_some hk, sumK_snoc] at h1
  rw [cntC_kC, h]
  exact h1
theorem noB_drop {ks : List (Nat × Nat)} {i k1 k2 : Nat} (hk : ks[i]? = some (k1, k2)) : noB (ks.drop i) = (k1, []) :: noB (ks.drop (i + 1)) := by
  obtain ⟨h1, h2⟩ := List.getElem?_eq_some_iff.1 hk
  rw [List.drop_eq_getElem_cons h1, h2]
  rfl
theorem cntC_snoc (cs : List ChV) (c : ChV) : cntC (cs ++ [c]) = cntC cs ++ [(c.2.length, c.1)] := by simp [cntC]
/-! The memory of a loop over a chunk's documents leaves all this as it is. -/
theorem Loose.off {t : TypeId} {B : Nat} {A : World} {T : TypeId} (hT : T ≠ t) : Off (Loose t B A) A T := fun k cs fz hk hl => hT (hl.2 cs T fz hk)
theorem OpS.loose {w A A' : World} {g gS b N m B : Nat} {e : Int} {bs : List UInt8} {v : Value} {L : List (Nat × List UInt8)} (h : OpS w A g gS bs b e N v m L) (hg : g < B) (hw : w.heap.size ≤ B) (f : Fr (Loose 131 B A) A A') : OpS w A' g gS bs b e N v m L := by
  have o : ∀ T, T ≠ 131 → Off (Loose 131 B A) A T := fun T hT => Loose.off hT
  have hgl : ¬ Loose 131 B A g := fun hl => by have := hl.1; omega
  refine ⟨h.fr.trans f (fun i hi hl => by have := hl.1; omega), f.blk h.b1 (o _ (by decide) _ _ _ h.b1), f.blk h.b2 (o _ (by decide) _ _ _ h.b2), f.blk h.st (o _ (by decide) _ _ _ h.st), ?_, ?_, h.hS, h.hg⟩
  · obtain ⟨A0, c0, hh, r1, r2, r3, r4, ho⟩ := h.rd
    exact ⟨A0, c0, f.blk hh hgl, r1, r2, r3, r4, ho.off f (o _ (by decide))⟩
  · obtain ⟨ps, q1, q2⟩ := h.ch
    exact ⟨ps, q1.off f (o _ (by decide)) (o _ (by decide)), q2⟩
theorem Marks.loose {w A A' : World} {Ds : List Nat} {B : Nat} {t : TypeId} (h : Marks w A Ds) (hB : ∀ D ∈ Ds, D < B) (f : Fr (Loose t B A) A A') : Marks w A' Ds :=
  ⟨h.nd, fun D hD => ⟨(h.at_ D hD).1, f.blk (h.at_ D hD).2 (fun hl => by have := hl.1; have := hB D hD; omega)⟩⟩
theorem Marks.lt {w A : World} {Ds : List Nat} (h : Marks w A Ds) : ∀ D ∈ Ds, D < A.heap.size := fun D hD => (Array.getElem?_eq_some_iff.1 (h.at_ D hD).2).1
theorem OwnE.putN {W : World} {base c : Nat} {A : Option Addr} {l : List EntV} {g : Nat} {o o' : Obj} (h : OwnE W base A c l) (hk : W.heap[g]? = some o) (ho : o.isCells = false) : OwnE (W.putObj g o') base A c l := by
  have f := Fr.of_grown (grownBy_putObj' W g o')
  have hoff : ∀ T, Off (fun k => some g = some k) W T := fun T k cs fz hk2 e => by
    have e : g = k := Option.some.inj e
    subst e
    rw [hk] at hk2
    injection hk2 with hk2
    subst hk2
    cases ho
  exact h.off f (hoff _) (hoff _)
end Go.Proofs.Ytpnhnnhocekchaa
namespace Go.Proofs.Ytpnhnnhocekchaa
set_option linter.unusedVariables false
set_option linter.unusedSimpArgs false
open Go.RowKit

theorem eFlat_at : ∀ (ps : List EntL) (k i : Nat) (d : EntL) (rest : List Value), k < ps.length → i < 3 → (eFlat ps ++ rest)[k * 3 + i]? = (eRow (ps.getD k d))[i]?
  | [], k, i, d, rest, hk, hi => by simp at hk
  | p :: r, 0, i, d, rest, hk, hi => by
    have e : eFlat (p :: r) = eRow p ++ eFlat r := rfl
    rw [e, List.append_assoc, Nat.zero_mul, Nat.zero_add, List.getElem?_append_left (by show i < 3; exact hi)]
    rfl
  | p :: r, k + 1, i, d, rest, hk, hi => by
    have e : eFlat (p :: r) = eRow p ++ eFlat r := rfl
    have h := eFlat_at r k i d rest (by simpa using hk) hi
    rw [e, List.append_assoc, List.getElem?_append_right (by show 3 ≤ _; omega)]
    rw [show (k + 1) * 3 + i - (eRow p).length = k * 3 + i by show (k + 1) * 3 + i - 3 = _; omega, h]
    rfl
theorem LentN.ns {w : World} {base : Nat} {p : EntL} (h : LentN w base p) : NsM w w.heap.size p.2.1 p.1.ns.length p.2.2 p.1.ns := by
  obtain ⟨h1, h2⟩ := h
  obtain ⟨q1, q2, q3⟩ := h1.le
  refine ⟨rfl, by omega, q3, h2, ?_⟩
  have h3 := h1.rd.tk p.1.ns.length
  rw [← iz_take, List.take_append_of_le_length (Nat.le_refl _), List.take_length] at h3
  exact h3
theorem own_head {w : World} {base e size n c : Nat} {A : Option Addr} {xs : List Value} (h : Own w base e size (.slice A n c) n xs) (h0 : 0 < n) : ∃ g, A = some ⟨g, 0, none⟩ := by
  obtain ⟨_, A', c', e1, e2, _, h2⟩ := h
  injection e1 with e1 e3 e4
  subst e1
  subst e4
  rcases h2 with ⟨_, h3⟩ | ⟨g, _, h3, _⟩
  · omega
  · exact ⟨g, h3⟩
theorem LentE.rd {w : World} {base c : Nat} {A : Option Addr} {l : List EntV} (h : LentE w base A c l) : RdE w w.heap.size A l := by
  obtain ⟨ps, hm, ho, hn⟩ := h
  intro k hk
  have hkp : k < ps.length := by rw [← hm, List.length_map] at hk; exact hk
  obtain ⟨g, rfl⟩ := own_head ho (by omega)
  have hr := ho.rd
  have he : l.getD k .none = (ps.getD k (.none, none, 0)).1 := by
    rw [← hm, List.getD_eq_getElem?_getD, List.getD_eq_getElem?_getD, List.getElem?_map, List.getElem?_eq_getElem hkp]
    rfl
  have hp := hn _ (getD_mem (d := (EntV.none, none, 0)) hkp)
  have at3 : ∀ i u, i < 3 → (eRow (ps.getD k (.none, none, 0)))[i]? = some u → g < w.heap.size ∧ w.cell? ⟨g, k * 3 + i, none⟩ = some u := by
    intro i u hi hu
    obtain ⟨ad, e, hb, hc⟩ := hr (k * 3 + i) u (by rw [eFlat_at ps k i _ _ hkp hi]; exact hu)
    injection e with e
    subst e
    refine ⟨hb, ?_⟩
    have ea : (⟨g, 0, none⟩ : Addr).add (k * 3 + i) = ⟨g, k * 3 + i, none⟩ := by
      unfold Addr.add
      split
      · rename_i h0; simp [h0]
      · simp
    rw [ea] at hc
    exact hc
  have ea : (⟨g, 0, none⟩ : Addr).add (k * 3) = ⟨g, k * 3, none⟩ := by
    unfold Addr.add
    split
    · rename_i h0; simp [h0]
    · simp
  refine ⟨⟨g, 0, none⟩, rfl, ?_⟩
  rw [he, ea]
  exact ⟨(at3 0 _ (by omega) rfl).1, (at3 0 _ (by omega) rfl).2, (at3 1 _ (by omega) rfl).2, _, _, _, (at3 2 _ (by omega) rfl).2, hp.ns⟩
end Go.Proofs.Ytpnhnnhocekchaa
namespace Go.Proofs.Ytpnhnnhocekchaa
set_option linter.unusedVariables false
set_option linter.unusedSimpArgs false
open Go.RowKit

theorem LentE.at {w : World} {base c : Nat} {A : Option Addr} {l : List EntV} (h : LentE w base A c l) {k : Nat} (hk : k < l.length) :
    ∃ g R rc, A = some ⟨g, 0, none⟩ ∧ w.cell? ⟨g, k * 3 + 2, none⟩ = some (.slice R (l.getD k .none).ns.length rc) ∧ LentN w base (l.getD k .none, R, rc) := by
  obtain ⟨ps, hm, ho, hn⟩ := h
  have hkp : k < ps.length := by rw [← hm, List.length_map] at hk; exact hk
  obtain ⟨g, rfl⟩ := own_head ho (by omega)
  have he : l.getD k .none = (ps.getD k (.none, none, 0)).1 := by
    rw [← hm, List.getD_eq_getElem?_getD, List.getD_eq_getElem?_getD, List.getElem?_map, List.getElem?_eq_getElem hkp]
    rfl
  have hp := hn _ (getD_mem (d := (EntV.none, none, 0)) hkp)
  obtain ⟨ad, e, hb, hc⟩ := ho.rd (k * 3 + 2) _ (by rw [eFlat_at ps k 2 (.none, none, 0) _ hkp (by omega)]; rfl)
  injection e with e
  subst e
  have ea : (⟨g, 0, none⟩ : Addr).add (k * 3 + 2) = ⟨g, k * 3 + 2, none⟩ := by
    unfold Addr.add
    split
    · rename_i h0; omega
    · simp
  rw [ea] at hc
  rw [he]
  exact ⟨g, _, _, rfl, hc, hp⟩
theorem LentE.mark {w : World} {base c : Nat} {A : Option Addr} {l : List EntV} (h : LentE w base A c l) : l.length + 1 ≤ c ∧ c ≤ maxLen ∧ ∃ g, A = some ⟨g, 0, none⟩ ∧ w.cell? ⟨g, l.length * 3, none⟩ = some (.string ⟨#[109, 97, 114, 107]⟩) := by
  obtain ⟨ps, hm, ho, hn⟩ := h
  obtain ⟨q1, q2, q3⟩ := ho.le
  obtain ⟨g, rfl⟩ := own_head ho (by omega)
  have hl : ps.length = l.length := by rw [← hm, List.length_map]
  obtain ⟨ad, e, hb, hc⟩ := ho.rd (l.length * 3) (.string ⟨#[109, 97, 114, 107]⟩) (by
    rw [List.getElem?_append_right (by rw [eFlat_len, hl]; exact Nat.le_refl _), eFlat_len, hl, Nat.sub_self]
    rfl)
  injection e with e
  subst e
  refine ⟨q2, q3, g, rfl, ?_⟩
  have ea : (⟨g, 0, none⟩ : Addr).add (l.length * 3) = ⟨g, l.length * 3, none⟩ := by
    unfold Addr.add
    split
    · rename_i h0; simp [h0]
    · simp
  rw [ea] at hc
  exact hc

set_option maxRecDepth 100000 in
set_option maxHeartbeats 1000000 in
theorem keptE_any (A B : Option Addr) (n c m d base b2 : Nat) (l : List EntV) (w : World) (hl : l.length = n) (hl2 : l.length = m) (hm : m ≤ d) (hd : d ≤ maxLen) (h : LentE w base A c l) (hr : RdE w b2 B l) :
    Calls Try.prog 74 #[.slice A n c, .slice B m d] w (RetQ (.bool true) w) := by
  obtain rfl : n = m := by omega
  obtain ⟨p1, p2, g, rfl, hmk⟩ := h.mark
  have HE := hide (entries_any (some ⟨g, 0, none⟩) B n c n d _ b2 l l w hl hl (by omega) p2 hm hd h.rd hr)
  rw [decide_eq_true rfl] at HE
  rw [hl] at p1 hmk
  have HL := hide hl
  have HH := hide h
  have HR := hide hr
  have HP2 := hide p2
  have HM := hide hm
  have HD := hide hd
  have HMk := hide hmk
  unfold maxLen at p2
  clear hl hl2 h hr hm hd hmk
  go_enter Try.func74, Try.ntmps74
  go_wp2_with (go_at_call 51; refine HE.out.mono ?_; rintro en w2 ⟨rfl, nq, rfl⟩)
  go_loopw [5] (fun ix wr => ∃ k q : Nat, k ≤ n ∧ ix = .int .i64 k ∧ wr = w.drewN q) (fun ix _ => n - (intOf ix).toNat)
  case atStart => exact ⟨0, nq, by omega, rfl, rfl⟩
  case round =>
    obtain ⟨k, q, hk, rfl, rfl⟩ := hrel
    by_cases hlt : k < n
    · have h1 : k < l.length := by rw [HL.out]; exact hlt
      obtain ⟨g', R, rc, e1, x3, x4⟩ := HH.out.at h1
      injection e1 with e1
      injection e1 with e1
      subst e1
      obtain ⟨bd, rfl, y0, y1, y2, Q, qn, qc, y3, y4⟩ := HR.out k h1
      clear y0 y1 y2 h1
      generalize l.getD k .none = E at *
      obtain ⟨z1, z2, z3⟩ := x4.1.le
      have HB := hide (fun t => keptI64_any R Q E.ns.length rc qn qc _ b2 E.ns ((w.drewN q).drewN t) rfl y4.1 (by omega) z3 y4.2.1 y4.2.2.1 (x4.1.rd.fr0 (((Fr.refl No w).drewN q).drewN t)) (y4.2.2.2.2.fr0 (((Fr.refl No w).drewN q).drewN t)))
      have x3' : (w.drewN q).cell? ⟨g, k * 3 + 2, none⟩ = some (.slice R E.ns.length rc) := x3
      have y3' : (w.drewN q).cell? ⟨(bd.add (k * 3)).block, (bd.add (k * 3)).off + 2, none⟩ = some (.slice Q qn qc) := y3
      obtain ⟨wo, hwo⟩ : ∃ wo, wo = w.drewN q := ⟨_, rfl⟩
      rw [← hwo] at HB x3' y3'
      rw [← hwo]
      have HWO := hide hwo
      clear x3 x4 y3 y4 hwo z1 z2 z3
      go_wp2
      go_quiet ((go_at_call 35; exact Calls.quiet_of (HB.out _)))
      go_wp2
      go_round
      case rel => exact ⟨k + 1, _, by omega, by go_num, by rw [HWO.out]; exact World.drewN_drewN _ _ _⟩
      case measure => simp [intOf]; omega
    · obtain rfl : k = n := by omega
      have hmk : (w.drewN q).cell? ⟨g, k * 3, none⟩ = some (.string ⟨#[109, 97, 114, 107]⟩) := HMk.out
      clear hlt
      go_wp2
      go_ret
      exact ⟨by simp, _, rfl⟩
end Go.Proofs.Ytpnhnnhocekchaa
namespace Go.Proofs.Ytpnhnnhocekchaa
set_option linter.unusedVariables false
set_option linter.unusedSimpArgs false
open Go.RowKit

theorem LentE.fr0 {w w' : World} {base c : Nat} {A : Option Addr} {l : List EntV} (h : LentE w base A c l) (f : Fr No w w') : LentE w' base A c l := by
  obtain ⟨ps, h1, h2, h3⟩ := h
  exact ⟨ps, h1, h2.fr0 f, fun p hp => ⟨(h3 p hp).1.fr0 f, (h3 p hp).2⟩⟩
theorem LentE.lower {w : World} {base b2 c : Nat} {A : Option Addr} {l : List EntV} (h : LentE w base A c l) (hb : b2 ≤ base) : LentE w b2 A c l := by
  obtain ⟨ps, h1, h2, h3⟩ := h
  exact ⟨ps, h1, h2.lower hb, fun p hp => ⟨(h3 p hp).1.lower hb, (h3 p hp).2⟩⟩
theorem LentE.off {w w' : World} {base c b2 e n : Nat} {A : Option Addr} {l : List EntV} {v : Value} {xs : List Value} (h : LentE w base A c l) (o : Own w b2 e 1 v n xs) (h1 : e ≠ 109) (h2 : e ≠ 2) (f : Fr (fun k => v.ownBlock = some k) w w') : LentE w' base A c l := by
  obtain ⟨ps, q1, q2, q3⟩ := h
  exact ⟨ps, q1, q2.fr f (fun k hk e => o.ne_own q2 h1 hk e), fun p hp => ⟨(q3 p hp).1.fr f (fun k hk e => o.ne_own (q3 p hp).1 h2 hk e), (q3 p hp).2⟩⟩
/-- a document that is laid. -/
abbrev DocL := List EntV × Option Addr × Nat
def dVal (p : DocL) : Value := .slice p.2.1 p.1.length p.2.2
def LentD (w : World) (base : Nat) (v : Value) (ds : List (List EntV)) : Prop :=
  ∃ ps : List DocL, ps.map (·.1) = ds ∧ Own w base 71 1 v ds.length (ps.map dVal) ∧ ∀ p ∈ ps, LentE w base p.2.1 p.2.2 p.1
theorem Try.infoDoc : (Try.prog.info? 71).map (fun i => (i.zero, i.size, i.bytes)) = some (some (.slice none 0 0), 1, 24) := by kernel_rfl

set_option maxRecDepth 100000 in
set_option maxHeartbeats 1000000 in
theorem lentD_any (A : Option Addr) (n c B : Nat) (ds : List (List EntV)) (w : World) (hl : ds.length = n) (hn : n ≤ c) (hc : c ≤ maxLen) (hc2 : n * 24 ≤ 140737488355328) (hds : ∀ d ∈ ds, (d.length + 1) * 56 ≤ 140737488355328 ∧ ∀ e ∈ d, (e.ns.length + 1) * 8 ≤ 140737488355328) (hB : B ≤ w.heap.size) (hr : RdD w B A ds) :
    Calls Try.prog 38 #[.slice A n c] w (fun en w' => ∃ v, en = .returned v ∧ LentD w' w.heap.size v ds ∧ Fr No w w') := by
  obtain ⟨i0, hi, hz, hsz2, hby⟩ := info_parts Try.infoDoc
  have HL := hide hl
  have HR := hide hr
  have HDS := hide hds
  clear hl hr hds
  go_enter Try.func38, Try.ntmps38
  go_wp2
  go_loopw [3, 4] (fun v ix wr => ∃ (j : Nat) (ps : List DocL), j ≤ n ∧ ix = .int .i64 j ∧ Hid (ps.map (·.1) = ds.take j) ∧ Hid (Own wr w.heap.size 71 1 v j (ps.map dVal)) ∧ Hid (∀ p ∈ ps, LentE wr w.heap.size p.2.1 p.2.2 p.1) ∧ Hid (Fr No w wr)) (fun _ ix _ => n - (intOf ix).toNat)
  case atStart => exact ⟨0, [], by omega, rfl, hide (by simp), hide (Own.nil _ _ _ _), hide (fun p hp => by simp at hp), hide (Fr.refl _ _)⟩
  case round =>
    obtain ⟨j, ps, hj, rfl, HPs, HO, HN, HFr⟩ := hrel
    by_cases hlt : j < n
    · obtain ⟨ad, rfl, e0, R, dn, dc, e1, e2, e3, e4, e5⟩ := HR.out j (by rw [HL.out]; exact hlt)
      have hmem : ds.getD j [] ∈ ds := getD_mem (by rw [HL.out]; exact hlt)
      have hsz := HDS.out _ hmem
      have HTk := hide (show ds.take (j + 1) = ds.take j ++ [ds.getD j []] by
        have h1 : j < ds.length := by rw [HL.out]; exact hlt
        rw [List.take_succ_eq_append_getElem h1, List.getD_eq_getElem?_getD, List.getElem?_eq_getElem h1]
        rfl)
      generalize ds.getD j [] = D at *
      have f0 := HFr.out.cell e1 (fun h => h)
      have HC := hide (lentE_any R dn dc B D wr e2 e3 e4 (by rw [← e2]; exact hsz.1) hsz.2 (Nat.le_trans hB HFr.out.size) (e5.fr0 HFr.out))
      have HDn := hide e2
      clear e0 e1 e2 e5 hmem hsz
      go_wp2_with (fail)
      refine HC.out.mono ?_
      rintro en w3 ⟨A3, c3, rfl, hle, hfr⟩
      have O3 := HO.out.fr0 hfr
      have O4 := hide (O3.fr0 ((Fr.refl No _).alloc (.cells #[.slice A3 dn c3] 71)))
      have HLE := hide ((hle.lower HFr.out.size).fr0 ((Fr.refl No _).alloc (.cells #[.slice A3 dn c3] 71)))
      have HF3 := hide hfr
      have HS5 := hide (Src.one (P := Try.prog) w3 (e := 71) Try.underlying57 (.slice A3 dn c3) rfl)
      have b1 : (j + 1) * 24 ≤ 140737488355328 := by omega
      have b2 : j + 1 ≤ maxLen := by unfold maxLen; omega
      have b3 : w.heap.size ≤ (w3.alloc (.cells #[.slice A3 dn c3] 71)).heap.size := by
        have h1 := HFr.out.size
        have h2 := hfr.size
        simp
        omega
      clear hle hfr O3
      go_wp2_with (first | (at_builtin; refine wpList_append_gen _ rfl (.tmp 17) (.tmp 19) 57 57 rfl w.heap.size 71 i0 _ 1 24 Try.underlying57 hi hz hsz2 hby rfl u3 j (ps.map dVal) rfl O4.out _ 1 [.slice A3 dn c3] rfl HS5.out b1 b2 b3 ?_; intro v6 w6 hown2 hfr2 hat; have O6 := hide hown2; have F6 := hide hfr2; clear hown2 hfr2 hat) | fail)
      go_roundw
      case measure => simp [intOf]; omega
      case rel =>
        refine ⟨j + 1, ps ++ [(D, A3, c3)], by omega, by go_num, hide ?_, hide ?_, hide ?_, hide ?_⟩
        · rw [List.map_append, HPs.out, HTk.out]
          rfl
        · rw [List.map_append]
          have e : [(D, A3, c3)].map dVal = [.slice A3 dn c3] := by simp [dVal, HDn.out]
          rw [e]
          exact O6.out
        · intro p hp
          rcases List.mem_append.1 hp with hp | hp
          · exact (((HN.out p hp).fr0 HF3.out).fr0 ((Fr.refl No _).alloc (.cells #[.slice A3 dn c3] 71))).off O4.out (by decide) (by decide) F6.out
          · obtain rfl := List.mem_singleton.1 hp
            exact HLE.out.off O4.out (by decide) (by decide) F6.out
        · exact ((HFr.out.tr HF3.out).alloc _).own F6.out (fun g hg => .inl (O4.out.lt g hg).1)
    · obtain rfl : j = n := by omega
      have hpl : ps.map (·.1) = ds := by rw [HPs.out, List.take_of_length_le (by rw [HL.out]; exact Nat.le_refl _)]
      have HPl := hide hpl
      clear hlt hpl
      go_wp2
      go_ret
      exact ⟨_, rfl, ⟨ps, HPl.out, by rw [HL.out]; exact HO.out, HN.out⟩, HFr.out⟩
end Go.Proofs.Ytpnhnnhocekchaa
namespace Go.Proofs.Ytpnhnnhocekchaa
set_option linter.unusedVariables false
set_option linter.unusedSimpArgs false
open Go.RowKit

theorem LentD.at {w : World} {base n c : Nat} {A : Option Addr} {ds : List (List EntV)} (h : LentD w base (.slice A n c) ds) {k : Nat} (hk : k < ds.length) :
    ∃ g R rc, A = some ⟨g, 0, none⟩ ∧ w.cell? ((⟨g, 0, none⟩ : Addr).add k) = some (.slice R (ds.getD k []).length rc) ∧ LentE w base R rc (ds.getD k []) := by
  obtain ⟨ps, hm, ho, hn⟩ := h
  obtain ⟨q1, _, _⟩ := ho.le
  subst q1
  have hkp : k < ps.length := by rw [← hm, List.length_map] at hk; exact hk
  obtain ⟨g, rfl⟩ := own_head ho (by omega)
  have he : ds.getD k [] = (ps.getD k ([], none, 0)).1 := by
    rw [← hm, List.getD_eq_getElem?_getD, List.getD_eq_getElem?_getD, List.getElem?_map, List.getElem?_eq_getElem hkp]
    rfl
  have hp := hn _ (getD_mem (d := (([], none, 0) : DocL)) hkp)
  obtain ⟨ad, e, hb, hc⟩ := ho.rd k (dVal (ps.getD k ([], none, 0))) (by
    rw [List.getElem?_map, List.getD_eq_getElem?_getD, List.getElem?_eq_getElem hkp]
    rfl)
  injection e with e
  subst e
  rw [he]
  exact ⟨g, _, _, rfl, hc, hp⟩

set_option maxRecDepth 100000 in
set_option maxHeartbeats 1000000 in
theorem keptD_any (A B : Option Addr) (n c m d base b2 : Nat) (ds : List (List EntV)) (w : World) (hl : ds.length = n) (hl2 : ds.length = m) (hm : m ≤ d) (hd : d ≤ maxLen) (h : LentD w base (.slice A n c) ds) (hr : RdD w b2 B ds) :
    Calls Try.prog 41 #[.slice A n c, .slice B m d] w (RetQ (.bool true) w) := by
  obtain rfl : n = m := by omega
  have hnc : n ≤ c ∧ c ≤ maxLen := by
    obtain ⟨_, _, ho, _⟩ := h
    obtain ⟨_, q2, q3⟩ := ho.le
    exact ⟨by omega, q3⟩
  obtain ⟨hnc, hcm⟩ := hnc
  have HL := hide hl
  have HH := hide h
  have HR := hide hr
  unfold maxLen at hcm hd
  clear hl hl2 h hr
  go_enter Try.func41, Try.ntmps41
  go_wp2
  go_loopw [5] (fun ix wr => ∃ k q : Nat, k ≤ n ∧ ix = .int .i64 k ∧ wr = w.drewN q) (fun ix _ => n - (intOf ix).toNat)
  case atStart => exact ⟨0, 0, by omega, rfl, rfl⟩
  case round =>
    obtain ⟨k, q, hk, rfl, rfl⟩ := hrel
    by_cases hlt : k < n
    · have h1 : k < ds.length := by rw [HL.out]; exact hlt
      obtain ⟨g, R, rc, rfl, x3, x4⟩ := HH.out.at h1
      obtain ⟨bd, rfl, y0, Q, qn, qc, y3, y4, y5, y6, y7⟩ := HR.out k h1
      clear y0 h1
      generalize ds.getD k [] = E at *
      rw [y4] at x3
      have HB := hide (fun t => keptE_any R Q qn rc qn qc base b2 E ((w.drewN q).drewN t) y4 y4 y5 y6 (x4.fr0 (((Fr.refl No w).drewN q).drewN t)) (y7.fr0 (((Fr.refl No w).drewN q).drewN t)))
      have x3' : (w.drewN q).cell? ((⟨g, 0, none⟩ : Addr).add k) = some (.slice R qn rc) := x3
      have ea : (⟨g, 0, none⟩ : Addr).add k = ⟨g, k, none⟩ := by
        unfold Addr.add
        split
        · rename_i h0; simp [h0]
        · simp
      have x3b := x3'
      rw [ea] at x3b
      have y3' : (w.drewN q).cell? (bd.add k) = some (.slice Q qn qc) := y3
      obtain ⟨wo, hwo⟩ : ∃ wo, wo = w.drewN q := ⟨_, rfl⟩
      rw [← hwo] at HB x3' x3b y3'
      rw [← hwo]
      have HWO := hide hwo
      clear x3 x4 y3 y4 y5 y6 y7 hwo ea
      go_wp2
      go_quiet ((go_at_call 74; exact Calls.quiet_of (HB.out _)))
      go_wp2
      go_round
      case rel => exact ⟨k + 1, _, by omega, by go_num, by rw [HWO.out]; exact World.drewN_drewN _ _ _⟩
      case measure => simp [intOf]; omega
    · obtain rfl : k = n := by omega
      clear hlt
      go_wp2
      go_ret
      exact ⟨by simp, _, rfl⟩
end Go.Proofs.Ytpnhnnhocekchaa
namespace Go.Proofs.Ytpnhnnhocekchaa
set_option linter.unusedVariables false
set_option linter.unusedSimpArgs false
open Go.RowKit

theorem OwnN.ns {w : World} {base : Nat} {p : EntL} (h : OwnN w base p) : NsM w w.heap.size p.2.1 p.1.ns.length p.2.2 p.1.ns := by
  obtain ⟨h1, h2⟩ := h
  obtain ⟨q1, q2, q3⟩ := Own.le (show Own w base 2 1 (.slice p.2.1 p.1.ns.length p.2.2) p.1.ns.length (iz .i64 p.1.ns) from h1)
  exact ⟨rfl, q2, q3, h2, Own.rd (show Own w base 2 1 (.slice p.2.1 p.1.ns.length p.2.2) p.1.ns.length (iz .i64 p.1.ns) from h1)⟩
theorem OwnE.rd {w : World} {base c : Nat} {A : Option Addr} {l : List EntV} (h : OwnE w base A c l) : RdE w w.heap.size A l := by
  obtain ⟨ps, hm, ho, hn, _⟩ := h
  intro k hk
  have hkp : k < ps.length := by rw [← hm, List.length_map] at hk; exact hk
  obtain ⟨g, rfl⟩ := own_head ho (by omega)
  have hr := ho.rd
  have he : l.getD k .none = (ps.getD k (.none, none, 0)).1 := by
    rw [← hm, List.getD_eq_getElem?_getD, List.getD_eq_getElem?_getD, List.getElem?_map, List.getElem?_eq_getElem hkp]
    rfl
  have hp := hn _ (getD_mem (d := (EntV.none, none, 0)) hkp)
  have at3 : ∀ i u, i < 3 → (eRow (ps.getD k (.none, none, 0)))[i]? = some u → g < w.heap.size ∧ w.cell? ⟨g, k * 3 + i, none⟩ = some u := by
    intro i u hi hu
    have hfl := eFlat_at ps k i (EntV.none, none, 0) [] hkp hi
    rw [List.append_nil] at hfl
    obtain ⟨ad, e, hb, hc⟩ := hr (k * 3 + i) u (by rw [hfl]; exact hu)
    injection e with e
    subst e
    refine ⟨hb, ?_⟩
    have ea : (⟨g, 0, none⟩ : Addr).add (k * 3 + i) = ⟨g, k * 3 + i, none⟩ := by
      unfold Addr.add
      split
      · rename_i h0; simp [h0]
      · simp
    rw [ea] at hc
    exact hc
  have ea : (⟨g, 0, none⟩ : Addr).add (k * 3) = ⟨g, k * 3, none⟩ := by
    unfold Addr.add
    split
    · rename_i h0; simp [h0]
    · simp
  refine ⟨⟨g, 0, none⟩, rfl, ?_⟩
  rw [he, ea]
  exact ⟨(at3 0 _ (by omega) rfl).1, (at3 0 _ (by omega) rfl).2, (at3 1 _ (by omega) rfl).2, _, _, _, (at3 2 _ (by omega) rfl).2, OwnN.ns hp⟩
theorem OwnE.le {w : World} {base c : Nat} {A : Option Addr} {l : List EntV} (h : OwnE w base A c l) : l.length ≤ c ∧ c ≤ maxLen := by
  obtain ⟨ps, hm, ho, _⟩ := h
  obtain ⟨q1, q2, q3⟩ := ho.le
  exact ⟨q2, q3⟩
/-- a row of documents that were handed out. -/
structure OwnD (w : World) (base : Nat) (v : Value) (ps : List DocL) : Prop where
  row : Own w base 71 1 v ps.length (ps.map dVal)
  ds : ∀ p ∈ ps, OwnE w base p.2.1 p.2.2 p.1
theorem OwnD.off {S : Nat → Prop} {w w' : World} {base : Nat} {v : Value} {ps : List DocL} (h : OwnD w base v ps) (f : Fr S w w') (h0 : Off S w 71) (h1 : Off S w 109) (h2 : Off S w 2) : OwnD w' base v ps :=
  ⟨h.row.off f h0, fun p hp => (h.ds p hp).off f h1 h2⟩
theorem OwnD.fr0 {w w' : World} {base : Nat} {v : Value} {ps : List DocL} (h : OwnD w base v ps) (f : Fr No w w') : OwnD w' base v ps := h.off f (fun _ _ _ _ h => h) (fun _ _ _ _ h => h) (fun _ _ _ _ h => h)
theorem OwnD.nil (w : World) (base : Nat) : OwnD w base (.slice none 0 0) [] := ⟨Own.nil _ _ _ _, (fun p hp => by cases hp)⟩
theorem OwnD.snoc {w1 w2 : World} {base : Nat} {v v2 : Value} {ps : List DocL} {p : DocL} (h : OwnD w1 base v ps) (hp : OwnE w1 base p.2.1 p.2.2 p.1) (f : Fr (fun k => v.ownBlock = some k) w1 w2) (ho : Own w2 base 71 1 v2 (ps.length + 1) (ps.map dVal ++ [dVal p])) : OwnD w2 base v2 (ps ++ [p]) := by
  have o : ∀ T, T ≠ 71 → Off (fun k => v.ownBlock = some k) w1 T := fun T hT => off_own h.row hT
  refine ⟨by rw [List.length_append, List.map_append]; exact ho, fun q hq => ?_⟩
  rcases List.mem_append.1 hq with hq | hq
  · exact (h.ds q hq).off f (o _ (by decide)) (o _ (by decide))
  · rw [List.mem_singleton.1 hq]
    exact hp.off f (o _ (by decide)) (o _ (by decide))
theorem OwnD.rd {w : World} {base n c : Nat} {A : Option Addr} {ps : List DocL} (h : OwnD w base (.slice A n c) ps) : RdD w w.heap.size A (ps.map (·.1)) := by
  intro k hk
  rw [List.length_map] at hk
  have hn : ps.length = n := by obtain ⟨q1, _⟩ := h.row.le; exact q1.symm
  have hr : Rd w w.heap.size A (ps.map dVal) := by
    have h1 := h.row
    rw [hn] at h1
    exact h1.rd
  obtain ⟨ad, e, hb, hc⟩ := hr k (dVal ps[k]) (by rw [List.getElem?_map, List.getElem?_eq_getElem hk]; rfl)
  have he : (ps.map (·.1)).getD k [] = ps[k].1 := by
    rw [List.getD_eq_getElem?_getD, List.getElem?_map, List.getElem?_eq_getElem hk]
    rfl
  have hp := h.ds _ (List.getElem_mem hk)
  obtain ⟨q1, q2⟩ := hp.le
  refine ⟨ad, e, by rw [add_block]; exact hb, _, _, _, hc, ?_, q1, q2, ?_⟩
  · rw [he]
  · rw [he]; exact hp.rd
/-- .. kept in a box. -/
structure AllD (w : World) (base gA : Nat) (ds : List (List EntV)) : Prop where
  ex : ∃ v ps, w.heap[gA]? = some (.cells #[v] 57 (0, 0)) ∧ base ≤ gA ∧ ps.map (·.1) = ds ∧ OwnD w base v ps
theorem AllD.off {S : Nat → Prop} {w w' : World} {base gA : Nat} {ds : List (List EntV)} (h : AllD w base gA ds) (f : Fr S w w') (h00 : Off S w 57) (h0 : Off S w 71) (h1 : Off S w 109) (h2 : Off S w 2) : AllD w' base gA ds := by
  obtain ⟨v, ps, q1, q2, q3, q4⟩ := h.ex
  exact ⟨v, ps, f.blk q1 (h00 _ _ _ q1), q2, q3, q4.off f h0 h1 h2⟩
theorem AllD.fr0 {w w' : World} {base gA : Nat} {ds : List (List EntV)} (h : AllD w base gA ds) (f : Fr No w w') : AllD w' base gA ds := h.off f (fun _ _ _ _ h => h) (fun _ _ _ _ h => h) (fun _ _ _ _ h => h) (fun _ _ _ _ h => h)

theorem cntC_split {cs : List ChV} {j : Nat} {c : ChV} (h : cs[j]? = some c) : cntC cs = cntC (cs.take j) ++ (c.2.length, c.1) :: cntC (cs.drop (j + 1)) := by
  obtain ⟨h1, h2⟩ := List.getElem?_eq_some_iff.1 h
  conv => lhs; rw [← List.take_append_drop j cs, List.drop_eq_getElem_cons h1, h2]
  simp [cntC]
theorem docsC_len (cs : List ChV) : (docsC cs).length = cntB (cntC cs) := by
  unfold docsC cntB cntC
  rw [List.length_flatMap, List.map_map]
  rfl
theorem docsC_snoc (cs : List ChV) (c : ChV) : docsC (cs ++ [c]) = docsC cs ++ c.2 := by simp [docsC, List.flatMap_append]
theorem chunk_uniq {sb : List UInt8} {k : Nat} {d1 d2 : List (List EntV)} (h1 : chunkOk sb k d1) (h2 : chunkOk sb k d2) : d1 = d2 := by
  unfold chunkOk at h1 h2
  rw [h1] at h2
  injection h2 with h2
  injection h2
theorem AllD.loose {A A' : World} {base gA B : Nat} {ds : List (List EntV)} (h : AllD A base gA ds) (f : Fr (Loose 131 B A) A A') : AllD A' base gA ds := h.off f (Loose.off (by decide)) (Loose.off (by decide)) (Loose.off (by decide)) (Loose.off (by decide))
/-- what a round of the last loop may write. -/
def DocS (v : Value) (gA : Nat) : Nat → Prop := fun k => v.ownBlock = some k ∨ k = gA
theorem DocS.off {W : World} {base gA : Nat} {v : Value} {ps : List DocL} {cs : Array Value} {fz : Nat × Nat} (h : OwnD W base v ps) (hg : W.heap[gA]? = some (.cells cs 57 fz)) {T : TypeId} (h1 : T ≠ 57) (h2 : T ≠ 71) : Off (DocS v gA) W T := by
  rintro k cs' fz' hk (e | e)
  · exact off_own h.row h2 k cs' fz' hk e
  · exact off_is hg h1 k cs' fz' hk e
theorem DocS.kp {W W' : World} {base gA : Nat} {v : Value} {ps : List DocL} {cs : Array Value} {fz : Nat × Nat} (h : OwnD W base v ps) (hg : W.heap[gA]? = some (.cells cs 57 fz)) (f : Fr (DocS v gA) W W') : KpE W W' :=
  f.mono (fun k _ hk => by
    rcases hk with e | e
    · obtain ⟨_, cs', fz', hh⟩ := h.row.cellsT e
      intro cs2 t fz2 h2
      rw [hh] at h2
      injection h2 with h2
      injection h2 with _ h2 _
      exact .inr h2.symm
    · subst e
      intro cs2 t fz2 h2
      rw [hg] at h2
      injection h2 with h2
      injection h2 with _ h2 _
      exact .inl h2.symm)
theorem DocS.keep {W W' : World} {base gA : Nat} {v : Value} {ps : List DocL} {cs : Array Value} {fz : Nat × Nat} (h : OwnD W base v ps) (hg : W.heap[gA]? = some (.cells cs 57 fz)) (f : Fr (DocS v gA) W W') (B : Nat) : KeepsFrom B W W' :=
  (keeps_of_fr f (fun k o hk ho => by
    rcases hk with e | e
    · exact own_cells h.row k o e ho
    · subst e
      rw [hg] at ho
      injection ho with ho
      subst ho
      rfl)).from B
theorem info_doc2 : (Try.prog.info? 71).map (fun i => (i.zero, i.size, i.bytes)) = some (some (.slice none 0 0), 1, 24) := by kernel_rfl

set_option maxRecDepth 100000 in
set_option maxHeartbeats 800000 in
theorem sleq_any (A B : Option Addr) (n c m d b1 b2 : Nat) (xs ys : List UInt8) (w : World) (hx : xs.length = n) (hy : ys.length = m) (hn : n ≤ c) (hc : c ≤ maxLen) (hm : m ≤ d) (hd : d ≤ maxLen) (hr : Rd w b1 A (by8 xs)) (hs : Rd w b2 B (by8 ys)) :
    Calls Try.prog 79 #[.slice A n c, .slice B m d] w (RetQ (.bool (decide (xs = ys))) w) := by
  unfold maxLen at hc hd
  have HX := hide hx
  have HY := hide hy
  have HR := hide hr
  have HS := hide hs
  clear hx hy hr hs
  by_cases hnm : n = m
  · subst hnm
    have hb : ((n : Int) != n) = false := by simp
    go_enter Try.func79, Try.ntmps79
    go_wp2
    go_loopw [13] (fun i wr => ∃ k nq : Nat, k ≤ n ∧ i = .int .i64 k ∧ wr = w.drewN nq ∧ Hid (xs.take k = ys.take k)) (fun i _ => n - (intOf i).toNat)
    case atStart => exact ⟨0, 0, by omega, rfl, rfl, hide rfl⟩
    case round =>
      obtain ⟨k, nq, hk, rfl, rfl, HT⟩ := hrel
      by_cases hlt : k < n
      · have h1 : k < xs.length := by rw [HX.out]; exact hlt
        have h2 : k < ys.length := by rw [HY.out]; exact hlt
        obtain ⟨ad, rfl, _, hcell⟩ := HR.out.byte h1
        obtain ⟨bd, rfl, _, hcell2⟩ := HS.out.byte h2
        have HE := hide (fun he => take_succ_eq h1 h2 HT.out he)
        have HN := hide (show xs.getD k 0 ≠ ys.getD k 0 → xs ≠ ys from fun h e => h (by rw [e]))
        clear h1 h2
        generalize xs.getD k 0 = x at hcell HE HN
        generalize ys.getD k 0 = y at hcell2 HE HN
        by_cases he : x = y
        · subst he
          have HE' := hide (HE.out rfl)
          clear HE
          have hb2 : ((x.toNat : Int) != x.toNat) = false := by simp
          go_wp2
          go_quiet (fail)
          go_wp2
          go_round
          case rel => exact ⟨k + 1, _, by omega, by go_num, rfl, HE'⟩
          case measure => simp [intOf]; omega
        · have hb2 : ((x.toNat : Int) != y.toNat) = true := by
            simp
            intro h
            exact he (UInt8.toNat_inj.1 (by omega))
          go_wp2
          go_quiet (fail)
          go_wp2
          go_ret
          exact ⟨by simp [HN.out he], _, World.drewN_drewN _ _ _⟩
      · have HF := hide (show xs = ys by
          have h := HT.out
          rwa [List.take_of_length_le (by rw [HX.out]; omega), List.take_of_length_le (by rw [HY.out]; omega)] at h)
        go_wp2
        go_ret
        exact ⟨by simp [HF.out], _, rfl⟩
  · have hb : ((n : Int) != m) = true := by simp; omega
    have HF := hide (show xs ≠ ys from fun e => hnm (by rw [← HX.out, ← HY.out, e]))
    go_enter Try.func79, Try.ntmps79
    go_wp2
    go_ret
    exact ⟨by simp [HF.out], 0, rfl⟩
end Go.Proofs.Ytpnhnnhocekchaa
