/- Several texts in one: PoDb, TakeB. -/
import Derived.Test.YthlbfnoahdjdeaaK11
import Derived.Deep.RegionLaw
import Derived.Deep.RegionWith
namespace Go.Proofs.Ythlbfnoahdjdeaa
set_option linter.unusedVariables false
set_option linter.unusedSimpArgs false
open Go.RowKit

theorem step_append_at {P : Program} {ops : Array Oper} {o : Oper} {a : Act} {w : World} {K : Act → World → Prop} {Q : Exit → Act → World → Prop} {E : Prop} (hgd : o.guard = none) (s x : Operand) (t tx : TypeId)
    (ho : o.op = .call { callee := .builtin .append, args := #[s, x], argTypes := #[t, tx] })
    (base : Nat) (e : TypeId) (i : TypeInfo) (z : Value) (size bytes : Nat) (ht : P.underlying t = some (.slice e)) (hi : P.info? e = some i) (hz : i.zero = some z)
    (hsize : i.size = size) (hby : i.bytes = bytes) (hzs : z.cells.size = size)
    (v : Value) (n : Nat) (xs : List Value) (hs : a.eval s = v) (hown : Own w base e size v n xs)
    (y : Value) (m : Nat) (news : List Value) (hx : a.eval x = y) (hsrc : Src P size tx y m news w)
    (hbytes : (n + m) * bytes ≤ 140737488355328) (h63 : n + m ≤ maxLen) (hbase : base ≤ w.heap.size)
    (h : ∀ v' w', Own w' base e size v' (n + m) (xs ++ news) → Fr (fun k => v.ownBlock = some k) w w' → (v'.ownBlock = v.ownBlock ∨ v'.ownBlock = some w.heap.size) → K (a.put o.dst v') w') :
    if Region.wanted o (yielded ops a.tmps) = true then Oper.wp P o a w K Q else E := by
  have hw : Region.wanted o (yielded ops a.tmps) = true := by simp [Region.wanted, hgd]
  rw [if_pos hw]
  exact wp_append_gen w s x t tx ho base e i z size bytes ht hi hz hsize hby hzs v n xs hs hown y m news hx hsrc hbytes h63 hbase fun v' w' h2 h3 h4 => h v' w' h2 h3 h4
/-- two values that share no memory. -/
def Apt (v s : Value) : Prop := ∀ k, v.ownBlock = some k → s.ownBlock ≠ some k
theorem srcKeep {w1 w' : World} {v v' s : Value} {base e m : Nat} {xs : List Value} (ho : Own w1 base e 1 s m xs) (hap : Apt v s) (hf : Fr (fun k => v.ownBlock = some k) w1 w') (hat : v'.ownBlock = v.ownBlock ∨ v'.ownBlock = some w1.heap.size) : Own w' base e 1 s m xs ∧ Apt v' s := by
  refine ⟨ho.fr hf (fun g h1 h2 => hap g h2 h1), fun k h1 h2 => ?_⟩
  rcases hat with h | h
  · rw [h] at h1; exact hap k h1 h2
  · rw [h] at h1
    injection h1 with h1
    have := (ho.lt k h2).2
    omega
theorem lastOr_ne (a : Int) {b : List Po} (h : b ≠ []) : lastOr a b = (b.getD (b.length - 1) noPo).1 := by
  rcases List.eq_nil_or_concat b with h1 | ⟨m, x, rfl⟩
  · exact absurd h1 h
  · rw [List.concat_eq_append, lastOr_snoc]
    simp
def RBuildQ (w : World) (l : List Po) (en : Ending) (w' : World) : Prop :=
  Fr No w w' ∧ ((rightP l ∧ ∃ v m, m = (buildP l).length ∧ en = .returned (.tuple #[v, .int .i64 0]) ∧ Own w' w.heap.size 5 1 v m (by8 (buildP l))) ∨
    (¬ rightP l ∧ en = .returned (.tuple #[.slice none 0 0, .int .i64 1])))
theorem blk_getD (l : List Po) {j q : Nat} (h : q < 8) : (blkPo l j).getD q noPo = l.getD (8 * j + q) noPo := by
  unfold blkPo
  rw [List.getD, List.getD, List.getElem?_take, if_pos h, List.getElem?_drop]

set_option maxRecDepth 100000 in
set_option maxHeartbeats 8000000 in
theorem refBuildP_any (A : Option Addr) (n c B : Nat) (l : List Po) (w : World) (hl : l.length = n) (hn : n ≤ c) (hc : c ≤ maxLen) (hB : B ≤ w.heap.size) (hr : RdPo w B A l) (hb : ∀ x ∈ l, x.2.length ≤ 140737488351232) :
    Calls Try.prog 12 #[.slice A n c] w (RBuildQ w l) := by
  have HRt := hide (refRight_any A n c B l w hl hn hc hB hr hb)
  have HL := hide hl
  have HR := hide hr
  have HBz := hide hB
  unfold maxLen at hc
  clear hl hr hb hB
  go_enter Try.func12, Try.ntmps12
  go_wp2_with (fail)
  refine HRt.out.mono ?_
  rintro en w1 ⟨rb, hrb, rfl, hfr⟩
  have HRb := hide hrb
  have HF1 := hide hfr
  clear hrb hfr HRt
  cases rb with
  | false =>
    have HNo : Hid (¬ rightP l) := hide (fun h => by have := HRb.out.2 h; cases this)
    go_wp2_with (fail)
    go_ret2
    exact ⟨HF1.out, .inr ⟨HNo.out, rfl⟩⟩
  | true =>
    have HRi : Hid (rightP l) := hide (HRb.out.1 rfl)
    have hn16 : n ≤ 16384 := by rw [← HL.out]; exact right_16 HRi.out
    have HPu := hide (refUint_any n w1 (by omega))
    have hcv : IntKind.u64.wrap (n : Int) = (n : Int) := IntWalk.u64_in _ (by omega)
    clear HRb
    go_wp2_with (fail)
    refine HPu.out.mono ?_
    rintro en w2 ⟨v2, rfl, hown, hfr⟩
    have HF2 := hide (HF1.out.tr hfr)
    have HO2 : Hid (Own w2 w.heap.size 5 1 v2 (enc n ++ bodP l 0).length (by8 (enc n ++ bodP l 0))) := hide (by
      rw [show bodP l 0 = [] from rfl, List.append_nil]
      exact hown.lower HF1.out.size)
    clear hown hfr HPu
    go_wp2_with (fail)
    go_loopw [6, 5, 4] (fun fx la vb wr => ∃ (j f : Nat), fx = .int .i64 f ∧ Hid (f = 8 * j) ∧ f ≤ n + 8 ∧ Hid (j ≤ nbP n) ∧ la = .int .i64 (aheadPo l j) ∧ Hid (Own wr w.heap.size 5 1 vb (enc n ++ bodP l j).length (by8 (enc n ++ bodP l j))) ∧ Hid (Fr No w wr)) (fun fx _ _ _ => n + 8 - (intOf fx).toNat)
    case atStart => exact ⟨0, 0, rfl, hide rfl, by omega, hide (Nat.zero_le _), rfl, HO2, HF2⟩
    case round =>
      obtain ⟨wo, rfl⟩ : ∃ wo : World, wo = wr := ⟨_, rfl⟩
      obtain ⟨j, f, rfl, HFj, hfb, HJb, rfl, HO, HFr⟩ := hrel
      clear HO2 HF2
      by_cases hlt : f < n
      · have HJn : Hid (j < nbP n) := hide (by have := HFj.out; unfold nbP; omega)
        obtain ⟨ad, rfl⟩ : ∃ ad, A = some ad := by
          obtain ⟨ad, _, _, e, _⟩ := HR.out.at (k := 0) (by rw [HL.out]; omega)
          exact ⟨ad, e⟩
        obtain ⟨t, ht⟩ : ∃ t, min (f + 8) n = t := ⟨_, rfl⟩
        have ht2 : t ≤ n ∧ f < t ∧ t ≤ f + 8 := by omega
        obtain ⟨ht3, ht4, ht5⟩ := ht2
        have HT := hide ht
        have HBk : Hid ((blkPo l j).length = t - f) := hide (by rw [blkPo_len, HL.out, ← HFj.out, ← ht]; omega)
        have HOk := hide (right_row HRi.out j)
        obtain ⟨la, hla⟩ : ∃ la, aheadPo l j = la := ⟨_, rfl⟩
        rw [hla] at HOk ⊢
        have HLa := hide hla
        obtain ⟨gt, hgt⟩ : ∃ g : Bool, decide (n < f + 8) = g := ⟨_, rfl⟩
        have hgt2 : decide ((n : Int) < (f : Int) + 8) = gt := by rw [← hgt]; by_cases h : n < f + 8 <;> simp [h] <;> omega
        have HGt := hide hgt
        clear ht hla hgt
        have i0 : (0 : Int) ≤ (f : Int) := by omega
        go_upto_if 38 with (fail)
        refine wp_named fun K hK => ?_
        go_cut [7] from 39 to 40 (fun v7 wx => v7 = .int .i64 t ∧ wx = wo)
        case first =>
          cases gt with
          | true =>
            have E : Hid (t = n) := hide (by have h1 := of_decide_eq_true HGt.out; have h2 := HT.out; omega)
            go_wp2_with (fail)
            go_meet
            exact ⟨by rw [E.out], rfl⟩
          | false =>
            have E : Hid ((t : Int) = (f : Int) + 8) := hide (by have h1 := of_decide_eq_false HGt.out; have h2 := HT.out; omega)
            go_wp2_with (fail)
            go_meet
            exact ⟨by rw [E.out], rfl⟩
        case rest =>
        obtain ⟨rfl, rfl⟩ := hcut
        obtain ⟨wo, rfl⟩ : ∃ W : World, W = wc := ⟨_, rfl⟩
        refine hK _ _ ?_
        clear hK K hgt2
        have H30 : Hid (R3 wo w.heap.size (.slice none 0 0) (.slice none 0 0) (.slice none 0 0) [] [] []) := hide (R3.nil _ _)
        obtain ⟨i0I, hiI, hzI, hsI, hbI⟩ := info_parts Try.infoI64
        obtain ⟨b, hbb⟩ : ∃ b, blkPo l j = b := ⟨_, rfl⟩
        rw [hbb] at HOk HBk
        have HBb := hide hbb
        clear hbb
        have hso := HOk.out.s
        have HSum := hide hso
        clear hso
        go_wp2_with (fail)
        go_loopw [12, 5, 8, 9, 10] (fun ix lx vd vf vp wr => ∃ (q i : Nat) (last : Int), ix = .int .i64 i ∧ Hid (i = f + q) ∧ f ≤ i ∧ i ≤ t ∧ lx = .int .i64 last ∧ Hid (last = lastOr la (b.take q)) ∧ Hid (R3 wr w.heap.size vd vf vp (docsL la (b.take q)) (freqsL (b.take q)) (placesL (b.take q))) ∧ Hid (Own wr w.heap.size 5 1 u4 (enc n ++ bodP l j).length (by8 (enc n ++ bodP l j))) ∧ Hid (∀ k1, (u4 : Value).ownBlock = some k1 → k1 < wr.heap.size) ∧ Hid (Fr No w wr)) (fun ix _ _ _ _ _ => t - (intOf ix).toNat)
        case atStart => exact ⟨0, f, la, rfl, hide rfl, Nat.le_refl _, by omega, rfl, hide rfl, H30, HO, hide (fun k h => (HO.out.lt k h).2), HFr⟩
        case round =>
          obtain ⟨wz, rfl⟩ : ∃ wz : World, wz = wr := ⟨_, rfl⟩
          obtain ⟨q, i, last, rfl, HI, hfi, hit, rfl, HLs, H3, HOz, _, HFz⟩ := hrel
          clear H30 HO HFr
          by_cases hlt2 : i < t
          · have hqb : q < b.length := by rw [HBk.out]; have := HI.out; omega
            have hq8 : q < 8 := by have := HI.out; omega
            have hil : i < l.length := by rw [HL.out]; omega
            obtain ⟨ad', Ak, ck, e9, _, k1, k2, h4, h5, hrp⟩ := HR.out.at hil
            injection e9 with e9
            subst e9
            obtain ⟨x, hx⟩ : ∃ x, l.getD i noPo = x := ⟨_, rfl⟩
            have hxb : b.getD q noPo = x := by rw [← HBb.out, blk_getD l hq8, ← HFj.out, ← HI.out]; exact hx
            have hxm : x ∈ b := by rw [← hxb, List.getD, List.getElem?_eq_getElem hqb]; exact List.getElem_mem _
            rw [hx] at k1 k2 h4 hrp
            have HTk : Hid (b.take (q + 1) = b.take q ++ [x]) := hide (by rw [take_snocP hqb, hxb])
            have hxo := HOk.out.d _ hxm
            have hml := sumP_mem hxm
            have hlb := HOk.out.last q
            rw [← HLs.out] at hlb
            obtain ⟨d, p⟩ := x
            dsimp only at k1 k2 h4 hrp hxo hml
            obtain ⟨hd1, hd2, hd3, hd4⟩ := hxo
            obtain ⟨m, hm⟩ : ∃ m, p.length = m := ⟨_, rfl⟩
            have hm0 : 0 < m := by rw [← hm]; exact List.length_pos_iff.2 hd3
            rw [hm] at k2 h4 hml
            have HM := hide hm
            have HRp := hide hrp
            have HPy := hide hd4
            have i1 : (0 : Int) ≤ (i : Int) := by omega
            have i2 : (i : Int) < (n : Int) := by omega
            have i3 : (i : Int) < (t : Int) := by omega
            have hmb : m ≤ 1048576 := by have := HSum.out; omega
            obtain ⟨hlb1, hlb2⟩ := hlb
            obtain ⟨x1, hx1⟩ : ∃ x1, d - last = x1 := ⟨_, rfl⟩
            obtain ⟨x2, hx2⟩ : ∃ x2, x1 - 1 = x2 := ⟨_, rfl⟩
            obtain ⟨f1, hf1⟩ : ∃ f1 : Nat, m - 1 = f1 := ⟨_, rfl⟩
            have hf2 : (m : Int) - 1 = (f1 : Int) := by omega
            have HD2 : Hid (docsL la (b.take (q + 1)) = docsL la (b.take q) ++ [x2]) := hide (by rw [HTk.out, docsL_snoc, ← HLs.out, ← hx2, ← hx1])
            have HF2 : Hid (freqsL (b.take (q + 1)) = freqsL (b.take q) ++ [(f1 : Int)]) := hide (by rw [HTk.out, freqsL_snoc]; dsimp only; rw [HM.out, hf2])
            have HD1 : Hid ((docsL la (b.take q)).length = q) := hide (by rw [docsL_len, List.length_take]; omega)
            have HF1l : Hid ((freqsL (b.take q)).length = q) := hide (by rw [freqsL_len, List.length_take]; omega)
            obtain ⟨np, hnp⟩ : ∃ np, (placesL (b.take q)).length = np := ⟨_, rfl⟩
            have HNp := hide hnp
            have hnpm : np + m ≤ 1048576 := by
              have h1 := sumP_take (b := b) (q + 1)
              rw [HTk.out, sumP_snoc] at h1
              rw [placesL_len] at hnp
              have := HSum.out
              dsimp only at h1
              rw [HM.out] at h1
              omega
            have h3d := H3.out.d
            rw [HD1.out] at h3d
            have HS1 := hide (Src.one (P := Try.prog) wz (e := 2) Try.underlying79 (.int .i64 x2) rfl)
            have HO1 := hide (h3d.fr0 ((Fr.refl No wz).alloc (.cells #[.int .i64 x2] 2)))
            have b1 : (q + 1) * 8 ≤ 140737488355328 := by omega
            have b2 : q + 1 ≤ maxLen := by unfold maxLen; omega
            have b3 : w.heap.size ≤ (wz.alloc (.cells #[.int .i64 x2] 2)).heap.size := by have := HFz.out.size; simp; omega
            have HKw := hide (And.intro k1 k2)
            replace k1 := HFz.out.cell k1 (fun h => h)
            replace k2 := HFz.out.cell k2 (fun h => h)
            clear hx hxm hxb hil hrp hm hd4 hd3 h3d hnp hml hf1 hqb
            go_upto_region 17 with (first | (at_builtin; refine wpList_append_gen _ rfl (.tmp 48) (.tmp 57) 79 79 rfl w.heap.size 2 i0I (.int .i64 0) 1 8 Try.underlying79 hiI hzI hsI hbI rfl u8 q (iz .i64 (docsL la (b.take q))) rfl HO1.out _ 1 [.int .i64 x2] rfl HS1.out b1 b2 b3 ?_; intro v2 w2 hown hfr hat; have HO2 := hide hown; have HF3 := hide hfr; have HAt := hide hat; clear hown hfr hat) | fail)
            have fb : Fr No wz (wz.alloc (.cells #[.int .i64 x2] 2)) := (Fr.refl No wz).alloc _
            have HFw2 : Hid (Fr No w w2) := hide ((HFz.out.tr fb).own HF3.out (fun k hk => .inl (HO1.out.lt k hk).1))
            have H32 := hide (H3.out.app fb (by rw [HD1.out]; exact HO2.out) HF3.out HAt.out).rot
            rw [← HD2.out] at H32
            have HOu2 := hide ((HOz.out.fr0 fb).off HF3.out (off_own HO1.out (by decide)))
            have k3 := HFw2.out.cell HKw.out.1 (fun h => h)
            have k4 := HFw2.out.cell HKw.out.2 (fun h => h)
            have h3f := H32.out.d
            rw [HF1l.out] at h3f
            have HS2 := hide (Src.one (P := Try.prog) w2 (e := 2) Try.underlying79 (.int .i64 (f1 : Int)) rfl)
            have HO3 := hide (h3f.fr0 ((Fr.refl No w2).alloc (.cells #[.int .i64 (f1 : Int)] 2)))
            have b4 : w.heap.size ≤ (w2.alloc (.cells #[.int .i64 (f1 : Int)] 2)).heap.size := by have := HFw2.out.size; simp; omega
            clear fb k1 k2 h3f HO1 HS1 b3 H3 HFz HO2 HF3 HAt HOz
            go_upto_region 20 with (first | (at_builtin; refine wpList_append_gen _ rfl (.tmp 69) (.tmp 73) 79 79 rfl w.heap.size 2 i0I (.int .i64 0) 1 8 Try.underlying79 hiI hzI hsI hbI rfl u9 q (iz .i64 (freqsL (b.take q))) rfl HO3.out _ 1 [.int .i64 (f1 : Int)] rfl HS2.out b1 b2 b4 ?_; intro v3 w3 hown hfr hat; have HO4 := hide hown; have HF4 := hide hfr; have HAt := hide hat; clear hown hfr hat) | fail)
            have fb : Fr No w2 (w2.alloc (.cells #[.int .i64 (f1 : Int)] 2)) := (Fr.refl No w2).alloc _
            have HFw3 : Hid (Fr No w w3) := hide ((HFw2.out.tr fb).own HF4.out (fun k hk => .inl (HO3.out.lt k hk).1))
            have H33 := hide (H32.out.app fb (by rw [HF1l.out]; exact HO4.out) HF4.out HAt.out).rot
            rw [← HF2.out] at H33
            have HOu3 := hide ((HOu2.out.fr0 fb).off HF4.out (off_own HO3.out (by decide)))
            have HPl0 : Hid (R3 w3 w.heap.size u10 v2 v3 (placesL (b.take q) ++ deltaL 0 (p.take 0)) (docsL la (b.take (q + 1))) (freqsL (b.take (q + 1)))) := hide (by rw [List.take_zero, deltaL, List.append_nil]; exact H33.out)
            clear fb k3 k4 HO3 HS2 b4 H32 HO4 HF4 HAt H33 HOu2
            go_wp2_with (fail)
            go_loopw [14, 10] (fun kx vp wx => ∃ k : Nat, k ≤ m ∧ kx = .int .i64 k ∧ Hid (R3 wx w.heap.size vp v2 v3 (placesL (b.take q) ++ deltaL 0 (p.take k)) (docsL la (b.take (q + 1))) (freqsL (b.take (q + 1)))) ∧ Hid (Own wx w.heap.size 5 1 u4 (enc n ++ bodP l j).length (by8 (enc n ++ bodP l j))) ∧ Hid (Fr No w wx)) (fun kx _ _ => m - (intOf kx).toNat)
            case atStart => exact ⟨0, Nat.zero_le _, rfl, HPl0, HOu3, HFw3⟩
            case round =>
              obtain ⟨wy, rfl⟩ : ∃ wy : World, wy = wr := ⟨_, rfl⟩
              obtain ⟨k, hk, rfl, HPk, HOy, HFy⟩ := hrel
              clear HPl0 HFw3 HOu3
              by_cases hkm : k < m
              · have hkp : k < p.length := by rw [HM.out]; exact hkm
                obtain ⟨ad2, rfl, _, kp1⟩ := cellInt (HRp.out.fr0 HFy.out) hkp
                obtain ⟨ad3, e3, _, kp2⟩ := cellInt (HRp.out.fr0 HFy.out) (k := k - 1) (by omega)
                injection e3 with e3
                subst e3
                have hx3 := HPy.out _ (getZ_mem hkp)
                have hy3 := HPy.out _ (getZ_mem (show k - 1 < p.length by omega))
                have HDe : Hid (deltaL 0 (p.take (k + 1)) = deltaL 0 (p.take k) ++ [p.getD k 0 - lastPl p k]) := hide (delta_take hkp)
                have hnk : (placesL (b.take q) ++ deltaL 0 (p.take k)).length = np + k := by rw [List.length_append, HNp.out, deltaL_len, List.length_take]; omega
                obtain ⟨nk, hnk2⟩ : ∃ nk, np + k = nk := ⟨_, rfl⟩
                rw [hnk2] at hnk
                have HNk := hide hnk
                obtain ⟨x, hx⟩ : ∃ x, p.getD k 0 = x := ⟨_, rfl⟩
                obtain ⟨y, hy⟩ : ∃ y, p.getD (k - 1) 0 = y := ⟨_, rfl⟩
                rw [hx] at kp1 hx3 HDe
                rw [hy] at kp2 hy3
                have HYy := hide hy
                have h3p := HPk.out.d
                rw [hnk] at h3p
                have b5 : (nk + 1) * 8 ≤ 140737488355328 := by omega
                have b6 : nk + 1 ≤ maxLen := by unfold maxLen; omega
                have i5 : (0 : Int) ≤ (k : Int) := by omega
                have i6 : (k : Int) < (m : Int) := by omega
                obtain ⟨hx4, hx5⟩ := hx3
                obtain ⟨hy4, hy5⟩ := hy3
                obtain ⟨g0, hg0⟩ : ∃ g : Bool, ((k : Int) == 0) = g := ⟨_, rfl⟩
                have HG0 := hide hg0
                have HP3 := hide h3p
                clear hkp hnk hx hy h3p hnk2
                go_upto_if 82 with (fail)
                refine wp_named fun K hK => ?_
                go_cut [10] from 83 to 101 (fun vp wx => Hid (R3 wx w.heap.size vp v2 v3 (placesL (b.take q) ++ deltaL 0 (p.take (k + 1))) (docsL la (b.take (q + 1))) (freqsL (b.take (q + 1)))) ∧ Hid (Own wx w.heap.size 5 1 u4 (enc n ++ bodP l j).length (by8 (enc n ++ bodP l j))) ∧ Hid (Fr No w wx))
                case first =>
                  cases g0 with
                  | true =>
                    have hk0 : k = 0 := by have := HG0.out; simp at this; omega
                    have HDz : Hid (deltaL 0 (p.take (k + 1)) = deltaL 0 (p.take k) ++ [x]) := hide (by rw [HDe.out, show lastPl p k = 0 by unfold lastPl; rw [if_pos hk0], Int.sub_zero])
                    have HO5 := hide (HP3.out.fr0 ((Fr.refl No wy).alloc (.cells #[.int .i64 x] 2)))
                    have HS5 := hide (Src.one (P := Try.prog) wy (e := 2) Try.underlying79 (.int .i64 x) rfl)
                    have b7 : w.heap.size ≤ (wy.alloc (.cells #[.int .i64 x] 2)).heap.size := by have := HFy.out.size; simp; omega
                    have kp3 : wy.cell? ad2 = some (.int .i64 x) := by rw [hk0, show ad2.add 0 = ad2 by unfold Addr.add; simp] at kp1; exact kp1
                    have i7 : (0 : Int) < (m : Int) := by omega
                    clear hg0 hk0 kp1 kp2
                    go_wp2_with (first | (at_builtin; refine wpList_append_gen _ rfl (.tmp 83) (.tmp 87) 79 79 rfl w.heap.size 2 i0I (.int .i64 0) 1 8 Try.underlying79 hiI hzI hsI hbI rfl u10 nk (iz .i64 (placesL (b.take q) ++ deltaL 0 (p.take k))) rfl HO5.out _ 1 [.int .i64 x] rfl HS5.out b5 b6 b7 ?_; intro v5 w5 hown hfr hat; have HO6 := hide hown; have HF5 := hide hfr; have HAt := hide hat; clear hown hfr hat) | fail)
                    go_meet
                    have fb : Fr No wy (wy.alloc (.cells #[.int .i64 x] 2)) := (Fr.refl No wy).alloc _
                    have H35 := HPk.out.app fb (by rw [HNk.out]; exact HO6.out) HF5.out HAt.out
                    rw [List.append_assoc, ← HDz.out] at H35
                    exact ⟨hide H35, hide ((HOy.out.fr0 fb).off HF5.out (off_own HO5.out (by decide))), hide ((HFy.out.tr fb).own HF5.out (fun k hk => .inl (HO5.out.lt k hk).1))⟩
                  | false =>
                    have hk0 : k ≠ 0 := by have := HG0.out; simp at this; omega
                    obtain ⟨z, hz3⟩ : ∃ z, x - y = z := ⟨_, rfl⟩
                    have HDz : Hid (deltaL 0 (p.take (k + 1)) = deltaL 0 (p.take k) ++ [z]) := hide (by rw [HDe.out, show lastPl p k = y by unfold lastPl; rw [if_neg hk0]; exact HYy.out, hz3])
                    have HO5 := hide (HP3.out.fr0 (((Fr.refl No wy).drew).alloc (.cells #[.int .i64 z] 2)))
                    have HS5 := hide (Src.one (P := Try.prog) wy.drew (e := 2) Try.underlying79 (.int .i64 z) rfl)
                    have b7 : w.heap.size ≤ (wy.drew.alloc (.cells #[.int .i64 z] 2)).heap.size := by have := HFy.out.size; simp; omega
                    have kp3 : wy.drew.cell? (ad2.add k) = some (.int .i64 x) := kp1
                    have kp4 : wy.drew.cell? (ad2.add (k - 1)) = some (.int .i64 y) := kp2
                    have im1 : IntKind.i64.wrap ((k : Int) - 1) = ((k - 1 : Nat) : Int) := by rw [show (k : Int) - 1 = ((k - 1 : Nat) : Int) by omega]; exact IntWalk.i64_in _ (by omega)
                    have im2 : (k : Int) - 1 = ((k - 1 : Nat) : Int) := by omega
                    have im3 : ((k - 1 : Nat) : Int) < (m : Int) := by omega
                    have im4 : (0 : Int) ≤ ((k - 1 : Nat) : Int) := by omega
                    have im5 : IntKind.i64.wrap ((k - 1 : Nat) : Int) = ((k - 1 : Nat) : Int) := IntWalk.i64_in _ (by omega)
                    have hzw : IntKind.i64.wrap z = z := IntWalk.i64_in _ (by omega)
                    clear hg0 hk0 kp1 kp2
                    go_wp2_with (fail)
                    go_region_law (first
                      | (refine step_append_at rfl (.tmp 89) (.tmp 100) 79 79 rfl w.heap.size 2 i0I (.int .i64 0) 1 8 Try.underlying79 hiI hzI hsI hbI rfl u10 nk (iz .i64 (placesL (b.take q) ++ deltaL 0 (p.take k))) rfl HO5.out _ 1 [.int .i64 z] rfl HS5.out b5 b6 b7 ?_; intro v5 w5 hown hfr hat; have HO6 := hide hown; have HF5 := hide hfr; have HAt := hide hat; clear hown hfr hat))
                    all_goals (go_wp2; go_meet)
                    all_goals (
                      have fb : Fr No wy (wy.drew.alloc (.cells #[.int .i64 z] 2)) := ((Fr.refl No wy).drew).alloc _
                      have H35 := HPk.out.app fb (by rw [HNk.out]; exact HO6.out) HF5.out HAt.out
                      rw [List.append_assoc, ← HDz.out] at H35
                      exact ⟨hide H35, hide ((HOy.out.fr0 fb).off HF5.out (off_own HO5.out (by decide))), hide ((HFy.out.tr fb).own HF5.out (fun k hk => .inl (HO5.out.lt k hk).1))⟩)
                case rest =>
                obtain ⟨HP6, HO6, HF6⟩ := hcut
                refine hK _ _ ?_
                clear hK kp1 kp2 hg0
                go_wp2_with (fail)
                go_roundw
                case rel => exact ⟨k + 1, by omega, by go_num, HP6, HO6, HF6⟩
                case measure => simp [intOf]; omega
              · have hke : k = m := by omega
                subst hke
                have HPe : Hid (placesL (b.take q) ++ deltaL 0 (p.take k) = placesL (b.take (q + 1))) := hide (by rw [HTk.out, placesL_snoc]; dsimp only; rw [List.take_of_length_le (l := p) (by rw [HM.out]; exact Nat.le_refl _)])
                rw [HPe.out] at HPk
                have H36 := hide HPk.out.rot
                have HLs2 : Hid (d = lastOr la (b.take (q + 1))) := hide (by rw [HTk.out, lastOr_snoc])
                have d5 : decide ((k : Int) < (k : Int)) = false := by simp
                go_wp2_with (fail)
                go_roundw
                case rel => exact ⟨q + 1, i + 1, d, by go_num, hide (by have := HI.out; omega), by omega, by omega, rfl, HLs2, H36, HOy, hide (fun k h => (HOy.out.lt k h).2), HFy⟩
                case measure => simp [intOf]; omega
          · skip
            have hqe : q = t - f := by have := HI.out; omega
            have HTa : Hid (b.take q = b) := hide (List.take_of_length_le (by rw [HBk.out]; omega))
            rw [HTa.out] at H3 HLs
            have hbne : b ≠ [] := fun h => by have := HBk.out; rw [h] at this; simp at this; omega
            have HEnd : Hid (last = lastD (l.take (8 * (j + 1)))) := hide (by
              rw [HLs.out, ← HBb.out, end_blk (k := (blkPo l j).length) rfl (by rw [HBb.out]; exact List.length_pos_iff.2 hbne)]
              exact lastOr_ne _ (by rw [HBb.out]; exact hbne))
            have hle := end_up HRi.out (j := j) (by rw [HL.out]; exact HJn.out)
            rw [← HEnd.out, HLa.out] at hle
            obtain ⟨hle1, hle2⟩ := hle
            have hla1 := HOk.out.a1
            have HdI := hide (docs_in HOk.out)
            have HfI := hide (freqs_in HOk.out)
            have HpI := hide (places_in HOk.out)
            have HRb := hide (rowsB_le HOk.out)
            have HRw : Hid (rowsB la b = putR (docsL la b) ++ putR (freqsL b) ++ putR (placesL b)) := hide rfl
            have hdl := docsL_len la b
            have hfl := freqsL_len b
            have hpl := placesL_len b
            rw [HBk.out] at hdl hfl
            obtain ⟨kb, hkb⟩ : ∃ kb, t - f = kb := ⟨_, rfl⟩
            rw [hkb] at hdl hfl
            have hkb8 : kb ≤ 8 := by omega
            rw [HRw.out] at HRb
            have HPc : Hid (pieceP l j = enc (rowsB la b).length ++ enc (last - la).toNat ++ rowsB la b) := hide (by rw [pieceP, HLa.out, HBb.out, ← HEnd.out])
            generalize docsL la b = D at H3 HdI hdl HRb HRw
            generalize freqsL b = F at H3 HfI hfl HRb HRw
            generalize placesL b = P at H3 HpI hpl HRb HRw
            obtain ⟨np, hnp⟩ : ∃ np, P.length = np := ⟨_, rfl⟩
            have hnb : np ≤ 1048576 := by have := HSum.out; omega
            have hH3 := H3.out
            obtain ⟨Ad, cd, rfl, d1, d2, _, d4, _⟩ := hH3.d.form
            obtain ⟨Af, cf, rfl, f1, f2, _, f4, _⟩ := hH3.f.form
            obtain ⟨Ap, cp, rfl, p1, p2, _, p4, _⟩ := hH3.p.form
            rw [hdl] at d1 ⊢
            rw [hfl] at f1 ⊢
            rw [hnp] at p1 ⊢
            have HPd := hide (refPut_any Ad kb cd wz.heap.size D wz hdl HdI.out d1 d2 (by omega) (Nat.le_refl _) d4)
            have HPf := hide (fun W (hW : Fr No wz W) => refPut_any Af kb cf wz.heap.size F W hfl HfI.out f1 f2 (by omega) hW.size (f4.fr0 hW))
            have HPp := hide (fun W (hW : Fr No wz W) => refPut_any Ap np cp wz.heap.size P W hnp HpI.out p1 p2 hnb hW.size (p4.fr0 hW))
            obtain ⟨xs, hxs⟩ : ∃ xs, putR D = xs := ⟨_, rfl⟩
            obtain ⟨ys, hys⟩ : ∃ ys, putR F = ys := ⟨_, rfl⟩
            obtain ⟨zs, hzs⟩ : ∃ zs, putR P = zs := ⟨_, rfl⟩
            rw [hxs] at HPd HRb HRw
            rw [hys] at HPf HRb HRw
            rw [hzs] at HPp HRb HRw
            obtain ⟨Bs, hBs⟩ : ∃ Bs, enc n ++ bodP l j = Bs := ⟨_, rfl⟩
            rw [hBs] at HOz
            have HBs := hide hBs
            obtain ⟨mx, hmx⟩ : ∃ mx, xs.length = mx := ⟨_, rfl⟩
            obtain ⟨my, hmy⟩ : ∃ my, ys.length = my := ⟨_, rfl⟩
            obtain ⟨mz, hmz⟩ : ∃ mz, zs.length = mz := ⟨_, rfl⟩
            obtain ⟨z0, hz0⟩ : ∃ z0, Bs.length = z0 := ⟨_, rfl⟩
            have hzb : z0 ≤ 20000000000 := by
              rw [← hz0, ← hBs, List.length_append]
              have h1 := bodP_le HRi.out j
              have h2 := (enc_len n).2
              have h3 := HJn.out
              unfold nbP at h3
              omega
            have hmr : mx + my + mz ≤ 9000000 := by have := HRb.out; rw [List.length_append, List.length_append, hmx, hmy, hmz] at this; exact this
            obtain ⟨s1, hs1⟩ : ∃ s1, mx + my = s1 := ⟨_, rfl⟩
            obtain ⟨mR, hmR⟩ : ∃ mR, s1 + mz = mR := ⟨_, rfl⟩
            have hs2 : (mx : Int) + (my : Int) = (s1 : Int) := by omega
            have hs3 : (s1 : Int) + (mz : Int) = (mR : Int) := by omega
            have HRlen : Hid ((rowsB la b).length = mR) := hide (by rw [HRw.out, List.length_append, List.length_append, hmx, hmy, hmz]; omega)
            obtain ⟨dd, hdd⟩ : ∃ dd : Nat, (last - la).toNat = dd := ⟨_, rfl⟩
            have hd1 : last - la = (dd : Int) := by omega
            have hd2 : dd ≤ 20000 := by omega
            have hd3 : IntKind.u64.wrap (dd : Int) = (dd : Int) := IntWalk.u64_in _ (by omega)
            have hd5 : IntKind.i64.wrap (dd : Int) = (dd : Int) := IntWalk.i64_in _ (by omega)
            have hd4 : IntKind.u64.wrap (mR : Int) = (mR : Int) := IntWalk.u64_in _ (by omega)
            obtain ⟨mn, hmn⟩ : ∃ mn, (enc mR).length = mn := ⟨_, rfl⟩
            obtain ⟨md, hmd⟩ : ∃ md, (enc dd).length = md := ⟨_, rfl⟩
            have hmn2 : mn ≤ 10 := by rw [← hmn]; exact (enc_len mR).2
            have hmd2 : md ≤ 10 := by rw [← hmd]; exact (enc_len dd).2
            have HDd := hide hdd
            have HMx := hide hmx
            have HMy := hide hmy
            have HMz := hide hmz
            have HMn := hide hmn
            have HMd := hide hmd
            have HUn := hide (fun W => refUint_any mR W (by omega))
            have HUd := hide (fun W => refUint_any dd W (by omega))
            have HZ0 := hide hz0
            rw [hz0] at HOz
            have HSz := hide HFz.out.size
            have d9 : decide ((i : Int) < (t : Int)) = false := decide_eq_false (by omega)
            have d9b : decide (i < t) = false := decide_eq_false hlt2
            obtain ⟨i8, hi8, hz8, hsz8, hby8⟩ := info_parts Try.info5
            clear hH3 d1 d2 d4 f1 f2 f4 p1 p2 p4 hxs hys hzs hdl hfl hpl hnp hlt2 HdI HfI HpI H3 HTa hbne hBs hmx hmy hmz hz0 hs1 hmR hdd hmn hmd hkb hqe
            go_wp2_with (fail)
            refine HPd.out.mono ?_
            rintro en w1a ⟨vx, rfl, hown, hfr⟩
            rw [HMx.out] at hown
            obtain ⟨Ax, cx, rfl, _⟩ := id hown.form
            have HX1 := hide hown
            have HF1a := hide hfr
            have HO1a := hide (HOz.out.fr0 hfr)
            have HAx : Hid (Apt u4 (.slice Ax mx cx)) := hide (fun k h1 h2 => by have a1 := (HOz.out.lt k h1).2; have a2 := (hown.lt k h2).1; omega)
            clear hown hfr
            go_wp2_with (fail)
            refine (HPf.out w1a HF1a.out).mono ?_
            rintro en w2a ⟨vy, rfl, hown, hfr⟩
            rw [HMy.out] at hown
            obtain ⟨Ay, cy, rfl, _⟩ := id hown.form
            have HY2 := hide hown
            have HX2 := hide (HX1.out.fr0 hfr)
            have HF2a := hide (HF1a.out.tr hfr)
            have HO2a := hide (HO1a.out.fr0 hfr)
            have HAy : Hid (Apt u4 (.slice Ay my cy)) := hide (fun k h1 h2 => by have a1 := (HO1a.out.lt k h1).2; have a2 := (hown.lt k h2).1; omega)
            clear hown hfr
            go_wp2_with (fail)
            refine (HPp.out w2a HF2a.out).mono ?_
            rintro en w3a ⟨vz, rfl, hown, hfr⟩
            rw [HMz.out] at hown
            obtain ⟨Az, cz, rfl, _⟩ := id hown.form
            have HZ3 := hide hown
            have HX3 := hide (HX2.out.fr0 hfr)
            have HY3 := hide (HY2.out.fr0 hfr)
            have HF3a := hide (HF2a.out.tr hfr)
            have HO3a := hide (HO2a.out.fr0 hfr)
            have HAz : Hid (Apt u4 (.slice Az mz cz)) := hide (fun k h1 h2 => by have a1 := (HO2a.out.lt k h1).2; have a2 := (hown.lt k h2).1; omega)
            clear hown hfr
            go_wp2_with (fail)
            refine (HUn.out w3a).mono ?_
            rintro en w4a ⟨vn, rfl, hown, hfr⟩
            rw [HMn.out] at hown
            obtain ⟨An, cn, rfl, _⟩ := id hown.form
            have HN4 := hide hown
            have HX4 := hide (HX3.out.fr0 hfr)
            have HY4 := hide (HY3.out.fr0 hfr)
            have HZ4 := hide (HZ3.out.fr0 hfr)
            have HF4a := hide (HF3a.out.tr hfr)
            have HO4a := hide (HO3a.out.fr0 hfr)
            have HAn : Hid (Apt u4 (.slice An mn cn)) := hide (fun k h1 h2 => by have a1 := (HO3a.out.lt k h1).2; have a2 := (hown.lt k h2).1; omega)
            clear hown hfr
            go_wp2_with (fail)
            refine (HUd.out w4a).mono ?_
            rintro en w5a ⟨vd, rfl, hown, hfr⟩
            rw [HMd.out] at hown
            obtain ⟨Adz, cdz, rfl, _⟩ := id hown.form
            have HD5 := hide hown
            have HX5 := hide (HX4.out.fr0 hfr)
            have HY5 := hide (HY4.out.fr0 hfr)
            have HZ5 := hide (HZ4.out.fr0 hfr)
            have HN5 := hide (HN4.out.fr0 hfr)
            have HF5a := hide (HFz.out.tr (HF4a.out.tr hfr))
            have HO5a := hide (HO4a.out.fr0 hfr)
            have HAd : Hid (Apt u4 (.slice Adz md cdz)) := hide (fun k h1 h2 => by have a1 := (HO4a.out.lt k h1).2; have a2 := (hown.lt k h2).1; omega)
            clear hown hfr HX1 HX2 HX3 HX4 HY2 HY3 HY4 HZ3 HZ4 HN4 HO1a HO2a HO3a HO4a HPd HPf HPp HUn HUd HF1a HF2a HF3a HF4a
            obtain ⟨z1, hz1⟩ : ∃ z1, z0 + mn = z1 := ⟨_, rfl⟩
            have hzb1 : z1 ≤ 20009000100 := by omega
            have HS6 := hide (Src.ofRd (P := Try.prog) (size := 1) w5a Try.underlying25 An mn cn (by8 (enc mR)) (by rw [by8_length, HMn.out]; omega) (by omega) HN5.out.rd (by8_one _))
            have e6a : (z0 + mn) * 1 ≤ 140737488355328 := by omega
            have e6b : z0 + mn ≤ maxLen := by unfold maxLen; omega
            have e6c : w.heap.size ≤ w5a.heap.size := HF5a.out.size
            go_upto_region 32 with (first | (at_builtin; refine wpList_append_gen _ rfl (.tmp 123) (.tmp 124) 25 25 rfl w.heap.size 5 i8 (.int .u8 0) 1 1 Try.underlying25 hi8 hz8 hsz8 hby8 rfl u4 z0 (by8 (Bs)) rfl HO5a.out _ mn (by8 (enc mR)) rfl HS6.out e6a e6b e6c ?_; intro v6a w6a hown hfr hat; rw [← by8_append, hz1] at hown; have HO6a := hide hown; have HG6 := hide hfr; have HT6 := hide hat; clear hown hfr hat) | fail)
            have HF6a : Hid (Fr No w w6a) := hide (HF5a.out.own HG6.out (fun k hk => .inl (HO5a.out.lt k hk).1))
            have HKD6 := hide (srcKeep HD5.out HAd.out HG6.out HT6.out)
            have HKX6 := hide (srcKeep HX5.out HAx.out HG6.out HT6.out)
            have HKY6 := hide (srcKeep HY5.out HAy.out HG6.out HT6.out)
            have HKZ6 := hide (srcKeep HZ5.out HAz.out HG6.out HT6.out)
            have HWD6 := hide HKD6.out.1
            have HAD6 := hide HKD6.out.2
            have HWX6 := hide HKX6.out.1
            have HAX6 := hide HKX6.out.2
            have HWY6 := hide HKY6.out.1
            have HAY6 := hide HKY6.out.2
            have HWZ6 := hide HKZ6.out.1
            have HAZ6 := hide HKZ6.out.2
            obtain ⟨z2, hz2⟩ : ∃ z2, z1 + md = z2 := ⟨_, rfl⟩
            have hzb2 : z2 ≤ 20009000100 := by omega
            have HS7 := hide (Src.ofRd (P := Try.prog) (size := 1) w6a Try.underlying25 Adz md cdz (by8 (enc dd)) (by rw [by8_length, HMd.out]; omega) (by omega) HWD6.out.rd (by8_one _))
            have e7a : (z1 + md) * 1 ≤ 140737488355328 := by omega
            have e7b : z1 + md ≤ maxLen := by unfold maxLen; omega
            have e7c : w.heap.size ≤ w6a.heap.size := HF6a.out.size
            go_upto_region 33 with (first | (at_builtin; refine wpList_append_gen _ rfl (.tmp 126) (.tmp 127) 25 25 rfl w.heap.size 5 i8 (.int .u8 0) 1 1 Try.underlying25 hi8 hz8 hsz8 hby8 rfl v6a z1 (by8 (Bs ++ (enc mR))) rfl HO6a.out _ md (by8 (enc dd)) rfl HS7.out e7a e7b e7c ?_; intro v7a w7a hown hfr hat; rw [← by8_append, hz2] at hown; have HO7a := hide hown; have HG7 := hide hfr; have HT7 := hide hat; clear hown hfr hat) | fail)
            have HF7a : Hid (Fr No w w7a) := hide (HF6a.out.own HG7.out (fun k hk => .inl (HO6a.out.lt k hk).1))
            have HKX7 := hide (srcKeep HWX6.out HAX6.out HG7.out HT7.out)
            have HKY7 := hide (srcKeep HWY6.out HAY6.out HG7.out HT7.out)
            have HKZ7 := hide (srcKeep HWZ6.out HAZ6.out HG7.out HT7.out)
            have HWX7 := hide HKX7.out.1
            have HAX7 := hide HKX7.out.2
            have HWY7 := hide HKY7.out.1
            have HAY7 := hide HKY7.out.2
            have HWZ7 := hide HKZ7.out.1
            have HAZ7 := hide HKZ7.out.2
            obtain ⟨z3, hz3⟩ : ∃ z3, z2 + mx = z3 := ⟨_, rfl⟩
            have hzb3 : z3 ≤ 20009000100 := by omega
            have HS8 := hide (Src.ofRd (P := Try.prog) (size := 1) w7a Try.underlying25 Ax mx cx (by8 xs) (by rw [by8_length, HMx.out]; omega) (by omega) HWX7.out.rd (by8_one _))
            have e8a : (z2 + mx) * 1 ≤ 140737488355328 := by omega
            have e8b : z2 + mx ≤ maxLen := by unfold maxLen; omega
            have e8c : w.heap.size ≤ w7a.heap.size := HF7a.out.size
            go_upto_region 34 with (first | (at_builtin; refine wpList_append_gen _ rfl (.tmp 129) (.tmp 130) 25 25 rfl w.heap.size 5 i8 (.int .u8 0) 1 1 Try.underlying25 hi8 hz8 hsz8 hby8 rfl v7a z2 (by8 (Bs ++ (enc mR) ++ (enc dd))) rfl HO7a.out _ mx (by8 xs) rfl HS8.out e8a e8b e8c ?_; intro v8a w8a hown hfr hat; rw [← by8_append, hz3] at hown; have HO8a := hide hown; have HG8 := hide hfr; have HT8 := hide hat; clear hown hfr hat) | fail)
            have HF8a : Hid (Fr No w w8a) := hide (HF7a.out.own HG8.out (fun k hk => .inl (HO7a.out.lt k hk).1))
            have HKY8 := hide (srcKeep HWY7.out HAY7.out HG8.out HT8.out)
            have HKZ8 := hide (srcKeep HWZ7.out HAZ7.out HG8.out HT8.out)
            have HWY8 := hide HKY8.out.1
            have HAY8 := hide HKY8.out.2
            have HWZ8 := hide HKZ8.out.1
            have HAZ8 := hide HKZ8.out.2
            obtain ⟨z4, hz4⟩ : ∃ z4, z3 + my = z4 := ⟨_, rfl⟩
            have hzb4 : z4 ≤ 20009000100 := by omega
            have HS9 := hide (Src.ofRd (P := Try.prog) (size := 1) w8a Try.underlying25 Ay my cy (by8 ys) (by rw [by8_length, HMy.out]; omega) (by omega) HWY8.out.rd (by8_one _))
            have e9a : (z3 + my) * 1 ≤ 140737488355328 := by omega
            have e9b : z3 + my ≤ maxLen := by unfold maxLen; omega
            have e9c : w.heap.size ≤ w8a.heap.size := HF8a.out.size
            go_upto_region 35 with (first | (at_builtin; refine wpList_append_gen _ rfl (.tmp 132) (.tmp 133) 25 25 rfl w.heap.size 5 i8 (.int .u8 0) 1 1 Try.underlying25 hi8 hz8 hsz8 hby8 rfl v8a z3 (by8 (Bs ++ (enc mR) ++ (enc dd) ++ xs)) rfl HO8a.out _ my (by8 ys) rfl HS9.out e9a e9b e9c ?_; intro v9a w9a hown hfr hat; rw [← by8_append, hz4] at hown; have HO9a := hide hown; have HG9 := hide hfr; have HT9 := hide hat; clear hown hfr hat) | fail)
            have HF9a : Hid (Fr No w w9a) := hide (HF8a.out.own HG9.out (fun k hk => .inl (HO8a.out.lt k hk).1))
            have HKZ9 := hide (srcKeep HWZ8.out HAZ8.out HG9.out HT9.out)
            have HWZ9 := hide HKZ9.out.1
            have HAZ9 := hide HKZ9.out.2
            obtain ⟨z5, hz5⟩ : ∃ z5, z4 + mz = z5 := ⟨_, rfl⟩
            have hzb5 : z5 ≤ 20009000100 := by omega
            have HS10 := hide (Src.ofRd (P := Try.prog) (size := 1) w9a Try.underlying25 Az mz cz (by8 zs) (by rw [by8_length, HMz.out]; omega) (by omega) HWZ9.out.rd (by8_one _))
            have e10a : (z4 + mz) * 1 ≤ 140737488355328 := by omega
            have e10b : z4 + mz ≤ maxLen := by unfold maxLen; omega
            have e10c : w.heap.size ≤ w9a.heap.size := HF9a.out.size
            go_upto_region 7 with (first | (at_builtin; refine wpList_append_gen _ rfl (.tmp 135) (.tmp 136) 25 25 rfl w.heap.size 5 i8 (.int .u8 0) 1 1 Try.underlying25 hi8 hz8 hsz8 hby8 rfl v9a z4 (by8 (Bs ++ (enc mR) ++ (enc dd) ++ xs ++ ys)) rfl HO9a.out _ mz (by8 zs) rfl HS10.out e10a e10b e10c ?_; intro v10a w10a hown hfr hat; rw [← by8_append, hz5] at hown; have HO10a := hide hown; have HG10 := hide hfr; have HT10 := hide hat; clear hown hfr hat) | fail)
            have HF10a : Hid (Fr No w w10a) := hide (HF9a.out.own HG10.out (fun k hk => .inl (HO9a.out.lt k hk).1))
            have HEq : Hid (Bs ++ (enc mR) ++ (enc dd) ++ xs ++ ys ++ zs = enc n ++ bodP l (j + 1)) := hide (by
              rw [bodP_succ, HPc.out, HRlen.out, HDd.out, HRw.out, ← HBs.out]
              simp only [List.append_assoc])
            have HLe9 : Hid ((Bs ++ (enc mR) ++ (enc dd) ++ xs ++ ys ++ zs).length = z5) := hide (by
              simp only [List.length_append, HZ0.out, HMn.out, HMd.out, HMx.out, HMy.out, HMz.out]; omega)
            have HO9 : Hid (Own w10a w.heap.size 5 1 v10a (enc n ++ bodP l (j + 1)).length (by8 (enc n ++ bodP l (j + 1)))) := hide (by rw [← HEq.out, HLe9.out]; exact HO10a.out)
            have HLa9 : Hid (last = aheadPo l (j + 1)) := hide HEnd.out
            go_wp2_with (fail)
            go_roundw
            case rel => exact ⟨j + 1, f + 8, by go_num, hide (by have := HFj.out; omega), by omega, hide HJn.out, by rw [HLa9.out], HO9, HF10a⟩
            case measure => simp [intOf]; omega
      · have HJe : Hid (j = nbP n) := hide (by have h1 := HFj.out; have h2 := HJb.out; unfold nbP at h2 ⊢; omega)
        have d1 : decide ((f : Int) < (n : Int)) = false := decide_eq_false (by omega)
        have d1b : decide (f < n) = false := decide_eq_false hlt
        clear hlt
        go_wp2_with (fail)
        go_ret2
        refine ⟨HFr.out, .inl ⟨HRi.out, _, _, rfl, rfl, ?_⟩⟩
        rw [buildP, HL.out, ← HJe.out]
        exact HO.out
end Go.Proofs.Ythlbfnoahdjdeaa
namespace Go.Proofs.Ythlbfnoahdjdeaa
set_option linter.unusedVariables false
set_option linter.unusedSimpArgs false
open Go.RowKit

set_option maxRecDepth 100000 in
set_option maxHeartbeats 800000 in
theorem bytes1_bad (b2 : Nat) (x : Int) (A : Option Addr) (n c : Nat) (W : World) (hn : n ≤ c) (hc : c ≤ maxLen) (hx : x < 0 ∨ (n : Int) < x) (c2 : W.cell? ⟨b2, 0, none⟩ = some (.int .i64 x)) :
    Calls Try.prog 77 #[.slice A n c, .pointer (some ⟨b2, 0, none⟩)] W (Ret (.tuple #[.slice none 0 0, .int .i64 (-1)]) W) := by
  unfold maxLen at hc
  by_cases h0 : x < 0
  all_goals
    go_enter Try.func77, Try.ntmps77
    go_wp2
    go_ret2
    exact ⟨rfl, rfl⟩

set_option maxRecDepth 100000 in
set_option maxHeartbeats 800000 in
theorem bytes1_ok (b2 k : Nat) (A : Option Addr) (n c B : Nat) (t : List UInt8) (W : World) (hk : k ≤ n) (hn : n ≤ c) (hc : c ≤ maxLen) (hb : n ≤ 140737488355328) (hB : B ≤ W.heap.size) (ht : t.length = k) (hr : Rd W B A (by8 t)) (c2 : W.cell? ⟨b2, 0, none⟩ = some (.int .i64 k)) :
    Calls Try.prog 77 #[.slice A n c, .pointer (some ⟨b2, 0, none⟩)] W (fun en w' => ∃ v, en = .returned (.tuple #[v, .int .i64 k]) ∧ Own w' W.heap.size 5 1 v k (by8 t) ∧ Fr No W w') := by
  have HC := hide hc
  unfold maxLen at hc
  have HR := hide hr
  have HB := hide hB
  have HT := hide ht
  have hkc : k ≤ c := by omega
  have hkb : k ≤ 140737488355328 := by omega
  clear hr hB ht
  go_enter Try.func77, Try.ntmps77
  go_wp2
  go_region_with (first
    | (go_at_call 72; refine (clone_any A k c B t _ HT.out hkc HC.out hkb ?_ ?_).mono ?_; exact HB.out; exact HR.out; rintro en w1 ⟨v1, rfl, hown, hfr⟩; obtain ⟨A1, c1, rfl, hq1, hq2, _⟩ := hown.form; have c2' : w1.cell? ⟨b2, 0, none⟩ = some (.int .i64 k) := hfr.cell (p := ⟨b2, 0, none⟩) c2 (fun h => h); have HO : Hid (Own w1 W.heap.size 5 1 (.slice A1 t.length c1) t.length (by8 t)) := hown; have HF : Hid (Fr No W w1) := ⟨hfr.os, hfr.tape, hfr.output, hfr.size, hfr.block⟩; clear hown hfr)
    | (go_at_call 44; refine (clip_any A1 t.length c1 _ hq1 hq2).mono ?_; rintro en w2 ⟨rfl, rfl⟩))
  all_goals (try go_wp2)
  all_goals go_ret2
  all_goals
    refine ⟨_, rfl, ?_, ?_⟩
    · have h := HO.out.clip
      rw [HT.out] at h
      rw [HT.out]
      exact h
    · exact HF.out

/-- bytes of a reader: new ones. -/
def GivesRB (s : List UInt8) (w : World) (g : Nat) (bs : List UInt8) (a : Nat) (e : Int) (en : Ending) (w' : World) : Prop :=
  ∃ v, en = .returned v ∧ Own w' w.heap.size 5 1 v s.length (by8 s) ∧ RD w' g bs a e ∧ Fr (Is g) w w'

/-- .., and the reader's bytes lie where they lay. -/
def Same0 (w : World) (g : Nat) (w' : World) : Prop := w'.cell? ⟨g, 0, none⟩ = w.cell? ⟨g, 0, none⟩

def RDRetC (v : Value) (w : World) (g : Nat) (bs : List UInt8) (a : Nat) (e : Int) (en : Ending) (w' : World) : Prop := RDRet v w g bs a e en w' ∧ Same0 w g w'

def GivesRC (s : List UInt8) (w : World) (g : Nat) (bs : List UInt8) (a : Nat) (e : Int) (en : Ending) (w' : World) : Prop := GivesRB s w g bs a e en w' ∧ Same0 w g w'

theorem Same0.put {w w' : World} {g : Nat} (h : Same0 w g w') (i : Nat) (hi : i ≠ 0) (v : Value) : Same0 w g (w'.setCell ⟨g, i, none⟩ v) :=
  (World.cell?_setCell_other w' ⟨g, i, none⟩ ⟨g, 0, none⟩ v (by intro h; injection h; exact hi (by assumption))).trans h

theorem Same0.fr {w w' : World} {g : Nat} {v : Value} (h : w.cell? ⟨g, 0, none⟩ = some v) (f : Fr No w w') : Same0 w g w' := (f.cell (p := ⟨g, 0, none⟩) h (fun h => h)).trans h.symm

theorem Same0.drewN (w : World) (g n : Nat) : Same0 w g (w.drewN n) := rfl

set_option maxRecDepth 100000 in
set_option maxHeartbeats 400000 in
theorem takeB_bad (g : Nat) (bs : List UInt8) (a b2 : Nat) (x : Int) (w : World) (h : RD w g bs a 0) (c2 : w.cell? ⟨b2, 0, none⟩ = some (.int .i64 x)) (hx : x < 0 ∨ ((bs.length - a : Nat) : Int) < x) :
    Calls Try.prog 76 #[.pointer (some ⟨g, 0, none⟩), .func (.func 77) #[] #[.pointer (some ⟨b2, 0, none⟩)]] w (RDRetC (.slice none 0 0) w g bs a 20) := by
  obtain ⟨A, c, ⟨d0, d1, d2⟩, hf, h1, h2, h3, h4, hr⟩ := h.parts
  have HN : Hid (∀ nq, Calls Try.prog 77 #[.slice (if c = a then A else A.map (·.add a)) (bs.length - a) (c - a), .pointer (some ⟨b2, 0, none⟩)] (w.drewN nq) fun e w' => e = .returned (.tuple #[.slice none 0 0, .int .i64 (-1)]) ∧ w' = w.drewN nq) := fun nq =>
    (bytes1_bad b2 x _ _ _ (w.drewN nq) (by omega) (by omega) hx c2).mono fun _ _ ⟨p, q⟩ => ⟨p, q.symm⟩
  have H := hide h
  clear h hr hx c2
  go_enter Try.func76, Try.ntmps76
  go_wp2_with (fail)
  go_quiet ((go_at_call 77; exact Calls.quiet_of_same (HN.out _)))
  go_wp2
  all_goals
    go_ret
    exact ⟨⟨rfl, (H.out.drewN _).set2 20, ((Fr.refl _ _).drewN _).put _ _⟩, (Same0.drewN _ _ _).put 2 (by omega) _⟩

set_option maxRecDepth 100000 in
set_option maxHeartbeats 800000 in
theorem takeB_ok (g : Nat) (bs : List UInt8) (a b2 k : Nat) (w : World) (h : RD w g bs a 0) (c2 : w.cell? ⟨b2, 0, none⟩ = some (.int .i64 k)) (hk : a + k ≤ bs.length) :
    Calls Try.prog 76 #[.pointer (some ⟨g, 0, none⟩), .func (.func 77) #[] #[.pointer (some ⟨b2, 0, none⟩)]] w (GivesRC ((bs.drop a).take k) w g bs (a + k) 0) := by
  obtain ⟨A, c, ⟨d0, d1, d2⟩, hf, h1, h2, h3, h4, hr⟩ := h.parts
  have htl : ((bs.drop a).take k).length = k := by simp; omega
  have hrt : Rd w w.heap.size (if c = a then A else A.map (·.add a)) (by8 ((bs.drop a).take k)) := by
    rw [by8_take, by8_drop]
    exact (hr.cut (by rw [by8_length]; exact h1)).tk k
  have HN : Hid (∀ w', w'.heap = w.heap → Calls Try.prog 77 #[.slice (if c = a then A else A.map (·.add a)) (bs.length - a) (c - a), .pointer (some ⟨b2, 0, none⟩)] w' (fun en w2 => ∃ v, en = .returned (.tuple #[v, .int .i64 k]) ∧ Own w2 w'.heap.size 5 1 v k (by8 ((bs.drop a).take k)) ∧ Fr No w' w2)) := by
    intro w' hw
    have hcell : ∀ p, w'.cell? p = w.cell? p := fun p => by simp [World.cell?, hw]
    refine bytes1_ok b2 k _ _ _ w'.heap.size _ w' (by omega) (by omega) (by omega) (by omega) (Nat.le_refl _) htl ?_ (by rw [hcell]; exact c2)
    intro j u hu
    obtain ⟨ad, e, hb, hcc⟩ := hrt j u hu
    exact ⟨ad, e, by rw [hw]; exact hb, by rw [hcell]; exact hcc⟩
  have H := hide h
  have HTL := hide htl
  generalize (bs.drop a).take k = t at HN HTL
  clear h hr hrt c2 htl
  by_cases hca : c = a
  · have HN1 := HN.out
    rw [if_pos hca, hca, Nat.sub_self] at HN1
    have HN2 := hide HN1
    clear HN HN1
    go_enter Try.func76, Try.ntmps76
    go_wp2_with (fail)
    go_region_with (go_at_call 77; refine (HN2.out w.drew rfl).mono ?_; rintro en w1 ⟨v1, rfl, hown, hfr⟩; have HO : Hid (Own w1 w.heap.size 5 1 v1 k (by8 t)) := hown; have HF : Hid (Fr No w w1) := ⟨hfr.os, hfr.tape, hfr.output, hfr.size, hfr.block⟩; clear hown hfr; have HR1 := hide (H.out.fr0 HF.out); obtain ⟨A1, k1, ⟨e0, e1, e2⟩, hf1, _⟩ := HR1.out.parts)
    all_goals (try go_wp2)
    all_goals go_ret
    all_goals
      refine ⟨⟨_, rfl, ?_, HR1.out.set1 _ hk, (HF.out.any (Is g)).put _ _⟩, (Same0.fr d0 HF.out).put 1 (by omega) _⟩
      rw [HTL.out]
      refine HO.out.fr ((Fr.refl (Is g) w1).put 1 _) ?_
      rintro g' hg' rfl
      obtain ⟨_, _, hh, _⟩ := HR1.out
      exact HO.out.ne_blk hg' hh (by decide)
  · have HN1 := HN.out
    rw [if_neg hca] at HN1
    have HN2 := hide HN1
    clear HN HN1
    go_enter Try.func76, Try.ntmps76
    go_wp2_with (fail)
    go_region_with (go_at_call 77; refine (HN2.out w.drew rfl).mono ?_; rintro en w1 ⟨v1, rfl, hown, hfr⟩; have HO : Hid (Own w1 w.heap.size 5 1 v1 k (by8 t)) := hown; have HF : Hid (Fr No w w1) := ⟨hfr.os, hfr.tape, hfr.output, hfr.size, hfr.block⟩; clear hown hfr; have HR1 := hide (H.out.fr0 HF.out); obtain ⟨A1, k1, ⟨e0, e1, e2⟩, hf1, _⟩ := HR1.out.parts)
    all_goals (try go_wp2)
    all_goals go_ret
    all_goals
      refine ⟨⟨_, rfl, ?_, HR1.out.set1 _ hk, (HF.out.any (Is g)).put _ _⟩, (Same0.fr d0 HF.out).put 1 (by omega) _⟩
      rw [HTL.out]
      refine HO.out.fr ((Fr.refl (Is g) w1).put 1 _) ?_
      rintro g' hg' rfl
      obtain ⟨_, _, hh, _⟩ := HR1.out
      exact HO.out.ne_blk hg' hh (by decide)

set_option maxRecDepth 100000 in
set_option maxHeartbeats 400000 in
theorem takeB_off (g : Nat) (bs : List UInt8) (at_ : Nat) (e : Int) (w : World) (f : Value) (h : RD w g bs at_ e) (he : e ≠ 0) :
    Calls Try.prog 76 #[.pointer (some ⟨g, 0, none⟩), f] w (RDRetC (.slice none 0 0) w g bs at_ e) := by
  obtain ⟨A, c, ⟨c0, c1, c2⟩, hf, h1, h2, h3, h4, hr⟩ := h.parts
  have hb : (e != 0) = true := by simpa using he
  have H := hide h
  clear h hr he
  go_enter Try.func76, Try.ntmps76
  go_wp2_with (fail)
  go_ret
  exact ⟨⟨rfl, H.out, Fr.refl _ _⟩, rfl⟩

set_option maxRecDepth 100000 in
set_option maxHeartbeats 400000 in
theorem takeB_nil (w : World) (f : Value) :
    Calls Try.prog 76 #[.pointer none, f] w (Ret (.slice none 0 0) w) := by
  go_enter Try.func76, Try.ntmps76
  go_wp2_with (fail)
  go_ret
  exact ⟨rfl, rfl⟩

theorem GivesRB.nil {w : World} {g : Nat} {bs : List UInt8} {a : Nat} {e : Int} {en : Ending} {w' : World} (h : RDRet (.slice none 0 0) w g bs a e en w') : GivesRB [] w g bs a e en w' :=
  ⟨_, h.1, Own.nil _ _ _ _, h.2.1, h.2.2⟩

theorem GivesRC.nil {w : World} {g : Nat} {bs : List UInt8} {a : Nat} {e : Int} {en : Ending} {w' : World} (h : RDRetC (.slice none 0 0) w g bs a e en w') : GivesRC [] w g bs a e en w' := ⟨GivesRB.nil h.1, h.2⟩

theorem takeB_all (g : Nat) (bs : List UInt8) (a b2 : Nat) (e x : Int) (w : World) (h : RD w g bs a e) (c2 : w.cell? ⟨b2, 0, none⟩ = some (.int .i64 x)) :
    Calls Try.prog 76 #[.pointer (some ⟨g, 0, none⟩), .func (.func 77) #[] #[.pointer (some ⟨b2, 0, none⟩)]] w (GivesRC (bytesS bs a e x).1 w g bs (bytesS bs a e x).2.1 (bytesS bs a e x).2.2) := by
  unfold bytesS
  by_cases he : e = 0
  · subst he
    rw [if_pos rfl]
    unfold bytesR
    by_cases hx : x < 0 ∨ ((bs.drop a).length : Int) < x
    · rw [if_pos hx]
      exact (takeB_bad g bs a b2 x w h c2 (by simpa using hx)).mono fun _ _ h => GivesRC.nil h
    · rw [if_neg hx]
      obtain ⟨k, rfl⟩ := Int.eq_ofNat_of_zero_le (a := x) (by omega)
      exact takeB_ok g bs a b2 k w h c2 (by
        obtain ⟨_, _, _, _, _, h3, _⟩ := h
        simp at hx
        omega)
  · rw [if_neg he]
    exact (takeB_off g bs a e w _ h he).mono fun _ _ h => GivesRC.nil h

set_option maxRecDepth 100000 in
set_option maxHeartbeats 400000 in
theorem bytes_anyC (g : Nat) (bs : List UInt8) (a : Nat) (e x : Int) (w : World) (h : RD w g bs a e) :
    Calls Try.prog 51 #[.pointer (some ⟨g, 0, none⟩), .int .i64 x] w (GivesRC (bytesS bs a e x).1 w g bs (bytesS bs a e x).2.1 (bytesS bs a e x).2.2) := by
  have H := hide (fun t => takeB_all g bs a w.heap.size e x _ (h.fr0 ((Fr.refl No w).alloc _)) (box0 w (.int .i64 x) t))
  have H00 : Hid (∀ t, (w.alloc (.cells #[.int .i64 x] t)).cell? ⟨g, 0, none⟩ = w.cell? ⟨g, 0, none⟩) := fun t => by
    obtain ⟨_, _, ⟨q, _⟩, _⟩ := h.parts
    exact Same0.fr q ((Fr.refl No w).alloc _)
  clear h
  generalize bytesS bs a e x = y at H
  go_enter Try.func51, Try.ntmps51
  go_wp2_with (go_at_call 76; refine (H.out _).mono ?_; rintro en w' ⟨⟨v, rfl, hq⟩, h0⟩; have HQ := hide hq; have H0 : Hid (Same0 w g w') := hide (h0.trans (H00.out _)); clear hq h0)
  go_ret
  exact ⟨⟨_, rfl, HQ.out.1.lower (by simp), HQ.out.2.1, ((Fr.refl (Is g) w).alloc _).ts HQ.out.2.2⟩, H0.out⟩

theorem bytes_any (g : Nat) (bs : List UInt8) (a : Nat) (e x : Int) (w : World) (h : RD w g bs a e) :
    Calls Try.prog 51 #[.pointer (some ⟨g, 0, none⟩), .int .i64 x] w (GivesRB (bytesS bs a e x).1 w g bs (bytesS bs a e x).2.1 (bytesS bs a e x).2.2) := (bytes_anyC g bs a e x w h).mono fun _ _ h => h.1

set_option maxRecDepth 100000 in
set_option maxHeartbeats 400000 in
theorem bytes_nil (x : Int) (w : World) :
    Calls Try.prog 51 #[.pointer none, .int .i64 x] w (fun en w' => en = .returned (.slice none 0 0) ∧ Fr No w w') := by
  go_enter Try.func51, Try.ntmps51
  go_wp2_with (go_at_call 76; refine (takeB_nil _ _).mono ?_; rintro en w' ⟨rfl, rfl⟩)
  go_ret
  exact ⟨rfl, (Fr.refl No w).alloc _⟩

/-- where a reader's bytes lie: below M. -/
def At0 (w : World) (g M : Nat) : Prop := ∀ A n c, w.cell? ⟨g, 0, none⟩ = some (.slice A n c) → ∀ k, (Value.slice A n c).ownBlock = some k → k < M

theorem At0.of {w : World} {g : Nat} {bs : List UInt8} {a : Nat} {e : Int} (h : RD w g bs a e) : At0 w g w.heap.size := by
  obtain ⟨A, c, hh, h1, h2, h3, h4, ho⟩ := h
  intro A' n' c' hc k hk
  rw [cell_of_row w g 0 _ _ (0, 0) hh] at hc
  have : Value.slice A bs.length c = .slice A' n' c' := by simpa using hc
  rw [← this] at hk
  exact (ho.lt k hk).2

theorem At0.same {w w' : World} {g M : Nat} (h : At0 w g M) (f : Same0 w g w') : At0 w' g M := by
  intro A n c hc k hk
  exact h A n c (f.symm.trans hc) k hk

/-- stores into blocks from M on leave a reader alone, if it and its bytes lie below M. -/
theorem RD.above {S : Nat → Prop} {w w' : World} {g M : Nat} {bs : List UInt8} {a : Nat} {e : Int} (h : RD w g bs a e) (h0 : At0 w g M) (hg : g < M) (f : Fr S w w') (hS : ∀ k, k < M → ¬ S k) : RD w' g bs a e := by
  obtain ⟨A, c, hh, h1, h2', h3, h4, ho⟩ := h
  refine ⟨A, c, f.blk hh (hS g hg), h1, h2', h3, h4, ho.fr f ?_⟩
  intro k hk
  exact hS k (h0 A bs.length c (by rw [cell_of_row w g 0 _ _ (0, 0) hh]; rfl) k hk)

end Go.Proofs.Ythlbfnoahdjdeaa
