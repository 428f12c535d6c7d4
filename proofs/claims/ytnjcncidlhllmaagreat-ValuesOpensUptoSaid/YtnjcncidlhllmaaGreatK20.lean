/- Several texts in one: RefOpT, Lent8, NilV, OpnP. -/
import Derived.Test.YtnjcncidlhllmaaGreatK19
import Derived.Deep.RegionWith
namespace Go.Proofs.YtnjcncidlhllmaaGreat
set_option linter.unusedVariables false
set_option linter.unusedSimpArgs false
open Go.RowKit

/-- what the document answers: rows in memory of its own, or that there are none. -/
def ROpT (w : World) (bs : List UInt8) (en : Ending) (w' : World) : Prop := Fr No w w' ∧ ((¬ accT bs ∧ en = .returned (.tuple #[.slice none 0 0, .int .i64 20])) ∨ (accT bs ∧ ∃ A c vals, en = .returned (.tuple #[.slice A (rdT bs).length c, .int .i64 0]) ∧ Own w' w.heap.size 43 1 (.slice A (rdT bs).length c) (rdT bs).length vals ∧ ValsT w' w.heap.size vals (rdT bs)))
theorem txs_stop {bs : List UInt8} {m a : Nat} {e : Int} (h : e ≠ 0 ∨ m = 0) : txsS bs m a e = ([], a, e) := by
  cases m with
  | zero => rfl
  | succ m =>
    rcases h with h | h
    · rw [txsS, if_neg h]
    · cases h
theorem textS_len {bs : List UInt8} {a : Nat} {most : Int} (hb : bs.length ≤ 8796093022207) : (textS bs a 0 most).1.length ≤ maxLen := by
  unfold maxLen textS
  rw [if_pos rfl]
  cases hd : dec 0 0 (bs.drop a) with
  | none => rw [textR_none hd]; simp
  | some x =>
    obtain ⟨u, j⟩ := x
    by_cases hbb : most < 0 ∨ most < (u : Int) ∨ (bs.drop a).length - j < u
    · rw [textR_no hd hbb]; simp
    · rw [textR_ok hd hbb]
      simp only [List.length_take, List.length_drop]
      omega
theorem pickT_snoc (ts : List Tx) (l : List Int) (x : Int) : pickT ts (l ++ [x]) = pickT ts l ++ [ts.getD x.toNat []] := by simp [pickT]
/-- rest's answer with its parts named. -/
def RestV (w : World) (bs : List UInt8) (v : Value) (b : Bool) (w' : World) : Prop := Fr No w w' ∧ ((rdOk bs ∧ b = true ∧ ∃ A c vals, v = .slice A (nV bs) c ∧ nV bs ≤ c ∧ c ≤ maxLen ∧ Own w' w.heap.size 41 1 v (nV bs) vals ∧ ValsI w' w.heap.size vals (rdV bs)) ∨ (¬ rdOk bs ∧ b = false ∧ v = .slice none 0 0))
theorem RestQ.tup {w w' : World} {bs : List UInt8} {en : Ending} (h : RestQ w bs en w') : ∃ v b, en = .returned (.tuple #[v, .bool b]) ∧ RestV w bs v b w' := by
  obtain ⟨hf, ⟨hok, v, vals, rfl, ho, hv⟩ | ⟨hno, rfl⟩⟩ := h
  · obtain ⟨A, c, rfl, h1, h2, _⟩ := ho.form
    exact ⟨_, true, rfl, hf, .inl ⟨hok, rfl, A, c, vals, rfl, h1, h2, ho, hv⟩⟩
  · exact ⟨_, false, rfl, hf, .inr ⟨hno, rfl, rfl⟩⟩
set_option maxRecDepth 100000 in
set_option maxHeartbeats 8000000 in
theorem refOpenTexts_any (A : Option Addr) (m c B : Nat) (bs : List UInt8) (w : World) (hl : bs.length = m) (hn : m ≤ c) (hc : c ≤ maxLen) (hb : m ≤ 8796093022207) (hB : B ≤ w.heap.size) (hr : Rd w B A (by8 bs)) :
    Calls Tryz.prog 29 #[.slice A m c] w (ROpT w bs) := by
  have HR := hide hr
  have HL := hide hl
  have hc' := hc
  have hnm := sizeS_leb (bs := bs)
  rw [hl] at hnm
  have HT0 : Hid (tT bs = txsS bs (hT bs).1 (hT bs).2.1 (hT bs).2.2) := hide rfl
  have f1 : Fr No w (w.alloc (.cells #[.slice A m c, .int .i64 0, .int .i64 0] 95)) := (Fr.refl No w).alloc _
  have HF1 := hide f1
  have HSz := hide (refN_any B w.heap.size bs 0 0 (m : Nat) _ (RS.make hl hn hc' (by omega) hr hB) (by omega))
  obtain ⟨⟨n, a0, e0⟩, hh⟩ : ∃ x, x = hT bs := ⟨_, rfl⟩
  rw [← hh] at hnm HT0
  have hh2 : sizeS bs 0 0 (m : Nat) = (n, a0, e0) := by rw [hh, hT, hl]
  rw [hh2] at HSz
  dsimp only at hnm HT0 HSz
  have HHc := hide hc'
  unfold maxLen at hc
  clear hr hl hh hh2 f1 hc'
  obtain ⟨is, his, hzs, hszs, hbys⟩ := info_parts Tryz.infoS
  obtain ⟨iT, hiT, hzT, hsT, hbT⟩ := info_parts Tryz.infoRT
  go_enter Tryz.func29, Tryz.ntmps29
  go_wp2_with (fail)
  refine HSz.out.mono ?_
  rintro en w2 ⟨rfl, hrs, hf⟩
  have HF2 : Hid (Fr No w w2) := hide (HF1.out.trans hf (fun i hi e => by have e : i = w.heap.size := e; omega))
  have HRs2 := hide hrs
  have HZ2 := hide hrs.lt
  clear hf HSz hrs HF1
  go_wp2_with (fail)
  go_loopw [6, 7, 8] (fun vt i _ wr => ∃ (k m' a : Nat) (e : Int) (ts : List Tx), k + m' = n ∧ i = .int .i64 (k : Nat) ∧ Hid (k = ts.length) ∧ Hid (tT bs = (ts ++ (txsS bs m' a e).1, (txsS bs m' a e).2)) ∧ Hid (∀ t ∈ ts, t.length ≤ maxLen) ∧ Hid (Fr No w wr) ∧ Hid (RS wr B w.heap.size bs a e) ∧ Hid (w2.heap.size ≤ wr.heap.size) ∧ Hid (Own wr w2.heap.size 9 1 vt k (svs ts))) (fun _ i _ _ => n - (intOf i).toNat)
  case atStart => exact ⟨0, n, a0, e0, [], by omega, by go_num, hide rfl, hide (by rw [HT0.out]; simp), hide (fun t ht => by cases ht), HF2, HRs2, hide (Nat.le_refl _), hide (Own.nil _ _ _ _)⟩
  case round =>
    clear HRs2 HT0
    obtain ⟨wo, rfl⟩ : ∃ wo : World, wo = wr := ⟨_, rfl⟩
    obtain ⟨k, m', a, e, ts, hkm, rfl, HKl, HTt, HTl, HF, HRs, HS2, HO⟩ := hrel
    obtain ⟨Ar, cr, ⟨c0, c1, c2⟩, hfz, q1, q2, q3, q4, -, -⟩ := HRs.out.parts
    by_cases he : e = 0
    · subst he
      by_cases hlt : k < n
      · obtain ⟨m1, rfl⟩ : ∃ x, m' = x + 1 := ⟨m' - 1, by omega⟩
        obtain ⟨⟨t, a', e'⟩, htx⟩ : ∃ x, x = textS bs a 0 256 := ⟨_, rfl⟩
        have HTx := hide (refT_any B w.heap.size bs a 0 256 wo HRs.out (by omega))
        have htl := textS_len (bs := bs) (a := a) (most := 256) (by rw [HL.out]; exact hb)
        rw [← htx] at HTx htl
        dsimp only at HTx htl
        have htt := HTt.out
        rw [txsS, if_pos rfl, ← htx] at htt
        dsimp only at htt
        have HTt' : Hid (tT bs = ((ts ++ [t]) ++ (txsS bs m1 a' e').1, (txsS bs m1 a' e').2)) := hide (by rw [htt]; simp)
        have HTl' : Hid (∀ s ∈ ts ++ [t], s.length ≤ maxLen) := hide (fun s hs => by
          rcases List.mem_append.1 hs with hs | hs
          · exact HTl.out s hs
          · rw [List.mem_singleton.1 hs]; exact htl)
        have b1 : (k + 1) * 16 ≤ 140737488355328 := by omega
        have b2 : k + 1 ≤ maxLen := by unfold maxLen; omega
        have hne : 9 ≠ 95 := by decide
        have HZo := hide HRs.out.lt
        obtain ⟨X, hX⟩ : ∃ X : ByteArray, X = ⟨t.toArray⟩ := ⟨_, rfl⟩
        rw [← hX] at HTx
        have HX : Hid (Value.string X = sv t) := hide (by rw [hX]; rfl)
        clear htx htt htl q4 hX
        go_wp2_with (first
          | (go_at_call 64; refine HTx.out.mono ?_; rintro en w3 ⟨rfl, hrs, hf⟩; have HF3 : Hid (Fr No w w3) := hide (HF.out.trans hf (fun i hi e => by have e : i = w.heap.size := e; omega)); have HRs3 := hide hrs; have HO3 := hide (HO.out.fr hf (fun g hg e => by have e : g = w.heap.size := e; have := (HO.out.lt g hg).1; have := HZ2.out; omega)); have HOa := hide (HO3.out.fr0 ((Fr.refl No w3).alloc (.cells #[.string X] 9))); have HS := hide (Src.one (P := Tryz.prog) w3 (e := 9) Tryz.underlying43 (.string X) rfl); have hz3 : w2.heap.size ≤ (w3.alloc (.cells #[.string X] 9)).heap.size := (by have h1 := HS2.out; have h2 := hf.size; simp; omega); clear hf hrs c0 c1 c2 hfz)
          | (at_builtin; refine wpList_append_gen _ rfl (.tmp 36) (.tmp 38) 43 43 rfl w2.heap.size 9 is (.string ⟨#[]⟩) 1 16 Tryz.underlying43 his hzs hszs hbys rfl u6 k _ rfl HOa.out _ 1 [.string X] rfl HS.out b1 b2 hz3 ?_; intro v6 w6 hown hfr hat; have HO6 := hide hown; have HZ6 := hide hfr.size; have HF6 := hide ((HF3.out.alloc _).own hfr (fun g hg => .inl (Nat.le_trans HF2.out.size (HOa.out.lt g hg).1))); have HRs6 := hide ((HRs3.out.fr0 ((Fr.refl No w3).alloc (.cells #[.string X] 9))).fr hfr (fun hg => by have := (HOa.out.lt _ hg).1; have := HZ2.out; omega) (fun g hg e => by have := (HOa.out.lt g e).1; have := HF2.out.size; omega)); clear hown hfr hat))
        go_roundw
        case rel => exact ⟨k + 1, m1, a', e', ts ++ [t], by omega, by go_num, hide (by rw [List.length_append, ← HKl.out]; rfl), HTt', HTl', HF6, HRs6, hide (Nat.le_trans hz3 HZ6.out), hide (by rw [svs_snoc, ← HX.out]; exact HO6.out)⟩
        case measure => simp [intOf]; omega
      · obtain rfl : m' = 0 := by omega
        obtain rfl : k = n := by omega
        have htt : tT bs = (ts, a, 0) := by rw [HTt.out, txs_stop (.inr rfl)]; simp
        have HTT := hide htt
        obtain ⟨rb, hrb⟩ : ∃ x, x = bs.drop a := ⟨_, rfl⟩
        obtain ⟨rl, hrl⟩ : ∃ x, x = m - a := ⟨_, rfl⟩
        have hrbl : rb.length = rl := by rw [hrb, hrl, List.length_drop, HL.out]
        have HRb : Hid (restT bs = rb) := hide (by rw [restT, htt, hrb])
        have HRbl := hide hrbl
        have HRbd := hide hrb
        have HRl := hide hrl
        have ham : a ≤ m := by rw [← HL.out]; exact q3
        have HRm := hide ((HR.out.fr0 HF.out).more (Nat.le_trans hB HF.out.size))
        have HRe := hide (fun (A' : Option Addr) (c' : Nat) h2 h3 h4 => refRest_any A' rl c' wo.heap.size rb wo hrbl h2 h3 (by omega) (Nat.le_refl _) h4)
        clear htt hrb hrl hrbl HTt q3 hlt
        go_upto_region 11 with (fail)
        refine wp_named fun K hK => ?_
        go_cut [9, 10] from 45 to 54 (fun v9 v10 wx => ∃ b, v10 = .bool b ∧ Hid (RestV wo rb v9 b wx))
        case first =>
          by_cases hca : c = a
          · subst hca
            have hz0 : m - c = 0 := by omega
            have HGa := hide (HRe.out A 0 (by have := HRl.out; omega) (Nat.zero_le _) (by rw [List.eq_nil_of_length_eq_zero (l := rb) (by rw [HRbl.out]; have := HRl.out; omega)]; exact rd_nil8 _ _ _))
            rw [HRl.out, hz0] at HGa
            clear HRe
            go_wp2_with (fail)
            refine HGa.out.mono ?_
            rintro en w3 hq
            obtain ⟨v, b, rfl, hv⟩ := hq.tup
            have HV := hide hv
            clear hq hv
            go_wp2_with (fail)
            go_meet
            exact ⟨b, rfl, HV⟩
          · have HGb := hide (HRe.out (Option.map (fun x => x.add a) A) (c - a) (by have := HRl.out; omega) (by unfold maxLen; omega) (by rw [HRbd.out]; exact rd_cut8 HRm.out))
            rw [HRl.out] at HGb
            clear HRe
            go_wp2_with (fail)
            refine HGb.out.mono ?_
            rintro en w3 hq
            obtain ⟨v, b, rfl, hv⟩ := hq.tup
            have HV := hide hv
            clear hq hv
            go_wp2_with (fail)
            go_meet
            exact ⟨b, rfl, HV⟩
        case rest =>
          obtain ⟨w3, rfl⟩ : ∃ W : World, W = wc := ⟨_, rfl⟩
          obtain ⟨b, rfl, HV⟩ := hcut
          refine hK _ _ ?_
          clear hK K HRe HRm c0 c1 c2 hfz
          have HF3 : Hid (Fr No w w3) := hide (HF.out.tr HV.out.1)
          have HO3 := hide (HO.out.fr0 HV.out.1)
          have HV3 := hide HV.out.1
          obtain ⟨Ats, cts, rfl, z1, z2, _, z3, -⟩ := HO3.out.form
          have HZ3 := hide z3
          unfold maxLen at z2
          rcases HV.out.2 with ⟨hok, rfl, A9, c9, vals, rfl, y1, y2, hown, hvals⟩ | ⟨hno, rfl, rfl⟩
          · have HOk := hide hok
            obtain ⟨_, _, e9, _, _, _, y3, -⟩ := hown.form
            cases e9
            have HI := hide (hvals.isl y3)
            have hn16 := nV_le rb
            have hrl := rdV_len rb
            have hokv := rdV_ok hok
            have hfl := all_flat hok
            have hrt : rdT bs = (rdV rb).map (pickT ts) := by rw [rdT, HRb.out, HTT.out]
            obtain ⟨nl, hnl⟩ : ∃ x, x = nV rb := ⟨_, rfl⟩
            obtain ⟨rs, hrs⟩ : ∃ x, x = rdV rb := ⟨_, rfl⟩
            rw [← hnl] at y1 hrl hn16
            rw [← hrs] at HI hrl hokv hfl hrt
            rw [← hnl]
            have HRl' := hide hrl
            have HOkv := hide hokv
            have HFl := hide hfl
            have HRT := hide hrt
            unfold maxLen at y2
            clear hok y3 hown hvals hrl hokv hfl hrt hnl hrs HV z3
            go_wp2_with (fail)
            go_loopw [11, 12, 13, 14] (fun vr i _ _ wr => ∃ (j : Nat) (vals : List Value), j ≤ nl ∧ i = .int .i64 (j : Nat) ∧ Hid (Fr No w3 wr) ∧ Hid (Own wr w3.heap.size 43 1 vr j vals) ∧ Hid (ValsT wr w3.heap.size vals ((rs.take j).map (pickT ts))) ∧ Hid (∀ l ∈ rs.take j, ∀ x ∈ l, ¬ badK k x)) (fun _ i _ _ _ => nl - (intOf i).toNat)
            case atStart => exact ⟨0, [], by omega, by go_num, hide (Fr.refl _ _), hide (Own.nil _ _ _ _), hide (ValsT.nil _ _), hide (fun l hl => by rw [List.take_zero] at hl; cases hl)⟩
            case round =>
              obtain ⟨wx, rfl⟩ : ∃ wo : World, wo = wr := ⟨_, rfl⟩
              obtain ⟨j, vals, hj, rfl, HFj, HOj, HVj, HNj⟩ := hrel
              by_cases hlt : j < nl
              · have hj1 : j < rs.length := by rw [HRl'.out]; exact hlt
                obtain ⟨ad, Ai, ci, hA, hadb, hcell, hc1, hc2, hrd⟩ := (HI.out.fr0 HFj.out).at hj1
                subst hA
                have hmem : rs.getD j [] ∈ rs := by rw [List.getD, List.getElem?_eq_getElem hj1]; exact List.getElem_mem hj1
                have h64 := HOkv.out.2 _ hmem
                have htk : rs.take (j + 1) = rs.take j ++ [rs.getD j []] := take_getD [] hj1
                obtain ⟨row, hrow⟩ : ∃ x, x = rs.getD j [] := ⟨_, rfl⟩
                rw [← hrow] at hcell hc1 hrd hmem h64 htk
                obtain ⟨li, hli⟩ : ∃ x, x = row.length := ⟨_, rfl⟩
                rw [← hli] at hcell hc1 h64
                have HLi := hide hli
                have HMem := hide hmem
                have HTk := hide htk
                have HRd := hide hrd
                have HCe := hide hcell
                unfold maxLen at hc2
                clear hj1 hadb hmem htk hrow hli hrd
                go_wp2_with (fail)
                go_loopw [13, 14] (fun vq i wq => ∃ (q : Nat), q ≤ li ∧ i = .int .i64 (q : Nat) ∧ Hid (Fr No wx wq) ∧ Hid (Own wq wx.heap.size 9 1 vq q (svs (pickT ts (row.take q)))) ∧ Hid (∀ x ∈ row.take q, ¬ badK k x)) (fun _ i _ => li - (intOf i).toNat)
                case atStart => exact ⟨0, by omega, by go_num, hide (Fr.refl _ _), hide (Own.nil _ _ _ _), hide (fun x hx => by rw [List.take_zero] at hx; cases hx)⟩
                case round =>
                  clear hcell
                  obtain ⟨wy, rfl⟩ : ∃ wo : World, wo = wr := ⟨_, rfl⟩
                  obtain ⟨q, hq, rfl, HFq, HOq, HNq⟩ := hrel
                  have hcell := HFq.out.cell HCe.out (fun h => h)
                  by_cases hlq : q < li
                  · have hq1 : q < row.length := by rw [← HLi.out]; exact hlq
                    obtain ⟨adx, hAx, _, hcx⟩ := (HRd.out.fr0 HFq.out).intAt hq1
                    subst hAx
                    have htq : row.take (q + 1) = row.take q ++ [row.getD q 0] := (take_one hq1).1
                    have hxm : row.getD q 0 ∈ row := by rw [List.getD, List.getElem?_eq_getElem hq1]; exact List.getElem_mem hq1
                    have hbad : badK k (row.getD q 0) → ¬ accT bs := fun hk h => h.2.2.1 (row.getD q 0) (by rw [HRb.out, ← HFl.out]; exact List.mem_flatten.2 ⟨row, HMem.out, hxm⟩) (by rw [HTT.out]; dsimp only; rw [← HKl.out]; exact hk)
                    obtain ⟨x, hx⟩ : ∃ x, x = row.getD q 0 := ⟨_, rfl⟩
                    rw [← hx] at hcx htq hbad
                    have HBad := hide hbad
                    have HTq := hide htq
                    have hfw := HV3.out.tr (HFj.out.tr HFq.out)
                    have HFw := hide (HF.out.tr hfw)
                    clear hq1 hxm hx hbad htq hfw
                    by_cases hx0 : x < 0
                    · have HNo := hide (HBad.out (.inl hx0))
                      have d0 : decide (x < 0) = true := decide_eq_true hx0
                      go_wp2_with (fail)
                      go_ret2
                      exact ⟨HFw.out, .inl ⟨HNo.out, rfl⟩⟩
                    · have d0 : decide (x < 0) = false := decide_eq_false hx0
                      by_cases hxk : (k : Int) ≤ x
                      · have HNo := hide (HBad.out (.inr hxk))
                        have d1 : decide ((k : Int) ≤ x) = true := decide_eq_true hxk
                        go_wp2_with (fail)
                        go_ret2
                        exact ⟨HFw.out, .inl ⟨HNo.out, rfl⟩⟩
                      · have d1 : decide ((k : Int) ≤ x) = false := decide_eq_false hxk
                        obtain ⟨xn, rfl⟩ : ∃ n : Nat, x = (n : Int) := ⟨x.toNat, by omega⟩
                        have hxn : xn < k := by omega
                        have d2 : decide (k ≤ xn) = false := decide_eq_false (by omega)
                        obtain ⟨adt, hAt, _, hct⟩ := (HZ3.out.fr0 (HFj.out.tr HFq.out)) xn (sv (ts.getD xn [])) (svs_get (by rw [← HKl.out]; exact hxn))
                        subst hAt
                        have hNq : Hid (∀ x ∈ row.take (q + 1), ¬ badK k x) := hide (fun z hz => by
                          rw [HTq.out] at hz
                          rcases List.mem_append.1 hz with hz | hz
                          · exact HNq.out z hz
                          · rw [List.mem_singleton.1 hz]; unfold badK; omega)
                        have hpk : pickT ts (row.take (q + 1)) = pickT ts (row.take q) ++ [ts.getD xn []] := by rw [HTq.out, pickT_snoc, Int.toNat_natCast]
                        unfold sv at hct
                        obtain ⟨t, ht⟩ : ∃ t, t = ts.getD xn [] := ⟨_, rfl⟩
                        rw [← ht] at hct hpk
                        obtain ⟨X, hX⟩ : ∃ X : ByteArray, X = ⟨t.toArray⟩ := ⟨_, rfl⟩
                        rw [← hX] at hct
                        have HPk := hide hpk
                        have HX : Hid (Value.string X = sv t) := hide (by rw [hX]; rfl)
                        have HOa := hide (HOq.out.fr0 ((Fr.refl No wy).alloc (.cells #[.string X] 9)))
                        have HS := hide (Src.one (P := Tryz.prog) wy (e := 9) Tryz.underlying43 (.string X) rfl)
                        have hz3 : wx.heap.size ≤ (wy.alloc (.cells #[.string X] 9)).heap.size := (HFq.out.alloc _).size
                        have b1 : (q + 1) * 16 ≤ 140737488355328 := by omega
                        have b2 : q + 1 ≤ maxLen := by unfold maxLen; omega
                        clear hpk ht hX hx0 hxk
                        go_wp2_with (at_builtin; refine wpList_append_gen _ rfl (.tmp 92) (.tmp 103) 43 43 rfl wx.heap.size 9 is (.string ⟨#[]⟩) 1 16 Tryz.underlying43 his hzs hszs hbys rfl u13 q _ rfl HOa.out _ 1 [.string X] rfl HS.out b1 b2 hz3 ?_; intro v6 w6 hown hfr hat; have HO6 := hide hown; have HF6 := hide ((HFq.out.alloc _).own hfr (fun g hg => .inl (HOa.out.lt g hg).1)); clear hown hfr hat)
                        go_roundw
                        case rel => exact ⟨q + 1, by omega, by go_num, HF6, hide (by rw [HPk.out, svs_snoc, ← HX.out]; exact HO6.out), hNq⟩
                        case measure => simp [intOf]; omega
                  · obtain rfl : q = li := by omega
                    have hall : row.take q = row := List.take_of_length_le (by rw [← HLi.out]; exact Nat.le_refl _)
                    rw [hall] at HOq HNq
                    obtain ⟨A13, c13, rfl, p1, p2, _⟩ := HOq.out.form
                    have HOut := hide ((HOj.out.fr0 HFq.out).fr0 ((Fr.refl No wy).alloc (.cells #[.slice A13 q c13] 43)))
                    have hz3 : w3.heap.size ≤ (wy.alloc (.cells #[.slice A13 q c13] 43)).heap.size := ((HFj.out.tr HFq.out).alloc _).size
                    have b1 : (j + 1) * 24 ≤ 140737488355328 := by omega
                    have b2 : j + 1 ≤ maxLen := by unfold maxLen; omega
                    have HPl : Hid ((pickT ts row).length = q) := hide (by rw [pickT, List.length_map]; exact HLi.out.symm)
                    unfold maxLen at p2
                    clear hall hlq
                    go_wp2_with (at_builtin; refine wpList_append_gen _ rfl (.tmp 105) (.tmp 107) 23 23 rfl w3.heap.size 43 iT (.slice none 0 0) 1 24 Tryz.underlying23 hiT hzT hsT hbT rfl u11 j _ rfl HOut.out _ 1 [.slice A13 q c13] rfl (src_rowT wy A13 q c13) b1 b2 hz3 ?_; intro v8 w8 hown hfr hat; have HO8 := hide hown; have HFa := hide hfr; clear hown hfr hat)
                    go_roundw
                    case rel =>
                      have hV7 := (HVj.out.fr0 HFq.out).fr0 ((Fr.refl No wy).alloc (.cells #[.slice A13 q c13] 43))
                      have hO7 := HOq.out.fr0 ((Fr.refl No wy).alloc (.cells #[.slice A13 q c13] 43))
                      refine ⟨j + 1, vals ++ [.slice A13 q c13], by omega, by go_num, hide (((HFj.out.tr HFq.out).alloc _).own HFa.out (fun g hg => .inl (HOut.out.lt g hg).1)), HO8, hide ?_, hide ?_⟩
                      · rw [HTk.out, List.map_append, List.map_singleton]
                        refine ValsT.snoc (w0 := wx) HVj.out ?_ ?_ HFj.out.size
                        · exact hV7.fr HFa.out (fun j v hv i hi e => by
                            obtain ⟨bs, _, ho⟩ := hV7.get hv
                            exact ho.apart HOut.out (by decide) i hi e)
                        · rw [HPl.out]
                          exact hO7.fr HFa.out (fun i hi e => hO7.apart HOut.out (by decide) i hi e)
                      · intro l hl
                        rw [HTk.out] at hl
                        rcases List.mem_append.1 hl with hl | hl
                        · exact HNj.out l hl
                        · rw [List.mem_singleton.1 hl]; exact HNq.out
                    case measure => simp [intOf]; omega
              · obtain rfl : j = nl := by omega
                have hall : rs.take j = rs := List.take_of_length_le (by rw [HRl'.out]; exact Nat.le_refl _)
                rw [hall] at HVj HNj
                rw [← HRT.out] at HVj
                have hacc : accT bs ↔ keptT (rdT bs) = bs := ⟨fun h => h.2.2.2, fun h => ⟨by rw [HTT.out], by rw [HRb.out]; exact HOk.out, (fun x hx => by
                  rw [HRb.out, ← HFl.out] at hx
                  obtain ⟨l, hl, hx⟩ := List.mem_flatten.1 hx
                  rw [HTT.out]
                  dsimp only
                  rw [← HKl.out]
                  exact HNj.out l hl x hx), h⟩⟩
                have hlen : (rdT bs).length = j := by rw [HRT.out, List.length_map, HRl'.out]
                have hlb : ∀ l ∈ rdT bs, ∀ t ∈ l, t.length ≤ maxLen := fun l hl t ht => by
                  rw [HRT.out] at hl
                  obtain ⟨r, _, rfl⟩ := List.mem_map.1 hl
                  obtain ⟨z, _, rfl⟩ := List.mem_map.1 ht
                  by_cases hz : z.toNat < ts.length
                  · exact HTl.out _ (getD_mem hz)
                  · rw [List.getD, List.getElem?_eq_none (by omega)]; simp
                obtain ⟨A11, c11, rfl, p1, p2, _, p3, -⟩ := HOj.out.form
                have HTx := hide (fun W (f : Fr No wx W) => refTexts12_any A11 j c11 wx.heap.size (rdT bs) W hlen p1 p2 f.size hlb ((HVj.out.isl p3).fr0 f))
                obtain ⟨rt, hrt⟩ : ∃ x, x = rdT bs := ⟨_, rfl⟩
                rw [← hrt] at HTx hacc hlen HVj
                obtain ⟨ks, hks⟩ : ∃ x, x = keptT rt := ⟨_, rfl⟩
                rw [← hks] at HTx hacc
                obtain ⟨m5, hm5⟩ : ∃ x, x = ks.length := ⟨_, rfl⟩
                have HM5 := hide hm5
                have HAcc := hide hacc
                have HLen := hide hlen
                have HRt' := hide hrt
                have HFx := hide (HF3.out.tr HFj.out)
                have HCv := hide (fun W (f : Fr No w W) => conv_rd W A m c bs HL.out (HR.out.fr0 f))
                have k10 := HCv.out wx.drew HFx.out.drew
                have h1 := sB_dec ks bs
                have h2 := sB_ne ks bs
                unfold maxLen at p2
                clear hall hacc hlen hlb p3 hrt hks hm5 hlt
                go_wp2_with (fail)
                by_cases he : ks = bs
                · rw [decide_eq_true he] at h1 h2
                  have h3 : (ks == bs) = true := by rw [he]; simp
                  have HE := hide he
                  clear he
                  go_region_with (first | (go_at_call 65; refine (HTx.out _ ((Fr.refl No wx).drew)).mono ?_; rintro en w7 ⟨v2, rfl, hob, hf⟩; rw [← HM5.out] at hob; obtain ⟨A5, c5, rfl, x5, x6, _, x7, -⟩ := hob.form; have HF17 : Hid (Fr No wx w7) := hide ((Fr.refl No wx).drew.tr hf); have HF7 := hide (HFx.out.tr HF17.out); have hcv1 := conv_rd w7 A5 m5 c5 ks HM5.out.symm x7; have k20 := HCv.out w7 HF7.out; unfold maxLen at x6; clear hf hob x7))
                  all_goals go_wp2_with (fail)
                  all_goals go_ret2
                  all_goals
                    refine ⟨HF7.out, .inr ⟨HAcc.out.2 HE.out, A11, c11, vals, ?_, ?_, ?_⟩⟩
                    · rw [← HRt'.out, HLen.out]; rfl
                    · rw [← HRt'.out, HLen.out]; exact (HOj.out.fr0 HF17.out).lower HF3.out.size
                    · rw [← HRt'.out]; exact (HVj.out.fr0 HF17.out).lower HF3.out.size
                · rw [decide_eq_false he] at h1 h2
                  have h3 : (ks == bs) = false := by simpa using he
                  have HE := hide he
                  clear he
                  go_region_with (first | (go_at_call 65; refine (HTx.out _ ((Fr.refl No wx).drew)).mono ?_; rintro en w7 ⟨v2, rfl, hob, hf⟩; rw [← HM5.out] at hob; obtain ⟨A5, c5, rfl, x5, x6, _, x7, -⟩ := hob.form; have HF17 : Hid (Fr No wx w7) := hide ((Fr.refl No wx).drew.tr hf); have HF7 := hide (HFx.out.tr HF17.out); have hcv1 := conv_rd w7 A5 m5 c5 ks HM5.out.symm x7; have k20 := HCv.out w7 HF7.out; unfold maxLen at x6; clear hf hob x7))
                  all_goals go_wp2_with (fail)
                  all_goals go_ret2
                  all_goals exact ⟨HF7.out, .inl ⟨fun h => HE.out (HAcc.out.1 h), rfl⟩⟩
          · have HNo : Hid (¬ accT bs) := hide (fun h => hno (by rw [← HRb.out]; exact h.2.1))
            clear hno HV z3
            go_wp2_with (fail)
            go_ret2
            exact ⟨HF3.out, .inl ⟨HNo.out, rfl⟩⟩
    · have hno : ¬ accT bs := fun h => by
        have h1 := h.1
        rw [HTt.out, txs_stop (.inl he)] at h1
        exact he h1
      have HNo := hide hno
      have d1 : (e == 0) = false := by simpa using he
      have d2 : (e != 0) = true := by simpa using he
      clear hno he
      by_cases hlt : k < n
      · have d3 : decide (k < n) = true := decide_eq_true hlt
        go_wp2_with (fail)
        go_ret2
        exact ⟨HF.out, .inl ⟨HNo.out, rfl⟩⟩
      · have d3 : decide (k < n) = false := decide_eq_false hlt
        go_wp2_with (fail)
        go_ret2
        exact ⟨HF.out, .inl ⟨HNo.out, rfl⟩⟩
end Go.Proofs.YtnjcncidlhllmaaGreat
namespace Go.Proofs.YtnjcncidlhllmaaGreat
set_option linter.unusedVariables false
set_option linter.unusedSimpArgs false
open Go.RowKit

def GivesLent (w : World) (bs : List UInt8) (en : Ending) (w' : World) : Prop :=
  ∃ A c, en = .returned (.slice A bs.length c) ∧ Own w' w.heap.size 5 1 (.slice A (bs.length + 1) c) (bs.length + 1) (by8 (bs ++ [201])) ∧ Fr No w w'

set_option maxRecDepth 100000 in
set_option maxHeartbeats 800000 in
theorem lent8_any (A : Option Addr) (n c B : Nat) (bs : List UInt8) (w : World) (hl : bs.length = n) (hb : n + 1 ≤ 140737488355328) (hr : Rd w B A (by8 bs)) :
    Calls Tryz.prog 11 #[.slice A n c] w (GivesLent w bs) := by
  obtain ⟨i0, hi, hz, hsz, hby⟩ := info_parts Tryz.info5
  have HS := hide (Src.ofRd (P := Tryz.prog) (size := 1) w Tryz.underlying25 A n c (by8 bs) (by rw [by8_length, hl]; omega) (by omega) hr (by8_one _))
  have HL := hide hl
  clear hr hl
  have b1 : (0 + n) * 1 ≤ 140737488355328 := by omega
  have b2 : 0 + n ≤ maxLen := by unfold maxLen; omega
  have c1 : (0 + n + 1) * 1 ≤ 140737488355328 := by omega
  have c2 : 0 + n + 1 ≤ maxLen := by unfold maxLen; omega
  have HO0 := hide (Own.nil w w.heap.size 5 1)
  go_enter Tryz.func11, Tryz.ntmps11
  go_wp2_with (first
    | (at_builtin; refine wpList_append_gen _ rfl (.tmp 4) (.tmp 5) 25 25 rfl w.heap.size 5 i0 (.int .u8 0) 1 1 Tryz.underlying25 hi hz hsz hby rfl (.slice none 0 0) 0 [] rfl HO0.out _ n (by8 bs) rfl HS.out b1 b2 (Nat.le_refl _) ?_; intro v1 w1 hown hfr hat; have HO1 := hide hown; have HF1 : Hid (Fr No w w1) := hide ((Fr.refl No w).own hfr (fun g h => by cases h)); have hz1 := hfr.size; clear hown hfr hat)
    | (at_builtin; refine wpList_append_gen _ rfl (.tmp 7) (.tmp 8) 25 25 rfl w.heap.size 5 i0 (.int .u8 0) 1 1 Tryz.underlying25 hi hz hsz hby rfl v1 (0 + n) _ rfl (HO1.out.fr0 ((Fr.refl No w1).alloc (.cells #[.int .u8 201] 5))) _ 1 [.int .u8 201] rfl (Src.one (P := Tryz.prog) w1 (e := 5) Tryz.underlying25 (.int .u8 201) rfl) c1 c2 (by simp; omega) ?_; intro v2 w2 hown hfr hat; obtain ⟨A2, k2, rfl, hc1, hc2, _⟩ := hown.form; unfold maxLen at hc2; have HO2 := hide hown; have HF2 : Hid (Fr No w w2) := hide ((HF1.out.alloc _).own hfr (fun g hg => .inl (HO1.out.lt g hg).1)); clear hown hfr hat))
  go_ret
  refine ⟨A2, k2, ?_, ?_, HF2.out⟩
  · rw [HL.out]; first | rfl | simp
  · have h := HO2.out
    rw [HL.out, by8_append]
    simpa [by8] using h

set_option maxRecDepth 100000 in
set_option maxHeartbeats 800000 in
theorem kept8_any (A B : Option Addr) (n c m d b1 b2 : Nat) (xs : List UInt8) (w : World) (hx : xs.length = n) (hm : xs.length = m) (hn : n + 1 ≤ c) (hc : c ≤ maxLen) (hmd : m ≤ d) (hd : d ≤ maxLen) (hr : Rd w b1 A (by8 (xs ++ [201]))) (hs : Rd w b2 B (by8 xs)) :
    Calls Tryz.prog 30 #[.slice A n c, .slice B m d] w (RetQ (.bool true) w) := by
  have hr1 : Rd w b1 A (by8 xs) := by
    have h := hr.tk xs.length
    rw [← by8_take, List.take_left] at h
    exact h
  have HK := hide (kbytes_any A B n c m d b1 b2 xs xs w hx hm (by omega) hc hmd hd hr1 hs)
  rw [decide_eq_true rfl] at HK
  obtain ⟨ad, rfl, _, hcell⟩ := hr.byte (k := n) (by simp; omega)
  have e1 : (xs ++ [201]).getD n 0 = 201 := by rw [← hx]; simp
  rw [e1] at hcell
  have e2 : ((201 : UInt8).toNat : Nat) = 201 := by decide
  rw [e2] at hcell
  unfold maxLen at hc
  clear hr hs hr1 hx hm e1 e2
  go_enter Tryz.func30, Tryz.ntmps30
  go_wp2_with (go_at_call 23; refine HK.out.mono ?_; rintro en w2 ⟨rfl, nq, rfl⟩)
  go_ret
  exact ⟨rfl, _, rfl⟩

end Go.Proofs.YtnjcncidlhllmaaGreat
namespace Go.Proofs.YtnjcncidlhllmaaGreat
set_option linter.unusedVariables false
set_option linter.unusedSimpArgs false
open Go.RowKit

set_option maxRecDepth 100000 in
set_option maxHeartbeats 400000 in
theorem nlen_nil (w : World) : Calls Tryz.prog 15 #[.pointer none] w (Ret (.int .i64 0) w) := by
  go_enter Tryz.func15, Tryz.ntmps15
  go_wp2_with (fail)
  go_ret
  exact ⟨rfl, rfl⟩
set_option maxRecDepth 100000 in
set_option maxHeartbeats 400000 in
theorem nrow_nil (w : World) (i : Int) : Calls Tryz.prog 16 #[.pointer none, .int .i64 i] w (Ret (.slice none 0 0) w) := by
  go_enter Tryz.func16, Tryz.ntmps16
  go_wp2_with (fail)
  go_ret
  exact ⟨rfl, rfl⟩
set_option maxRecDepth 100000 in
set_option maxHeartbeats 400000 in
theorem nfil_nil (w : World) : Calls Tryz.prog 25 #[.pointer none] w (Ret (.int .i64 0) w) := by
  go_enter Tryz.func25, Tryz.ntmps25
  go_wp2_with (go_at_call 15; refine (nlen_nil _).mono ?_; rintro en w' ⟨rfl, rfl⟩)
  go_loopw [3, 7] (fun v i wr => v = .int .i64 0 ∧ i = .int .i64 0 ∧ wr = w) (fun _ _ _ => 0)
  case atStart => exact ⟨by go_num, by go_num, rfl⟩
  case round =>
    obtain ⟨rfl, rfl, rfl⟩ := hrel
    go_wp2
    go_ret
    exact ⟨rfl, rfl⟩
set_option maxRecDepth 100000 in
set_option maxHeartbeats 400000 in
theorem tlen_nil (w : World) : Calls Tryz.prog 17 #[.pointer none] w (Ret (.int .i64 0) w) := by
  go_enter Tryz.func17, Tryz.ntmps17
  go_wp2_with (fail)
  go_ret
  exact ⟨rfl, rfl⟩
set_option maxRecDepth 100000 in
set_option maxHeartbeats 400000 in
theorem tords_nil (w : World) (i : Int) : Calls Tryz.prog 19 #[.pointer none, .int .i64 i] w (Ret (.slice none 0 0) w) := by
  go_enter Tryz.func19, Tryz.ntmps19
  go_wp2_with (fail)
  go_ret
  exact ⟨rfl, rfl⟩
set_option maxRecDepth 100000 in
set_option maxHeartbeats 400000 in
theorem trow_nil (w : World) (i : Int) : Calls Tryz.prog 18 #[.pointer none, .int .i64 i] w (Ret (.slice none 0 0) w) := by
  go_enter Tryz.func18, Tryz.ntmps18
  go_wp2_with (go_at_call 19; refine (tords_nil _ _).mono ?_; rintro en w' ⟨rfl, rfl⟩)
  go_loopw [5, 12] (fun v i wr => v = .slice none 0 0 ∧ i = .int .i64 0 ∧ wr = w) (fun _ _ _ => 0)
  case atStart => exact ⟨by go_num, by go_num, rfl⟩
  case round =>
    obtain ⟨rfl, rfl, rfl⟩ := hrel
    go_wp2
    go_ret
    exact ⟨rfl, rfl⟩
set_option maxRecDepth 100000 in
set_option maxHeartbeats 400000 in
theorem tterms_nil (w : World) : Calls Tryz.prog 26 #[.pointer none] w (Ret (.int .i64 0) w) := by
  go_enter Tryz.func26, Tryz.ntmps26
  go_wp2_with (fail)
  go_ret
  exact ⟨rfl, rfl⟩
set_option maxRecDepth 100000 in
set_option maxHeartbeats 400000 in
theorem tterm_nil (w : World) : Calls Tryz.prog 27 #[.pointer none, .int .i64 0] w (Ret (.string ⟨#[]⟩) w) := by
  go_enter Tryz.func27, Tryz.ntmps27
  go_wp2_with (go_at_call 26; refine (tterms_nil _).mono ?_; rintro en w' ⟨rfl, rfl⟩)
  go_ret
  exact ⟨rfl, rfl⟩
set_option maxRecDepth 100000 in
set_option maxHeartbeats 400000 in
theorem tfind_nil (w : World) (X : ByteArray) : Calls Tryz.prog 24 #[.pointer none, .string X] w (Ret (.tuple #[.int .i64 0, .bool false]) w) := by
  go_enter Tryz.func24, Tryz.ntmps24
  go_wp2_with (fail)
  go_ret2
  exact ⟨rfl, rfl⟩
end Go.Proofs.YtnjcncidlhllmaaGreat
namespace Go.Proofs.YtnjcncidlhllmaaGreat
set_option linter.unusedVariables false
set_option linter.unusedSimpArgs false
open Go.RowKit

theorem rowsV_atO {bits : List UInt8} {lens all : List Int} {n k : Nat} {rows : Rw} (h : rowsV bits lens all n = rows) (hk : k < n) : rowV bits lens all k = rows.getD k [] := by
  rw [← h, List.getD, List.getElem?_eq_getElem (by simpa [rowsV] using hk)]
  simp [rowsV]
/-- a column of numbers that the bytes are, or none. -/
def NumV (w : World) (b : Nat) (bs : List UInt8) (o : Option Addr) (ev : Int) : Prop := (o = none ∧ ev = 20 ∧ ¬ ∃ rows, FormV bs rows) ∨ ∃ rows G bits lens all, FormV bs rows ∧ o = some ⟨G, 0, none⟩ ∧ ev = 0 ∧ ColO w b G bits lens all rows.length ∧ rowsV bits lens all rows.length = rows
theorem num_v {w w' : World} {bs : List UInt8} {en : Ending} (h : OpenQ w bs en w') : Fr No w w' ∧ ∃ (o : Option Addr) (ev : Int), en = .returned (.tuple #[.pointer o, .int .i64 ev]) ∧ NumV w' w.heap.size bs o ev := by
  obtain ⟨hf, ⟨hno, rfl⟩ | ⟨rows, h1, G, bits, lens, all, rfl, h2, h3⟩⟩ := h
  · exact ⟨hf, _, _, rfl, .inl ⟨rfl, rfl, hno⟩⟩
  · exact ⟨hf, _, _, rfl, .inr ⟨rows, G, bits, lens, all, h1, rfl, rfl, h2, h3⟩⟩
theorem NumV.fr0 {w w' : World} {b : Nat} {bs : List UInt8} {o : Option Addr} {ev : Int} (h : NumV w b bs o ev) (f : Fr No w w') : NumV w' b bs o ev := by
  rcases h with h | ⟨rows, G, bits, lens, all, h1, h2, h3, h4, h5⟩
  · exact .inl h
  · exact .inr ⟨rows, G, bits, lens, all, h1, h2, h3, h4.fr0 f, h5⟩
/-- a column of numbers, or none, with the document's rows beside it. -/
structure NumO (w : World) (b1 b2 : Nat) (o : Option Addr) (ev : Int) (A : Option Addr) (n c : Nat) (vals : List Value) (rows : Rw) : Prop where
  col : (o = none ∧ rows = []) ∨ ∃ G bits lens all, o = some ⟨G, 0, none⟩ ∧ ColO w b1 G bits lens all rows.length ∧ rowsV bits lens all rows.length = rows
  ev : (o = none ∧ ev = 20) ∨ ∃ G, o = some ⟨G, 0, none⟩ ∧ ev = 0
  len : rows.length = n
  own : Own w b2 41 1 (.slice A n c) n vals
  vals : ValsI w b2 vals rows
  ok : okV rows
section
variable {w w' : World} {b b1 b2 n c : Nat} {bs : List UInt8} {o : Option Addr} {ev : Int} {A : Option Addr} {vals : List Value}
theorem num_both {en : Ending} (hp : NumV w b bs o ev) (hr : ROpN w bs en w') :
    Fr No w w' ∧ ∃ (A : Option Addr) (n c : Nat) (vals : List Value) (rows : Rw), en = .returned (.tuple #[.slice A n c, .int .i64 ev]) ∧ NumO w' b w.heap.size o ev A n c vals rows := by
  obtain ⟨hf, hro⟩ := hr
  refine ⟨hf, ?_⟩
  rcases hro with ⟨h1, rfl⟩ | ⟨rows', h1, A, c, vals, rfl, h2, h3⟩
  · rcases hp with ⟨rfl, rfl, _⟩ | ⟨rows, G, bits, lens, all, k1, _⟩
    · exact ⟨none, 0, 0, [], [], rfl, .inl ⟨rfl, rfl⟩, .inl ⟨rfl, rfl⟩, rfl, Own.nil _ _ _ _, ValsI.nil _ _, ⟨Nat.zero_le _, fun l hl => by cases hl⟩⟩
    · exact absurd ⟨rows, k1⟩ h1
  · rcases hp with ⟨_, _, h4⟩ | ⟨rows, G, bits, lens, all, k1, rfl, rfl, k4, k5⟩
    · exact absurd ⟨rows', h1⟩ h4
    · have e : rows' = rows := by rw [← h1.rd, ← k1.rd]
      subst e
      exact ⟨A, _, c, vals, rows', rfl, .inr ⟨G, bits, lens, all, rfl, k4.fr0 hf, k5⟩, .inr ⟨G, rfl, rfl⟩, rfl, h2, h3, h1.ok⟩
variable {rows : Rw}
theorem NumO.fr {S : Nat → Prop} (h : NumO w b1 b2 o ev A n c vals rows) (f : Fr S w w') (hS : ∀ k, S k → k < b1 ∧ k < b2) : NumO w' b1 b2 o ev A n c vals rows := by
  refine ⟨?_, h.ev, h.len, h.own.fr f (fun k hk e => ?_), h.vals.above f (fun k hk => (hS k hk).2), h.ok⟩
  · rcases h.col with h1 | ⟨G, bits, lens, all, h1, h2, h3⟩
    · exact .inl h1
    · exact .inr ⟨G, bits, lens, all, h1, h2.fr f (fun k hk e => by have := (hS k e).1; omega), h3⟩
  · have h1 := (h.own.lt k hk).1
    have h2 := (hS k e).2
    omega
theorem NumO.fr0 (h : NumO w b1 b2 o ev A n c vals rows) (f : Fr No w w') : NumO w' b1 b2 o ev A n c vals rows := h.fr f (fun _ h => h.elim)
theorem NumO.lenC (h : NumO w b1 b2 o ev A n c vals rows) : Calls Tryz.prog 15 #[.pointer o] w (Ret (.int .i64 (n : Nat)) w) := by
  rcases h.col with ⟨rfl, h1⟩ | ⟨G, bits, lens, all, rfl, h2, h3⟩
  · have e : n = 0 := by rw [← h.len, h1]; rfl
    subst e
    exact nlen_nil w
  · have := numLen_any h2.m
    rw [h.len] at this
    exact this
theorem NumO.rowC (h : NumO w b1 b2 o ev A n c vals rows) {i : Nat} (hi : i < n) : Calls Tryz.prog 16 #[.pointer o, .int .i64 (i : Nat)] w (GivesL w (rows.getD i [])) := by
  have hl := h.len
  rcases h.col with ⟨rfl, h1⟩ | ⟨G, bits, lens, all, rfl, h2, h3⟩
  · rw [h1] at hl
    simp at hl
    omega
  · have e := rowsV_atO h3 (k := i) (by omega)
    have h4 := numRow_in h2.m (i := i) (by omega) h.ok.1 (by
      rw [e]
      refine h.ok.2 _ ?_
      rw [List.getD, List.getElem?_eq_getElem (by omega)]
      exact List.getElem_mem (by omega))
    rw [e] at h4
    exact h4
theorem NumO.at (h : NumO w b1 b2 o ev A n c vals rows) {i : Nat} (hi : i < n) : ∃ ad Ai ci, A = some ad ∧ w.cell? (ad.add i) = some (.slice Ai (rows.getD i []).length ci) ∧ (rows.getD i []).length ≤ ci ∧ ci ≤ maxLen ∧ Rd w w.heap.size Ai (iz .i64 (rows.getD i [])) ∧ (rows.getD i []).length ≤ 64 := by
  obtain ⟨A', c', e, _, _, _, hrd, _⟩ := h.own.form
  cases e
  obtain ⟨ad, Ai, ci, h1, h2, h3, h4, h5, h6⟩ := (h.vals.isl hrd).at (i := i) (by rw [h.len]; exact hi)
  have hl := h.len
  refine ⟨ad, Ai, ci, h1, h3, h4, h5, h6, h.ok.2 _ ?_⟩
  rw [List.getD, List.getElem?_eq_getElem (by omega)]
  exact List.getElem_mem (by omega)
end
/-- a column of texts that the bytes are, or none. -/
def TxtV (w : World) (b : Nat) (bs : List UInt8) (o : Option Addr) (ev : Int) : Prop := (o = none ∧ ev = 20 ∧ ¬ accT bs) ∨ (accT bs ∧ ∃ G bits lens all, o = some ⟨G, 0, none⟩ ∧ ev = 0 ∧ ColT w b G bits lens all (nV (restT bs)) (tT bs).1 ∧ rowsV bits lens all (nV (restT bs)) = rdV (restT bs))
theorem txt_v {w w' : World} {bs : List UInt8} {en : Ending} (h : OpenTQ w bs en w') : Fr No w w' ∧ ∃ (o : Option Addr) (ev : Int), en = .returned (.tuple #[.pointer o, .int .i64 ev]) ∧ TxtV w' w.heap.size bs o ev := by
  obtain ⟨hf, ⟨hno, rfl⟩ | ⟨h1, G, bits, lens, all, rfl, h2, h3⟩⟩ := h
  · exact ⟨hf, _, _, rfl, .inl ⟨rfl, rfl, hno⟩⟩
  · exact ⟨hf, _, _, rfl, .inr ⟨h1, G, bits, lens, all, rfl, rfl, h2, h3⟩⟩
theorem TxtV.fr0 {w w' : World} {b : Nat} {bs : List UInt8} {o : Option Addr} {ev : Int} (h : TxtV w b bs o ev) (f : Fr No w w') : TxtV w' b bs o ev := by
  rcases h with h | ⟨h1, G, bits, lens, all, h2, h3, h4, h5⟩
  · exact .inl h
  · exact .inr ⟨h1, G, bits, lens, all, h2, h3, h4.fr0 f, h5⟩
/-- a column of texts, or none, with the document's rows beside it. -/
structure TxtO (w : World) (b1 b2 : Nat) (o : Option Addr) (ev : Int) (A : Option Addr) (n c : Nat) (vals : List Value) (rows : RwT) : Prop where
  col : (o = none ∧ rows = []) ∨ ∃ G bits lens all ts, o = some ⟨G, 0, none⟩ ∧ ColT w b1 G bits lens all n ts ∧ (rowsV bits lens all n).map (pickT ts) = rows ∧ ∀ l ∈ rowsV bits lens all n, ∀ x ∈ l, 0 ≤ x ∧ x < (ts.length : Int)
  ev : (o = none ∧ ev = 20) ∨ ∃ G, o = some ⟨G, 0, none⟩ ∧ ev = 0
  len : rows.length = n
  own : Own w b2 43 1 (.slice A n c) n vals
  vals : ValsT w b2 vals rows
  ok : n ≤ 16384 ∧ ∀ l ∈ rows, l.length ≤ 64
section
variable {w w' : World} {b b1 b2 n c : Nat} {bs : List UInt8} {o : Option Addr} {ev : Int} {A : Option Addr} {vals : List Value}
theorem txt_both {en : Ending} (hp : TxtV w b bs o ev) (hr : ROpT w bs en w') :
    Fr No w w' ∧ ∃ (A : Option Addr) (n c : Nat) (vals : List Value) (rows : RwT), en = .returned (.tuple #[.slice A n c, .int .i64 ev]) ∧ TxtO w' b w.heap.size o ev A n c vals rows := by
  obtain ⟨hf, hro⟩ := hr
  refine ⟨hf, ?_⟩
  rcases hro with ⟨h1, rfl⟩ | ⟨h1, A, c, vals, rfl, h2, h3⟩
  · rcases hp with ⟨rfl, rfl, _⟩ | ⟨k1, _⟩
    · exact ⟨none, 0, 0, [], [], rfl, .inl ⟨rfl, rfl⟩, .inl ⟨rfl, rfl⟩, rfl, Own.nil _ _ _ _, ValsT.nil _ _, ⟨Nat.zero_le _, fun l hl => by cases hl⟩⟩
    · exact absurd k1 h1
  · rcases hp with ⟨_, _, h4⟩ | ⟨k1, G, bits, lens, all, rfl, rfl, k4, k5⟩
    · exact absurd h1 h4
    · have hlen : (rdT bs).length = nV (restT bs) := by unfold rdT; rw [List.length_map, rdV_len]
      have hokv := rdV_ok h1.2.1
      rw [← hlen] at k4 k5
      refine ⟨A, _, c, vals, rdT bs, rfl, .inr ⟨G, bits, lens, all, (tT bs).1, rfl, ?_, ?_, ?_⟩, .inr ⟨G, rfl, rfl⟩, rfl, h2, h3, ?_, ?_⟩
      · exact k4.fr0 hf
      · rw [k5]; rfl
      · rw [k5]
        intro l hl x hx
        have h5 := h1.2.2.1 x (by rw [← all_flat h1.2.1]; exact List.mem_flatten.2 ⟨l, hl, hx⟩)
        unfold badK at h5
        omega
      · rw [hlen, ← rdV_len]; exact hokv.1
      · intro l hl
        obtain ⟨m, hm, rfl⟩ := List.mem_map.1 hl
        rw [pickT, List.length_map]
        exact hokv.2 m hm
variable {rows : RwT}
theorem TxtO.fr {S : Nat → Prop} (h : TxtO w b1 b2 o ev A n c vals rows) (f : Fr S w w') (hS : ∀ k, S k → k < b1 ∧ k < b2) : TxtO w' b1 b2 o ev A n c vals rows := by
  refine ⟨?_, h.ev, h.len, h.own.fr f (fun k hk e => ?_), h.vals.above f (fun k hk => (hS k hk).2), h.ok⟩
  · rcases h.col with h1 | ⟨G, bits, lens, all, ts, h1, h2, h3⟩
    · exact .inl h1
    · exact .inr ⟨G, bits, lens, all, ts, h1, h2.fr f (fun k hk e => by have := (hS k e).1; omega), h3⟩
  · have h1 := (h.own.lt k hk).1
    have h2 := (hS k e).2
    omega
theorem TxtO.fr0 (h : TxtO w b1 b2 o ev A n c vals rows) (f : Fr No w w') : TxtO w' b1 b2 o ev A n c vals rows := h.fr f (fun _ h => h.elim)
theorem TxtO.lenC (h : TxtO w b1 b2 o ev A n c vals rows) : Calls Tryz.prog 17 #[.pointer o] w (Ret (.int .i64 (n : Nat)) w) := by
  rcases h.col with ⟨rfl, h1⟩ | ⟨G, bits, lens, all, ts, rfl, h2, h3⟩
  · have e : n = 0 := by rw [← h.len, h1]; rfl
    subst e
    exact tlen_nil w
  · exact txLen_any h2
theorem TxtO.rowC (h : TxtO w b1 b2 o ev A n c vals rows) {i : Nat} (hi : i < n) : Calls Tryz.prog 18 #[.pointer o, .int .i64 (i : Nat)] w (GivesT w (rows.getD i [])) := by
  have hl := h.len
  rcases h.col with ⟨rfl, h1⟩ | ⟨G, bits, lens, all, ts, rfl, h2, h3, h4⟩
  · rw [h1] at hl
    simp at hl
    omega
  · have hlk : (rowsV bits lens all n).length = n := by simp [rowsV]
    have e := rowsV_atO (rows := rowsV bits lens all n) rfl hi
    have hmem : rowV bits lens all i ∈ rowsV bits lens all n := by
      rw [e, List.getD, List.getElem?_eq_getElem (by omega)]
      exact List.getElem_mem (by omega)
    have hrow : pickT ts (rowV bits lens all i) ∈ rows := by rw [← h3]; exact List.mem_map.2 ⟨_, hmem, rfl⟩
    have h64 := h.ok.2 _ hrow
    rw [pickT, List.length_map] at h64
    have h5 := txRow_in h2 hi h.ok.1 h64 (h4 _ hmem)
    have e2 : pickT ts (rowV bits lens all i) = rows.getD i [] := by
      rw [← h3, List.getD, List.getElem?_map, List.getElem?_eq_getElem (by omega), e, List.getD, List.getElem?_eq_getElem (by omega)]
      rfl
    rw [e2] at h5
    exact h5
theorem TxtO.at (h : TxtO w b1 b2 o ev A n c vals rows) {i : Nat} (hi : i < n) : ∃ ad Ai ci, A = some ad ∧ w.cell? (ad.add i) = some (.slice Ai (rows.getD i []).length ci) ∧ (rows.getD i []).length ≤ ci ∧ ci ≤ maxLen ∧ Rd w w.heap.size Ai (svs (rows.getD i [])) ∧ (rows.getD i []).length ≤ 64 := by
  obtain ⟨A', c', e, _, _, _, hrd, _⟩ := h.own.form
  cases e
  obtain ⟨ad, Ai, ci, h1, h2, h3, h4, h5, h6⟩ := (h.vals.isl hrd).at (i := i) (by rw [h.len]; exact hi)
  have hl := h.len
  refine ⟨ad, Ai, ci, h1, h3, h4, h5, h6, h.ok.2 _ ?_⟩
  rw [List.getD, List.getElem?_eq_getElem (by omega)]
  exact List.getElem_mem (by omega)
end
end Go.Proofs.YtnjcncidlhllmaaGreat
