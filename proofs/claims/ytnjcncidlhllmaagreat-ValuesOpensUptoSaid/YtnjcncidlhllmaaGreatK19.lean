/- Several texts in one: RefTe, RefOr, RefTx, TexR, RefT. -/
import Derived.Test.YtnjcncidlhllmaaGreatK18
import Derived.Maps.Own
import Derived.Maps.OwnOps
import Derived.Maps.OwnSet
import Derived.Deep.RegionWith
import Derived.StillTailTactics
namespace Go.Proofs.YtnjcncidlhllmaaGreat
set_option linter.unusedVariables false
set_option linter.unusedSimpArgs false
open Go.RowKit Go.Maps

theorem Tryz.keyS : Keyed Tryz.prog 9 := string_keyed Tryz.underlying9
theorem Tryz.zeroI (w : World) : (zeroValue 3).run Tryz.prog w = .ok (.int .i64 0) w := by kernel_rfl
/-- a map in memory that holds 1 at the texts of a row. -/
def SeenM (w : World) (B cnt : Nat) (L : List Tx) : Prop := ∃ D : DataW Unit, w.ownsMap Tryz.prog 9 (plainElem Tryz.prog 3) B cnt D ∧ ∀ t : Tx, D.atKey (.string t) (.lit (.int .i64 0)) = .lit (.int .i64 (if t ∈ L then 1 else 0))
theorem ownsMap_fr {S : Nat → Prop} {w w' : World} {B cnt : Nat} {D : DataW Unit} (h : w.ownsMap Tryz.prog 9 (plainElem Tryz.prog 3) B cnt D) (f : Fr S w w') (hS : ¬ S B) : w'.ownsMap Tryz.prog 9 (plainElem Tryz.prog 3) B cnt D := by
  obtain ⟨es, clock, hb, F, hs, hD⟩ := h
  exact ⟨es, clock, f.blk hb hS, F, hs, hD⟩
theorem SeenM.fr {S : Nat → Prop} {w w' : World} {B cnt : Nat} {L : List Tx} (h : SeenM w B cnt L) (f : Fr S w w') (hS : ¬ S B) : SeenM w' B cnt L := by
  obtain ⟨D, h1, h2⟩ := h
  exact ⟨D, ownsMap_fr h1 f hS, h2⟩
theorem SeenM.lt {w : World} {B cnt : Nat} {L : List Tx} (h : SeenM w B cnt L) : B < w.heap.size := by
  obtain ⟨D, h1, h2⟩ := h
  exact h1.lt
theorem seen_put {w : World} {B cnt : Nat} {L L' : List Tx} {t : Tx} {D : DataW Unit} (hD : Maps.IsMap D) (hat : ∀ t : Tx, D.atKey (.string t) (.lit (.int .i64 0)) = .lit (.int .i64 (if t ∈ L then 1 else 0)))
    (h : w.ownsMap Tryz.prog 9 (plainElem Tryz.prog 3) B cnt (D.put (.string t) (.lit (.int .i64 1)))) (hL : ∀ u, u ∈ L' ↔ u ∈ L ∨ u = t) : SeenM w B cnt L' := by
  refine ⟨_, h, fun u => ?_⟩
  by_cases e : u = t
  · subst e
    rw [Maps.atKey_put_same hD (show WideAt.IsKeyLit (.string u) from trivial), if_pos ((hL u).2 (.inr rfl))]
  · rw [Maps.atKey_put_other (fun h => e (by injection h)), hat u]
    by_cases hu : u ∈ L
    · rw [if_pos hu, if_pos ((hL u).2 (.inl hu))]
    · rw [if_neg hu, if_neg (fun h => (hL u).1 h |>.elim hu e)]
set_option maxRecDepth 100000 in
set_option maxHeartbeats 4000000 in
theorem refTerms_any (A : Option Addr) (n c B : Nat) (rows : RwT) (w : World) (hl : rows.length = n) (hok : okT rows) (hn : n ≤ c) (hc : c ≤ maxLen) (hB : B ≤ w.heap.size) (hr : TSl w B A rows) :
    Calls Tryz.prog 91 #[.slice A n c] w (GivesT w (termsV rows)) := by
  obtain ⟨i1, hi1, hz1, hsz1, hby1⟩ := info_parts Tryz.infoS
  have HR := hide hr
  have HL := hide hl
  have HOk := hide hok
  have hnb : n ≤ 16384 := by rw [← hl]; exact hok.1.1
  unfold maxLen at hc
  clear hr hl hok
  have hmm := @run_makeMap Tryz.prog
  go_enter Tryz.func91, Tryz.ntmps91
  go_wp2
  clear hmm
  obtain ⟨M, hM⟩ : ∃ x, x = w.heap.size := ⟨_, rfl⟩
  obtain ⟨w1, hw1⟩ : ∃ x, x = w.alloc (.map #[] 0) := ⟨_, rfl⟩
  have hs1 : SeenM w1 M 0 [] := by
    rw [hw1, hM]
    exact ⟨.map [], World.ownsMap_made _ _ _ _, fun t => by simp [DataW.atKey]⟩
  have hf1 : Fr No w w1 := by rw [hw1]; exact (Fr.refl No w).alloc _
  rw [← hw1, ← hM]
  have HS1 := hide hs1
  have HF1 := hide hf1
  have HM := hide hM
  clear hw1 hs1 hf1 hM
  go_loopw [4, 5] (fun va i wr => ∃ (k m cnt : Nat) (L : List Tx), k ≤ n ∧ i = .int .i64 (k : Nat) ∧ m ≤ 64 * k ∧ cnt ≤ 64 * k ∧ Hid (Fr No w wr) ∧ Hid (SeenM wr M cnt L) ∧ Hid (m = L.length) ∧ Hid (∀ t, t ∈ L ↔ t ∈ (rows.take k).flatten) ∧ Hid (Own wr (M + 1) 9 1 va m (svs L))) (fun _ i _ => n - (intOf i).toNat)
  case atStart => exact ⟨0, 0, 0, [], by omega, by go_num, by omega, by omega, HF1, HS1, hide rfl, hide (by simp), hide (Own.nil _ _ _ _)⟩
  case round =>
    clear HS1 HF1
    obtain ⟨wo, rfl⟩ : ∃ wo : World, wo = wr := ⟨_, rfl⟩
    obtain ⟨k, m, cnt, L, hk, rfl, hm, hcnt, HF, HS, HMl, HMem, HO⟩ := hrel
    by_cases hlt : k < n
    · have hk1 : k < rows.length := by rw [HL.out]; exact hlt
      obtain ⟨ad, Ai, ci, hA, hadb, hcell, hc1, hc2, hrd⟩ := HR.out.at hk1
      subst hA
      have hli64 := HOk.out.1.2 _ (getD_memR hk1)
      have hx256 := HOk.out.2 _ (getD_memR hk1)
      have htk : rows.take (k + 1) = rows.take k ++ [rows.getD k []] := take_getDR hk1
      obtain ⟨row, hrow⟩ : ∃ x, x = rows.getD k [] := ⟨_, rfl⟩
      rw [← hrow] at hcell hc1 hrd hli64 hx256 htk
      obtain ⟨li, hli⟩ : ∃ x, x = row.length := ⟨_, rfl⟩
      rw [← hli] at hcell hc1 hli64
      have HC0 := hide hcell
      have HLi := hide hli
      have HRd := hide hrd
      have HX := hide hx256
      have HTk := hide htk
      unfold maxLen at hc2
      clear hk1 hadb hcell hrow hli hrd hx256 htk
      go_wp2
      go_loopw [4, 6] (fun va i wr => ∃ (q m' cnt' : Nat) (L' : List Tx), q ≤ li ∧ i = .int .i64 (q : Nat) ∧ m' ≤ 64 * k + q ∧ cnt' ≤ 64 * k + q ∧ Hid (Fr No w wr) ∧ Hid (SeenM wr M cnt' L') ∧ Hid (m' = L'.length) ∧ Hid (∀ t, t ∈ L' ↔ t ∈ (rows.take k).flatten ∨ t ∈ row.take q) ∧ Hid (Own wr (M + 1) 9 1 va m' (svs L'))) (fun _ i _ => li - (intOf i).toNat)
      case atStart => exact ⟨0, m, cnt, L, by omega, by go_num, by omega, by omega, HF, HS, HMl, hide (by simpa using HMem.out), HO⟩
      case round =>
        clear HF HS HMl HMem HO
        obtain ⟨wp, rfl⟩ : ∃ wo : World, wo = wr := ⟨_, rfl⟩
        obtain ⟨q, m', cnt', L', hq, rfl, hm', hcnt', HF, HS, HMl, HMem, HO⟩ := hrel
        have hcell := HF.out.cell HC0.out (fun h => h)
        by_cases hlq : q < li
        · have hq1 : q < row.length := by rw [← HLi.out]; exact hlq
          obtain ⟨adi, T, hAi, _, hcT0, hT, hTl, hTs⟩ := cellStr HRd.out hq1
          subst hAi
          have htq : row.take (q + 1) = row.take q ++ [row.getD q []] := take_getD [] hq1
          have hx := HX.out _ (getD_mem hq1)
          obtain ⟨t, ht⟩ : ∃ x, x = row.getD q [] := ⟨_, rfl⟩
          rw [← ht] at hT hTl hTs htq hx
          have HCT := hide hcT0
          have hcT := HF.out.cell hcT0 (fun h => h)
          have hkey : keyOf Tryz.prog 9 (.string T) = some (.string t) := by
            rw [WideMaps.keyOf_string_mk Tryz.underlying9 (by unfold maxLen; omega), hT]
          have HKey := hide hkey
          have HT := hide hT
          have HTq := hide htq
          obtain ⟨D, hD, hat⟩ := HS.out
          have HD := hide hD
          have HAt := hide hat
          have hsz := HF.out.size
          have hMlt := HS.out.lt
          clear hq1 ht hT hTl hTs htq hx hcT0 hkey hD hat
          by_cases hmem : t ∈ L'
          · have HMem' : Hid (∀ u, u ∈ L' ↔ u ∈ (rows.take k).flatten ∨ u ∈ row.take (q + 1)) := hide (fun u => by
              rw [HTq.out, HMem.out, List.mem_append, List.mem_singleton]
              constructor
              · rintro (h | h)
                · exact .inl h
                · exact .inr (.inl h)
              · rintro (h | h | h)
                · exact .inl h
                · exact .inr h
                · rw [h]; exact (HMem.out t).1 hmem)
            have HIn : Hid (∀ u, u ∈ L' ↔ u ∈ L' ∨ u = t) := hide (fun u => ⟨.inl, fun h => h.elim id (fun e => e ▸ hmem)⟩)
            have HA1 : Hid (D.atKey (.string t) (.lit (.int .i64 0)) = .lit (.int .i64 1)) := hide (by rw [HAt.out, if_pos hmem])
            clear hmem
            go_wp2_with (first
              | (at_lookup; refine wpList_lookup_own_int _ rfl _ _ 153 rfl 9 3 .i64 Tryz.keyS Tryz.underlying153 Tryz.underlying3 (Tryz.zeroI _) M cnt' D rfl HD.out (.string T) _ rfl HKey.out ?_; intro z hat hwc; obtain rfl : z = 1 := (by rw [HA1.out] at hat; injection hat with hat; injection hat with _ hat; exact hat.symm); clear hat hwc)
              | (at_mapUpdate; refine wpList_mapUpdate_own _ rfl _ _ _ 153 rfl 9 3 Tryz.keyS Tryz.underlying153 _ M cnt' D rfl HD.out (by unfold maxLen; omega) (.string T) _ _ rfl rfl HKey.out _ [] (plainElem_int Tryz.underlying3 (by decide)) ?_; intro w8 hown8 hgrow8; have HO8 := hide hown8; have HF8 := hide (Fr.of_grown hgrow8); clear hown8 hgrow8))
            go_roundw
            case rel => exact ⟨q + 1, m', cnt' + 1, L', by omega, by go_num, by omega, by omega, hide (HF.out.trans HF8.out (fun i hi e => by injection e with e; have := HM.out; omega)), hide (seen_put HD.out.isMap HAt.out HO8.out HIn.out), HMl, HMem', hide (HO.out.fr HF8.out (fun i hi e => by injection e with e; have := (HO.out.lt i hi).1; omega))⟩
            case measure => simp [intOf]; omega
          · have HMem' : Hid (∀ u, u ∈ L' ++ [t] ↔ u ∈ (rows.take k).flatten ∨ u ∈ row.take (q + 1)) := hide (fun u => by
              rw [HTq.out, List.mem_append, HMem.out, List.mem_append, List.mem_singleton, or_assoc])
            have HIn : Hid (∀ u, u ∈ L' ++ [t] ↔ u ∈ L' ∨ u = t) := hide (fun u => by rw [List.mem_append, List.mem_singleton])
            have HA1 : Hid (D.atKey (.string t) (.lit (.int .i64 0)) = .lit (.int .i64 0)) := hide (by rw [HAt.out, if_neg hmem])
            have HOa := hide (HO.out.fr0 ((Fr.refl No wp).alloc (.cells #[.string T] 9)))
            have HSrc := hide (Src.one (P := Tryz.prog) wp (e := 9) Tryz.underlying43 (.string T) rfl)
            have b1 : (m' + 1) * 16 ≤ 140737488355328 := by omega
            have b2 : m' + 1 ≤ maxLen := by unfold maxLen; omega
            have b3 : M + 1 ≤ (wp.alloc (.cells #[.string T] 9)).heap.size := by simp; omega
            clear hmem
            go_wp2_with (first
              | (at_lookup; refine wpList_lookup_own_int _ rfl _ _ 153 rfl 9 3 .i64 Tryz.keyS Tryz.underlying153 Tryz.underlying3 (Tryz.zeroI _) M cnt' D rfl HD.out (.string T) _ rfl HKey.out ?_; intro z hat hwc; obtain rfl : z = 0 := (by rw [HA1.out] at hat; injection hat with hat; injection hat with _ hat; exact hat.symm); clear hat hwc)
              | (at_builtin; refine wpList_append_gen _ rfl (.tmp 33) (.tmp 41) 43 43 rfl (M + 1) 9 i1 (.string ⟨#[]⟩) 1 16 Tryz.underlying43 hi1 hz1 hsz1 hby1 rfl u4 m' _ rfl HOa.out _ 1 [.string T] rfl HSrc.out b1 b2 b3 ?_; intro v7 w7 hown hfr hat7; have HO7 := hide hown; have HD7 := hide (ownsMap_fr (ownsMap_fr HD.out ((Fr.refl No wp).alloc (.cells #[.string T] 9)) (fun h => h)) hfr (fun e => by have := (HOa.out.lt M e).1; omega)); have HF7 : Hid (Fr No w w7) := hide ((HF.out.alloc _).own hfr (fun g hg => .inl (by have := (HOa.out.lt g hg).1; have := HM.out; omega))); have hcell7 := HF7.out.cell HC0.out (fun h => h); have hcT7 := HF7.out.cell HCT.out (fun h => h); clear hown hfr hat7 b1 b2 b3)
              | (at_mapUpdate; refine wpList_mapUpdate_own _ rfl _ _ _ 153 rfl 9 3 Tryz.keyS Tryz.underlying153 _ M cnt' D rfl HD7.out (by unfold maxLen; omega) (.string T) _ _ rfl rfl HKey.out _ [] (plainElem_int Tryz.underlying3 (by decide)) ?_; intro w8 hown8 hgrow8; have HO8 := hide hown8; have HF8 := hide (Fr.of_grown hgrow8); clear hown8 hgrow8))
            go_roundw
            case rel => exact ⟨q + 1, m' + 1, cnt' + 1, L' ++ [t], by omega, by go_num, by omega, by omega, hide (HF7.out.trans HF8.out (fun i hi e => by injection e with e; have := HM.out; omega)), hide (seen_put HD.out.isMap HAt.out HO8.out HIn.out), hide (by rw [List.length_append, ← HMl.out]; rfl), HMem', hide (by
              have h := HO7.out.fr HF8.out (fun i hi e => by injection e with e; have := (HO7.out.lt i hi).1; omega)
              rw [svs_snoc, ← sv_of HT.out]
              exact h)⟩
            case measure => simp [intOf]; omega
        · obtain rfl : q = li := by omega
          have hall : row.take q = row := List.take_of_length_le (by rw [HLi.out]; exact Nat.le_refl _)
          rw [hall] at HMem
          have HMem' : Hid (∀ t, t ∈ L' ↔ t ∈ (rows.take (k + 1)).flatten) := hide (fun t => by rw [HMem.out, HTk.out]; simp)
          clear hall HMem
          go_wp2
          go_roundw
          case rel => exact ⟨k + 1, m', cnt', L', by omega, by go_num, by omega, by omega, HF, HS, HMl, HMem', HO⟩
          case measure => simp [intOf]; omega
    · obtain rfl : k = n := by omega
      have htk : rows.take k = rows := List.take_of_length_le (by rw [HL.out]; omega)
      rw [htk] at HMem
      obtain ⟨A4, c4, rfl, q1, q2, _, q3, _⟩ := HO.out.form
      have HSt := hide (refSet_any A4 m c4 wo.heap.size L wo HMl.out.symm q1 q2 (by omega) (Nat.le_refl _) q3)
      have hset : setT L = termsV rows := setT_of (termsV_lt rows) (fun t => by rw [termsV, setT_mem, HMem.out])
      rw [hset] at HSt
      unfold maxLen at q2
      clear htk hset q3
      go_wp2_with (go_at_call 121; refine HSt.out.mono ?_; rintro e2 w2 ⟨v2, rfl, hown, hfr⟩; have HO2 := hide hown; have HF2 := hide hfr; clear hown hfr)
      go_ret
      exact ⟨v2, rfl, HO2.out.lower HF.out.size, HF.out.tr HF2.out⟩
end Go.Proofs.YtnjcncidlhllmaaGreat
namespace Go.Proofs.YtnjcncidlhllmaaGreat
set_option linter.unusedVariables false
set_option linter.unusedSimpArgs false
open Go.RowKit

theorem ordT_mono {ts : List Tx} (h : ltT ts) {s t : Tx} (hst : s < t) : ordT ts s ≤ ordT ts t := by
  apply Nat.le_of_not_lt
  intro hlt
  have h1 := ordT_below ts s hlt
  have h2 := ordT_le ts s
  exact ordT_above h t (Nat.le_refl _) (by omega) (tl_trans h1 hst)
theorem set_lt_next {l : List Tx} (h : ltT l) {i : Nat} (hi : i + 1 < l.length) : l.getD i [] < l.getD (i + 1) [] := by
  rw [List.getD, List.getD, List.getElem?_eq_getElem (by omega), List.getElem?_eq_getElem hi]
  exact List.pairwise_iff_getElem.1 h i (i + 1) (by omega) hi (by omega)
theorem tb_ne {X T : ByteArray} {s t : Tx} (h1 : X.toList = s) (h2 : T.toList = t) (h : s ≠ t) : (X.toList != T.toList) = true := by rw [h1, h2]; simpa using h
theorem tb_ne2 {X T : ByteArray} {s t : Tx} (h1 : X.toList = s) (h2 : T.toList = t) (h : s ≠ t) : (X.toList == T.toList) = false := by rw [h1, h2]; simpa using h
theorem tb_eq2 {X T : ByteArray} {s t : Tx} (h1 : X.toList = s) (h2 : T.toList = t) (h : s = t) : (X.toList == T.toList) = true := by rw [h1, h2, h]; simp
theorem tb_eq {X T : ByteArray} {s t : Tx} (h1 : X.toList = s) (h2 : T.toList = t) (h : s = t) : (X.toList != T.toList) = false := by rw [h1, h2, h]; simp
set_option maxRecDepth 100000 in
set_option maxHeartbeats 2000000 in
theorem refOrds_any (A A' : Option Addr) (n c B n' c' B' : Nat) (ts row : List Tx) (w : World) (hl : ts.length = n) (hl' : row.length = n') (hts : ltT ts) (hsub : ∀ t ∈ row, t ∈ ts) (hn : n ≤ c) (hc : c ≤ maxLen) (hb : n ≤ 1048576) (hn' : n' ≤ c') (hc' : c' ≤ maxLen) (hb' : n' ≤ 64)
    (hB' : B' ≤ w.heap.size) (hr : Rd w B A (svs ts)) (hr' : Rd w B' A' (svs row)) :
    Calls Tryz.prog 94 #[.slice A n c, .slice A' n' c'] w (GivesL w (ordsV ts row)) := by
  obtain ⟨i2, hi2, hz2, hsz2, hby2⟩ := info_parts Tryz.infoKI64
  have HSt := hide (refSet_any A' n' c' B' row w hl' hn' hc' (by omega) hB' hr')
  have HL := hide hl
  have HR := hide hr
  have HTs := hide hts
  have hsl := setT_le row
  have hslt := setT_lt row
  have hmem : ∀ t ∈ setT row, t ∈ ts := fun t ht => hsub t ((setT_mem row t).1 ht)
  have hol := ordsV_len ts row
  have hot : ∀ j, j < (setT row).length → (ordsV ts row).take (j + 1) = (ordsV ts row).take j ++ [((ordT ts ((setT row).getD j []) : Nat) : Int)] := fun j hj => ordsV_take hj
  obtain ⟨st, hst⟩ : ∃ x, x = setT row := ⟨_, rfl⟩
  obtain ⟨ov, hov⟩ : ∃ x, x = ordsV ts row := ⟨_, rfl⟩
  obtain ⟨sl, hsl'⟩ : ∃ x, x = st.length := ⟨_, rfl⟩
  rw [← hst] at HSt hsl hslt hmem hol hot
  rw [← hov] at hol hot ⊢
  rw [← hsl'] at hsl hol hot
  have HMem := hide hmem
  have HOl := hide hol
  have HOt := hide hot
  have HSlt := hide hslt
  have HSl := hide hsl'
  have hsl64 : sl ≤ 64 := by omega
  unfold maxLen at hc hc'
  clear hl hr hl' hts hsub hr' hslt hmem hol hot hst hov hsl' hsl
  go_enter Tryz.func94, Tryz.ntmps94
  go_wp2_with (go_at_call 121; refine HSt.out.mono ?_; rintro e2 w1 ⟨v2, rfl, hown, hfr⟩; rw [← HSl.out] at hown; obtain ⟨A1, c1, rfl, q1, q2, -⟩ := hown.form; have HO1 := hide hown; have HF1 := hide hfr; unfold maxLen at q2; clear hown hfr)
  go_loopw [5, 7, 8] (fun vo vk i wr => ∃ (k kk : Nat), k ≤ sl ∧ i = .int .i64 (k : Nat) ∧ kk ≤ n ∧ vk = .int .i64 (kk : Nat) ∧ Hid (k < sl → kk ≤ ordT ts (st.getD k [])) ∧ Hid (Fr No w1 wr) ∧ Hid (Own wr w1.heap.size 2 1 vo k (iz .i64 (ov.take k)))) (fun _ _ i _ => sl - (intOf i).toNat)
  case atStart => exact ⟨0, 0, by omega, by go_num, by omega, by go_num, hide (fun _ => Nat.zero_le _), hide (Fr.refl _ _), hide (by rw [List.take_zero]; exact Own.nil _ _ _ _)⟩
  case round =>
    obtain ⟨wo, rfl⟩ : ∃ wo : World, wo = wr := ⟨_, rfl⟩
    obtain ⟨k, kk, hk, rfl, hkk, rfl, HK, HF, HO⟩ := hrel
    by_cases hlt : k < sl
    · have hk1 : k < st.length := by rw [← HSl.out]; exact hlt
      obtain ⟨ad1, T, hA1, _, hcT, _, hTl, _⟩ := cellStr (HO1.out.fr0 HF.out).rd hk1
      subst hA1
      have hle := HK.out hlt
      have hmt := HMem.out _ (getD_mem hk1)
      have hot := HOt.out k hlt
      have hnx : k + 1 < sl → ordT ts (st.getD k []) ≤ ordT ts (st.getD (k + 1) []) := fun h => ordT_mono HTs.out (set_lt_next HSlt.out (by rw [← HSl.out]; exact h))
      obtain ⟨t, ht⟩ : ∃ x, x = st.getD k [] := ⟨_, rfl⟩
      rw [← ht] at hTl hle hmt hot hnx
      obtain ⟨hom, hog⟩ := ordT_mem HTs.out hmt
      have hbl := fun j h => ordT_below ts t (j := j) h
      obtain ⟨o, ho⟩ : ∃ x, x = ordT ts t := ⟨_, rfl⟩
      rw [← ho] at hle hot hnx hom hog hbl
      rw [HL.out] at hom
      have HTl := hide hTl
      have HOtk := hide hot
      have HNx := hide hnx
      have HOg := hide hog
      have HBl := hide hbl
      clear hk1 hmt hot hnx ht hog hbl ho hTl
      go_wp2
      go_loopw [7] (fun v wq => ∃ (j nq : Nat), j ≤ o ∧ v = .int .i64 (j : Nat) ∧ wq = wo.drewN nq) (fun v _ => o + 1 - (intOf v).toNat)
      case atStart => exact ⟨kk, 0, by omega, by go_num, rfl⟩
      case round =>
        obtain ⟨j, nq, hj, rfl, rfl⟩ := hrel
        have hjn : j < ts.length := by rw [HL.out]; omega
        obtain ⟨ad2, X, hA2, _, hcX, _, hXl, _⟩ := cellStr ((HR.out.fr0 HF1.out).fr0 HF.out) hjn
        subst hA2
        by_cases hlj : j < o
        · have hst0 : ts.getD j [] ≠ t := fun e => by have := HBl.out j hlj; rw [e] at this; exact tl_irrefl _ this
          have hne := tb_ne hXl HTl.out hst0
          have hne2 := tb_ne2 hXl HTl.out hst0
          clear hst0
          clear hXl hjn
          go_wp2
          go_quiet (fail)
          go_wp2
          go_roundw
          case rel => exact ⟨j + 1, _, by omega, by go_num, rfl⟩
          case measure => simp [intOf]; omega
        · obtain rfl : j = o := by omega
          have heq := tb_eq hXl HTl.out HOg.out
          have heq2 := tb_eq2 hXl HTl.out HOg.out
          clear hXl hjn
          go_wp2
          go_quiet (fail)
          go_upto_region 9 with (fail)
          refine wp_fr (wo := wo) (((Fr.refl No wo).drewN _).drewN _) fun w5 hf5 => ?_
          have HF5 := hide (HF.out.tr hf5)
          have HOa := hide ((HO.out.fr0 hf5).fr0 ((Fr.refl No w5).alloc (.cells #[.int .i64 (j : Nat)] 2)))
          have hz5 : w1.heap.size ≤ (w5.alloc (.cells #[.int .i64 (j : Nat)] 2)).heap.size := (HF5.out.alloc _).size
          have HS := hide (Src.one (P := Tryz.prog) w5 (e := 2) Tryz.underlying41 (.int .i64 (j : Nat)) rfl)
          have b1 : (k + 1) * 8 ≤ 140737488355328 := by omega
          have b2 : k + 1 ≤ maxLen := by unfold maxLen; omega
          have HK' : Hid (k + 1 < sl → j ≤ ordT ts (st.getD (k + 1) [])) := hide (fun h => HNx.out h)
          clear hf5 heq heq2
          go_wp2_with (at_builtin; refine wpList_append_gen _ rfl (.tmp 28) (.tmp 30) 41 41 rfl w1.heap.size 2 i2 (.int .i64 0) 1 8 Tryz.underlying41 hi2 hz2 hsz2 hby2 rfl u5 k _ rfl HOa.out _ 1 [.int .i64 (j : Nat)] rfl HS.out b1 b2 hz5 ?_; intro v6 w6 hown hfr hat; have HO6 := hide hown; have HF6 := hide ((HF5.out.alloc _).own hfr (fun g hg => .inl (HOa.out.lt g hg).1)); clear hown hfr hat)
          go_roundw
          case rel => exact ⟨k + 1, j, by omega, by go_num, by omega, by go_num, HK', HF6, hide (by rw [HOtk.out, iz_append]; exact HO6.out)⟩
          case measure => simp [intOf]; omega
    · obtain rfl : k = sl := by omega
      have hall : ov.take k = ov := List.take_of_length_le (by rw [HOl.out]; exact Nat.le_refl _)
      rw [hall] at HO
      obtain ⟨A4, c4, rfl, q3, q4, -⟩ := HO.out.form
      unfold maxLen at q4
      clear hall
      go_wp2
      go_ret
      exact ⟨_, rfl, by rw [HOl.out]; exact HO.out.lower HF1.out.size, HF1.out.tr HF.out⟩
end Go.Proofs.YtnjcncidlhllmaaGreat
namespace Go.Proofs.YtnjcncidlhllmaaGreat
set_option linter.unusedVariables false
set_option linter.unusedSimpArgs false
open Go.RowKit

set_option maxRecDepth 100000 in
set_option maxHeartbeats 800000 in
theorem refText_any (s : ByteArray) (w : World) (hs : s.size ≤ 140737488350000) :
    Calls Tryz.prog 93 #[.string s] w (GivesB w (enc s.size ++ s.data.toList)) := by
  have H := hide (refUint_any s.size w (by omega))
  obtain ⟨i0, hi, hz, hsz, hby⟩ := info_parts Tryz.info5
  have hlen := (enc_len s.size).2
  generalize enc s.size = xs at H hlen
  generalize hm : s.size = m at *
  have HS := fun W => Src.ofString (P := Tryz.prog) (w := W) Tryz.underlying9 s
  rw [hm, byteCells_by8] at HS
  have HS' := hide HS
  have hsl : s.data.toList.length = m := by rw [← hm, Array.length_toList]; rfl
  generalize s.data.toList = t at HS' hsl
  have b1 : (xs.length + m) * 1 ≤ 140737488355328 := by omega
  have b2 : xs.length + m ≤ maxLen := by unfold maxLen; omega
  clear HS
  go_enter Tryz.func93, Tryz.ntmps93
  go_wp2_with (first | (go_at_call 92; refine H.out.mono ?_; rintro en w1 ⟨v1, rfl, hown, hfr⟩; have HO := hide hown; have HF := hide hfr; have b3 := hfr.size; clear hown hfr) | (at_builtin; refine wpList_append_gen _ rfl (.tmp 8) (.tmp 9) 25 9 rfl w.heap.size 5 i0 (.int .u8 0) 1 1 Tryz.underlying25 hi hz hsz hby rfl v1 xs.length (by8 xs) rfl HO.out _ m (by8 t) rfl (HS'.out w1) b1 b2 b3 ?_; intro v' w' hown hfr hat; have HOn := hide hown; have HFn := hide hfr; clear hown hfr hat))
  go_ret
  refine ⟨_, rfl, ?_, HF.out.own HFn.out (fun g hg => .inl (HO.out.lt g hg).1)⟩
  rw [by8_append, List.length_append, hsl]
  exact HOn.out
end Go.Proofs.YtnjcncidlhllmaaGreat
namespace Go.Proofs.YtnjcncidlhllmaaGreat
set_option linter.unusedVariables false
set_option linter.unusedSimpArgs false
open Go.RowKit

set_option maxRecDepth 100000 in
set_option maxHeartbeats 8000000 in
theorem refTexts12_any (A : Option Addr) (n c B : Nat) (rows : RwT) (w : World) (hl : rows.length = n) (hn : n ≤ c) (hc : c ≤ maxLen) (hB : B ≤ w.heap.size) (hlb : ∀ l ∈ rows, ∀ t ∈ l, t.length ≤ maxLen) (hr : TSl w B A rows) :
    Calls Tryz.prog 65 #[.slice A n c] w (GivesB w (keptT rows)) := by
  have HR := hide hr
  have HL := hide hl
  have HX := hide hlb
  have HC := hide hc
  unfold maxLen at hc
  clear hr hl hlb
  by_cases hbig : 16384 < n
  · have HNo : Hid (keptT rows = []) := hide (by rw [keptT, if_neg (fun h => by have := h.1.1; have := HL.out; omega)])
    go_enter Tryz.func65, Tryz.ntmps65
    go_wp2
    go_ret
    refine ⟨_, rfl, ?_, Fr.refl _ _⟩
    rw [HNo.out]
    exact Own.nil _ _ _ _
  have hnb : n ≤ 16384 := by omega
  clear hbig
  obtain ⟨i5, hi5, hz5, hsz5, hby5⟩ := info_parts Tryz.info5
  obtain ⟨i1, hi1, hz1, hsz1, hby1⟩ := info_parts Tryz.infoRI
  go_enter Tryz.func65, Tryz.ntmps65
  go_wp2
  go_loopw [3] (fun i wr => ∃ (k : Nat), k ≤ n ∧ i = .int .i64 (k : Nat) ∧ wr = w ∧ Hid (∀ l ∈ rows.take k, l.length ≤ 64 ∧ ∀ t ∈ l, t.length ≤ 256)) (fun i _ => n - (intOf i).toNat)
  case atStart => exact ⟨0, by omega, by go_num, rfl, hide (fun l hl => by rw [List.take_zero] at hl; cases hl)⟩
  case round =>
    obtain ⟨k, hk, rfl, rfl, HS⟩ := hrel
    by_cases hlt : k < n
    · have hk1 : k < rows.length := by rw [HL.out]; exact hlt
      obtain ⟨ad, Ai, ci, hA, hadb, hcell, hc1, hc2, hrd⟩ := HR.out.at hk1
      subst hA
      have hmem := getD_memR hk1
      have htk : rows.take (k + 1) = rows.take k ++ [rows.getD k []] := take_getDR hk1
      obtain ⟨row, hrow⟩ : ∃ x, x = rows.getD k [] := ⟨_, rfl⟩
      rw [← hrow] at hcell hc1 hrd htk hmem
      obtain ⟨li, hli⟩ : ∃ x, x = row.length := ⟨_, rfl⟩
      rw [← hli] at hcell hc1
      have HLi := hide hli
      have HRd := hide hrd
      have HTk := hide htk
      have HMm := hide hmem
      unfold maxLen at hc2
      clear hk1 hadb hrow hli hrd htk hmem
      by_cases h64 : 64 < li
      · have HNo : Hid (keptT rows = []) := hide (by rw [keptT, if_neg (fun h => by have := h.1.2 _ HMm.out; have := HLi.out; omega)])
        have d0 : decide (64 < li) = true := decide_eq_true h64
        have d1 : decide ((64 : Int) < (li : Int)) = true := decide_eq_true (by omega)
        go_wp2
        go_ret
        refine ⟨_, rfl, ?_, Fr.refl _ _⟩
        rw [HNo.out]
        exact Own.nil _ _ _ _
      · have d0 : decide (64 < li) = false := decide_eq_false h64
        have d1 : decide ((64 : Int) < (li : Int)) = false := decide_eq_false (by omega)
        have hli64 : li ≤ 64 := by omega
        clear h64
        go_wp2
        clear d0 d1
        go_loopw [4] (fun i wq => ∃ (q : Nat), q ≤ li ∧ i = .int .i64 (q : Nat) ∧ wq = wr ∧ Hid (∀ t ∈ row.take q, t.length ≤ 256)) (fun i _ => li - (intOf i).toNat)
        case atStart => exact ⟨0, by omega, by go_num, rfl, hide (fun t ht => by rw [List.take_zero] at ht; cases ht)⟩
        case round =>
          obtain ⟨q, hq, rfl, rfl, HT⟩ := hrel
          by_cases hlq : q < li
          · have hq1 : q < row.length := by rw [← HLi.out]; exact hlq
            obtain ⟨adi, T, hAi, _, hcT, _, _, hTs⟩ := cellStr HRd.out hq1
            subst hAi
            have htq : row.take (q + 1) = row.take q ++ [row.getD q []] := take_getD [] hq1
            have hmt := getD_mem hq1
            have hx := HX.out _ HMm.out _ hmt
            obtain ⟨t, ht⟩ : ∃ x, x = row.getD q [] := ⟨_, rfl⟩
            rw [← ht] at hTs htq hmt hx
            have HTq := hide htq
            have HMt := hide hmt
            obtain ⟨tl, htl⟩ : ∃ x, x = T.size := ⟨_, rfl⟩
            have HTl : Hid (tl = t.length) := hide (by rw [htl, hTs])
            unfold maxLen at hx
            clear hq1 htq hmt ht
            by_cases h256 : 256 < tl
            · have HNo : Hid (keptT rows = []) := hide (by rw [keptT, if_neg (fun h => by have := h.2 _ HMm.out _ HMt.out; have := HTl.out; omega)])
              have d0 : decide (256 < tl) = true := decide_eq_true h256
              have d1 : decide ((256 : Int) < (tl : Int)) = true := decide_eq_true (by omega)
              rw [htl] at d0 d1 h256
              clear hTs htl hx
              go_wp2
              go_ret
              refine ⟨_, rfl, ?_, Fr.refl _ _⟩
              rw [HNo.out]
              exact Own.nil _ _ _ _
            · have d0 : decide (256 < tl) = false := decide_eq_false h256
              have d1 : decide ((256 : Int) < (tl : Int)) = false := decide_eq_false (by omega)
              have HT' : Hid (∀ s ∈ row.take (q + 1), s.length ≤ 256) := hide (fun s hs => by
                rw [HTq.out] at hs
                rcases List.mem_append.1 hs with hs | hs
                · exact HT.out s hs
                · rw [List.mem_singleton.1 hs, ← HTl.out]; omega)
              rw [htl] at d0 d1 h256
              clear hTs htl hx
              go_wp2
              go_roundw
              case rel => exact ⟨q + 1, by omega, by go_num, trivial, HT'⟩
              case measure => simp [intOf]; omega
          · obtain rfl : q = li := by omega
            have hall : row.take q = row := List.take_of_length_le (by rw [HLi.out]; exact Nat.le_refl _)
            rw [hall] at HT
            have HS' : Hid (∀ l ∈ rows.take (k + 1), l.length ≤ 64 ∧ ∀ t ∈ l, t.length ≤ 256) := hide (fun l hl => by
              rw [HTk.out] at hl
              rcases List.mem_append.1 hl with hl | hl
              · exact HS.out l hl
              · rw [List.mem_singleton.1 hl]; exact ⟨by rw [← HLi.out]; exact hli64, HT.out⟩)
            clear hall HT
            go_wp2
            go_roundw
            case rel => exact ⟨k + 1, by omega, by go_num, trivial, HS'⟩
            case measure => simp [intOf]; omega
    · obtain rfl : k = n := by omega
      have htk : rows.take k = rows := List.take_of_length_le (by rw [HL.out]; omega)
      rw [htk] at HS
      have hok : okT rows := ⟨⟨by rw [HL.out]; exact hnb, fun l hl => (HS.out l hl).1⟩, fun l hl => (HS.out l hl).2⟩
      have HOk := hide hok
      have HTe := hide (refTerms_any A k c B rows wr HL.out hok hn HC.out hB HR.out)
      have htl := termsV_le hok.1
      have hsub : ∀ l ∈ rows, ∀ t ∈ l, t ∈ termsV rows := fun l hl t ht => (termsV_mem rows t).2 ⟨l, hl, ht⟩
      have hlt' := termsV_lt rows
      have hor : ordsR rows = rows.map (ordsV (termsV rows)) := rfl
      have hkt : keptT rows = enc (termsV rows).length ++ txts (termsV rows) ++ formV (ordsR rows) := by rw [keptT, if_pos hok, textsB]
      have h256 : ∀ t ∈ termsV rows, t.length ≤ 256 := fun t ht => by
        obtain ⟨l, hl, ht⟩ := (termsV_mem rows t).1 ht
        exact hok.2 l hl t ht
      obtain ⟨ts, hts⟩ : ∃ x, x = termsV rows := ⟨_, rfl⟩
      obtain ⟨tk, htk'⟩ : ∃ x, x = ts.length := ⟨_, rfl⟩
      rw [← hts] at HTe htl hsub hlt' hor hkt h256
      rw [← htk'] at htl hkt
      have HSub := hide hsub
      have HLt := hide hlt'
      have HOr := hide hor
      have HKt := hide hkt
      have H256 := hide h256
      have HTk := hide htk'
      clear htk hok hsub hlt' hor hkt hts htk' hlt HS h256
      go_wp2_with (fail)
      refine HTe.out.mono ?_
      rintro en w1 ⟨v1, rfl, hown, hf⟩
      rw [← HTk.out] at hown
      obtain ⟨At, ct, rfl, y1, y2, -⟩ := hown.form
      have HO1 := hide hown
      have HF1 := hide hf
      have HY := hide (And.intro y1 y2)
      have HU := hide (refUint_any tk w1 (by omega))
      unfold maxLen at y2
      clear hown hf HTe
      go_wp2_with (fail)
      refine HU.out.mono ?_
      rintro en w2 ⟨v2, rfl, hown, hf⟩
      have he10 := enc_le tk
      obtain ⟨en, hen⟩ : ∃ x, x = (enc tk).length := ⟨_, rfl⟩
      rw [← hen] at hown he10
      have HEn := hide hen
      have HO2 := hide hown
      have HF12 := hide hf
      clear hown hf hen HU
      go_wp2_with (fail)
      go_loopw [6, 7] (fun vb i wr => ∃ (j bn : Nat), j ≤ tk ∧ i = .int .i64 (j : Nat) ∧ bn ≤ 10 + 266 * j ∧ Hid (Fr No w1 wr) ∧ Hid (bn = (enc tk ++ txts (ts.take j)).length) ∧ Hid (Own wr w1.heap.size 5 1 vb bn (by8 (enc tk ++ txts (ts.take j))))) (fun _ i _ => tk - (intOf i).toNat)
      case atStart => exact ⟨0, en, by omega, by go_num, by omega, HF12, hide (by simp [txts, HEn.out]), hide (by simpa [txts] using HO2.out)⟩
      case round =>
        clear HO2 HF12
        obtain ⟨wo, rfl⟩ : ∃ wo : World, wo = wr := ⟨_, rfl⟩
        obtain ⟨j, bn, hj, rfl, hbn, HFj, HBn, HOj⟩ := hrel
        by_cases hlj : j < tk
        · have hj1 : j < ts.length := by rw [← HTk.out]; exact hlj
          obtain ⟨adt, X, hAt, _, hcell, hX, _, hXs⟩ := cellStr (HO1.out.fr0 HFj.out).rd hj1
          subst hAt
          have h2 := H256.out _ (getD_mem hj1)
          have hsn : ts.take (j + 1) = ts.take j ++ [ts.getD j []] := take_getD [] hj1
          obtain ⟨t, htt⟩ : ∃ x, x = ts.getD j [] := ⟨_, rfl⟩
          rw [← htt] at hX hXs h2 hsn
          have HSn := hide hsn
          have hpt := refText_any X wo (by omega)
          have htx : enc X.size ++ X.data.toList = txt t := by rw [txt, hX, hXs]
          rw [htx] at hpt
          obtain ⟨pl, hpl⟩ : ∃ x, x = (txt t).length := ⟨_, rfl⟩
          have hpl2 : pl ≤ 266 := by
            have := enc_le t.length
            rw [hpl, txt, List.length_append]
            omega
          have HPl := hide hpl
          have HPt := hide hpt
          have b1 : (bn + pl) * 1 ≤ 140737488355328 := by omega
          have b2 : bn + pl ≤ maxLen := by unfold maxLen; omega
          clear hX htt hXs hsn hj1 hpt htx hpl h2
          go_wp2_with (first
            | (go_at_call 93; refine HPt.out.mono ?_; rintro en w8 ⟨v8, rfl, hown, hfr⟩; rw [← HPl.out] at hown; obtain ⟨A8, c8, rfl, p1, p2, _, p3, _⟩ := hown.form; have HS8 := hide (Src.ofRd (P := Tryz.prog) (size := 1) w8 Tryz.underlying25 A8 pl c8 (by8 (txt t)) (by rw [by8_length, ← HPl.out, Nat.mul_one]) (by omega) p3 (by8_one _)); have HOj8 := hide (HOj.out.fr0 hfr); have HF8 := hide (HFj.out.tr hfr); have hz8 : w1.heap.size ≤ w8.heap.size := (HFj.out.tr hfr).size; unfold maxLen at p2; clear hown hfr p3)
            | (at_builtin; refine wpList_append_gen _ rfl (.tmp 56) (.tmp 61) 25 25 rfl w1.heap.size 5 i5 (.int .u8 0) 1 1 Tryz.underlying25 hi5 hz5 hsz5 hby5 rfl u6 bn _ rfl HOj8.out _ pl (by8 (txt t)) rfl HS8.out b1 b2 hz8 ?_; intro v9 w9 hown hfr hat; have HO9 := hide hown; have HFa := hide hfr; clear hown hfr hat))
          go_roundw
          case rel =>
            refine ⟨j + 1, bn + pl, by omega, by go_num, by omega, hide (HF8.out.own HFa.out (fun g hg => .inl (HOj8.out.lt g hg).1)), hide ?_, hide ?_⟩
            · rw [HSn.out, txts_snoc, ← List.append_assoc, List.length_append, ← HBn.out, ← HPl.out]
            · rw [HSn.out, txts_snoc, ← List.append_assoc, by8_append]
              exact HO9.out
          case measure => simp [intOf]; omega
        · obtain rfl : j = tk := by omega
          have htk : ts.take j = ts := List.take_of_length_le (by rw [HTk.out]; exact Nat.le_refl _)
          rw [htk] at HBn HOj
          clear htk hlj
          go_wp2_with (fail)
          go_loopw [8, 9] (fun vl i wq => ∃ (m : Nat) (vals : List Value), m ≤ k ∧ i = .int .i64 (m : Nat) ∧ Hid (Fr No wo wq) ∧ Hid (Own wq wo.heap.size 41 1 vl m vals) ∧ Hid (ValsI wq wo.heap.size vals ((rows.take m).map (ordsV ts)))) (fun _ i _ => k - (intOf i).toNat)
          case atStart => exact ⟨0, [], by omega, by go_num, hide (Fr.refl _ _), hide (Own.nil _ _ _ _), hide (by rw [List.take_zero]; exact ValsI.nil _ _)⟩
          case round =>
            obtain ⟨wq, rfl⟩ : ∃ wo : World, wo = wr := ⟨_, rfl⟩
            obtain ⟨m, vals, hm, rfl, HFm, HOm, HVm⟩ := hrel
            by_cases hlm : m < k
            · have hm1 : m < rows.length := by rw [HL.out]; exact hlm
              have hfq := HF1.out.tr (HFj.out.tr HFm.out)
              obtain ⟨ad, Ai, ci, hA, hadb, hcell, hc1, hc2, hrd⟩ := (HR.out.fr0 hfq).at hm1
              subst hA
              have hmem := getD_memR hm1
              have hli64 := HOk.out.1.2 _ hmem
              have hsb := HSub.out _ hmem
              have htk : rows.take (m + 1) = rows.take m ++ [rows.getD m []] := take_getDR hm1
              obtain ⟨row, hrow⟩ : ∃ x, x = rows.getD m [] := ⟨_, rfl⟩
              rw [← hrow] at hcell hc1 hrd htk hli64 hsb
              obtain ⟨li, hli⟩ : ∃ x, x = row.length := ⟨_, rfl⟩
              rw [← hli] at hcell hc1 hli64
              have HCl := hide (refOrds_any At Ai j ct wq.heap.size li ci B ts row wq HTk.out.symm hli.symm HLt.out hsb HY.out.1 HY.out.2 (by omega) hc1 hc2 hli64 (Nat.le_trans hB hfq.size) (HO1.out.fr0 (HFj.out.tr HFm.out)).rd hrd)
              obtain ⟨ol, hol⟩ : ∃ x, x = (ordsV ts row).length := ⟨_, rfl⟩
              have HOl := hide hol
              have HTm : Hid ((rows.take (m + 1)).map (ordsV ts) = (rows.take m).map (ordsV ts) ++ [ordsV ts row]) := hide (by rw [htk]; simp)
              have hws := HFm.out.size
              have b1 : (m + 1) * 24 ≤ 140737488355328 := by omega
              have b2 : m + 1 ≤ maxLen := by unfold maxLen; omega
              unfold maxLen at hc2
              clear hm1 hfq hadb hrd hmem hsb htk hrow hli hol
              go_wp2_with (fail)
              refine HCl.out.mono ?_
              rintro e1 w3 ⟨v2, rfl, hown, hfr⟩
              rw [← HOl.out] at hown
              obtain ⟨A2, c2, rfl, q1, q2, _⟩ := hown.form
              have HO3 := hide hown
              have HF3 := hide hfr
              have HF03 : Hid (Fr No wo w3) := hide (HFm.out.trans HF3.out (fun _ _ h => h.elim))
              have HV3 := hide (HVm.out.fr0 HF3.out)
              have HOut := hide ((HOm.out.fr0 HF3.out).fr0 ((Fr.refl No w3).alloc (.cells #[.slice A2 ol c2] 41)))
              have hz3 : wo.heap.size ≤ (w3.alloc (.cells #[.slice A2 ol c2] 41)).heap.size := (by have := HF03.out.size; simp; omega)
              unfold maxLen at q2
              clear hown hfr
              go_wp2_with (at_builtin; refine wpList_append_gen _ rfl (.tmp 75) (.tmp 77) 22 22 rfl wo.heap.size 41 i1 (.slice none 0 0) 1 24 Tryz.underlying22 hi1 hz1 hsz1 hby1 rfl u8 m _ rfl HOut.out _ 1 [.slice A2 ol c2] rfl (src_row w3 A2 ol c2) b1 b2 hz3 ?_; intro v5 w5 hown hfr hat; have HO5 := hide hown; have HFa := hide hfr; clear hown hfr hat)
              go_roundw
              case rel =>
                have hV3 := HV3.out.fr0 ((Fr.refl No w3).alloc (.cells #[.slice A2 ol c2] 41))
                have hO3 := HO3.out.fr0 ((Fr.refl No w3).alloc (.cells #[.slice A2 ol c2] 41))
                refine ⟨m + 1, vals ++ [.slice A2 ol c2], by omega, by go_num, hide ((HF03.out.alloc _).own HFa.out (fun g hg => .inl (HOut.out.lt g hg).1)), HO5, hide ?_⟩
                rw [HTm.out]
                refine ValsI.snoc (w0 := wq) HVm.out ?_ ?_ hws
                · exact hV3.fr HFa.out (fun j v hv i hi e => by
                    obtain ⟨bs, _, ho⟩ := hV3.get hv
                    exact ho.apart HOut.out (by decide) i hi e)
                · rw [← HOl.out]
                  exact hO3.fr HFa.out (fun i hi e => hO3.apart HOut.out (by decide) i hi e)
              case measure => simp [intOf]; omega
            · obtain rfl : m = k := by omega
              have htk : rows.take m = rows := List.take_of_length_le (by rw [HL.out]; exact Nat.le_refl _)
              rw [htk, ← HOr.out] at HVm
              obtain ⟨A4, c4, rfl, q1, q2, _, q3, _⟩ := HOm.out.form
              have HFo := hide (refForm_any A4 m c4 wq.heap.size (ordsR rows) wq (by rw [ordsR_len, HL.out]) (ordsR_ok HOk.out.1) (ordsR_in HOk.out.1) q1 q2 (Nat.le_refl _) (HVm.out.isl q3))
              have hfl := formV_leT (ordsR_ok HOk.out.1) (ordsR_in HOk.out.1)
              obtain ⟨fl, hfl'⟩ : ∃ x, x = (formV (ordsR rows)).length := ⟨_, rfl⟩
              rw [← hfl'] at hfl
              have HFl := hide hfl'
              have HOb := hide (HOj.out.fr0 HFm.out)
              have HFq := hide (HFj.out.tr HFm.out)
              have b1 : (bn + fl) * 1 ≤ 140737488355328 := by omega
              have b2 : bn + fl ≤ maxLen := by unfold maxLen; omega
              unfold maxLen at q2
              clear htk hfl' hlm q3
              go_wp2_with (first
                | (go_at_call 89; refine HFo.out.mono ?_; rintro en w13 ⟨v13, rfl, hown, hfr⟩; rw [← HFl.out] at hown; obtain ⟨A13, c13, rfl, p1, p2, _, p3, _⟩ := hown.form; have HS13 := hide (Src.ofRd (P := Tryz.prog) (size := 1) w13 Tryz.underlying25 A13 fl c13 (by8 (formV (ordsR rows))) (by rw [by8_length, ← HFl.out, Nat.mul_one]) (by omega) p3 (by8_one _)); have HO13 := hide (HOb.out.fr0 hfr); have HF13 := hide (HFq.out.tr hfr); have hz13 := HF13.out.size; unfold maxLen at p2; clear hown hfr p3)
                | (at_builtin; refine wpList_append_gen _ rfl (.tmp 79) (.tmp 81) 25 25 rfl w1.heap.size 5 i5 (.int .u8 0) 1 1 Tryz.underlying25 hi5 hz5 hsz5 hby5 rfl u6 bn _ rfl HO13.out _ fl (by8 (formV (ordsR rows))) rfl HS13.out b1 b2 hz13 ?_; intro v14 w14 hown hfr hat; have HO14 := hide hown; have HF14 : Hid (Fr No w1 w14) := hide (HF13.out.own hfr (fun g hg => .inl (HO13.out.lt g hg).1)); clear hown hfr hat))
              go_ret
              refine ⟨v14, rfl, ?_, HF1.out.tr HF14.out⟩
              rw [HKt.out, by8_append, List.length_append, ← HBn.out, ← HFl.out]
              exact HO14.out.lower HF1.out.size
end Go.Proofs.YtnjcncidlhllmaaGreat
namespace Go.Proofs.YtnjcncidlhllmaaGreat
set_option linter.unusedVariables false
set_option linter.unusedSimpArgs false
open Go.RowKit

set_option maxRecDepth 100000 in
set_option maxHeartbeats 800000 in
theorem refT_bad1 (B g : Nat) (bs : List UInt8) (a : Nat) (w : World) (most : Int) (h : RS w B g bs a 0) (hd : dec 0 0 (bs.drop a) = none) :
    Calls Tryz.prog 64 #[.pointer (some ⟨g, 0, none⟩), .int .i64 most] w (RSRet (.string ⟨#[]⟩) w B g bs a 20) := by
  obtain ⟨A, c, ⟨c0, c1, c2⟩, hf, h1, h2, h3, h4, hr, hB⟩ := h.parts
  have HN := hide (refnum_cut hr h1 h2 h3 hB hd)
  simp only [numW] at HN
  have H := hide h
  have HA := hide hr
  clear h hr hd
  by_cases hca : c = a
  · have HN1 := HN.out
    rw [if_pos hca, hca, Nat.sub_self] at HN1
    have HN2 := hide HN1
    clear HN HN1
    go_enter Tryz.func64, Tryz.ntmps64
    go_wp2_with (fail)
    go_region_with (go_at_call 90; refine (HN2.out w.drew rfl).mono ?_; rintro en w1 ⟨rfl, hfr⟩; have HF : Hid (Fr No w w1) := ⟨hfr.os, hfr.tape, hfr.output, hfr.size, hfr.block⟩; clear hfr; have HR1 := hide (H.out.fr0 HF.out); obtain ⟨A1, k1, ⟨e0, e1, e2⟩, hf1, q1, q2, _, _, _⟩ := HR1.out.parts)
    all_goals (try go_wp2)
    all_goals
      go_simp
      go_quiet (fail)
      go_wp2
      go_ret
      exact ⟨rfl, (HR1.out.drewN _).set2 20, ((HF.out.any (Is g)).drewN _).put _ _⟩
  · have HN1 := HN.out
    rw [if_neg hca] at HN1
    have HN2 := hide HN1
    clear HN HN1
    go_enter Tryz.func64, Tryz.ntmps64
    go_wp2_with (fail)
    go_region_with (go_at_call 90; refine (HN2.out w.drew rfl).mono ?_; rintro en w1 ⟨rfl, hfr⟩; have HF : Hid (Fr No w w1) := ⟨hfr.os, hfr.tape, hfr.output, hfr.size, hfr.block⟩; clear hfr; have HR1 := hide (H.out.fr0 HF.out); obtain ⟨A1, k1, ⟨e0, e1, e2⟩, hf1, q1, q2, _, _, _⟩ := HR1.out.parts)
    all_goals (try go_wp2)
    all_goals
      go_simp
      go_quiet (fail)
      go_wp2
      go_ret
      exact ⟨rfl, (HR1.out.drewN _).set2 20, ((HF.out.any (Is g)).drewN _).put _ _⟩

set_option maxRecDepth 100000 in
set_option maxHeartbeats 800000 in
theorem refT_bad2 (B g : Nat) (bs : List UInt8) (a : Nat) (w : World) (most : Int) (u k : Nat) (h : RS w B g bs a 0) (hd : dec 0 0 (bs.drop a) = some (u, k)) (hneg : most < 0) :
    Calls Tryz.prog 64 #[.pointer (some ⟨g, 0, none⟩), .int .i64 most] w (RSRet (.string ⟨#[]⟩) w B g bs a 20) := by
  obtain ⟨A, c, ⟨c0, c1, c2⟩, hf, h1, h2, h3, h4, hr, hB⟩ := h.parts
  have HN := hide (refnum_cut hr h1 h2 h3 hB hd)
  simp only [numW] at HN
  have H := hide h
  have HA := hide hr
  have hk := dec_le _ _ _ _ _ hd
  have hk1 : a + k ≤ bs.length := by have := hk.2; simp at this; omega
  have hk0 : ((k : Int) == 0) = false := by have := hk.1; simp; omega
  have hu := dec_lt _ 0 0 u k (by decide) hd
  clear hk
  clear h hr hd
  by_cases hca : c = a
  · have HN1 := HN.out
    rw [if_pos hca, hca, Nat.sub_self] at HN1
    have HN2 := hide HN1
    clear HN HN1
    go_enter Tryz.func64, Tryz.ntmps64
    go_wp2_with (fail)
    go_region_with (go_at_call 90; refine (HN2.out w.drew rfl).mono ?_; rintro en w1 ⟨rfl, hfr⟩; have HF : Hid (Fr No w w1) := ⟨hfr.os, hfr.tape, hfr.output, hfr.size, hfr.block⟩; clear hfr; have HR1 := hide (H.out.fr0 HF.out); obtain ⟨A1, k1, ⟨e0, e1, e2⟩, hf1, q1, q2, _, _, _⟩ := HR1.out.parts)
    all_goals (try go_wp2)
    all_goals
      go_simp
      have d1 : decide (most < 0) = true := by simp; omega
      go_quiet (fail)
      clear d1
      go_wp2
      go_ret
      exact ⟨rfl, (HR1.out.drewN _).set2 20, ((HF.out.any (Is g)).drewN _).put _ _⟩
  · have HN1 := HN.out
    rw [if_neg hca] at HN1
    have HN2 := hide HN1
    clear HN HN1
    go_enter Tryz.func64, Tryz.ntmps64
    go_wp2_with (fail)
    go_region_with (go_at_call 90; refine (HN2.out w.drew rfl).mono ?_; rintro en w1 ⟨rfl, hfr⟩; have HF : Hid (Fr No w w1) := ⟨hfr.os, hfr.tape, hfr.output, hfr.size, hfr.block⟩; clear hfr; have HR1 := hide (H.out.fr0 HF.out); obtain ⟨A1, k1, ⟨e0, e1, e2⟩, hf1, q1, q2, _, _, _⟩ := HR1.out.parts)
    all_goals (try go_wp2)
    all_goals
      go_simp
      have d1 : decide (most < 0) = true := by simp; omega
      go_quiet (fail)
      clear d1
      go_wp2
      go_ret
      exact ⟨rfl, (HR1.out.drewN _).set2 20, ((HF.out.any (Is g)).drewN _).put _ _⟩

set_option maxRecDepth 100000 in
set_option maxHeartbeats 800000 in
theorem refT_bad3 (B g : Nat) (bs : List UInt8) (a : Nat) (w : World) (m : Nat) (u k : Nat) (h : RS w B g bs a 0) (hd : dec 0 0 (bs.drop a) = some (u, k)) (hm2 : (m : Int) ≤ 9223372036854775807) (hbig : m < u) :
    Calls Tryz.prog 64 #[.pointer (some ⟨g, 0, none⟩), .int .i64 m] w (RSRet (.string ⟨#[]⟩) w B g bs a 20) := by
  obtain ⟨A, c, ⟨c0, c1, c2⟩, hf, h1, h2, h3, h4, hr, hB⟩ := h.parts
  have HN := hide (refnum_cut hr h1 h2 h3 hB hd)
  simp only [numW] at HN
  have H := hide h
  have HA := hide hr
  have hk := dec_le _ _ _ _ _ hd
  have hk1 : a + k ≤ bs.length := by have := hk.2; simp at this; omega
  have hk0 : ((k : Int) == 0) = false := by have := hk.1; simp; omega
  have hu := dec_lt _ 0 0 u k (by decide) hd
  clear hk
  clear h hr hd
  by_cases hca : c = a
  · have HN1 := HN.out
    rw [if_pos hca, hca, Nat.sub_self] at HN1
    have HN2 := hide HN1
    clear HN HN1
    go_enter Tryz.func64, Tryz.ntmps64
    go_wp2_with (fail)
    go_region_with (go_at_call 90; refine (HN2.out w.drew rfl).mono ?_; rintro en w1 ⟨rfl, hfr⟩; have HF : Hid (Fr No w w1) := ⟨hfr.os, hfr.tape, hfr.output, hfr.size, hfr.block⟩; clear hfr; have HR1 := hide (H.out.fr0 HF.out); obtain ⟨A1, k1, ⟨e0, e1, e2⟩, hf1, q1, q2, _, _, _⟩ := HR1.out.parts)
    all_goals (try go_wp2)
    all_goals
      go_simp
      have d1 : decide ((m : Int) < 0) = false := by simp
      have d2 : decide (m < u) = true := by simp; omega
      have i1 : IntKind.u64.wrap (m : Int) = (m : Int) := IntWalk.u64_in _ (by omega)
      go_quiet (fail)
      clear d1 d2 i1
      go_wp2
      go_ret
      exact ⟨rfl, (HR1.out.drewN _).set2 20, ((HF.out.any (Is g)).drewN _).put _ _⟩
  · have HN1 := HN.out
    rw [if_neg hca] at HN1
    have HN2 := hide HN1
    clear HN HN1
    go_enter Tryz.func64, Tryz.ntmps64
    go_wp2_with (fail)
    go_region_with (go_at_call 90; refine (HN2.out w.drew rfl).mono ?_; rintro en w1 ⟨rfl, hfr⟩; have HF : Hid (Fr No w w1) := ⟨hfr.os, hfr.tape, hfr.output, hfr.size, hfr.block⟩; clear hfr; have HR1 := hide (H.out.fr0 HF.out); obtain ⟨A1, k1, ⟨e0, e1, e2⟩, hf1, q1, q2, _, _, _⟩ := HR1.out.parts)
    all_goals (try go_wp2)
    all_goals
      go_simp
      have d1 : decide ((m : Int) < 0) = false := by simp
      have d2 : decide (m < u) = true := by simp; omega
      have i1 : IntKind.u64.wrap (m : Int) = (m : Int) := IntWalk.u64_in _ (by omega)
      go_quiet (fail)
      clear d1 d2 i1
      go_wp2
      go_ret
      exact ⟨rfl, (HR1.out.drewN _).set2 20, ((HF.out.any (Is g)).drewN _).put _ _⟩

set_option maxRecDepth 100000 in
set_option maxHeartbeats 800000 in
theorem refT_bad4 (B g : Nat) (bs : List UInt8) (a : Nat) (w : World) (m : Nat) (u k : Nat) (h : RS w B g bs a 0) (hd : dec 0 0 (bs.drop a) = some (u, k)) (hm2 : (m : Int) ≤ 9223372036854775807) (hfit : u ≤ m) (hul : bs.length - a - k < u) :
    Calls Tryz.prog 64 #[.pointer (some ⟨g, 0, none⟩), .int .i64 m] w (RSRet (.string ⟨#[]⟩) w B g bs a 20) := by
  obtain ⟨A, c, ⟨c0, c1, c2⟩, hf, h1, h2, h3, h4, hr, hB⟩ := h.parts
  have HN := hide (refnum_cut hr h1 h2 h3 hB hd)
  simp only [numW] at HN
  have H := hide h
  have HA := hide hr
  have hk := dec_le _ _ _ _ _ hd
  have hk1 : a + k ≤ bs.length := by have := hk.2; simp at this; omega
  have hk0 : ((k : Int) == 0) = false := by have := hk.1; simp; omega
  have hu := dec_lt _ 0 0 u k (by decide) hd
  clear hk
  clear h hr hd
  by_cases hca : c = a
  · have HN1 := HN.out
    rw [if_pos hca, hca, Nat.sub_self] at HN1
    have HN2 := hide HN1
    clear HN HN1
    go_enter Tryz.func64, Tryz.ntmps64
    go_wp2_with (fail)
    go_region_with (go_at_call 90; refine (HN2.out w.drew rfl).mono ?_; rintro en w1 ⟨rfl, hfr⟩; have HF : Hid (Fr No w w1) := ⟨hfr.os, hfr.tape, hfr.output, hfr.size, hfr.block⟩; clear hfr; have HR1 := hide (H.out.fr0 HF.out); obtain ⟨A1, k1, ⟨e0, e1, e2⟩, hf1, q1, q2, _, _, _⟩ := HR1.out.parts)
    all_goals (try go_wp2)
    all_goals
      go_simp
      obtain ⟨x, hx⟩ : ∃ x : Nat, x = bs.length - a := ⟨_, rfl⟩
      obtain ⟨y, hy⟩ : ∃ y : Nat, y = bs.length - a - k := ⟨_, rfl⟩
      have d1 : decide ((m : Int) < 0) = false := by simp
      have d2 : decide (m < u) = false := by simp; omega
      have d3 : decide (y < u) = true := by simp; omega
      have i1 : IntKind.u64.wrap (m : Int) = (m : Int) := IntWalk.u64_in _ (by omega)
      have i2 : IntKind.i64.wrap ((bs.length : Int) - a) = (x : Int) := by rw [IntWalk.i64_in _ (by omega)]; omega
      have i3 : IntKind.i64.wrap ((x : Int) - k) = (y : Int) := by rw [IntWalk.i64_in _ (by omega)]; omega
      have i4 : IntKind.u64.wrap (y : Int) = (y : Int) := IntWalk.u64_in _ (by omega)
      clear hx hy hul
      go_quiet (fail)
      clear i1 i2 i3 i4 d1 d2 d3
      go_wp2
      go_ret
      exact ⟨rfl, (HR1.out.drewN _).set2 20, ((HF.out.any (Is g)).drewN _).put _ _⟩
  · have HN1 := HN.out
    rw [if_neg hca] at HN1
    have HN2 := hide HN1
    clear HN HN1
    go_enter Tryz.func64, Tryz.ntmps64
    go_wp2_with (fail)
    go_region_with (go_at_call 90; refine (HN2.out w.drew rfl).mono ?_; rintro en w1 ⟨rfl, hfr⟩; have HF : Hid (Fr No w w1) := ⟨hfr.os, hfr.tape, hfr.output, hfr.size, hfr.block⟩; clear hfr; have HR1 := hide (H.out.fr0 HF.out); obtain ⟨A1, k1, ⟨e0, e1, e2⟩, hf1, q1, q2, _, _, _⟩ := HR1.out.parts)
    all_goals (try go_wp2)
    all_goals
      go_simp
      obtain ⟨x, hx⟩ : ∃ x : Nat, x = bs.length - a := ⟨_, rfl⟩
      obtain ⟨y, hy⟩ : ∃ y : Nat, y = bs.length - a - k := ⟨_, rfl⟩
      have d1 : decide ((m : Int) < 0) = false := by simp
      have d2 : decide (m < u) = false := by simp; omega
      have d3 : decide (y < u) = true := by simp; omega
      have i1 : IntKind.u64.wrap (m : Int) = (m : Int) := IntWalk.u64_in _ (by omega)
      have i2 : IntKind.i64.wrap ((bs.length : Int) - a) = (x : Int) := by rw [IntWalk.i64_in _ (by omega)]; omega
      have i3 : IntKind.i64.wrap ((x : Int) - k) = (y : Int) := by rw [IntWalk.i64_in _ (by omega)]; omega
      have i4 : IntKind.u64.wrap (y : Int) = (y : Int) := IntWalk.u64_in _ (by omega)
      clear hx hy hul
      go_quiet (fail)
      clear i1 i2 i3 i4 d1 d2 d3
      go_wp2
      go_ret
      exact ⟨rfl, (HR1.out.drewN _).set2 20, ((HF.out.any (Is g)).drewN _).put _ _⟩

set_option maxRecDepth 100000 in
set_option maxHeartbeats 800000 in
theorem refT_ok (B g : Nat) (bs : List UInt8) (a : Nat) (w : World) (m u k : Nat) (h : RS w B g bs a 0) (hd : dec 0 0 (bs.drop a) = some (u, k)) (hm2 : (m : Int) ≤ 9223372036854775807) (hfit : u ≤ m) (hul : u ≤ (bs.drop a).length - k) :
    Calls Tryz.prog 64 #[.pointer (some ⟨g, 0, none⟩), .int .i64 m] w (RSRet (.string ⟨(((bs.drop a).drop k).take u).toArray⟩) w B g bs (a + k + u) 0) := by
  obtain ⟨A, c, ⟨c0, c1, c2⟩, hf, h1, h2, h3, h4, hr, hB⟩ := h.parts
  have HN := hide (refnum_cut hr h1 h2 h3 hB hd)
  simp only [numW] at HN
  have H := hide h
  have hk := dec_le _ _ _ _ _ hd
  have hk2 : a + k + u ≤ bs.length := by have := hk.2; simp at this hul; omega
  have hk0 : ((k : Int) == 0) = false := by have := hk.1; simp; omega
  have hu := dec_lt _ 0 0 u k (by decide) hd
  have HC : Hid (∀ (w' : World) (A : Option Addr) (c : Nat), bs.length ≤ c → Rd w' B A (by8 bs) → (convert 25 9 (.slice (if c = a + k then A else A.map (·.add (a + k))) u (c - (a + k)))).run Tryz.prog w' = .ok (.string ⟨(((bs.drop a).drop k).take u).toArray⟩) w') := fun w' A c h1 hw => conv_rd w' _ _ _ _ (by simp; omega) (by
    rw [List.drop_drop, by8_take, by8_drop]
    exact (hw.cut (by rw [by8_length]; exact h1)).tk u)
  generalize ((bs.drop a).drop k).take u = t at HC
  clear h hr hd hk hul
  unfold maxLen at h2
  by_cases hca : c = a
  · exfalso
    simp at hk0
    omega
  · have HN1 := HN.out
    rw [if_neg hca] at HN1
    have HN2 := hide HN1
    clear HN HN1
    go_enter Tryz.func64, Tryz.ntmps64
    go_wp2_with (fail)
    go_region_with (go_at_call 90; refine (HN2.out w.drew rfl).mono ?_; rintro en w1 ⟨rfl, hfr⟩; have HF : Hid (Fr No w w1) := ⟨hfr.os, hfr.tape, hfr.output, hfr.size, hfr.block⟩; clear hfr; have HR1 := hide (H.out.fr0 HF.out); have hgl := HR1.out.lt; obtain ⟨A1, k1, ⟨e0, e1, e2⟩, hf1, q1, q2, _, _, _⟩ := HR1.out.parts)
    all_goals (try go_wp2)
    all_goals
      go_simp
      obtain ⟨x, hx⟩ : ∃ x : Nat, x = bs.length - a := ⟨_, rfl⟩
      obtain ⟨y, hy⟩ : ∃ y : Nat, y = bs.length - a - k := ⟨_, rfl⟩
      have d1 : decide ((m : Int) < 0) = false := by simp
      have d2 : decide (m < u) = false := by simp; omega
      have d3 : decide (y < u) = false := by simp; omega
      have i1 : IntKind.u64.wrap (m : Int) = (m : Int) := IntWalk.u64_in _ (by omega)
      have i2 : IntKind.i64.wrap ((bs.length : Int) - a) = (x : Int) := by rw [IntWalk.i64_in _ (by omega)]; omega
      have i3 : IntKind.i64.wrap ((x : Int) - k) = (y : Int) := by rw [IntWalk.i64_in _ (by omega)]; omega
      have i4 : IntKind.u64.wrap (y : Int) = (y : Int) := IntWalk.u64_in _ (by omega)
      clear hx hy
      go_quiet (fail)
      clear i1 i2 i3 i4 d1 d2 d3
      go_wp2
      have H2 := hide ((HR1.out.drewN nq).set1 (a + k + u) hk2)
      have F2 := hide (((HF.out.any (Is g)).drewN nq).put 1 (.int .i64 ((a + k + u : Nat) : Int)))
      rw [show ((a + k + u : Nat) : Int) = (a : Int) + k + u by omega] at H2 F2
      generalize (w1.drewN nq).setCell ⟨g, 1, none⟩ (.int .i64 ((a : Int) + k + u)) = w2 at H2 F2 ⊢
      clear e0 e1 e2 hf1 q1 q2 HR1 HF hgl
      obtain ⟨A2, k2, ⟨e0, e1, e2⟩, hf1, q1, q2, _, _, hr2, _⟩ := H2.out.parts
      have hcv := fun nq => HC.out (w2.drewN nq) A2 k2 q1 hr2
      have t0 : 0 ≤ (a : Int) + k := by omega
      have t1 : ((a : Int) + k).toNat = a + k := by omega
      have t2 : (a : Int) + k ≤ ((a + k + u : Nat) : Int) := by omega
      have t3 : a + k + u ≤ k2 := by omega
      have t4 : a + k + u - (a + k) = u := by omega
      clear hr2
      go_quiet (fail)
      go_wp2
      all_goals go_ret
      all_goals exact ⟨rfl, H2.out.drewN _, F2.out.drewN _⟩

set_option maxRecDepth 100000 in
set_option maxHeartbeats 800000 in
theorem refT_off (B g : Nat) (bs : List UInt8) (a : Nat) (e : Int) (w : World) (most : Int) (h : RS w B g bs a e) (he : e ≠ 0) :
    Calls Tryz.prog 64 #[.pointer (some ⟨g, 0, none⟩), .int .i64 most] w (RSRet (.string ⟨#[]⟩) w B g bs a e) := by
  obtain ⟨A, c, ⟨c0, c1, c2⟩, hf, h1, h2, h3, h4, hr, hB⟩ := h.parts
  have hb : (e != 0) = true := by simpa using he
  have H := hide h
  clear h hr he
  go_enter Tryz.func64, Tryz.ntmps64
  go_wp2_with (fail)
  go_ret
  exact ⟨rfl, H.out, Fr.refl _ _⟩

set_option maxRecDepth 100000 in
set_option maxHeartbeats 800000 in
theorem refT_nil (w : World) (most : Int) :
    Calls Tryz.prog 64 #[.pointer none, .int .i64 most] w (Ret (.string ⟨#[]⟩) w) := by
  go_enter Tryz.func64, Tryz.ntmps64
  go_wp2_with (fail)
  go_ret
  exact ⟨rfl, rfl⟩

theorem refT_any (B g : Nat) (bs : List UInt8) (a : Nat) (e most : Int) (w : World) (h : RS w B g bs a e) (hm2 : most ≤ 9223372036854775807) :
    Calls Tryz.prog 64 #[.pointer (some ⟨g, 0, none⟩), .int .i64 most] w (RSRet (.string ⟨(textS bs a e most).1.toArray⟩) w B g bs (textS bs a e most).2.1 (textS bs a e most).2.2) := by
  unfold textS
  by_cases he : e = 0
  · subst he
    rw [if_pos rfl]
    cases hd : dec 0 0 (bs.drop a) with
    | none => rw [textR_none hd]; exact refT_bad1 B g bs a w most h hd
    | some x =>
      by_cases hneg : most < 0
      · rw [textR_no hd (.inl hneg)]; exact refT_bad2 B g bs a w most x.1 x.2 h hd hneg
      · obtain ⟨m, rfl⟩ := Int.eq_ofNat_of_zero_le (a := most) (by omega)
        by_cases hum : m < x.1
        · rw [textR_no hd (.inr (.inl (by omega)))]; exact refT_bad3 B g bs a w m x.1 x.2 h hd hm2 hum
        · by_cases hul : (bs.drop a).length - x.2 < x.1
          · rw [textR_no hd (.inr (.inr hul))]; exact refT_bad4 B g bs a w m x.1 x.2 h hd hm2 (by omega) (by simpa using hul)
          · rw [textR_ok hd (by omega)]
            have h1 := refT_ok B g bs a w m x.1 x.2 h hd hm2 (by omega) (by omega)
            rw [Nat.add_assoc] at h1
            exact h1
  · rw [if_neg he]
    exact refT_off B g bs a e w most h he

end Go.Proofs.YtnjcncidlhllmaaGreat
