/- Several texts in one: TeSd, PutV, PutT, TexW, RowsT, TextP, TakeS. -/
import Derived.Test.YtnjcncidlhllmaaGreatK10
import Derived.SliceStrings
import Derived.Deep.Matrix
import Derived.Laws.BytesString
import Derived.Deep.RegionWith
namespace Go.Proofs.YtnjcncidlhllmaaGreat
set_option linter.unusedVariables false
set_option linter.unusedSimpArgs false
open Go.RowKit

set_option maxRecDepth 100000 in
set_option maxHeartbeats 400000 in
theorem cloneS_any (A : Option Addr) (n c B : Nat) (xs : List Tx) (w : World) (hl : xs.length = n) (hn : n ≤ c) (hc : c ≤ maxLen) (hb : n ≤ 8796093022208) (hr : Rd w B A (svs xs)) :
    Calls Tryz.prog 69 #[.slice A n c] w (GivesT w xs) := by
  have HR := hide hr; clear hr
  have HL := hide hl; clear hl
  obtain ⟨i0, hi, hz, hsz, hby⟩ := info_parts Tryz.infoS
  cases A with
  | none =>
    have he := fun W => Lib.run_eql_slice_nil (P := Tryz.prog) W 43 9 none n c 0 0 Tryz.underlying43
    go_enter Tryz.func69, Tryz.ntmps69
    go_wp2
    go_ret
    have h0 := HR.out.svs_nil
    subst h0
    exact ⟨_, rfl, Own.nil _ _ _ _, Fr.refl _ _⟩
  | some ad =>
    have he := fun W => Lib.run_eql_slice_nil (P := Tryz.prog) W 43 9 (some ad) n c 0 0 Tryz.underlying43
    have HS := hide (Src.ofRd (P := Tryz.prog) (size := 1) (w.alloc (.cells #[] 9)) Tryz.underlying43 (some ad) n c (svs xs) (by rw [svs_len, HL.out]; omega) (by omega) (HR.out.fr0 ((Fr.refl _ _).alloc _)) (svs_one _))
    go_enter Tryz.func69, Tryz.ntmps69
    have b1 : (0 + n) * 16 ≤ 140737488355328 := by omega
    have b2 : 0 + n ≤ maxLen := by unfold maxLen at *; omega
    have b3 : w.heap.size ≤ (w.alloc (.cells #[] 9)).heap.size := by simp
    go_wp2_with (at_builtin; (refine wpList_append_gen _ rfl (.tmp 5) (.tmp 6) 43 43 rfl w.heap.size 9 i0 (.string ⟨#[]⟩) 1 16 Tryz.underlying43 hi hz hsz hby rfl _ 0 [] rfl (own_empty w 9) _ n (svs xs) rfl HS.out b1 b2 b3 ?_); intro v' w' hown hfr hat)
    go_ret
    refine ⟨v', rfl, by simpa [HL.out] using hown, ?_⟩
    exact ((Fr.refl No w).alloc _).own hfr (fun g h => .inl (Nat.le_of_eq (Option.some.inj h)))
/-- rows that are answered: rows in order, or none. -/
def GivesST (w : World) (rows : RwT) (en : Ending) (w' : World) : Prop := ((okR rows ∧ ∃ A c vals, en = .returned (.tuple #[.slice A rows.length c, .bool true]) ∧ Own w' w.heap.size 43 1 (.slice A rows.length c) rows.length vals ∧ ValsT w' w.heap.size vals (sortR rows)) ∨ (¬ okR rows ∧ en = .returned (.tuple #[.slice none 0 0, .bool false]))) ∧ Fr No w w'
theorem make_rowsT (k : Nat) (hk : k ≤ 16384) (W : World) : (Instr.makeSlice 23 (.int .i64 0) (.int .i64 (k : Nat))).run Tryz.prog W = .ok (.slice (some ⟨W.heap.size, 0, none⟩) 0 k) (W.alloc (.cells (madeCells #[.slice none 0 0] k) 43)) := by
  obtain ⟨i0, hi, hz, hsz, hby⟩ := info_parts Tryz.infoRT
  have h := run_make (P := Tryz.prog) W 23 43 i0 (.slice none 0 0) Tryz.underlying23 hi hz .i64 .i64 0 (k : Int) (by omega) (by omega) (by rw [hby]; omega) (by omega)
  rw [Int.toNat_natCast, hsz, Nat.mul_one] at h
  exact h
theorem sortR_take {rows : RwT} {k : Nat} (h : k < rows.length) : sortR (rows.take (k + 1)) = sortR (rows.take k) ++ [sortT (rows.getD k [])] := by
  rw [take_map_getDT h]; simp [sortR]
set_option maxRecDepth 100000 in
set_option maxHeartbeats 2000000 in
theorem sortedT_big (A : Option Addr) (n c B : Nat) (rows : RwT) (w : World) (hl : rows.length = n) (hbig : 16384 < n) (hn : n ≤ c) (hc : c ≤ maxLen) (hr : TSl w B A rows) :
    Calls Tryz.prog 41 #[.slice A n c] w (GivesST w rows) := by
  have HL := hide hl
  unfold maxLen at hc
  obtain ⟨ad, Ai, ci, rfl, hadb, hcell, hc1, hc2, hrd⟩ := hr.at (i := 0) (by omega)
  generalize (rows.getD 0 []).length = li at hcell hc1
  unfold maxLen at hc2
  clear hrd hr hl
  have hmin : min (n : Int) 16384 = ((16384 : Nat) : Int) := by omega
  have hmk : ∀ W : World, (Instr.makeSlice 23 (.int .i64 0) (.int .i64 16384)).run Tryz.prog W = .ok (.slice (some ⟨W.heap.size, 0, none⟩) 0 16384) (W.alloc (.cells (madeCells #[.slice none 0 0] 16384) 43)) := fun W => make_rowsT 16384 (by omega) W
  go_enter Tryz.func41, Tryz.ntmps41
  go_wp2
  obtain ⟨w1, hw1⟩ : ∃ w1, w1 = w.alloc (.cells (madeCells #[.slice none 0 0] 16384) 43) := ⟨_, rfl⟩
  rw [← hw1]
  have hf : Fr No w w1 := by rw [hw1]; exact (Fr.refl No w).alloc _
  have hcell := hf.cell hcell (fun h => h)
  have HF := hide hf
  have hcell' : w1.cell? ad = some (.slice Ai li ci) := by
    have h : ad.add 0 = ad := Addr.add_zero' ad
    rw [h] at hcell
    exact hcell
  clear hw1 hmk hf hcell
  go_loopw [4, 6, 13] (fun _ _ i wr => i = .int .i64 0 ∧ wr = w1) (fun _ _ _ _ => 0)
  case atStart => exact ⟨by go_num, rfl⟩
  case round =>
    obtain ⟨rfl, rfl⟩ := hrel
    have e1 : (0 : Int) < n := by omega
    have e2 : decide ((16384 : Int) < n) = true := decide_eq_true (by omega)
    have e3 : decide (0 < n) = true := decide_eq_true (by omega)
    have e5 : 0 < n := by omega
    have e4 : decide (16384 < n) = true := decide_eq_true hbig
    have HBig := hide hbig
    clear hbig
    go_wp2
    go_ret2
    exact ⟨.inr ⟨fun h => by have := h.1; have := HL.out; have := HBig.out; omega, rfl⟩, HF.out⟩
set_option maxRecDepth 100000 in
set_option maxHeartbeats 4000000 in
theorem sortedT_any (A : Option Addr) (n c B : Nat) (rows : RwT) (w : World) (hl : rows.length = n) (hn : n ≤ c) (hc : c ≤ maxLen) (hB : B ≤ w.heap.size) (hr : TSl w B A rows) :
    Calls Tryz.prog 41 #[.slice A n c] w (GivesST w rows) := by
  by_cases hbig : 16384 < n
  · exact sortedT_big A n c B rows w hl hbig hn hc hr
  obtain ⟨i1, hi1, hz1, hsz1, hby1⟩ := info_parts Tryz.infoRT
  have hnb : n ≤ 16384 := by omega
  clear hbig
  have HR := hide hr
  have HL := hide hl
  unfold maxLen at hc
  have hmin : min (n : Int) 16384 = (n : Int) := by omega
  have hmk := make_rowsT n (by omega)
  clear hr hl
  go_enter Tryz.func41, Tryz.ntmps41
  go_wp2
  obtain ⟨w1, hw1⟩ : ∃ w1, w1 = w.alloc (.cells (madeCells #[.slice none 0 0] n) 43) := ⟨_, rfl⟩
  rw [← hw1]
  have hf : Fr No w w1 := by rw [hw1]; exact (Fr.refl No w).alloc _
  have hO : Own w1 w.heap.size 43 1 (.slice (some ⟨w.heap.size, 0, none⟩) 0 n) 0 [] := by rw [hw1]; exact made_own0 w n _ _ (by unfold maxLen; omega)
  have HF := hide hf
  have HO := hide hO
  clear hw1 hmk hf hO hmin
  go_loopw [4, 6, 13] (fun v4 _ i wr => ∃ (k : Nat) (vals : List Value), k ≤ n ∧ i = .int .i64 (k : Nat) ∧ Hid (Fr No w wr) ∧ Hid (Own wr w.heap.size 43 1 v4 k vals) ∧ Hid (ValsT wr w.heap.size vals (sortR (rows.take k))) ∧ Hid (∀ l ∈ rows.take k, l.length ≤ 64)) (fun _ _ i _ => n - (intOf i).toNat)
  case atStart => exact ⟨0, [], by omega, by go_num, HF, HO, hide (by rw [List.take_zero]; exact ValsT.nil _ _), hide (fun l hl => by rw [List.take_zero] at hl; cases hl)⟩
  case round =>
    clear HF HO
    obtain ⟨k, vals, hk, rfl, HF, HO, HV, HS⟩ := hrel
    by_cases hlt : k < n
    · have hk1 : k < rows.length := by rw [HL.out]; exact hlt
      obtain ⟨ad, Ai, ci, rfl, hadb, hcell, hc1, hc2, hrd⟩ := HR.out.at hk1
      have hcell := HF.out.cell hcell (fun h => h)
      obtain ⟨li, hli⟩ : ∃ x, x = (rows.getD k []).length := ⟨_, rfl⟩
      rw [← hli] at hcell hc1
      have e0 : decide ((16384 : Int) < n) = false := decide_eq_false (by omega)
      have HLI := hide hli
      by_cases hbig : 64 < li
      · have hbad : ¬ okR rows := fun h => by
          have := h.2 (rows.getD k []) (by rw [List.getD, List.getElem?_eq_getElem hk1]; exact List.getElem_mem hk1)
          omega
        have HB := hide hbad
        have hc2' := hc2
        unfold maxLen at hc2'
        clear hrd hk1 hadb hli hbad
        go_wp2
        go_ret2
        exact ⟨.inr ⟨HB.out, rfl⟩, HF.out⟩
      · have HCl := hide (cloneS_any Ai li ci B (rows.getD k []) wr hli.symm hc1 hc2 (by omega) (hrd.fr0 HF.out))
        have hle : li ≤ 64 := by omega
        have hc2' := hc2
        unfold maxLen at hc2'
        have HS' : Hid (∀ l ∈ rows.take (k + 1), l.length ≤ 64) := hide (fun l hl => by
          rw [take_map_getDT hk1] at hl
          rcases List.mem_append.1 hl with hl | hl
          · exact HS.out l hl
          · rw [List.mem_singleton.1 hl]; omega)
        have HT := hide (sortR_take hk1)
        have hws := HF.out.size
        have b1 : (k + 1) * 24 ≤ 140737488355328 := by omega
        have b2 : k + 1 ≤ maxLen := by unfold maxLen; omega
        clear hrd hk1 hadb hli hbig HS
        go_wp2_with (first
          | (go_at_call 69; refine HCl.out.mono ?_; rintro e1 w2 ⟨v2, rfl, hown, hfr⟩; rw [← HLI.out] at hown; obtain ⟨A2, c2, rfl, q1, q2, _⟩ := hown.form; have HSo := hide (sortT_any wr.heap.size li c2 A2 (rows.getD k []) w2 hown (by omega)); have HW2 := hide hfr; have HO2 := hide hown; unfold maxLen at q2; clear hown hfr)
          | (go_at_call 43; refine HSo.out.mono ?_; rintro e1 w3 ⟨rfl, hown, hfr⟩; have HO3 := hide hown; have HF3 : Hid (Fr No wr w3) := hide (HW2.out.trans hfr (fun i hi e => by have := (HO2.out.lt i e).1; omega)); have HF03 : Hid (Fr No w w3) := hide (HF.out.trans HF3.out (fun _ _ h => h.elim)); have HV3 := hide (HV.out.fr0 HF3.out); have HOut := hide ((HO.out.fr0 HF3.out).fr0 ((Fr.refl No w3).alloc (.cells #[.slice A2 li c2] 43))); have hz3 : w.heap.size ≤ (w3.alloc (.cells #[.slice A2 li c2] 43)).heap.size := (by have := HF03.out.size; simp; omega); clear hown hfr)
          | (at_builtin; refine wpList_append_gen _ rfl (.tmp 29) (.tmp 31) 23 23 rfl w.heap.size 43 i1 (.slice none 0 0) 1 24 Tryz.underlying23 hi1 hz1 hsz1 hby1 rfl u4 k _ rfl HOut.out _ 1 [.slice A2 li c2] rfl (src_rowT w3 A2 li c2) b1 b2 hz3 ?_; intro v5 w5 hown hfr hat; have HO5 := hide hown; have HFa := hide hfr; clear hown hfr hat))
        go_roundw
        case rel =>
          have hV3 := HV3.out.fr0 ((Fr.refl No w3).alloc (.cells #[.slice A2 li c2] 43))
          have hO3 := HO3.out.fr0 ((Fr.refl No w3).alloc (.cells #[.slice A2 li c2] 43))
          refine ⟨k + 1, vals ++ [.slice A2 li c2], by omega, by go_num, hide ((HF03.out.alloc _).own HFa.out (fun g hg => .inl (HOut.out.lt g hg).1)), HO5, hide ?_, HS'⟩
          rw [HT.out]
          refine ValsT.snoc (w0 := wr) HV.out ?_ ?_ hws
          · exact hV3.fr HFa.out (fun j v hv i hi e => by
              obtain ⟨bs, _, ho⟩ := hV3.get hv
              exact ho.apart HOut.out (by decide) i hi e)
          · rw [sortT_len, ← HLI.out]
            exact hO3.fr HFa.out (fun i hi e => hO3.apart HOut.out (by decide) i hi e)
        case measure => simp [intOf]; omega
    · obtain rfl : k = n := by omega
      have htk : rows.take k = rows := List.take_of_length_le (by rw [HL.out]; omega)
      rw [htk] at HV HS
      obtain ⟨A4, c4, rfl, q1, q2, _⟩ := HO.out.form
      unfold maxLen at q2
      clear htk
      go_wp2
      go_ret2
      refine ⟨.inl ⟨⟨by rw [HL.out]; exact hnb, HS.out⟩, A4, c4, vals, by rw [HL.out]; rfl, by rw [HL.out]; exact HO.out, HV.out⟩, HF.out⟩
end Go.Proofs.YtnjcncidlhllmaaGreat
namespace Go.Proofs.YtnjcncidlhllmaaGreat
set_option linter.unusedVariables false
set_option linter.unusedSimpArgs false
open Go.RowKit

theorem svs_app (a b : List Tx) : svs (a ++ b) = svs a ++ svs b := by simp [svs]
theorem Own.st {w : World} {base e n c g : Nat} {xs : List Value} (h : Own w base e 1 (.slice (some ⟨g, 0, none⟩) n c) n xs) {k : Nat} (hk : k < n) :
    w.cell? ⟨g, k, none⟩ = xs[k]? ∧ w.frozen? ⟨g, k, none⟩ = false ∧ ∀ v : Value, Own (w.setCell ⟨g, k, none⟩ v) base e 1 (.slice (some ⟨g, 0, none⟩) n c) n (xs.set k v) := by
  obtain ⟨g', e1, _, _, h1, h2, h3⟩ := h.store hk
  injection e1 with e1
  injection e1 with e1
  subst e1
  exact ⟨h1, h2, h3⟩
theorem ValsI.put {w w' : World} {base i : Nat} {vals : List Value} {bss : List (List Int)} {v v' : Value} {bs' : List Int} (h : ValsI w base vals bss) (hi : vals[i]? = some v) (f : Fr (fun k => v.ownBlock = some k) w w')
    (o' : Own w' base 2 1 v' bs'.length (iz .i64 bs')) (hb : v'.ownBlock = v.ownBlock ∨ v'.ownBlock = some w.heap.size) : ValsI w' base (vals.set i v') (bss.set i bs') := by
  have hil := (List.getElem?_eq_some_iff.1 hi).1
  have hlt : ∀ (j : Nat) vj, vals[j]? = some vj → ∀ k, vj.ownBlock = some k → k < w.heap.size := fun j vj hj k hk => by
    obtain ⟨_, _, ho⟩ := h.get hj
    exact (ho.lt k hk).2
  have hd : ∀ (j : Nat) vj, j ≠ i → vals[j]? = some vj → ∀ k, vj.ownBlock = some k → v.ownBlock ≠ some k := fun j vj hne hj k hk => by
    rcases Nat.lt_or_gt_of_ne hne with h1 | h1
    · exact h.dis j i vj v h1 hj hi k hk
    · intro e
      exact h.dis i j v vj h1 hi hj k e hk
  have hd' : ∀ (j : Nat) vj, j ≠ i → vals[j]? = some vj → ∀ k, vj.ownBlock = some k → v'.ownBlock ≠ some k := fun j vj hne hj k hk => by
    rcases hb with e | e
    · rw [e]; exact hd j vj hne hj k hk
    · rw [e]
      intro e2
      injection e2 with e2
      have := hlt j vj hj k hk
      omega
  refine ⟨by simp [h.len], fun j vj bj hv hbj => ?_, fun a b va vb hab ha hb2 k hk => ?_⟩
  · by_cases e : j = i
    · subst e
      rw [List.getElem?_set_self hil] at hv
      rw [List.getElem?_set_self (by rw [← h.len]; exact hil)] at hbj
      injection hv with hv
      injection hbj with hbj
      subst hv; subst hbj
      exact o'
    · rw [List.getElem?_set_ne (fun h => e h.symm)] at hv hbj
      exact (h.own j vj bj hv hbj).fr f (fun k hk e2 => hd j vj e hv k hk e2)
  · by_cases ea : a = i
    · subst ea
      rw [List.getElem?_set_self hil] at ha
      rw [List.getElem?_set_ne (by omega)] at hb2
      injection ha with ha
      subst ha
      intro e2
      exact hd' b vb (by omega) hb2 k e2 hk
    · rw [List.getElem?_set_ne (fun h => ea h.symm)] at ha
      by_cases eb : b = i
      · subst eb
        rw [List.getElem?_set_self hil] at hb2
        injection hb2 with hb2
        subst hb2
        exact hd' a va ea ha k hk
      · rw [List.getElem?_set_ne (fun h => eb h.symm)] at hb2
        exact h.dis a b va vb hab ha hb2 k hk
theorem ValsT.put {w w' : World} {base i : Nat} {vals : List Value} {bss : List (List Tx)} {v v' : Value} {bs' : List Tx} (h : ValsT w base vals bss) (hi : vals[i]? = some v) (f : Fr (fun k => v.ownBlock = some k) w w')
    (o' : Own w' base 9 1 v' bs'.length (svs bs')) (hb : v'.ownBlock = v.ownBlock ∨ v'.ownBlock = some w.heap.size) : ValsT w' base (vals.set i v') (bss.set i bs') := by
  have hil := (List.getElem?_eq_some_iff.1 hi).1
  have hlt : ∀ (j : Nat) vj, vals[j]? = some vj → ∀ k, vj.ownBlock = some k → k < w.heap.size := fun j vj hj k hk => by
    obtain ⟨_, _, ho⟩ := h.get hj
    exact (ho.lt k hk).2
  have hd : ∀ (j : Nat) vj, j ≠ i → vals[j]? = some vj → ∀ k, vj.ownBlock = some k → v.ownBlock ≠ some k := fun j vj hne hj k hk => by
    rcases Nat.lt_or_gt_of_ne hne with h1 | h1
    · exact h.dis j i vj v h1 hj hi k hk
    · intro e
      exact h.dis i j v vj h1 hi hj k e hk
  have hd' : ∀ (j : Nat) vj, j ≠ i → vals[j]? = some vj → ∀ k, vj.ownBlock = some k → v'.ownBlock ≠ some k := fun j vj hne hj k hk => by
    rcases hb with e | e
    · rw [e]; exact hd j vj hne hj k hk
    · rw [e]
      intro e2
      injection e2 with e2
      have := hlt j vj hj k hk
      omega
  refine ⟨by simp [h.len], fun j vj bj hv hbj => ?_, fun a b va vb hab ha hb2 k hk => ?_⟩
  · by_cases e : j = i
    · subst e
      rw [List.getElem?_set_self hil] at hv
      rw [List.getElem?_set_self (by rw [← h.len]; exact hil)] at hbj
      injection hv with hv
      injection hbj with hbj
      subst hv; subst hbj
      exact o'
    · rw [List.getElem?_set_ne (fun h => e h.symm)] at hv hbj
      exact (h.own j vj bj hv hbj).fr f (fun k hk e2 => hd j vj e hv k hk e2)
  · by_cases ea : a = i
    · subst ea
      rw [List.getElem?_set_self hil] at ha
      rw [List.getElem?_set_ne (by omega)] at hb2
      injection ha with ha
      subst ha
      intro e2
      exact hd' b vb (by omega) hb2 k e2 hk
    · rw [List.getElem?_set_ne (fun h => ea h.symm)] at ha
      by_cases eb : b = i
      · subst eb
        rw [List.getElem?_set_self hil] at hb2
        injection hb2 with hb2
        subst hb2
        exact hd' a va ea ha k hk
      · rw [List.getElem?_set_ne (fun h => eb h.symm)] at hb2
        exact h.dis a b va vb hab ha hb2 k hk
end Go.Proofs.YtnjcncidlhllmaaGreat
namespace Go.Proofs.YtnjcncidlhllmaaGreat
set_option linter.unusedVariables false
set_option linter.unusedSimpArgs false
open Go.RowKit

set_option maxRecDepth 100000 in
set_option maxHeartbeats 800000 in
theorem putText_any (A : Option Addr) (n c B : Nat) (bs : List UInt8) (s : ByteArray) (w : World) (hl : bs.length = n) (hn : n ≤ c) (hc : c ≤ maxLen) (hb : n + s.size ≤ 140737488350000) (hB : B ≤ w.heap.size) (hr : Rd w B A (by8 bs)) :
    Calls Tryz.prog 45 #[.slice A n c, .string s] w (GivesB w (bs ++ enc s.size ++ s.data.toList)) := by
  have H := hide (putU_any A n c B bs s.size w hl hn hc (by omega) hB hr (by omega))
  obtain ⟨i0, hi, hz, hsz, hby⟩ := info_parts Tryz.info5
  have hlen : (bs ++ enc s.size).length ≤ n + 10 := by
    have := (encF_len 9 s.size).2
    rw [List.length_append, hl]
    unfold enc
    omega
  generalize bs ++ enc s.size = xs at H hlen
  have hs : s.size ≤ 9223372036854775807 := by omega
  clear hr hl hn hc
  generalize hm : s.size = m at *
  have HS := fun W => Src.ofString (P := Tryz.prog) (w := W) Tryz.underlying9 s
  rw [hm, byteCells_by8] at HS
  have HS' := hide HS
  have hsl : s.data.toList.length = m := by rw [← hm, Array.length_toList]; rfl
  generalize s.data.toList = t at HS' hsl
  have b1 : (xs.length + m) * 1 ≤ 140737488355328 := by omega
  have b2 : xs.length + m ≤ maxLen := by unfold maxLen; omega
  clear HS
  go_enter Tryz.func45, Tryz.ntmps45
  go_wp2_with (first | (go_at_call 44; refine H.out.mono ?_; rintro en w1 ⟨v1, rfl, hown, hfr⟩; have HO := hide hown; have HF := hide hfr; have b3 := hfr.size; clear hown hfr) | (at_builtin; refine wpList_append_gen _ rfl (.tmp 9) (.tmp 10) 25 9 rfl w.heap.size 5 i0 (.int .u8 0) 1 1 Tryz.underlying25 hi hz hsz hby rfl v1 xs.length (by8 xs) rfl HO.out _ m (by8 t) rfl (HS'.out w1) b1 b2 b3 ?_; intro v' w' hown hfr hat; obtain ⟨A1, c1, rfl, hc1, hc2, _⟩ := hown.form; have HOn := hide hown; have HFn := hide hfr; clear hown hfr hat) | (go_at_call 74; refine (clip_any _ _ _ _ hc1 hc2).mono ?_; rintro en w2 ⟨rfl, rfl⟩))
  go_ret
  refine ⟨_, rfl, ?_, HF.out.own HFn.out (fun g hg => .inl (HO.out.lt g hg).1)⟩
  rw [by8_append, List.length_append, hsl]
  exact HOn.out.clip

end Go.Proofs.YtnjcncidlhllmaaGreat
namespace Go.Proofs.YtnjcncidlhllmaaGreat
set_option linter.unusedVariables false
set_option linter.unusedSimpArgs false
open Go.RowKit

theorem GivesST.ok {w : World} {rows : RwT} {en : Ending} {w' : World} (h : GivesST w rows en w') (hok : okR rows) : ∃ A c vals, en = .returned (.tuple #[.slice A rows.length c, .bool true]) ∧ Own w' w.heap.size 43 1 (.slice A rows.length c) rows.length vals ∧ ValsT w' w.heap.size vals (sortR rows) ∧ Fr No w w' := by
  obtain ⟨⟨_, A, c, vals, rfl, ho, hv⟩ | ⟨h, _⟩, hf⟩ := h
  · exact ⟨A, c, vals, rfl, ho, hv, hf⟩
  · exact absurd hok h
theorem GivesST.bad {w : World} {rows : RwT} {en : Ending} {w' : World} (h : GivesST w rows en w') (hok : ¬ okR rows) : en = .returned (.tuple #[.slice none 0 0, .bool false]) ∧ Fr No w w' := by
  obtain ⟨⟨h, _⟩ | ⟨_, e⟩, hf⟩ := h
  · exact absurd h hok
  · exact ⟨e, hf⟩
theorem ValsT.at {w : World} {base i : Nat} {vals : List Value} {bss : List (List Tx)} {l : List Tx} (h : ValsT w base vals bss) (hi : bss[i]? = some l) : ∃ A c, vals[i]? = some (.slice A l.length c) ∧ l.length ≤ c ∧ c ≤ maxLen ∧ Own w base 9 1 (.slice A l.length c) l.length (svs l) := by
  have hil := (List.getElem?_eq_some_iff.1 hi).1
  have hv : vals[i]? = some (vals[i]'(by rw [h.len]; exact hil)) := List.getElem?_eq_getElem _
  have ho := h.own i _ _ hv hi
  obtain ⟨A, c, e, h1, h2, _⟩ := ho.form
  rw [e] at hv ho
  exact ⟨A, c, hv, h1, h2, ho⟩
theorem make_ords (k : Nat) (hk : k ≤ 16384) (W : World) : (Instr.makeSlice 22 (.int .i64 (k : Nat)) (.int .i64 (k : Nat))).run Tryz.prog W = .ok (.slice (some ⟨W.heap.size, 0, none⟩) k k) (W.alloc (.cells (madeCells #[.slice none 0 0] k) 41)) := by
  obtain ⟨i0, hi, hz, hsz, hby⟩ := info_parts Tryz.infoRI
  have h := run_make (P := Tryz.prog) W 22 41 i0 (.slice none 0 0) Tryz.underlying22 hi hz .i64 .i64 (k : Int) (k : Int) (by omega) (by omega) (by rw [hby]; omega) (by omega)
  rw [Int.toNat_natCast, hsz, Nat.mul_one] at h
  exact h
theorem ValsI.nils (w : World) (base n : Nat) : ValsI w base (List.replicate n (.slice none 0 0)) (List.replicate n []) := by
  refine ⟨by simp, fun j v bs hv hb => ?_, fun i j vi vj _ hi hj k hk => ?_⟩
  · have h1 := List.eq_of_mem_replicate (List.mem_of_getElem? hv)
    have h2 := List.eq_of_mem_replicate (List.mem_of_getElem? hb)
    subst h1; subst h2
    exact Own.nil _ _ _ _
  · have h1 := List.eq_of_mem_replicate (List.mem_of_getElem? hi)
    subst h1
    cases hk
theorem ValsI.at {w : World} {base i : Nat} {vals : List Value} {bss : List (List Int)} {l : List Int} (h : ValsI w base vals bss) (hi : bss[i]? = some l) : ∃ A c, vals[i]? = some (.slice A l.length c) ∧ l.length ≤ c ∧ c ≤ maxLen ∧ Own w base 2 1 (.slice A l.length c) l.length (iz .i64 l) := by
  have hil := (List.getElem?_eq_some_iff.1 hi).1
  have hv : vals[i]? = some (vals[i]'(by rw [h.len]; exact hil)) := List.getElem?_eq_getElem _
  have ho := h.own i _ _ hv hi
  obtain ⟨A, c, e, h1, h2, _⟩ := ho.form
  rw [e] at hv ho
  exact ⟨A, c, hv, h1, h2, ho⟩
theorem ordsV_take {ts l : List Tx} {j : Nat} (h : j < (setT l).length) : (ordsV ts l).take (j + 1) = (ordsV ts l).take j ++ [((ordT ts ((setT l).getD j []) : Nat) : Int)] := by
  unfold ordsV
  rw [← List.map_take, take_getD [] h, List.map_append, List.map_take]
  rfl
theorem formV_leT {rows : Rw} (h : okV rows) (hi : ∀ l ∈ rows, InI l) : (formV rows).length ≤ 20000000 := by
  have h1 := (enc_len rows.length).2
  have h2 := bitsV_len rows
  have h3 := putV_le (lensV_in h)
  have h4 := putV_le (allV_in hi)
  have h5 := allV_le h
  have h6 := lensV_len rows
  have h7 := filV_le rows
  have h8 := h.1
  rw [formV]
  simp only [List.length_append]
  omega
set_option maxRecDepth 100000 in
set_option maxHeartbeats 8000000 in
theorem texts12_any (A : Option Addr) (n c B : Nat) (rows : RwT) (w : World) (hl : rows.length = n) (hn : n ≤ c) (hc : c ≤ maxLen) (hB : B ≤ w.heap.size) (hr : TSl w B A rows) :
    Calls Tryz.prog 12 #[.slice A n c] w (GivesB w (keptT rows)) := by
  have HC := hide (sortedT_any A n c B rows w hl hn hc hB hr)
  have HL := hide hl
  clear hr hl
  unfold maxLen at hc
  by_cases hok : ¬ okR rows
  · have HNo : Hid (keptT rows = []) := hide (by rw [keptT, if_neg (fun h => hok h.1)])
    go_enter Tryz.func12, Tryz.ntmps12
    go_wp2_with (go_at_call 41; refine HC.out.mono ?_; intro e1 w1 hg; obtain ⟨rfl, hf⟩ := hg.bad hok; have HF := hide hf; clear hf hg)
    go_ret
    refine ⟨_, rfl, ?_, HF.out⟩
    rw [HNo.out]
    exact Own.nil _ _ _ _
  replace hok := Decidable.not_not.1 hok
  obtain ⟨is, his, hzs, hszs, hbys⟩ := info_parts Tryz.infoS
  have HOk := hide hok
  have hnb : n ≤ 16384 := by rw [← HL.out]; exact hok.1
  go_enter Tryz.func12, Tryz.ntmps12
  go_wp2_with (fail)
  refine HC.out.mono ?_
  intro e1 w1 hg
  obtain ⟨A1, c1, vals1, rfl, ho1, hv1, hf1⟩ := hg.ok hok
  rw [HL.out] at ho1 ⊢
  obtain ⟨q1, q2⟩ := ho1.le.2
  have HF1 := hide hf1
  have HO1 := hide ho1
  have HV1 := hide (show ValsT w1 w.heap.size vals1 (mixR rows 0) by rw [mixR_zero]; exact hv1)
  have HB1 : Hid (∀ (j : Nat) v, vals1[j]? = some v → ∀ b, v.ownBlock = some b → b < w1.heap.size) := hide (fun j v hj b hb => by
    obtain ⟨_, _, ho⟩ := hv1.get hj
    exact (ho.lt b hb).2)
  unfold maxLen at q2
  clear hg hf1 ho1 hv1 hok HC
  go_wp2_with (fail)
  go_loopw [5, 25] (fun vt i wr => ∃ (k tn : Nat) (vals : List Value), k ≤ n ∧ i = .int .i64 (k : Nat) ∧ tn ≤ 64 * k ∧ Hid (Fr No w wr) ∧ Hid (w1.heap.size ≤ wr.heap.size) ∧ Hid (Own wr w.heap.size 43 1 (.slice A1 n c1) n vals) ∧ Hid (ValsT wr w.heap.size vals (mixR rows k)) ∧
    Hid (∀ (j : Nat) v, vals[j]? = some v → ∀ b, v.ownBlock = some b → b < w1.heap.size) ∧ Hid (tn = ((rows.take k).map setT).flatten.length) ∧ Hid (Own wr w1.heap.size 9 1 vt tn (svs ((rows.take k).map setT).flatten))) (fun _ i _ => n - (intOf i).toNat)
  case atStart => exact ⟨0, 0, vals1, by omega, by go_num, by omega, HF1, hide (Nat.le_refl _), HO1, HV1, HB1, hide (by simp), hide (by rw [List.take_zero]; exact Own.nil _ _ _ _)⟩
  case round =>
    clear HO1 HV1 HB1
    obtain ⟨k, tn, vals, hk, rfl, htn, HF, HZ, HO, HV, HB, HTn, HT⟩ := hrel
    by_cases hlt : k < n
    · have hk1 : k < rows.length := by rw [HL.out]; exact hlt
      obtain ⟨Ak, ck, hvk, x1, x2, hok⟩ := HV.out.at (mixR_at hk1)
      rw [sortT_len] at hvk x1 hok
      obtain ⟨G, hA1, hG1, hG2, -⟩ := HO.out.store hlt
      subst hA1
      obtain ⟨hcell, hfz, -⟩ := HO.out.st hlt
      rw [hvk] at hcell
      have HCm := hide (compactT_any w.heap.size _ ck Ak _ _ hok (by have := HOk.out.2 _ (getD_memR hk1); omega))
      have hset : (Lib.compact (sortT (rows.getD k []))) = setT (rows.getD k []) := rfl
      rw [hset] at HCm
      have hsl := setT_le (rows.getD k [])
      have hr64 : (rows.getD k []).length ≤ 64 := HOk.out.2 _ (getD_memR hk1)
      obtain ⟨lk, hlk⟩ : ∃ x, x = (rows.getD k []).length := ⟨_, rfl⟩
      obtain ⟨st, hst⟩ : ∃ x, x = setT (rows.getD k []) := ⟨_, rfl⟩
      obtain ⟨sl, hsl'⟩ : ∃ x, x = st.length := ⟨_, rfl⟩
      rw [← hlk] at hvk x1 hok hcell HCm hsl hr64
      rw [← hst] at HCm hsl
      rw [← hsl'] at HCm hsl
      have HVk := hide hvk
      have HOk1 := hide hok
      have HSt := hide hst
      have HSl := hide hsl'
      have HK1 := hide hk1
      unfold maxLen at x2
      clear hvk hok hlk hst hsl' hk1 hset
      go_upto_region 9 with (go_at_call 42; refine HCm.out.mono ?_; rintro en w2 ⟨rfl, ho2, hf2⟩; have HO2 := hide ho2; have HF2 := hide hf2; have hq := HO.out.fr hf2 (fun i hi e => HO.out.apart HOk1.out (by decide) i hi e); have cC : w2.cell? ⟨G, k, none⟩ = some (.slice Ak lk ck) := (by rw [(hq.st hlt).1]; exact HVk.out); have fC : w2.frozen? ⟨G, k, none⟩ = false := (hq.st hlt).2.1; have HQ := hide hq; clear ho2 hf2 hq hcell hfz)
      obtain ⟨w3, hw3⟩ : ∃ x, x = w2.setCell ⟨G, k, none⟩ (.slice Ak sl ck) := ⟨_, rfl⟩
      have hf3 : Fr (fun i => (Value.slice (some ⟨G, 0, none⟩) n c1).ownBlock = some i) w2 w3 := by rw [hw3]; exact Fr.putO w2 G k n c1 _
      have hq3 := (HQ.out.st hlt).2.2 (.slice Ak sl ck)
      rw [← hw3] at hq3
      have hkv := (List.getElem?_eq_some_iff.1 HVk.out).1
      have cL : w3.cell? ⟨G, k, none⟩ = some (.slice Ak sl ck) := by rw [(hq3.st hlt).1, List.getElem?_set_self hkv]
      have ho3 := HO2.out.fr hf3 (fun i hi e => HO2.out.apart HQ.out (by decide) i hi e)
      have hv2 := HV.out.put (v' := .slice Ak sl ck) (bs' := st) HVk.out HF2.out (by rw [← HSl.out]; exact HO2.out) (.inl (by cases Ak <;> rfl))
      rw [HSt.out, mixR_set HK1.out] at hv2
      have hv3 := hv2.other HQ.out (by decide) hf3
      have hb3 : ∀ (j : Nat) v, (vals.set k (.slice Ak sl ck))[j]? = some v → ∀ b, v.ownBlock = some b → b < w1.heap.size := fun j v hj b hb => by
        by_cases e : j = k
        · subst e
          rw [List.getElem?_set_self hkv] at hj
          injection hj with hj
          subst hj
          exact HB.out j _ HVk.out b (by rw [← hb]; cases Ak <;> rfl)
        · rw [List.getElem?_set_ne (fun h => e h.symm)] at hj
          exact HB.out j v hj b hb
      have ht2 := HT.out.fr HF2.out (fun i hi e => by have a1 := (HT.out.lt i hi).1; have a2 := HB.out k _ HVk.out i e; omega)
      have ht3 := ht2.fr hf3 (fun i hi e => ht2.apart HQ.out (by decide) i hi e)
      have hF3 : Fr No w w3 := (HF.out.trans HF2.out (fun i hi e => by have := (HOk1.out.lt i e).1; omega)).trans hf3 (fun i hi e => by have := (HQ.out.lt i e).1; omega)
      have hz3 : w1.heap.size ≤ w3.heap.size := by have := HZ.out; have := HF2.out.size; have := hf3.size; omega
      have HS := hide (Src.ofRd (P := Tryz.prog) (size := 1) w3 Tryz.underlying43 Ak sl ck (svs st) (by rw [svs_len, HSl.out, Nat.mul_one]) (by omega) ho3.rd (svs_one _))
      have HQ3 := hide hq3
      have HV3 := hide hv3
      have HB3 := hide hb3
      have HT3 := hide ht3
      have HF3 := hide hF3
      have hfl : ((rows.take (k + 1)).map setT).flatten = ((rows.take k).map setT).flatten ++ st := by rw [take_getDR HK1.out, HSt.out]; simp
      have HFl := hide hfl
      have b1 : (tn + sl) * 16 ≤ 140737488355328 := by omega
      have b2 : tn + sl ≤ maxLen := by unfold maxLen; omega
      rw [← hw3]
      clear hw3 hf3 hq3 ho3 hv2 hv3 hb3 ht2 ht3 hF3 hfl cC fC HQ HO HV HB HT HF HF2 HO2 HCm
      go_wp2_with (at_builtin; refine wpList_append_gen _ rfl (.tmp 36) (.tmp 40) 43 43 rfl w1.heap.size 9 is (.string ⟨#[]⟩) 1 16 Tryz.underlying43 his hzs hszs hbys rfl u5 tn _ rfl HT3.out _ sl (svs st) rfl HS.out b1 b2 hz3 ?_; intro v5 w5 hown hfr hat; have HO5 := hide hown; have HFa := hide hfr; clear hown hfr hat)
      go_roundw
      case rel =>
        refine ⟨k + 1, tn + sl, vals.set k (.slice Ak sl ck), by omega, by go_num, by omega, hide (HF3.out.own HFa.out (fun g hg => .inl (by have := (HT3.out.lt g hg).1; have := HF1.out.size; omega))), hide (Nat.le_trans hz3 HFa.out.size), hide (HQ3.out.fr HFa.out (fun i hi e => HQ3.out.apart HT3.out (by decide) i hi e)), hide (HV3.out.fr HFa.out (fun j v hj i hi e => by have := HB3.out j v hj i hi; have := (HT3.out.lt i e).1; omega)), HB3, hide ?_, hide ?_⟩
        · rw [HFl.out, List.length_append, ← HTn.out, ← HSl.out]
        · rw [HFl.out]
          have h := HO5.out
          rwa [← svs_app] at h
      case measure => simp [intOf]; omega
    · obtain rfl : k = n := by omega
      have htk : rows.take k = rows := List.take_of_length_le (by rw [HL.out]; omega)
      rw [mixR_all (by rw [HL.out]; omega)] at HV
      rw [htk] at HTn HT
      obtain ⟨At, ct, rfl, y1, y2, -⟩ := HT.out.form
      have HSo := hide (sortT_any w1.heap.size tn ct At _ wr HT.out (by omega))
      have HTlt : Hid (∀ i, (Value.slice At tn ct).ownBlock = some i → w1.heap.size ≤ i) := hide (fun i hi => (HT.out.lt i hi).1)
      have HTap : Hid (∀ i, (Value.slice (some ⟨0, 0, none⟩) k c1).ownBlock = some i → True) := hide (fun _ _ => trivial)
      unfold maxLen at y2
      clear htk HTap hlt
      go_wp2_with (fail)
      refine HSo.out.mono ?_
      rintro en w5 ⟨rfl, ho5, hf5⟩
      have HQ5 := hide (HO.out.fr hf5 (fun i hi e => HO.out.apart HT.out (by decide) i hi e))
      have HV5 := hide (HV.out.fr hf5 (fun j v hj i hi e => by have := HB.out j v hj i hi; have := HTlt.out i e; omega))
      have HF5 := hide (HF.out.trans hf5 (fun i hi e => by have := HTlt.out i e; have := HF1.out.size; omega))
      have HCm := hide (compactT_any w1.heap.size tn ct At _ w5 ho5 (by omega))
      have hset : Lib.compact (sortT ((rows.map setT).flatten)) = termsV rows := termsV_sets rows
      rw [hset] at HCm
      have htl := termsV_le HOk.out
      obtain ⟨ts, hts⟩ : ∃ x, x = termsV rows := ⟨_, rfl⟩
      obtain ⟨tk, htk⟩ : ∃ x, x = ts.length := ⟨_, rfl⟩
      rw [← hts] at HCm htl
      rw [← htk] at HCm htl
      have HTs := hide hts
      have HTk := hide htk
      have HZ5 := hide (Nat.le_trans HZ.out hf5.size)
      have HO5 := hide ho5
      clear hset hts htk hf5 ho5 HSo HO HV HF HT HZ
      go_wp2_with (fail)
      refine HCm.out.mono ?_
      rintro en w6 ⟨rfl, ho6, hf6⟩
      have HQ6 := hide (HQ5.out.fr hf6 (fun i hi e => HQ5.out.apart HO5.out (by decide) i hi e))
      have HV6 := hide (HV5.out.fr hf6 (fun j v hj i hi e => by have := HB.out j v hj i hi; have := HTlt.out i e; omega))
      have HF6 := hide (HF5.out.trans hf6 (fun i hi e => by have := HTlt.out i e; have := HF1.out.size; omega))
      have HT6 := hide ho6
      have HZ6 := hide (Nat.le_trans HZ5.out hf6.size)
      have hk6 := ho6.le.2.1
      have HP := hide (putU_any none 0 0 0 [] tk w6 rfl (Nat.le_refl _) (Nat.zero_le _) (by decide) (Nat.zero_le _) (Rd.nil _ _ _) (by omega))
      rw [List.nil_append] at HP
      clear hf6 ho6 HCm HQ5 HV5 HF5 HO5 HZ5 HTlt
      go_wp2_with (fail)
      refine HP.out.mono ?_
      rintro en w7 ⟨v7, rfl, ho7, hf7⟩
      have he10 := enc_le tk
      obtain ⟨en, hen⟩ : ∃ x, x = (enc tk).length := ⟨_, rfl⟩
      rw [← hen] at ho7 he10
      have HEn := hide hen
      have HF67 := hide hf7
      have HO7 := hide ho7
      clear ho7 hf7 hen HP
      obtain ⟨i5, hi5, hz5, hsz5, hby5⟩ := info_parts Tryz.info5
      go_wp2_with (fail)
      go_loopw [7, 53] (fun vb i wr => ∃ (j bn : Nat), j ≤ tk ∧ i = .int .i64 (j : Nat) ∧ bn ≤ 10 + 266 * j ∧ Hid (Fr No w6 wr) ∧ Hid (bn = (enc tk ++ txts (ts.take j)).length) ∧ Hid (∀ t ∈ ts.take j, t.length ≤ 256) ∧ Hid (Own wr w6.heap.size 5 1 vb bn (by8 (enc tk ++ txts (ts.take j))))) (fun _ i _ => tk - (intOf i).toNat)
      case atStart => exact ⟨0, en, by omega, by go_num, by omega, HF67, hide (by simp [txts, HEn.out]), hide (fun t ht => by rw [List.take_zero] at ht; cases ht), hide (by simpa [txts] using HO7.out)⟩
      case round =>
        clear HO7 HF67
        obtain ⟨j, bn, hj, rfl, hbn, HFj, HBn, HTx, HOj⟩ := hrel
        by_cases hlt : j < tk
        · have hj1 : j < ts.length := by rw [← HTk.out]; exact hlt
          obtain ⟨adt, X, hAt, _, hcell, hX, _, hXs⟩ := cellStr (HT6.out.fr0 HFj.out).rd hj1
          subst hAt
          obtain ⟨t, htt⟩ : ∃ x, x = ts.getD j [] := ⟨_, rfl⟩
          rw [← htt] at hX hXs
          have HTt := hide htt
          have htm : t ∈ termsV rows := by rw [← HTs.out, htt]; exact getD_mem hj1
          have hsn : ts.take (j + 1) = ts.take j ++ [t] := by rw [htt]; exact take_getD [] hj1
          have HSn := hide hsn
          have HTm := hide htm
          obtain ⟨xl, hxl⟩ : ∃ x, x = X.size := ⟨_, rfl⟩
          have HXl := hide hxl
          have HXs := hide hXs
          rw [← hxl] at hXs
          by_cases hbig : 256 < xl
          · have HNo : Hid (keptT rows = []) := hide (by
              rw [keptT, if_neg]
              intro h
              obtain ⟨l, hl, ht⟩ := (termsV_mem rows t).1 HTm.out
              have := h.2 l hl t ht
              omega)
            have d0 : decide (256 < xl) = true := decide_eq_true hbig
            have d1 : decide ((256 : Int) < (xl : Int)) = true := decide_eq_true (by omega)
            rw [hxl] at d0 d1 hbig
            clear hX htt hXs htm hsn hj1 hxl
            go_wp2
            go_ret
            refine ⟨_, rfl, ?_, HF6.out.tr HFj.out⟩
            rw [HNo.out]
            exact Own.nil _ _ _ _
          · have hpt := putText_any none 0 0 0 [] X wr rfl (Nat.le_refl _) (Nat.zero_le _) (by omega) (Nat.zero_le _) (Rd.nil _ _ _)
            have htx : ([] : List UInt8) ++ enc X.size ++ X.data.toList = txt t := by rw [List.nil_append, txt, hX, ← hxl, hXs]
            rw [htx] at hpt
            obtain ⟨pl, hpl⟩ : ∃ x, x = (txt t).length := ⟨_, rfl⟩
            have hpl2 : pl ≤ 266 := by
              have := enc_le t.length
              rw [hpl, txt, List.length_append]
              omega
            have HPl := hide hpl
            have HPt := hide hpt
            have b1 : (bn + pl) * 1 ≤ 140737488355328 := by omega
            have b2 : bn + pl ≤ maxLen := by unfold maxLen; omega
            have HTx' : Hid (∀ s ∈ ts.take (j + 1), s.length ≤ 256) := hide (fun s hs => by
              rw [HSn.out] at hs
              rcases List.mem_append.1 hs with hs | hs
              · exact HTx.out s hs
              · rw [List.mem_singleton.1 hs]; omega)
            have d0 : decide (256 < xl) = false := decide_eq_false hbig
            have d1 : decide ((256 : Int) < (xl : Int)) = false := decide_eq_false (by omega)
            rw [hxl] at d0 d1 hbig
            clear hX htt hXs htm hsn hj1 hxl hpt htx hpl HTx hpl2
            go_wp2_with (first
              | (go_at_call 45; refine HPt.out.mono ?_; rintro en w8 ⟨v8, rfl, hown, hfr⟩; rw [← HPl.out] at hown; obtain ⟨A8, c8, rfl, p1, p2, _, p3, _⟩ := hown.form; have HS8 := hide (Src.ofRd (P := Tryz.prog) (size := 1) w8 Tryz.underlying25 A8 pl c8 (by8 (txt t)) (by rw [by8_length, ← HPl.out, Nat.mul_one]) (by omega) p3 (by8_one _)); have HOj8 := hide (HOj.out.fr0 hfr); have HF8 := hide (HFj.out.tr hfr); have hz8 : w6.heap.size ≤ w8.heap.size := (HFj.out.tr hfr).size; unfold maxLen at p2; clear hown hfr p3)
              | (at_builtin; refine wpList_append_gen _ rfl (.tmp 60) (.tmp 62) 25 25 rfl w6.heap.size 5 i5 (.int .u8 0) 1 1 Tryz.underlying25 hi5 hz5 hsz5 hby5 rfl u7 bn _ rfl HOj8.out _ pl (by8 (txt t)) rfl HS8.out b1 b2 hz8 ?_; intro v9 w9 hown hfr hat; have HO9 := hide hown; have HFa := hide hfr; clear hown hfr hat))
            go_roundw
            case rel =>
              refine ⟨j + 1, bn + pl, by omega, by go_num, by have := HPl.out; have := enc_le t.length; have := HXs.out; rw [txt, List.length_append] at *; omega, hide (HF8.out.own HFa.out (fun g hg => .inl (HOj8.out.lt g hg).1)), hide ?_, HTx', hide ?_⟩
              · rw [HSn.out, txts_snoc, ← List.append_assoc, List.length_append, ← HBn.out, ← HPl.out]
              · rw [HSn.out, txts_snoc, ← List.append_assoc, by8_append]
                exact HO9.out
            case measure => simp [intOf]; omega
        · obtain rfl : j = tk := by omega
          have htk : ts.take j = ts := List.take_of_length_le (by rw [HTk.out]; omega)
          rw [htk] at HBn HTx HOj
          obtain ⟨wm, rfl⟩ : ∃ wo : World, wo = wr := ⟨_, rfl⟩
          have HMk := hide (make_ords k (by omega))
          have hmk := fun W => HMk.out W
          have HOkT : Hid (okT rows) := hide ⟨HOk.out, fun l hl t ht => HTx.out t (by rw [HTs.out]; exact (termsV_mem rows t).2 ⟨l, hl, ht⟩)⟩
          clear htk hlt HTx
          go_wp2
          obtain ⟨G8, hG8⟩ : ∃ x, x = wm.heap.size := ⟨_, rfl⟩
          obtain ⟨w8, hw8⟩ : ∃ x, x = wm.alloc (.cells (madeCells #[.slice none 0 0] k) 41) := ⟨_, rfl⟩
          rw [← hw8, ← hG8]
          have ho8 := made_own wm k 41 (.slice none 0 0) _ rfl (by unfold maxLen; omega)
          rw [← hw8, ← hG8] at ho8
          have hf8 : Fr No wm w8 := by rw [hw8]; exact (Fr.refl No wm).alloc _
          have HF8 := hide hf8
          have HO8 := hide ho8
          have HG8 := hide hG8
          have HV8 : Hid (ValsI w8 G8 (List.replicate k (.slice none 0 0)) (mixO rows ts 0)) := hide (by rw [mixO_zero, HL.out]; exact ValsI.nils _ _ _)
          clear hw8 hG8 ho8 hf8 hmk HMk
          obtain ⟨i2, hi2, hz2, hsz2, hby2⟩ := info_parts Tryz.infoKI64
          go_loopw [70] (fun i wq => ∃ (m : Nat) (vo : List Value), m ≤ k ∧ i = .int .i64 (m : Nat) ∧ Hid (Fr No wm wq) ∧ Hid (Own wq G8 41 1 (.slice (some ⟨G8, 0, none⟩) k k) k vo) ∧ Hid (ValsI wq G8 vo (mixO rows ts m))) (fun i _ => k - (intOf i).toNat)
          case atStart => exact ⟨0, _, by omega, by go_num, HF8, HO8, HV8⟩
          case round =>
            clear HF8 HO8 HV8
            obtain ⟨m, vo, hm, rfl, HFm, HOm, HVm⟩ := hrel
            obtain ⟨wq, rfl⟩ : ∃ wo : World, wo = wr := ⟨_, rfl⟩
            by_cases hlt : m < k
            · have hm1 : m < rows.length := by rw [HL.out]; exact hlt
              obtain ⟨Ai, ci, hvi, x1, x2, hoi⟩ := HV6.out.at (i := m) (l := setT (rows.getD m [])) (by rw [List.getElem?_map, List.getElem?_eq_getElem hm1, List.getD, List.getElem?_eq_getElem hm1]; rfl)
              obtain ⟨G, hA1, hG1, hG2, -⟩ := HQ6.out.store hlt
              subst hA1
              have hcell := (HQ6.out.st hlt).1
              rw [hvi] at hcell
              have f6 : Fr No w6 wq := HFj.out.tr HFm.out
              have hcell := f6.cell hcell (fun h => h)
              have hsl64 : (setT (rows.getD m [])).length ≤ 64 := Nat.le_trans (setT_le _) (HOk.out.2 _ (getD_memR hm1))
              have hsub : ∀ t ∈ setT (rows.getD m []), t ∈ ts := fun t ht => by
                rw [HTs.out]
                exact (termsV_mem rows t).2 ⟨_, getD_memR hm1, (setT_mem _ _).1 ht⟩
              have hov : ∀ j, j < (setT (rows.getD m [])).length → (ordsV ts (rows.getD m [])).take (j + 1) = (ordsV ts (rows.getD m [])).take j ++ [((ordT ts ((setT (rows.getD m [])).getD j []) : Nat) : Int)] := fun j hj => ordsV_take hj
              have hol : (ordsV ts (rows.getD m [])).length = (setT (rows.getD m [])).length := ordsV_len _ _
              have hms := mixO_set (ts := ts) hm1
              have hmi : (mixO rows ts m).set m [] = mixO rows ts m := by
                have h := mixO_at (ts := ts) hm1
                apply List.ext_getElem?
                intro q
                by_cases e : q = m
                · subst e
                  rw [List.getElem?_set_self ((List.getElem?_eq_some_iff.1 h).1), h]
                · rw [List.getElem?_set_ne (fun h => e h.symm)]
              have hmlen : (mixO rows ts m).length = k := by rw [mixO_len rows ts (Nat.le_of_lt hm1), HL.out]
              obtain ⟨st, hst⟩ : ∃ x, x = setT (rows.getD m []) := ⟨_, rfl⟩
              obtain ⟨ov, hov'⟩ : ∃ x, x = ordsV ts (rows.getD m []) := ⟨_, rfl⟩
              obtain ⟨sl, hsl⟩ : ∃ x, x = st.length := ⟨_, rfl⟩
              rw [← hst] at hcell x1 hoi hsl64 hsub hov hol
              rw [← hov'] at hov hol hms
              rw [← hsl] at hcell x1 hoi hsl64 hov hol
              have HOi := hide hoi
              have HSub := hide hsub
              have HOv := hide hov
              have HOl := hide hol
              have HSl := hide hsl
              have HMs := hide hms
              have HMi := hide hmi
              have HMl := hide hmlen
              unfold maxLen at x2
              clear hm1 hvi f6 hst hov' hsl hoi hsub hov hol hms hmi hmlen
              go_wp2
              go_loopw [78] (fun i wp => ∃ (q : Nat) (vp : List Value), q ≤ sl ∧ i = .int .i64 (q : Nat) ∧ Hid (Fr No wm wp) ∧ Hid (Own wp G8 41 1 (.slice (some ⟨G8, 0, none⟩) k k) k vp) ∧ Hid (ValsI wp G8 vp ((mixO rows ts m).set m (ov.take q)))) (fun i _ => sl - (intOf i).toNat)
              case atStart => exact ⟨0, vo, by omega, by go_num, HFm, HOm, hide (by rw [List.take_zero, HMi.out]; exact HVm.out)⟩
              case round =>
                obtain ⟨q, vp, hq, rfl, HFq, HOq, HVq⟩ := hrel
                obtain ⟨wp, rfl⟩ : ∃ wo : World, wo = wr := ⟨_, rfl⟩
                by_cases hlq : q < sl
                · have hq1 : q < st.length := by rw [← HSl.out]; exact hlq
                  obtain ⟨adq, hAi, _, hct⟩ := (HOi.out.fr0 (HFj.out.tr HFq.out)).rd q (sv (st.getD q [])) (svs_get hq1)
                  subst hAi
                  have hmem := HSub.out _ (getD_mem hq1)
                  have hnext := HOv.out q hlq
                  obtain ⟨t, ht⟩ : ∃ x, x = st.getD q [] := ⟨_, rfl⟩
                  rw [← ht] at hct hmem hnext
                  unfold sv at hct
                  have HSe := hide (searchT_any w1.heap.size j ct At ts t wp (HT6.out.fr0 (HFj.out.tr HFq.out)) (by omega) (by rw [HTs.out]; exact termsV_lt rows))
                  rw [decide_eq_true hmem] at HSe
                  have hol := ordT_le ts t
                  obtain ⟨o, ho⟩ : ∃ x, x = ordT ts t := ⟨_, rfl⟩
                  rw [← ho] at HSe hol hnext
                  have hojl : ts.length = j := HTk.out.symm
                  rw [hojl] at hol
                  obtain ⟨Ao, co, hvo, y5, y6, hoo⟩ := HVq.out.at (i := m) (l := ov.take q) (by rw [List.getElem?_set_self (by rw [HMl.out]; exact hlt)])
                  have htl : (ov.take q).length = q := by rw [List.length_take, HOl.out]; omega
                  rw [htl] at hvo y5 hoo
                  have hcO := (HOq.out.st hlt).1
                  rw [hvo] at hcO
                  have HVo := hide hvo
                  have HOo := hide hoo
                  have HNx := hide hnext
                  have HCO := hide hcO
                  unfold maxLen at y6
                  clear hq1 hmem hnext ht ho hvo hoo htl hcO hojl
                  have b1 : (q + 1) * 8 ≤ 140737488355328 := by omega
                  have b2 : q + 1 ≤ maxLen := by unfold maxLen; omega
                  go_upto_region 29 with (go_at_call 46; refine HSe.out.mono ?_; rintro en w10 ⟨rfl, nq, hw10⟩; have hf10 : Fr No wp w10 := (by rw [hw10]; exact (Fr.refl No wp).drewN nq); have HF10 := hide hf10; clear hw10 hf10)
                  have HOA := hide ((HOo.out.fr0 HF10.out).fr0 ((Fr.refl No w10).alloc (.cells #[.int .i64 (o : Nat)] 2)))
                  have HQA := hide ((HOq.out.fr0 HF10.out).fr0 ((Fr.refl No w10).alloc (.cells #[.int .i64 (o : Nat)] 2)))
                  have HVA := hide ((HVq.out.fr0 HF10.out).fr0 ((Fr.refl No w10).alloc (.cells #[.int .i64 (o : Nat)] 2)))
                  have HFA := hide ((HFq.out.tr HF10.out).alloc (.cells #[.int .i64 (o : Nat)] 2))
                  have hcO : w10.cell? ⟨G8, m, none⟩ = some (.slice Ao q co) := HF10.out.cell HCO.out (fun h => h)
                  have hz3 : G8 ≤ (w10.alloc (.cells #[.int .i64 (o : Nat)] 2)).heap.size := by rw [HG8.out]; exact HFA.out.size
                  have HS := hide (Src.one (P := Tryz.prog) w10 (e := 2) Tryz.underlying41 (.int .i64 (o : Nat)) rfl)
                  go_wp2_with (at_builtin; refine wpList_append_two _ rfl (.tmp 93) (.tmp 95) 41 41 rfl G8 2 i2 (.int .i64 0) 1 8 Tryz.underlying41 hi2 hz2 hsz2 hby2 rfl (.slice Ao q co) q _ rfl HOA.out _ 1 [.int .i64 (o : Nat)] rfl HS.out b1 b2 hz3 ?_; intro v12 w12 hown hor; have hfr := hor.elim (fun h => h.2) (fun h => h.2.any _); obtain ⟨A12, c12, rfl, p1, p2, -⟩ := hown.form; have hq12 := HQA.out.fr hfr (fun i hi e => HQA.out.apart HOA.out (by decide) i hi e); have cS : w12.cell? ⟨G8, m, none⟩ = some (.slice Ao q co) := (by rw [(hq12.st hlt).1]; exact HVo.out); have fS : w12.frozen? ⟨G8, m, none⟩ = false := (hq12.st hlt).2.1; have HO12 := hide hown; have HOr := hide hor; have HF12 := hide hfr; have HQ12 := hide hq12; unfold maxLen at p2; clear hown hor hfr hq12)
                  go_roundw
                  case rel =>
                    have hbk : (Value.slice A12 (q + 1) c12).ownBlock = (Value.slice Ao q co).ownBlock ∨ (Value.slice A12 (q + 1) c12).ownBlock = some (w10.alloc (.cells #[.int .i64 (o : Nat)] 2)).heap.size := HOr.out.elim (fun h => .inl h.1) (fun h => .inr h.1)
                    have hfs : Fr (fun i => (Value.slice (some ⟨G8, 0, none⟩) k k).ownBlock = some i) w12 (w12.setCell ⟨G8, m, none⟩ (.slice A12 (q + 1) c12)) := Fr.putO w12 G8 m k k _
                    have hlen : (ov.take (q + 1)).length = q + 1 := by rw [List.length_take, HOl.out]; omega
                    have hvp := HVA.out.put (v' := .slice A12 (q + 1) c12) (bs' := ov.take (q + 1)) HVo.out HF12.out (by rw [hlen, HNx.out, iz_append]; exact HO12.out) hbk
                    rw [List.set_set] at hvp
                    refine ⟨q + 1, vp.set m (.slice A12 (q + 1) c12), by omega, by go_num, hide ?_, hide ((HQ12.out.st hlt).2.2 _), hide (hvp.other HQ12.out (by decide) hfs)⟩
                    exact (HFA.out.trans HF12.out (fun i hi e => by have := (HOA.out.lt i e).1; rw [HG8.out] at this; omega)).trans hfs (fun i hi e => by have := (HQ12.out.lt i e).1; rw [HG8.out] at this; omega)
                  case measure => simp [intOf]; omega
                · obtain rfl : q = sl := by omega
                  have hall : ov.take q = ov := List.take_of_length_le (by rw [HOl.out]; omega)
                  rw [hall, HMs.out] at HVq
                  clear hall
                  go_wp2
                  go_roundw
                  case rel => exact ⟨m + 1, vp, by omega, by go_num, HFq, HOq, HVq⟩
                  case measure => simp [intOf]; omega
            · obtain rfl : m = k := by omega
              have hmx : mixO rows ts m = ordsR rows := by rw [mixO_all (by rw [HL.out]; omega), HTs.out]; rfl
              rw [hmx] at HVm
              have HFo := hide (formv_any (some ⟨G8, 0, none⟩) m m wq.heap.size (ordsR rows) wq (by rw [ordsR_len, HL.out]) (ordsR_ok HOk.out) (ordsR_in HOk.out) (Nat.le_refl _) (by unfold maxLen; omega) (Nat.le_refl _) (HVm.out.isl HOm.out.rd))
              have hfl := formV_leT (ordsR_ok HOk.out) (ordsR_in HOk.out)
              obtain ⟨fl, hfl'⟩ : ∃ x, x = (formV (ordsR rows)).length := ⟨_, rfl⟩
              rw [← hfl'] at hfl
              have HFl := hide hfl'
              have HOb := hide (HOj.out.fr0 HFm.out)
              have HFq := hide (HFj.out.tr HFm.out)
              have b1 : (bn + fl) * 1 ≤ 140737488355328 := by omega
              have b2 : bn + fl ≤ maxLen := by unfold maxLen; omega
              clear hmx hfl' hlt
              go_wp2_with (first
                | (go_at_call 36; refine HFo.out.mono ?_; rintro en w13 ⟨v13, rfl, hown, hfr⟩; rw [← HFl.out] at hown; obtain ⟨A13, c13, rfl, p1, p2, _, p3, _⟩ := hown.form; have HS13 := hide (Src.ofRd (P := Tryz.prog) (size := 1) w13 Tryz.underlying25 A13 fl c13 (by8 (formV (ordsR rows))) (by rw [by8_length, ← HFl.out, Nat.mul_one]) (by omega) p3 (by8_one _)); have HO13 := hide (HOb.out.fr0 hfr); have HF13 := hide (HFq.out.tr hfr); have hz13 := HF13.out.size; unfold maxLen at p2; clear hown hfr p3)
                | (at_builtin; refine wpList_append_gen _ rfl (.tmp 100) (.tmp 102) 25 25 rfl w6.heap.size 5 i5 (.int .u8 0) 1 1 Tryz.underlying25 hi5 hz5 hsz5 hby5 rfl u7 bn _ rfl HO13.out _ fl (by8 (formV (ordsR rows))) rfl HS13.out b1 b2 hz13 ?_; intro v14 w14 hown hfr hat; have HO14 := hide hown; have HF14 : Hid (Fr No w6 w14) := hide (HF13.out.own hfr (fun g hg => .inl (HO13.out.lt g hg).1)); clear hown hfr hat))
              go_ret
              have hk : keptT rows = enc j ++ txts ts ++ formV (ordsR rows) := by rw [keptT, if_pos HOkT.out, textsB, ← HTs.out, ← HTk.out]
              refine ⟨v14, rfl, ?_, HF6.out.tr HF14.out⟩
              rw [hk, by8_append, List.length_append, ← HBn.out, ← HFl.out]
              exact HO14.out.lower HF6.out.size
end Go.Proofs.YtnjcncidlhllmaaGreat
namespace Go.Proofs.YtnjcncidlhllmaaGreat
set_option linter.unusedVariables false
set_option linter.unusedSimpArgs false
open Go.ChangeShapes Go.WideShapes Go.ChangeAt Go.RowKit

theorem weights_allT {H : Type} {e : TypeId} {l : List (DataW H)} {d : DataW H} (h : d ∈ l) : ∀ n ∈ d.weights Tryz.prog e, n ∈ DataW.weightsAll Tryz.prog e l := by
  induction l with
  | nil => cases h
  | cons x r ih =>
    intro n hn
    simp only [DataW.weightsAll, List.mem_append]
    rcases List.mem_cons.1 h with rfl | h
    · exact .inl hn
    · exact .inr (ih h n hn)


/-- what one row reads as. -/
def txRow {H : Type} (A : Option Addr) (L : Nat) (zs : List ByteArray) : DataW H :=
  match A with
  | none => .nil
  | some _ => .slice (strs (zs.take L)) (strs (zs.drop L))
theorem open_tx_rows {H : Type} {enc : TypeId × Value → H} {P : Program} {w : World} {base : Nat} {held : Bool} {t e q : TypeId} {fuel : Nat} {cs : List Value} {x : DataW H × List MemPlace} (ht : P.underlying t = some (.slice e)) (he : P.underlying e = some (.slice q)) (hq : P.underlying q = some .string)
    (ce : P.cellsOf e = 1) (cq : P.cellsOf q = 1) (h : DataW.trod enc P w base (fun _ => true) held fuel t cs = some x) :
    (cs = [.slice none 0 0] ∧ x = (.nil, [])) ∨
    ∃ (a : Addr) (len cap : Nat) (A : Nat → Option Addr) (L C : Nat → Nat) (Z : Nat → List ByteArray) (p : List MemPlace), cs = [.slice (some a) len cap] ∧ len ≤ cap ∧ cap ≤ maxLen ∧
      x = (.slice ((List.range len).map fun r => txRow (A r) (L r) (Z r)) ((List.range (cap - len)).map fun j => txRow (A (len + j)) (L (len + j)) (Z (len + j))), p) ∧
      ∀ r, r < cap → w.cell? (a.add r) = some (.slice (A r) (L r) (C r)) ∧ L r ≤ C r ∧ C r ≤ maxLen ∧ (Z r).length = C r ∧ (∀ s ∈ Z r, s.size ≤ maxLen) ∧ (A r = none → C r = 0) ∧
        ∀ a', A r = some a' → ∀ c, c < C r → w.cell? (a'.add c) = some (.string ((Z r).getD c ByteArray.empty)) := by
  rcases Go.Deep.open_slice1 ht ce h with h0 | ⟨a, len, cap, m, n, V, D, Pl, rfl, hb, hl, hm, hmm, rfl, hx⟩
  · exact Or.inl h0
  right
  simp only [if_true] at hmm
  have hmm' := hmm.symm
  subst hmm'
  have each : ∀ r, r < cap → ∃ y : Option Addr × Nat × Nat × List ByteArray, V r = .slice y.1 y.2.1 y.2.2.1 ∧ D r = txRow y.1 y.2.1 y.2.2.2 ∧ y.2.1 ≤ y.2.2.1 ∧ y.2.2.1 ≤ maxLen ∧ y.2.2.2.length = y.2.2.1 ∧
      (∀ s ∈ y.2.2.2, s.size ≤ maxLen) ∧ (y.1 = none → y.2.2.1 = 0) ∧ ∀ a', y.1 = some a' → ∀ c, c < y.2.2.1 → w.cell? (a'.add c) = some (.string (y.2.2.2.getD c ByteArray.empty)) := by
    intro r hr
    rcases open_strings he hq cq (hx r hr).2 with ⟨hcs, hy⟩ | ⟨a', len', cap', ss, hcs, hb', hl', hm', hz, hy, hcell, hwz⟩
    · simp only [Prod.mk.injEq] at hy
      exact ⟨(none, 0, 0, []), by simpa using hcs, hy.1, Nat.le_refl _, Nat.zero_le _, rfl, by simp, fun _ => rfl, fun _ hh => by cases hh⟩
    · simp only [Prod.mk.injEq] at hy
      simp only [if_true] at hz
      refine ⟨(some a', len', cap', ss), by simpa using hcs, hy.1, hl', hm', hz, hwz, (fun hh => by cases hh), fun a'' hh => ?_⟩
      cases hh
      exact fun c hc => hcell c (by rw [hz]; exact hc)
  obtain ⟨y, hy⟩ := Go.Deep.choose_lt each
  refine ⟨a, len, cap, fun r => (y r).1, fun r => (y r).2.1, fun r => (y r).2.2.1, fun r => (y r).2.2.2, MemPlace.row a cap ++ (List.range cap).flatMap Pl, rfl, hl, hm, ?_, fun r hr => ?_⟩
  · rw [List.map_congr_left (fun r hr => (hy r (by have := List.mem_range.1 hr; omega)).2.1), List.map_congr_left (fun j hj => (hy (len + j) (by have := List.mem_range.1 hj; omega)).2.1)]
  · obtain ⟨e1, _, r1, r2, r3, r4, r5, r6⟩ := hy r hr
    exact ⟨by rw [(hx r hr).1, e1], r1, r2, r3, r4, r5, r6⟩

/-- lists of texts that came in. -/
theorem openRowsT {H : Type} {enc : TypeId × Value → H} {W : World} {a : Option Addr} {len cap : Nat} {d : DataW H} {p : List MemPlace}
    (h : DataW.Trod enc Tryz.prog W 0 (fun _ => true) true 23 (.slice a len cap) d p) (hsz : ∀ n ∈ d.weights Tryz.prog 23, n ≤ reachBytes) :
    ∃ bss : List (List Tx), bss.length = len ∧ len ≤ cap ∧ cap ≤ maxLen ∧ cap * 24 ≤ 140737488351232 ∧ TSl W W.heap.size a bss ∧ (∀ b ∈ bss, b.length * 16 ≤ 140737488351232) ∧ ∀ b ∈ bss, ∀ t ∈ b, t.length ≤ maxLen := by
  obtain ⟨fuel, hf⟩ := h
  rcases open_tx_rows Tryz.underlying23 Tryz.underlying43 Tryz.underlying9 (by kernel_rfl) (by kernel_rfl) hf with ⟨hcs, _⟩ | ⟨x, l, c, A, L, C, Z, pp, hcs, hl, hm, hd, hrow⟩
  · simp [Value.cells] at hcs
    obtain ⟨rfl, rfl, rfl⟩ := hcs
    exact ⟨[], rfl, Nat.le_refl _, Nat.zero_le _, Nat.zero_le _, fun j bs hj => by simp at hj, fun b hb => (by cases hb), fun b hb => (by cases hb)⟩
  · simp [Value.cells] at hcs
    obtain ⟨rfl, rfl, rfl⟩ := hcs
    injection hd with hd _
    subst hd
    have hby : Tryz.prog.bytesOf 9 = 16 := by kernel_rfl
    have hby2 : Tryz.prog.bytesOf 43 = 24 := by kernel_rfl
    have hc : cap * 24 ≤ 140737488351232 := by
      have := hsz _ (by simp only [DataW.weights, Tryz.underlying23]; exact List.mem_cons_self)
      rw [hby2] at this
      simp only [List.length_map, List.length_range] at this
      have e : len + (cap - len) = cap := by omega
      rw [e] at this
      simpa [reachBytes] using this
    have hrowlen : ∀ r, r < len → C r * 16 ≤ 140737488351232 := by
      intro r hr
      obtain ⟨_, h1, h2, h3, h4, h5, _⟩ := hrow r (by omega)
      cases hA : A r with
      | none => rw [h5 hA]; omega
      | some ad =>
        have hmem : txRow (H := H) (A r) (L r) (Z r) ∈ (List.range len).map fun r => txRow (H := H) (A r) (L r) (Z r) := List.mem_map.2 ⟨r, List.mem_range.2 hr, rfl⟩
        have h6 := weights_allT (e := 43) hmem
        have h7 := hsz _ (by
          simp only [DataW.weights, Tryz.underlying23, List.mem_cons, List.mem_append]
          refine .inr (.inl (h6 (((strs (H := H) ((Z r).take (L r))).length + (strs (H := H) ((Z r).drop (L r))).length) * Tryz.prog.bytesOf 9) ?_))
          simp only [txRow, hA, DataW.weights, Tryz.underlying43]
          exact List.mem_cons_self)
        rw [hby] at h7
        have hlen : (strs (H := H) ((Z r).take (L r))).length + (strs (H := H) ((Z r).drop (L r))).length = C r := by simp [strs]; omega
        rw [hlen] at h7
        simpa [reachBytes] using h7
    refine ⟨(List.range len).map fun r => ((Z r).take (L r)).map (fun s => s.data.toList), by simp, hl, hm, hc, ?_, ?_, ?_⟩
    · intro j bs hj
      have hjl : j < len := by
        rcases Nat.lt_or_ge j len with h | h
        · exact h
        · rw [List.getElem?_eq_none (by simpa using h)] at hj; cases hj
      rw [List.getElem?_map, List.getElem?_range hjl] at hj
      simp only [Option.map_some, Option.some.injEq] at hj
      subst hj
      obtain ⟨h0, h1, h2, h3, h4, h5, h6⟩ := hrow j (by omega)
      have hll : (((Z j).take (L j)).map (fun s => s.data.toList)).length = L j := by simp; omega
      refine ⟨x, A j, C j, rfl, ?_, by rw [hll]; exact h0, by rw [hll]; exact h1, h2, ?_⟩
      · have := World.block_lt_of_cell? W _ h0
        rwa [block_of_add] at this
      · intro i u hu
        simp only [svs, List.getElem?_map, List.getElem?_take] at hu
        split at hu
        · rename_i hi
          have hiz : i < (Z j).length := by omega
          rw [List.getElem?_eq_getElem hiz] at hu
          simp only [Option.map_some, Option.some.injEq] at hu
          cases hA : A j with
          | none => have := h5 hA; omega
          | some a' =>
            have hcell := h6 a' hA i (by omega)
            have he : (Z j).getD i ByteArray.empty = (Z j)[i] := by simp [List.getElem?_eq_getElem hiz]
            rw [he] at hcell
            have hu2 : u = .string (Z j)[i] := by rw [← hu, sv]
            refine ⟨a', rfl, ?_, ?_⟩
            · have := World.block_lt_of_cell? W _ hcell
              rwa [block_of_add] at this
            · rw [hcell, hu2]
        · cases hu
    · intro b hb
      obtain ⟨r, hr, rfl⟩ := List.mem_map.1 hb
      have hr := List.mem_range.1 hr
      obtain ⟨_, h1, _, h3, _⟩ := hrow r (by omega)
      have := hrowlen r hr
      simp
      omega
    · intro b hb z hz2
      obtain ⟨r, hr, rfl⟩ := List.mem_map.1 hb
      have hr := List.mem_range.1 hr
      obtain ⟨s, hs, rfl⟩ := List.mem_map.1 hz2
      obtain ⟨_, h1, _, h3, h4, _⟩ := hrow r (by omega)
      have := h4 s (List.mem_of_mem_take hs)
      rw [Array.length_toList]
      exact this
end Go.Proofs.YtnjcncidlhllmaaGreat
namespace Go.Proofs.YtnjcncidlhllmaaGreat
set_option linter.unusedVariables false
set_option linter.unusedSimpArgs false
open Go.RowKit

theorem foldl_push (bs : List UInt8) (s : ByteArray) : (bs.map fun b => ((b.toNat : Nat) : Int)).foldl (fun r n => r.push (UInt8.ofNat n.toNat)) s = ⟨s.data ++ bs.toArray⟩ := by
  induction bs generalizing s with
  | nil => obtain ⟨d⟩ := s; simp
  | cons b r ih =>
    obtain ⟨d⟩ := s
    rw [List.map_cons, List.foldl_cons, ih]
    show ByteArray.mk ((d.push (UInt8.ofNat ((b.toNat : Int).toNat))) ++ r.toArray) = ByteArray.mk (d ++ (b :: r).toArray)
    congr 1
    rw [Int.toNat_natCast, UInt8.ofNat_toNat]
    apply Array.ext'
    simp

/-- bytes that are read, as a text. -/
theorem conv_rd (w : World) {B : Nat} (A : Option Addr) (l c : Nat) (bs : List UInt8) (hl : bs.length = l) (hr : Rd w B A (by8 bs)) :
    (convert 25 9 (.slice A l c)).run Tryz.prog w = .ok (.string ⟨bs.toArray⟩) w := by
  rw [run_convert_bytes_string w 25 9 5 A l c Tryz.underlying25 Tryz.underlying5 Tryz.underlying9]
  cases A with
  | none =>
    have h0 := hr.len0
    subst h0
    subst hl
    simp [Conv.bytesToString]
    rfl
  | some a =>
    have h := run_loadCells_list (P := Tryz.prog) (w := w) a (by8 bs) (fun j v hv => by
      obtain ⟨ad, e, _, hc⟩ := hr j v hv
      injection e with e
      subst e
      exact hc)
    rw [by8_length, hl] at h
    have e : (bs.map fun b => ((b.toNat : Nat) : Int)).map (Value.int .u8) = by8 bs := by simp [by8, Function.comp_def]
    rw [← e] at h
    rw [run_bytesToString w a l c _ h, foldl_push]
    congr 2
    simp

def textR (bs : List UInt8) (most : Int) : Option (List UInt8 × Nat) :=
  match dec 0 0 bs with
  | none => none
  | some (u, k) => if most < 0 ∨ most < (u : Int) ∨ bs.length - k < u then none else some ((bs.drop k).take u, k + u)

def textV : Option (List UInt8 × Nat) → Value
  | none => .tuple #[.string ⟨#[]⟩, .int .i64 (-1)]
  | some (s, k) => .tuple #[.string ⟨s.toArray⟩, .int .i64 k]

theorem textR_none {bs : List UInt8} {most : Int} (hd : dec 0 0 bs = none) : textR bs most = none := by unfold textR; rw [hd]

theorem textR_no {bs : List UInt8} {most : Int} {u k : Nat} (hd : dec 0 0 bs = some (u, k)) (h : most < 0 ∨ most < (u : Int) ∨ bs.length - k < u) : textR bs most = none := by
  unfold textR; rw [hd]; exact if_pos h

theorem textR_ok {bs : List UInt8} {most : Int} {u k : Nat} (hd : dec 0 0 bs = some (u, k)) (h : ¬ (most < 0 ∨ most < (u : Int) ∨ bs.length - k < u)) : textR bs most = some ((bs.drop k).take u, k + u) := by
  unfold textR; rw [hd]; exact if_neg h

def textS (bs : List UInt8) (a : Nat) (e most : Int) : List UInt8 × Nat × Int :=
  if e = 0 then (match textR (bs.drop a) most with | none => ([], a, 20) | some (s, k) => (s, a + k, 0)) else ([], a, e)

theorem textR_le {bs : List UInt8} {most : Int} {s : List UInt8} {k : Nat} (h : textR bs most = some (s, k)) : k ≤ bs.length := by
  cases hd : dec 0 0 bs with
  | none => rw [textR_none hd] at h; cases h
  | some x =>
    obtain ⟨u, j⟩ := x
    have hk := dec_le _ _ _ _ _ hd
    by_cases hb : most < 0 ∨ most < (u : Int) ∨ bs.length - j < u
    · rw [textR_no hd hb] at h; cases h
    · rw [textR_ok hd hb] at h
      injection h with h
      injection h with _ h
      omega

end Go.Proofs.YtnjcncidlhllmaaGreat
namespace Go.Proofs.YtnjcncidlhllmaaGreat
set_option linter.unusedVariables false
set_option linter.unusedSimpArgs false
open Go.RowKit

set_option maxRecDepth 100000 in
set_option maxHeartbeats 800000 in
theorem text1_ok (r : Value) (b1 b2 m : Nat) (A : Option Addr) (n c B : Nat) (bs : List UInt8) (u k : Nat) (W : World) (hl : bs.length = n) (hn : n ≤ c) (hc : c ≤ 9223372036854775807) (hm2 : (m : Int) ≤ 9223372036854775807) (hr : Rd W B A (by8 bs)) (c1 : W.cell? ⟨b1, 0, none⟩ = some r) (c2 : W.cell? ⟨b2, 0, none⟩ = some (.int .i64 m)) (hd : dec 0 0 bs = some (u, k))
    (HN0 : Calls Tryz.prog 80 #[r, .slice A n c] W (Ret (.tuple #[.int .u64 u, .int .i64 k]) W)) (hkn : k ≤ n) (hum : ¬ m < u) (hul : ¬ n - k < u) (hu : u < 18446744073709551616) :
    Calls Tryz.prog 82 #[.slice A n c, .pointer (some ⟨b1, 0, none⟩), .pointer (some ⟨b2, 0, none⟩)] W (Ret (textV (textR bs m)) W) := by
  have HN := hide HN0
  have HT := hide (textR_ok (most := m) hd (by rw [hl]; omega))
  have hcv := conv_rd W (B := B) (if c = k then A else A.map (·.add k)) u (c - k) ((bs.drop k).take u) (by simp; omega) (by
    rw [by8_take, by8_drop]
    exact (hr.cut (by rw [by8_length, hl]; exact hn)).tk u)
  generalize (bs.drop k).take u = s at HT hcv
  have hku : k + u ≤ n := by omega
  have hu2 : u ≤ m := by omega
  have HC := hide hcv
  clear hr hl hd hul HN0 hcv hum hu
  go_enter Tryz.func82, Tryz.ntmps82
  go_wp2_with (go_at_call 80; refine HN.out.mono ?_; rintro en w' ⟨rfl, rfl⟩)
  · rename_i h
    have hcv := HC.out
    rw [if_pos h, h, Nat.sub_self] at hcv
    rw [hcv]
    clear hcv HC
    go_wp2
    go_ret2
    exact ⟨by rw [HT.out]; simp [textV], rfl⟩
  · rename_i h
    have hcv := HC.out
    rw [if_neg h] at hcv
    rw [hcv]
    clear hcv HC
    go_wp2
    go_ret2
    exact ⟨by rw [HT.out]; simp [textV], rfl⟩

set_option maxRecDepth 100000 in
set_option maxHeartbeats 800000 in
theorem text1_any (r : Value) (b1 b2 : Nat) (most : Int) (A : Option Addr) (n c B : Nat) (bs : List UInt8) (W : World) (hl : bs.length = n) (hn : n ≤ c) (hc : c ≤ maxLen) (hm1 : -9223372036854775808 ≤ most) (hm2 : most ≤ 9223372036854775807) (hr : Rd W B A (by8 bs)) (c1 : W.cell? ⟨b1, 0, none⟩ = some r) (c2 : W.cell? ⟨b2, 0, none⟩ = some (.int .i64 most)) :
    Calls Tryz.prog 82 #[.slice A n c, .pointer (some ⟨b1, 0, none⟩), .pointer (some ⟨b2, 0, none⟩)] W (Ret (textV (textR bs most)) W) := by
  have HN := hide (number_any r A n c B bs W hl hn hc hr)
  unfold maxLen at hc
  cases hd : dec 0 0 bs with
  | none =>
    have HT := hide (textR_none (most := most) hd)
    rw [hd] at HN
    simp only [numV] at HN
    clear hr hl hd
    go_enter Tryz.func82, Tryz.ntmps82
    go_wp2_with (go_at_call 80; refine HN.out.mono ?_; rintro en w' ⟨rfl, rfl⟩)
    go_ret2
    exact ⟨by rw [HT.out]; rfl, rfl⟩
  | some x =>
    obtain ⟨u, k⟩ := x
    rw [hd] at HN
    simp only [numV] at HN
    have hk := dec_le _ _ _ _ _ hd
    have hu := dec_lt _ 0 0 u k (by decide) hd
    rw [hl] at hk
    obtain ⟨hk0, hkn⟩ := hk
    have hkn : k ≤ n := by omega
    have hku0 := hkn
    by_cases hneg : most < 0
    · have HT := hide (textR_no (most := most) hd (.inl hneg))
      clear hr hl hd
      go_enter Tryz.func82, Tryz.ntmps82
      go_wp2_with (go_at_call 80; refine HN.out.mono ?_; rintro en w' ⟨rfl, rfl⟩)
      go_ret2
      exact ⟨by rw [HT.out]; rfl, rfl⟩
    · obtain ⟨m, rfl⟩ := Int.eq_ofNat_of_zero_le (a := most) (by omega)
      clear hm1 hneg
      by_cases hum : m < u
      · have HT := hide (textR_no (most := m) hd (.inr (.inl (by omega))))
        clear hr hl hd
        go_enter Tryz.func82, Tryz.ntmps82
        go_wp2_with (go_at_call 80; refine HN.out.mono ?_; rintro en w' ⟨rfl, rfl⟩)
        go_ret2
        exact ⟨by rw [HT.out]; rfl, rfl⟩
      · by_cases hul : n - k < u
        · have HT := hide (textR_no (most := m) hd (.inr (.inr (by rw [hl]; exact hul))))
          clear hr hl hd
          go_enter Tryz.func82, Tryz.ntmps82
          go_wp2_with (go_at_call 80; refine HN.out.mono ?_; rintro en w' ⟨rfl, rfl⟩)
          go_ret2
          exact ⟨by rw [HT.out]; rfl, rfl⟩
        · exact text1_ok r b1 b2 m A n c B bs u k W hl hn hc hm2 hr c1 c2 hd HN.out hku0 hum hul hu

theorem text_cut {w : World} {B : Nat} {A : Option Addr} {bs : List UInt8} {c at_ b1 b2 : Nat} {most : Int} (r : Value) (hm1 : -9223372036854775808 ≤ most) (hm2 : most ≤ 9223372036854775807) (hr : Rd w B A (by8 bs)) (h1 : bs.length ≤ c) (h2 : c ≤ maxLen) (h3 : at_ ≤ bs.length) (c1 : w.cell? ⟨b1, 0, none⟩ = some r) (c2 : w.cell? ⟨b2, 0, none⟩ = some (.int .i64 most)) (nq : Nat) :
    Calls Tryz.prog 82 #[.slice (if c = at_ then A else A.map (·.add at_)) (bs.length - at_) (c - at_), .pointer (some ⟨b1, 0, none⟩), .pointer (some ⟨b2, 0, none⟩)] (w.drewN nq) fun e w' => e = .returned (textV (textR (bs.drop at_) most)) ∧ w' = w.drewN nq :=
  (text1_any r b1 b2 most _ _ _ B (bs.drop at_) (w.drewN nq) (by simp) (by omega) (by omega) hm1 hm2 (by rw [by8_drop]; exact Rd.cut (w := w) hr (by rw [by8_length]; exact h1)) c1 c2).mono fun _ _ ⟨a, b⟩ => ⟨a, b.symm⟩

section
variable (g : Nat) (bs : List UInt8) (at_ : Nat) (w : World) (b1 b2 : Nat) (most : Int) (hm1 : -9223372036854775808 ≤ most) (hm2 : most ≤ 9223372036854775807) (c1 : w.cell? ⟨b1, 0, none⟩ = some (.pointer (some ⟨g, 0, none⟩))) (c2 : w.cell? ⟨b2, 0, none⟩ = some (.int .i64 most))
include hm1 hm2 c1 c2
set_option maxRecDepth 100000 in
set_option maxHeartbeats 400000 in
theorem takeS_bad (h : RD w g bs at_ 0) (hd : textR (bs.drop at_) most = none) :
    Calls Tryz.prog 81 #[.pointer (some ⟨g, 0, none⟩), .func (.func 82) #[] #[.pointer (some ⟨b1, 0, none⟩), .pointer (some ⟨b2, 0, none⟩)]] w (RDRet (.string ⟨#[]⟩) w g bs at_ 20) := by
  obtain ⟨A, c, ⟨d0, d1, d2⟩, hf, h1, h2, h3, h4, hr⟩ := h.parts
  have HN := hide (text_cut (.pointer (some ⟨g, 0, none⟩)) hm1 hm2 hr h1 h2 h3 c1 c2)
  rw [hd] at HN
  simp only [textV] at HN
  have H := hide h
  clear h hr hd c1 c2
  go_enter Tryz.func81, Tryz.ntmps81
  go_wp2_with (fail)
  go_quiet ((go_at_call 82; exact Calls.quiet_of_same (HN.out _)))
  go_wp2
  all_goals
    go_ret
    exact ⟨rfl, (H.out.drewN _).set2 20, ((Fr.refl _ _).drewN _).put _ _⟩

set_option maxRecDepth 100000 in
set_option maxHeartbeats 400000 in
theorem takeS_ok (s : List UInt8) (k : Nat) (h : RD w g bs at_ 0) (hd : textR (bs.drop at_) most = some (s, k)) (hk1 : at_ + k ≤ bs.length) :
    Calls Tryz.prog 81 #[.pointer (some ⟨g, 0, none⟩), .func (.func 82) #[] #[.pointer (some ⟨b1, 0, none⟩), .pointer (some ⟨b2, 0, none⟩)]] w (RDRet (.string ⟨s.toArray⟩) w g bs (at_ + k) 0) := by
  obtain ⟨A, c, ⟨d0, d1, d2⟩, hf, h1, h2, h3, h4, hr⟩ := h.parts
  have HN := hide (text_cut (.pointer (some ⟨g, 0, none⟩)) hm1 hm2 hr h1 h2 h3 c1 c2)
  rw [hd] at HN
  simp only [textV] at HN
  have H := hide h
  clear h hr hd c1 c2
  go_enter Tryz.func81, Tryz.ntmps81
  go_wp2_with (fail)
  go_quiet ((go_at_call 82; exact Calls.quiet_of_same (HN.out _)))
  go_wp2
  all_goals
    go_ret
    exact ⟨rfl, (H.out.drewN _).set1 _ hk1, ((Fr.refl _ _).drewN _).put _ _⟩
end

set_option maxRecDepth 100000 in
set_option maxHeartbeats 400000 in
theorem takeS_off (g : Nat) (bs : List UInt8) (at_ : Nat) (e : Int) (w : World) (f : Value) (h : RD w g bs at_ e) (he : e ≠ 0) :
    Calls Tryz.prog 81 #[.pointer (some ⟨g, 0, none⟩), f] w (RDRet (.string ⟨#[]⟩) w g bs at_ e) := by
  obtain ⟨A, c, ⟨c0, c1, c2⟩, hf, h1, h2, h3, h4, hr⟩ := h.parts
  have hb : (e != 0) = true := by simpa using he
  have H := hide h
  clear h hr he
  go_enter Tryz.func81, Tryz.ntmps81
  go_wp2_with (fail)
  go_ret
  exact ⟨rfl, H.out, Fr.refl _ _⟩

set_option maxRecDepth 100000 in
set_option maxHeartbeats 400000 in
theorem takeS_nil (w : World) (f : Value) :
    Calls Tryz.prog 81 #[.pointer none, f] w (Ret (.string ⟨#[]⟩) w) := by
  go_enter Tryz.func81, Tryz.ntmps81
  go_wp2_with (fail)
  go_ret
  exact ⟨rfl, rfl⟩

theorem takeS_all (g : Nat) (bs : List UInt8) (a : Nat) (e : Int) (w : World) (b1 b2 : Nat) (most : Int) (hm1 : -9223372036854775808 ≤ most) (hm2 : most ≤ 9223372036854775807) (c1 : w.cell? ⟨b1, 0, none⟩ = some (.pointer (some ⟨g, 0, none⟩))) (c2 : w.cell? ⟨b2, 0, none⟩ = some (.int .i64 most)) (h : RD w g bs a e) :
    Calls Tryz.prog 81 #[.pointer (some ⟨g, 0, none⟩), .func (.func 82) #[] #[.pointer (some ⟨b1, 0, none⟩), .pointer (some ⟨b2, 0, none⟩)]] w (RDRet (.string ⟨(textS bs a e most).1.toArray⟩) w g bs (textS bs a e most).2.1 (textS bs a e most).2.2) := by
  unfold textS
  by_cases he : e = 0
  · subst he
    rw [if_pos rfl]
    cases hd : textR (bs.drop a) most with
    | none => exact takeS_bad g bs a w b1 b2 most hm1 hm2 c1 c2 h hd
    | some x => exact takeS_ok g bs a w b1 b2 most hm1 hm2 c1 c2 x.1 x.2 h hd (by
        have h1 := textR_le (s := x.1) (k := x.2) hd
        obtain ⟨_, _, _, _, _, h3, _⟩ := h
        simp at h1
        omega)
  · rw [if_neg he]
    exact takeS_off g bs a e w _ h he

set_option maxRecDepth 100000 in
set_option maxHeartbeats 400000 in
theorem text_any (g : Nat) (bs : List UInt8) (a : Nat) (e most : Int) (w : World) (h : RD w g bs a e) (hm1 : -9223372036854775808 ≤ most) (hm2 : most ≤ 9223372036854775807) :
    Calls Tryz.prog 51 #[.pointer (some ⟨g, 0, none⟩), .int .i64 most] w (RDRet (.string ⟨(textS bs a e most).1.toArray⟩) w g bs (textS bs a e most).2.1 (textS bs a e most).2.2) := by
  have H := hide (fun t1 t2 => takeS_all g bs a e _ w.heap.size (w.heap.size + 1) most hm1 hm2 (box1 w (.pointer (some ⟨g, 0, none⟩)) (.int .i64 most) t1 t2) (box2 w (.pointer (some ⟨g, 0, none⟩)) (.int .i64 most) t1 t2) (h.fr0 (((Fr.refl No w).alloc _).alloc _)))
  clear h
  generalize textS bs a e most = x at H
  go_enter Tryz.func51, Tryz.ntmps51
  go_wp2_with (go_at_call 81; refine (H.out _ _).mono ?_; rintro en w' ⟨rfl, hq⟩; have HQ := hide hq; clear hq)
  go_ret
  exact ⟨rfl, HQ.out.1, (((Fr.refl (Is g) w).alloc _).alloc _).ts HQ.out.2⟩

set_option maxRecDepth 100000 in
set_option maxHeartbeats 400000 in
theorem text_nil (most : Int) (w : World) :
    Calls Tryz.prog 51 #[.pointer none, .int .i64 most] w (fun en w' => en = .returned (.string ⟨#[]⟩) ∧ Fr No w w') := by
  go_enter Tryz.func51, Tryz.ntmps51
  go_wp2_with (go_at_call 81; refine (takeS_nil _ _).mono ?_; rintro en w' ⟨rfl, rfl⟩)
  go_ret
  exact ⟨rfl, ((Fr.refl No w).alloc _).alloc _⟩

end Go.Proofs.YtnjcncidlhllmaaGreat
