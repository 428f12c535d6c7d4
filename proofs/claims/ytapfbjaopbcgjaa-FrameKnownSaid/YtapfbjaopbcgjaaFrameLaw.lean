/- Sealed files, in plain Lean: what was sealed is opened again; what is opened is a sealed file. -/
import Derived.Test.YtapfbjaopbcgjaaOpenP
namespace Go.Proofs.Ytapfbjaopbcgjaa
set_option linter.unusedVariables false
set_option linter.unusedSimpArgs false
open Go.RowKit

theorem sizeS_some {bs : List UInt8} {a u k : Nat} {most : Int} (hd : dec 0 0 (bs.drop a) = some (u, k)) (h0 : 0 ≤ most) (h : (u : Int) ≤ most) : sizeS bs a 0 most = (u, a + k, 0) := by
  unfold sizeS
  rw [if_pos rfl, sizeR_ok hd (by omega)]
theorem sizesR_lens (pre rest : List UInt8) : ∀ (bss : List (List UInt8)) (j : Nat), j ≤ bss.length → (∀ b ∈ bss, b.length ≤ 16777216) →
    sizesR (pre ++ lensB bss ++ rest) pre.length 0 j = ((bss.take j).map List.length, pre.length + (lensB (bss.take j)).length, 0) := by
  intro bss j
  induction j with
  | zero => intro _ _; simp [sizesR, lensB]
  | succ j ih =>
    intro hj hb
    have hlt : j < bss.length := by omega
    have hx : bss[j]? = some bss[j] := List.getElem?_eq_getElem hlt
    have hs := lens_succ hx
    have hbj := hb bss[j] (List.getElem_mem hlt)
    have hsplit : lensB bss = lensB (bss.take j) ++ (enc bss[j].length ++ lensB (bss.drop (j + 1))) := by
      have h1 : bss = bss.take (j + 1) ++ bss.drop (j + 1) := (List.take_append_drop _ _).symm
      conv => lhs; rw [h1]
      have h2 : lensB (bss.take (j + 1) ++ bss.drop (j + 1)) = lensB (bss.take (j + 1)) ++ lensB (bss.drop (j + 1)) := by unfold lensB; exact List.flatMap_append
      rw [h2, hs, List.append_assoc]
    have hd : (pre ++ lensB bss ++ rest).drop (pre.length + (lensB (bss.take j)).length) = enc bss[j].length ++ (lensB (bss.drop (j + 1)) ++ rest) := by
      rw [hsplit]
      simp only [List.append_assoc]
      rw [← List.append_assoc, ← List.length_append, List.drop_left]
    have hS := sizeS_some (bs := pre ++ lensB bss ++ rest) (most := 16777216) (by rw [hd]; exact dec_enc _ (by omega) _) (by decide) (by omega)
    rw [sizesR, ih (by omega) hb]
    dsimp only
    have ht : (bss.take (j + 1)).map List.length = (bss.take j).map List.length ++ [bss[j].length] := by
      rw [List.take_succ_eq_append_getElem hlt, List.map_append]
      rfl
    rw [hS, hs, ht, List.length_append, Nat.add_assoc]
theorem bytesS_some {bs pre x rest : List UInt8} (h : bs = pre ++ x ++ rest) : bytesS bs pre.length 0 (x.length : Nat) = (x, pre.length + x.length, 0) := by
  subst h
  unfold bytesS bytesR
  have hd : (pre ++ x ++ rest).drop pre.length = x ++ rest := by rw [List.append_assoc, List.drop_left]
  rw [if_pos rfl, hd, if_neg (by rw [List.length_append]; omega)]
  simp
theorem blocksR_all (pre : List UInt8) (bss : List (List UInt8)) : ∀ (j : Nat), j ≤ bss.length →
    blocksR (pre ++ bss.flatten) (bss.map List.length) pre.length 0 j = (bss.take j, pre.length + (bss.take j).flatten.length, 0) := by
  intro j
  induction j with
  | zero => intro _; simp [blocksR]
  | succ j ih =>
    intro hj
    have hlt : j < bss.length := by omega
    have hx : bss[j]? = some bss[j] := List.getElem?_eq_getElem hlt
    have hs := flat_succ hx
    have hz : (bss.map List.length).getD j 0 = bss[j].length := by simp [hlt]
    have hflat : bss.flatten = (bss.take j).flatten ++ bss[j] ++ (bss.drop (j + 1)).flatten := by
      conv => lhs; rw [← List.take_append_drop (j + 1) bss, List.flatten_append, hs]
    have hpr : pre ++ bss.flatten = (pre ++ (bss.take j).flatten) ++ bss[j] ++ (bss.drop (j + 1)).flatten := by
      conv => lhs; rw [hflat]
      simp only [List.append_assoc]
    have hB := bytesS_some hpr
    rw [List.length_append] at hB
    rw [blocksR, ih (by omega)]
    dsimp only
    rw [hz, hB, hs, List.length_append, List.take_succ_eq_append_getElem hlt, Nat.add_assoc]

theorem long_no {kind : UInt8} {bss : List (List UInt8)} (h : longB kind bss = false) : bss.length ≤ 1024 ∧ (headB kind bss).length + bss.flatten.length + 4 ≤ 16777216 := by
  have := of_decide_eq_false h
  omega
theorem seal_len (kind : UInt8) (bss : List (List UInt8)) : (sealB kind bss).length = (headB kind bss).length + bss.flatten.length + 4 := by
  unfold sealB bodyB
  rw [List.length_append, List.length_append]
  rfl
theorem head_len (kind : UInt8) (bss : List (List UInt8)) : 5 ≤ (headB kind bss).length := by
  have := (enc_len bss.length).1
  unfold headB
  rw [List.length_append, List.length_append]
  simp
  omega
theorem seal_take (kind : UInt8) (bss : List (List UInt8)) : (sealB kind bss).take ((sealB kind bss).length - 4) = bodyB kind bss := by
  unfold sealB
  rw [List.length_append, show (fourB (crcOf (bodyB kind bss))).length = 4 from rfl, Nat.add_sub_cancel, List.take_left]
theorem seal_drop (kind : UInt8) (bss : List (List UInt8)) : (sealB kind bss).drop ((sealB kind bss).length - 4) = fourB (crcOf (bodyB kind bss)) := by
  unfold sealB
  rw [List.length_append, show (fourB (crcOf (bodyB kind bss))).length = 4 from rfl, Nat.add_sub_cancel, List.drop_left]
theorem seal_form (kind : UInt8) (bss : List (List UInt8)) : sealB kind bss = 76 :: 84 :: 1 :: kind :: (enc bss.length ++ lensB bss ++ bss.flatten ++ fourB (crcOf (bodyB kind bss))) := by
  simp [sealB, bodyB, headB]
theorem body_form (kind : UInt8) (bss : List (List UInt8)) : bodyB kind bss = 76 :: 84 :: 1 :: kind :: (enc bss.length ++ lensB bss ++ bss.flatten) := by
  simp [bodyB, headB]
theorem mid_form (kind : UInt8) (bss : List (List UInt8)) : midB (sealB kind bss) = enc bss.length ++ lensB bss ++ bss.flatten := by
  unfold midB
  rw [seal_take, body_form]
  rfl
theorem flat_mem {bss : List (List UInt8)} {b : List UInt8} (h : b ∈ bss) : b.length ≤ bss.flatten.length := by
  induction bss with
  | nil => cases h
  | cons x r ih =>
    rw [List.flatten_cons, List.length_append]
    rcases List.mem_cons.1 h with rfl | h
    · omega
    · have := ih h
      omega
theorem seal_good (kind : UInt8) (bss : List (List UInt8)) : goodB kind (sealB kind bss) = true := by
  have h1 := head_len kind bss
  have h2 := seal_len kind bss
  refine decide_eq_true ⟨decide_eq_true ⟨by omega, ?_⟩, ?_, by omega, ?_⟩
  · rw [seal_form]; rfl
  · rw [seal_form]; rfl
  · unfold crcOK
    rw [seal_drop, seal_take]
    simp
theorem read_seal (kind : UInt8) (bss : List (List UInt8)) (h : longB kind bss = false) : readB (midB (sealB kind bss)) = (bss, (midB (sealB kind bss)).length, 0) := by
  obtain ⟨h1, h2⟩ := long_no h
  have hb : ∀ b ∈ bss, b.length ≤ 16777216 := fun b hb => by have := flat_mem hb; omega
  have e0 : sizeS (midB (sealB kind bss)) 0 0 1024 = (bss.length, (enc bss.length).length, 0) := by
    have := sizeS_some (bs := midB (sealB kind bss)) (a := 0) (most := 1024) (u := bss.length) (k := (enc bss.length).length) (by
      rw [mid_form, List.drop_zero, List.append_assoc]
      exact dec_enc _ (by omega) _) (by decide) (by omega)
    simpa using this
  have e1 : sizesR (midB (sealB kind bss)) (enc bss.length).length 0 bss.length = (bss.map List.length, (enc bss.length).length + (lensB bss).length, 0) := by
    rw [mid_form, sizesR_lens (enc bss.length) bss.flatten bss bss.length (Nat.le_refl _) hb]
    simp
  have e2 : blocksR (midB (sealB kind bss)) (bss.map List.length) ((enc bss.length).length + (lensB bss).length) 0 bss.length = (bss, (midB (sealB kind bss)).length, 0) := by
    have := blocksR_all (enc bss.length ++ lensB bss) bss bss.length (Nat.le_refl _)
    rw [List.length_append] at this
    rw [mid_form, this]
    simp [Nat.add_assoc]
  unfold readB
  rw [e0]
  dsimp only
  rw [e1]
  dsimp only
  rw [e2]
/-- what was sealed is opened again. -/
theorem open_seal (kind : UInt8) (bss : List (List UInt8)) (h : longB kind bss = false) : openE kind (sealB kind bss) = 0 ∧ openL kind (sealB kind bss) = bss := by
  obtain ⟨h1, h2⟩ := long_no h
  have hE : openE kind (sealB kind bss) = 0 := by
    unfold openE
    rw [if_neg (by rw [seal_len]; omega), if_pos (seal_good kind bss), read_seal kind bss h]
    exact if_pos ⟨rfl, Nat.lt_irrefl _⟩
  refine ⟨hE, ?_⟩
  unfold openL
  rw [if_pos hE, read_seal kind bss h]

theorem sizeS_ok {bs : List UInt8} {a : Nat} {e most : Int} (ha : a ≤ bs.length) (h : (sizeS bs a e most).2.2 = 0) : e = 0 ∧ a ≤ (sizeS bs a e most).2.1 ∧ (sizeS bs a e most).2.1 ≤ bs.length ∧ bs.take (sizeS bs a e most).2.1 = bs.take a ++ enc (sizeS bs a e most).1 := by
  unfold sizeS at h ⊢
  by_cases he : e = 0
  · subst he
    rw [if_pos rfl] at h ⊢
    cases hd : sizeR (bs.drop a) most with
    | none => rw [hd] at h; simp at h
    | some x =>
      obtain ⟨u, k⟩ := x
      have hu : dec 0 0 (bs.drop a) = some (u, k) := by
        unfold sizeR at hd
        split at hd
        · cases hd
        · rename_i u' k' hdd
          split at hd
          · cases hd
          · injection hd with hd
            injection hd with h1 h2
            subst h1; subst h2
            exact hdd
      obtain ⟨_, _, _, _, hk, hen⟩ := dec_parts hu
      rw [List.length_drop] at hk
      refine ⟨rfl, by simp, by simp; omega, ?_⟩
      simp only
      rw [hen, List.take_add]
  · rw [if_neg he] at h
    exact absurd h he
theorem sizesR_ok (bs : List UInt8) (a : Nat) (e : Int) (ha : a ≤ bs.length) : ∀ j, (sizesR bs a e j).2.2 = 0 → e = 0 ∧ a ≤ (sizesR bs a e j).2.1 ∧ (sizesR bs a e j).2.1 ≤ bs.length ∧ bs.take (sizesR bs a e j).2.1 = bs.take a ++ (sizesR bs a e j).1.flatMap enc
  | 0, h => ⟨h, Nat.le_refl _, ha, by simp [sizesR]⟩
  | j + 1, h => by
    have hle : (sizesR bs a e j).2.1 ≤ bs.length ∨ (sizesR bs a e j).2.2 ≠ 0 := by
      by_cases h0 : (sizesR bs a e j).2.2 = 0
      · exact .inl (sizesR_ok bs a e ha j h0).2.2.1
      · exact .inr h0
    rw [sizesR] at h ⊢
    dsimp only at h ⊢
    rcases hle with hle | hne
    · obtain ⟨h1, h2, h3, h4⟩ := sizeS_ok hle h
      obtain ⟨g1, g2, g3, g4⟩ := sizesR_ok bs a e ha j h1
      refine ⟨g1, by omega, h3, ?_⟩
      rw [h4, g4, List.flatMap_append]
      simp
    · exfalso
      unfold sizeS at h
      rw [if_neg hne] at h
      exact hne h
theorem bytesS_ok {bs : List UInt8} {a x : Nat} {e : Int} (ha : a ≤ bs.length) (h : (bytesS bs a e (x : Nat)).2.2 = 0) : e = 0 ∧ a ≤ (bytesS bs a e (x : Nat)).2.1 ∧ (bytesS bs a e (x : Nat)).2.1 ≤ bs.length ∧ bs.take (bytesS bs a e (x : Nat)).2.1 = bs.take a ++ (bytesS bs a e (x : Nat)).1 ∧ (bytesS bs a e (x : Nat)).1.length = x := by
  unfold bytesS bytesR at h ⊢
  by_cases he : e = 0
  · subst he
    rw [if_pos rfl] at h ⊢
    by_cases hx : (x : Int) < 0 ∨ ((bs.drop a).length : Int) < (x : Int)
    · rw [if_pos hx] at h
      simp at h
    · rw [if_neg hx]
      rw [List.length_drop] at hx
      simp only [Int.toNat_natCast]
      refine ⟨trivial, by omega, by omega, by rw [List.take_add], by rw [List.length_take, List.length_drop]; omega⟩
  · rw [if_neg he] at h
    exact absurd h he
theorem blocksR_ok (bs : List UInt8) (szs : List Nat) (a : Nat) (e : Int) (ha : a ≤ bs.length) : ∀ j, j ≤ szs.length → (blocksR bs szs a e j).2.2 = 0 → e = 0 ∧ (blocksR bs szs a e j).2.1 ≤ bs.length ∧ bs.take (blocksR bs szs a e j).2.1 = bs.take a ++ (blocksR bs szs a e j).1.flatten ∧ (blocksR bs szs a e j).1.map List.length = szs.take j
  | 0, _, h => ⟨h, ha, by simp [blocksR], by simp [blocksR]⟩
  | j + 1, hj, h => by
    have hle : (blocksR bs szs a e j).2.1 ≤ bs.length ∨ (blocksR bs szs a e j).2.2 ≠ 0 := by
      by_cases h0 : (blocksR bs szs a e j).2.2 = 0
      · exact .inl (blocksR_ok bs szs a e ha j (by omega) h0).2.1
      · exact .inr h0
    rw [blocksR] at h ⊢
    dsimp only at h ⊢
    rcases hle with hle | hne
    · obtain ⟨h1, h2, h3, h4, h5⟩ := bytesS_ok hle h
      obtain ⟨g1, g2, g3, g4⟩ := blocksR_ok bs szs a e ha j (by omega) h1
      refine ⟨g1, h3, ?_, ?_⟩
      · rw [h4, g3, List.flatten_append]
        simp
      · have hlt : j < szs.length := by omega
        rw [List.map_append, g4, List.take_succ_eq_append_getElem hlt]
        simp only [List.map_cons, List.map_nil, h5]
        simp [hlt]
    · exfalso
      unfold bytesS at h
      rw [if_neg hne] at h
      exact hne h
theorem lens_of_map (bl : List (List UInt8)) : (bl.map List.length).flatMap enc = lensB bl := by
  induction bl with
  | nil => rfl
  | cons b r ih =>
    rw [List.map_cons, List.flatMap_cons, ih]
    rfl
theorem sizesR_err (bs : List UInt8) (a : Nat) (e : Int) : ∀ j, (sizesR bs a e j).2.2 = 0 → e = 0
  | 0, h => h
  | j + 1, h => by
    rw [sizesR] at h
    dsimp only at h
    refine sizesR_err bs a e j ?_
    unfold sizeS at h
    by_cases h0 : (sizesR bs a e j).2.2 = 0
    · exact h0
    · rw [if_neg h0] at h; exact h
theorem blocksR_err (bs : List UInt8) (szs : List Nat) (a : Nat) (e : Int) : ∀ j, (blocksR bs szs a e j).2.2 = 0 → e = 0
  | 0, h => h
  | j + 1, h => by
    rw [blocksR] at h
    dsimp only at h
    refine blocksR_err bs szs a e j ?_
    unfold bytesS at h
    by_cases h0 : (blocksR bs szs a e j).2.2 = 0
    · exact h0
    · rw [if_neg h0] at h; exact h
theorem read_ok {m : List UInt8} (he : (readB m).2.2 = 0) (hend : ¬ (readB m).2.1 < m.length) : m = enc (readB m).1.length ++ lensB (readB m).1 ++ (readB m).1.flatten ∧ (readB m).1.length ≤ 1024 := by
  unfold readB at he hend ⊢
  have hszl := sizesR_len m (sizeS m 0 0 1024).2.1 (sizeS m 0 0 1024).2.2 (sizeS m 0 0 1024).1
  have hn : (sizeS m 0 0 1024).1 ≤ 1024 := sizeS_le m 0 0 1024
  have e1 := blocksR_err _ _ _ _ _ he
  have e2 := sizesR_err _ _ _ _ e1
  obtain ⟨_, _, x2, x3⟩ := sizeS_ok (Nat.zero_le _) e2
  obtain ⟨_, _, y2, y3⟩ := sizesR_ok m _ _ x2 _ e1
  obtain ⟨_, z2, z3, z4⟩ := blocksR_ok m _ _ _ y2 _ (by rw [hszl]; exact Nat.le_refl _) he
  rw [List.take_of_length_le (Nat.le_of_eq hszl)] at z4
  have hzl := congrArg List.length z4
  rw [List.length_map, hszl] at hzl
  rw [List.take_of_length_le (by omega), y3, x3] at z3
  have hq := congrArg (List.flatMap enc) z4
  rw [lens_of_map] at hq
  rw [← hq, List.take_zero, List.nil_append] at z3
  rw [hzl]
  exact ⟨z3, hn⟩
/-- what is opened, sealed, is the file. -/
theorem seal_open (kind : UInt8) (d : List UInt8) (h : openE kind d = 0) : longB kind (openL kind d) = false ∧ sealB kind (openL kind d) = d := by
  have hL : openL kind d = (readB (midB d)).1 := by unfold openL; rw [if_pos h]
  rw [hL]
  unfold openE at h
  by_cases hbig : 16777216 < d.length
  · rw [if_pos hbig] at h; exact absurd h (by decide)
  · rw [if_neg hbig] at h
    by_cases hg : goodB kind d = true
    · rw [if_pos hg] at h
      obtain ⟨hk, hk3, h8, hcrc⟩ := of_decide_eq_true hg
      have hkk := of_decide_eq_true hk
      have hc := of_decide_eq_true hcrc
      by_cases he : (readB (midB d)).2.2 = 0 ∧ ¬ (readB (midB d)).2.1 < (midB d).length
      · obtain ⟨he, hend⟩ := he
        obtain ⟨hm, hn⟩ := read_ok he hend
        generalize (readB (midB d)).1 = bl at hm hn ⊢
        have hbody : d.take (d.length - 4) = bodyB kind bl := by
          have h1 : d.take (d.length - 4) = (d.take (d.length - 4)).take 4 ++ midB d := (List.take_append_drop 4 _).symm
          have h2 : (d.take (d.length - 4)).take 4 = [76, 84, 1, kind] := by
            rw [List.take_take, Nat.min_eq_left (by omega), List.take_succ_eq_append_getElem (by omega), hkk.2, ← hk3]
            simp [show 3 < d.length by omega]
          rw [h1, h2, hm]
          unfold bodyB headB
          simp only [List.append_assoc]
        have hd : sealB kind bl = d := by
          unfold sealB
          rw [← hbody, ← hc, List.take_append_drop]
        refine ⟨decide_eq_false ?_, hd⟩
        have hl := seal_len kind bl
        rw [hd] at hl
        omega
      · unfold endEP at h
        rw [if_neg he] at h
        exact absurd h (by decide)
    · rw [if_neg hg] at h; exact absurd h (by decide)
end Go.Proofs.Ytapfbjaopbcgjaa
