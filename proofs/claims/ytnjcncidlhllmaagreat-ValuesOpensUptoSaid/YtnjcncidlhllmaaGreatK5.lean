/- Several texts in one: PackR, MinW, RefA, RefUint, One03, BytesP, Number. -/
import Derived.Test.YtnjcncidlhllmaaGreatK4
namespace Go.Proofs.YtnjcncidlhllmaaGreat
set_option linter.unusedVariables false
set_option linter.unusedSimpArgs false
open Go.RowKit

/-- signed numbers of 64 bits. -/
def InI (l : List Int) : Prop := ∀ x ∈ l, -9223372036854775808 ≤ x ∧ x ≤ 9223372036854775807
theorem InI.take {l : List Int} (h : InI l) (k : Nat) : InI (l.take k) := fun x hx => h x (List.mem_of_mem_take hx)
theorem InI.drop {l : List Int} (h : InI l) (k : Nat) : InI (l.drop k) := fun x hx => h x (List.mem_of_mem_drop hx)
def minL : List Int → Int
  | [] => 0
  | x :: r => r.foldl min x
theorem minF (r : List Int) (a : Int) : r.foldl min a ≤ a ∧ (∀ x ∈ r, r.foldl min a ≤ x) ∧ (r.foldl min a = a ∨ r.foldl min a ∈ r) := by
  induction r generalizing a with
  | nil => simp
  | cons y r ih =>
    rw [List.foldl_cons]
    obtain ⟨h1, h2, h3⟩ := ih (min a y)
    refine ⟨by omega, ?_, ?_⟩
    · intro x hx
      rcases List.mem_cons.1 hx with rfl | hx
      · omega
      · exact h2 x hx
    · rcases h3 with h3 | h3
      · rcases Int.le_total a y with h | h
        · left; omega
        · right; rw [h3, Int.min_eq_right h]; exact List.mem_cons_self ..
      · exact .inr (List.mem_cons_of_mem _ h3)
theorem minL_le {l : List Int} : ∀ x ∈ l, minL l ≤ x := by
  cases l with
  | nil => intro x hx; cases hx
  | cons y r =>
    intro x hx
    rcases List.mem_cons.1 hx with rfl | hx
    · exact (minF r _).1
    · exact (minF r y).2.1 x hx
theorem minL_mem {l : List Int} (h : l ≠ []) : minL l ∈ l := by
  cases l with
  | nil => exact absurd rfl h
  | cons y r =>
    rcases (minF r y).2.2 with h | h
    · rw [show minL (y :: r) = y from h]; exact List.mem_cons_self ..
    · exact List.mem_cons_of_mem _ h
theorem minL_is {l : List Int} {m : Int} (h : m ∈ l) (h2 : ∀ x ∈ l, m ≤ x) : minL l = m := by
  have h3 := minL_le m h
  have h4 := h2 _ (minL_mem (List.ne_nil_of_mem h))
  omega
theorem minL_in {l : List Int} (h : InI l) : -9223372036854775808 ≤ minL l ∧ minL l ≤ 9223372036854775807 := by
  by_cases hl : l = []
  · subst hl; decide
  · exact h _ (minL_mem hl)
theorem minL_snoc {l : List Int} (h : l ≠ []) (x : Int) : minL (l ++ [x]) = min (minL l) x := by
  cases l with
  | nil => exact absurd rfl h
  | cons y r => simp [minL, List.foldl_append]

/-- a block's numbers above its least. -/
def aboveL (l : List Int) : List Nat := l.map fun x => (x - minL l).toNat
theorem aboveL_len (l : List Int) : (aboveL l).length = l.length := by simp [aboveL]
theorem aboveL_64 {l : List Int} (h : InI l) : In64 (aboveL l) := by
  intro u hu
  obtain ⟨x, hx, rfl⟩ := List.mem_map.1 hu
  have h1 := h x hx
  have h2 := minL_in h
  omega
theorem aboveL_0 {l : List Int} (h : l ≠ []) : 0 ∈ aboveL l := List.mem_map.2 ⟨_, minL_mem h, by omega⟩
theorem above_back (l : List Int) : (aboveL l).map (fun (u : Nat) => minL l + (u : Int)) = l := by
  unfold aboveL
  rw [List.map_map]
  conv => rhs; rw [← List.map_id l]
  apply List.map_congr_left
  intro x hx
  have := minL_le x hx
  simp
  omega
theorem above_of {le : Int} {ab : List Nat} (h0 : 0 ∈ ab) : minL (ab.map fun (u : Nat) => le + (u : Int)) = le ∧ aboveL (ab.map fun (u : Nat) => le + (u : Int)) = ab := by
  have hm : minL (ab.map fun (u : Nat) => le + (u : Int)) = le := by
    refine minL_is (List.mem_map.2 ⟨0, h0, by omega⟩) ?_
    intro x hx
    obtain ⟨u, _, rfl⟩ := List.mem_map.1 hx
    omega
  refine ⟨hm, ?_⟩
  unfold aboveL
  rw [hm, List.map_map]
  conv => rhs; rw [← List.map_id ab]
  apply List.map_congr_left
  intro u hu
  simp
  omega
/-- a block's form. -/
def oneB (l : List Int) : List UInt8 := enc (zz (minL l)) ++ [UInt8.ofNat (wid (aboveL l))] ++ packed (wid (aboveL l)) (aboveL l)
theorem oneB_len (l : List Int) : (oneB l).length = (enc (zz (minL l))).length + 1 + psz (wid (aboveL l)) l.length := by
  simp [oneB, packed_len, aboveL_len]
  omega

/-- a block's bytes, read: its least number, the width, the numbers above, how many bytes. -/
def parseB (bs : List UInt8) (k : Nat) : Option (Int × Nat × List Nat × Nat) :=
  match dec 0 0 bs with
  | none => none
  | some (u, j) =>
    if j < bs.length then
      if (bs.getD j 0).toNat ≤ 64 then
        if j + 1 + psz (bs.getD j 0).toNat k ≤ bs.length then
          if leftN ((bs.drop (j + 1)).take (psz (bs.getD j 0).toNat k)) ((bs.getD j 0).toNat * k) = 0 then
            some (unzz u, (bs.getD j 0).toNat, unpacked (bs.getD j 0).toNat k ((bs.drop (j + 1)).take (psz (bs.getD j 0).toNat k)), j + 1 + psz (bs.getD j 0).toNat k)
          else none
        else none
      else none
    else none
/-- the block's numbers, where the block is the form of its numbers. -/
def blkOk (le : Int) (w : Nat) (ab : List Nat) : Prop := wid ab = w ∧ 0 ∈ ab ∧ ∀ u ∈ ab, le + (u : Int) ≤ 9223372036854775807
instance (le : Int) (w : Nat) (ab : List Nat) : Decidable (blkOk le w ab) := by unfold blkOk; infer_instance
def blkB (bs : List UInt8) (k : Nat) : Option (List Int × Nat) :=
  match parseB bs k with
  | none => none
  | some (le, w, ab, m) => if blkOk le w ab then some (ab.map (fun (u : Nat) => le + (u : Int)), m) else none

theorem parse_one {l : List Int} (hl : l ≠ []) (hi : InI l) (rest : List UInt8) : parseB (oneB l ++ rest) l.length = some (minL l, wid (aboveL l), aboveL l, (oneB l).length) := by
  have hz := zz_lt (minL_in hi).1 (minL_in hi).2
  have hw := wid_64 (aboveL_64 hi)
  have e : oneB l ++ rest = enc (zz (minL l)) ++ (UInt8.ofNat (wid (aboveL l)) :: (packed (wid (aboveL l)) (aboveL l) ++ rest)) := by simp [oneB]
  have hlen : (oneB l ++ rest).length = (enc (zz (minL l))).length + 1 + psz (wid (aboveL l)) l.length + rest.length := by rw [List.length_append, oneB_len]
  unfold parseB
  rw [e, dec_enc _ hz]
  rw [← e]
  have hg : (oneB l ++ rest).getD (enc (zz (minL l))).length 0 = UInt8.ofNat (wid (aboveL l)) := by rw [e]; simp
  have hd : (oneB l ++ rest).drop ((enc (zz (minL l))).length + 1) = packed (wid (aboveL l)) (aboveL l) ++ rest := by
    rw [e, ← List.drop_drop]
    simp
  have ht : (packed (wid (aboveL l)) (aboveL l) ++ rest).take (psz (wid (aboveL l)) l.length) = packed (wid (aboveL l)) (aboveL l) := by
    have : psz (wid (aboveL l)) l.length = (packed (wid (aboveL l)) (aboveL l)).length := by rw [packed_len, aboveL_len]
    rw [this, List.take_left]
  dsimp only
  rw [hg, ofNat_toNat (by omega), hd, ht, if_pos (by omega), if_pos hw, if_pos (by omega)]
  have hp := packed_left (wid (aboveL l)) (aboveL l)
  have hu := unpack_pack (wid_lt (aboveL_64 hi))
  rw [aboveL_len] at hp hu
  rw [if_pos hp, hu, unzz_zz, oneB_len]
theorem parse_parts {bs : List UInt8} {k : Nat} {le : Int} {w : Nat} {ab : List Nat} {m : Nat} (h : parseB bs k = some (le, w, ab, m)) :
    ab.length = k ∧ m ≤ bs.length ∧ w ≤ 64 ∧ In64 ab ∧ (-9223372036854775808 ≤ le ∧ le ≤ 9223372036854775807) ∧ 2 ≤ m ∧ enc (zz le) ++ [UInt8.ofNat w] ++ packed w ab = bs.take m := by
  unfold parseB at h
  split at h
  · cases h
  · rename_i u j hd
    split at h
    · rename_i h1
      split at h
      · rename_i h2
        split at h
        · rename_i h3
          split at h
          · rename_i h4
            injection h with h
            simp only [Prod.mk.injEq] at h
            obtain ⟨rfl, rfl, rfl, rfl⟩ := h
            have hj := dec_le _ _ _ _ _ hd
            have hu := dec_lt _ 0 0 u j (by decide) hd
            have he := enc_dec hd
            have hl : ((bs.drop (j + 1)).take (psz (bs.getD j 0).toNat k)).length = psz (bs.getD j 0).toNat k := by rw [List.length_take, List.length_drop]; omega
            refine ⟨unpacked_len _ _ _, h3, h2, unpacked_64 h2, unzz_bd hu, by omega, ?_⟩
            rw [zz_unzz, he, pack_unpack hl h4]
            have e1 : UInt8.ofNat (bs.getD j 0).toNat = bs.getD j 0 := UInt8.ofNat_toNat
            rw [e1, List.take_add, List.take_add]
            congr 2
            have e2 : bs.drop j = bs[j] :: bs.drop (j + 1) := List.drop_eq_getElem_cons h1
            rw [e2, List.getD_eq_getElem?_getD, List.getElem?_eq_getElem h1]
            rfl
          · cases h
        · cases h
      · cases h
    · cases h
theorem blk_parts {bs : List UInt8} {k : Nat} {x : List Int} {m : Nat} (h : blkB bs k = some (x, m)) : x.length = k ∧ InI x ∧ oneB x = bs.take m ∧ m ≤ bs.length ∧ 2 ≤ m := by
  unfold blkB at h
  split at h
  · cases h
  · rename_i le w ab m' hp
    split at h
    · rename_i hok
      injection h with h
      simp only [Prod.mk.injEq] at h
      obtain ⟨rfl, rfl⟩ := h
      obtain ⟨h1, h2, h3, h4, h5, h6, h7⟩ := parse_parts hp
      obtain ⟨q1, q2, q3⟩ := hok
      refine ⟨by rw [List.length_map, h1], ?_, ?_, h2, h6⟩
      · intro y hy
        obtain ⟨u, hu, rfl⟩ := List.mem_map.1 hy
        have := q3 u hu
        omega
      · obtain ⟨a1, a2⟩ := above_of (le := le) q2
        unfold oneB
        rw [a1, a2, q1, h7]
    · cases h
theorem one_ok {l : List Int} (hl : l ≠ []) (hi : InI l) : blkOk (minL l) (wid (aboveL l)) (aboveL l) := by
  refine ⟨rfl, aboveL_0 hl, ?_⟩
  intro u hu
  obtain ⟨x, hx, rfl⟩ := List.mem_map.1 hu
  have := minL_le x hx
  have := hi x hx
  omega
theorem blk_one {l : List Int} (hl : l ≠ []) (hi : InI l) (rest : List UInt8) : blkB (oneB l ++ rest) l.length = some (l, (oneB l).length) := by
  unfold blkB
  rw [parse_one hl hi]
  dsimp only
  rw [if_pos (one_ok hl hi), above_back]
theorem oneB_ge2 {l : List Int} : 2 ≤ (oneB l).length := by
  have := (encF_len 9 (zz (minL l))).1
  rw [oneB_len]
  unfold enc
  omega
/-- the reference's way: the numbers are put once more and held against the bytes. -/
theorem ref_ok {bs : List UInt8} {k : Nat} {le : Int} {w : Nat} {ab : List Nat} {m : Nat} (hk : 1 ≤ k) (h : parseB bs k = some (le, w, ab, m)) : oneB (ab.map fun (u : Nat) => wrap64 (le + (u : Int))) = bs.take m ↔ blkOk le w ab := by
  obtain ⟨h1, h2, h3, h4, h5, h6, h7⟩ := parse_parts h
  constructor
  · intro he
    have hne : (ab.map fun (u : Nat) => wrap64 (le + (u : Int))) ≠ [] := by
      intro e
      have := congrArg List.length e
      simp [h1] at this
      omega
    have hin : InI (ab.map fun (u : Nat) => wrap64 (le + (u : Int))) := by
      intro y hy
      obtain ⟨u, _, rfl⟩ := List.mem_map.1 hy
      unfold wrap64
      omega
    have hp := parse_one hne hin (bs.drop m)
    rw [he, List.take_append_drop, List.length_map, h1, h] at hp
    injection hp with hp
    simp only [Prod.mk.injEq] at hp
    obtain ⟨a1, a2, a3, a4⟩ := hp
    have hok := one_ok hne hin
    rw [← a1, ← a2, ← a3] at hok
    exact hok
  · rintro ⟨q1, q2, q3⟩
    have e : (ab.map fun (u : Nat) => wrap64 (le + (u : Int))) = ab.map fun (u : Nat) => le + (u : Int) := by
      apply List.map_congr_left
      intro u hu
      have := q3 u hu
      rw [IntWalk.wrap64_in _ (by omega)]
    rw [e]
    obtain ⟨a1, a2⟩ := above_of (le := le) q2
    unfold oneB
    rw [a1, a2, q1, h7]

/-! Rows. -/
def chunkL (l : List Int) (j : Nat) : List Int := (l.drop (128 * j)).take 128
def putUp (l : List Int) (i : Nat) : List UInt8 := (List.range i).flatMap fun j => oneB (chunkL l j)
theorem putUp_succ (l : List Int) (i : Nat) : putUp l (i + 1) = putUp l i ++ oneB (chunkL l i) := by simp [putUp, List.range_succ, List.flatMap_append]
def chunks (n : Nat) : Nat := (n + 127) / 128
def putR (l : List Int) : List UInt8 := putUp l (chunks l.length)
theorem putUp_tail (l : List Int) (i : Nat) : putUp l (i + 1) = oneB (l.take 128) ++ putUp (l.drop 128) i := by
  unfold putUp
  rw [List.range_succ_eq_map, List.flatMap_cons, List.flatMap_map]
  have e : ∀ j, chunkL l (j + 1) = chunkL (l.drop 128) j := fun j => by
    unfold chunkL
    rw [List.drop_drop, show 128 * (j + 1) = 128 + 128 * j by omega]
  have e0 : chunkL l 0 = l.take 128 := by simp [chunkL]
  rw [e0]
  congr 1
  congr 1
  funext j
  exact congrArg oneB (e j)
theorem putR_nil : putR [] = [] := rfl
theorem putR_cons {l : List Int} (h : l ≠ []) : putR l = oneB (l.take 128) ++ putR (l.drop 128) := by
  have hl : 0 < l.length := List.length_pos_iff.2 h
  unfold putR
  have e : chunks l.length = chunks (l.drop 128).length + 1 := by
    simp [chunks]
    omega
  rw [e, putUp_tail]

/-- n numbers, read from place a on. -/
def getF : Nat → List UInt8 → Nat → Nat → Option (List Int × Nat)
  | 0, b, a, n => if n = 0 then some ([], a) else none
  | f + 1, b, a, n => if n = 0 then some ([], a) else
    match blkB (b.drop a) (min n 128) with
    | none => none
    | some (x, m) => (getF f b (a + m) (n - min n 128)).map fun r => (x ++ r.1, r.2)
theorem getF_fuel : ∀ (f g : Nat) (b : List UInt8) (a n : Nat), n ≤ f → n ≤ g → getF f b a n = getF g b a n
  | 0, 0, b, a, n, _, _ => rfl
  | 0, g + 1, b, a, n, h, _ => by
    have : n = 0 := by omega
    simp [getF, this]
  | f + 1, 0, b, a, n, _, h => by
    have : n = 0 := by omega
    simp [getF, this]
  | f + 1, g + 1, b, a, n, h1, h2 => by
    rw [getF, getF]
    by_cases h0 : n = 0
    · rw [if_pos h0, if_pos h0]
    · rw [if_neg h0, if_neg h0]
      cases blkB (b.drop a) (min n 128) with
      | none => rfl
      | some r =>
        dsimp only
        rw [getF_fuel f g b (a + r.2) (n - min n 128) (by omega) (by omega)]
theorem getF_put : ∀ (f : Nat) (l : List Int) (pre rest : List UInt8), l.length ≤ f → InI l → getF f (pre ++ putR l ++ rest) pre.length l.length = some (l, pre.length + (putR l).length)
  | 0, l, pre, rest, hf, hi => by
    have : l = [] := List.eq_nil_of_length_eq_zero (by omega)
    subst this
    simp [getF, putR_nil]
  | f + 1, l, pre, rest, hf, hi => by
    rw [getF]
    by_cases h0 : l = []
    · subst h0
      simp [putR_nil]
    · have hl : 0 < l.length := List.length_pos_iff.2 h0
      rw [if_neg (by omega), putR_cons h0]
      have hd : (pre ++ (oneB (l.take 128) ++ putR (l.drop 128)) ++ rest).drop pre.length = oneB (l.take 128) ++ (putR (l.drop 128) ++ rest) := by simp
      have hk : min l.length 128 = (l.take 128).length := by simp; omega
      have hne : l.take 128 ≠ [] := by
        intro e
        have := congrArg List.length e
        rw [← hk, List.length_nil] at this
        omega
      rw [hd, hk, blk_one hne (hi.take 128)]
      dsimp only
      have hr : l.length - (l.take 128).length = (l.drop 128).length := by simp; omega
      have e : pre ++ (oneB (l.take 128) ++ putR (l.drop 128)) ++ rest = (pre ++ oneB (l.take 128)) ++ putR (l.drop 128) ++ rest := by simp
      have ih := getF_put f (l.drop 128) (pre ++ oneB (l.take 128)) rest (by simp; omega) (hi.drop 128)
      rw [List.length_append] at ih
      rw [hr, e, ih]
      simp
      omega
theorem getF_parts : ∀ (f : Nat) (b : List UInt8) (a n : Nat) (x : List Int) (e : Nat), a ≤ b.length → getF f b a n = some (x, e) →
    x.length = n ∧ InI x ∧ a ≤ e ∧ e ≤ b.length ∧ b.take a ++ putR x = b.take e
  | 0, b, a, n, x, e, ha, h => by
    rw [getF] at h
    split at h
    · rename_i h0
      injection h with h
      simp only [Prod.mk.injEq] at h
      obtain ⟨rfl, rfl⟩ := h
      exact ⟨by simp [h0], (fun _ h => by cases h), Nat.le_refl _, ha, by simp [putR_nil]⟩
    · cases h
  | f + 1, b, a, n, x, e, ha, h => by
    rw [getF] at h
    split at h
    · rename_i h0
      injection h with h
      simp only [Prod.mk.injEq] at h
      obtain ⟨rfl, rfl⟩ := h
      exact ⟨by simp [h0], (fun _ h => by cases h), Nat.le_refl _, ha, by simp [putR_nil]⟩
    · rename_i h0
      split at h
      · cases h
      · rename_i x1 m hb
        obtain ⟨h1, h2, h3, h4, h5⟩ := blk_parts hb
        cases hg : getF f b (a + m) (n - min n 128) with
        | none => rw [hg] at h; cases h
        | some r =>
          obtain ⟨x2, e2⟩ := r
          rw [hg] at h
          injection h with h
          simp only [Prod.mk.injEq] at h
          obtain ⟨rfl, rfl⟩ := h
          rw [List.length_drop] at h4
          obtain ⟨g1, g2, g3, g4, g5⟩ := getF_parts f b (a + m) (n - min n 128) x2 e2 (by omega) hg
          have hne : x1 ++ x2 ≠ [] := by
            intro e
            have := congrArg List.length e
            simp [h1] at this
            omega
          refine ⟨by rw [List.length_append, h1, g1]; omega, ?_, by omega, g4, ?_⟩
          · intro y hy
            rcases List.mem_append.1 hy with hy | hy
            · exact h2 y hy
            · exact g2 y hy
          · rw [putR_cons hne]
            have ht : (x1 ++ x2).take 128 = x1 ∧ (x1 ++ x2).drop 128 = x2 := by
              by_cases h128 : n ≤ 128
              · have : x2 = [] := List.eq_nil_of_length_eq_zero (by omega)
                subst this
                have hx : x1.length ≤ 128 := by omega
                simp [List.take_of_length_le hx, List.drop_eq_nil_of_le hx]
              · have hx : x1.length = 128 := by omega
                constructor
                · rw [List.take_append_of_le_length (by omega), List.take_of_length_le (by omega)]
                · rw [List.drop_append_of_le_length (by omega), List.drop_eq_nil_of_le (by omega)]
                  rfl
            rw [ht.1, ht.2, ← g5, h3, List.take_add, List.append_assoc]
/-- Get's answer. -/
def getZ (b : List UInt8) (n : Int) : List Int × Nat × Int :=
  if n < 0 ∨ 1048576 < n then ([], 0, 1) else
    match getF n.toNat b 0 n.toNat with
    | none => ([], 0, 20)
    | some (x, e) => (x, e, 0)
theorem getZ_put {l : List Int} (hl : l.length ≤ 1048576) (hi : InI l) (rest : List UInt8) : getZ (putR l ++ rest) l.length = (l, (putR l).length, 0) := by
  unfold getZ
  rw [if_neg (by omega)]
  have h := getF_put l.length l [] rest (Nat.le_refl _) hi
  simp only [List.nil_append, List.length_nil, Nat.zero_add] at h
  simp only [Int.toNat_natCast, h]
theorem getZ_cases (b : List UInt8) (n : Int) :
    ((getZ b n).2.2 ≠ 0 ∧ (getZ b n).1 = [] ∧ (getZ b n).2.1 = 0 ∧ ((n < 0 ∨ 1048576 < n) ∧ (getZ b n).2.2 = 1 ∨ ¬ (n < 0 ∨ 1048576 < n) ∧ (getZ b n).2.2 = 20)) ∨
    ((getZ b n).2.2 = 0 ∧ ¬ (n < 0 ∨ 1048576 < n) ∧ ((getZ b n).1.length : Int) = n ∧ InI (getZ b n).1 ∧ (getZ b n).2.1 ≤ b.length ∧ putR (getZ b n).1 = b.take (getZ b n).2.1) := by
  unfold getZ
  by_cases h : n < 0 ∨ 1048576 < n
  · rw [if_pos h]
    exact .inl ⟨by decide, rfl, rfl, .inl ⟨h, rfl⟩⟩
  · rw [if_neg h]
    cases hg : getF n.toNat b 0 n.toNat with
    | none => exact .inl ⟨by decide, rfl, rfl, .inr ⟨h, rfl⟩⟩
    | some r =>
      obtain ⟨x, e⟩ := r
      obtain ⟨h1, h2, h3, h4, h5⟩ := getF_parts _ _ _ _ _ _ (Nat.zero_le _) hg
      refine .inr ⟨rfl, h, ?_, h2, h4, ?_⟩
      · dsimp only
        rw [h1]
        omega
      · simpa using h5
/-- cut short it is not read. -/
theorem getZ_short {b : List UInt8} {n : Int} (h : (getZ b n).2.2 = 0) {c : Nat} (hc : c < (getZ b n).2.1) : (getZ (b.take c) n).2.2 = 20 := by
  rcases getZ_cases b n with ⟨h1, _⟩ | ⟨_, h1, h2, h3, h4, h5⟩
  · exact absurd h h1
  · rcases getZ_cases (b.take c) n with ⟨q1, q2, q3, q4 | q4⟩ | ⟨q0, q1, q2, q3, q4, q5⟩
    · exact absurd q4.1 h1
    · exact q4.2
    · exfalso
      rw [List.length_take] at q4
      rw [List.take_take, Nat.min_eq_left (by omega)] at q5
      have e1 : b = putR (getZ (b.take c) n).1 ++ b.drop (getZ (b.take c) n).2.1 := by rw [q5, List.take_append_drop]
      have hl : (getZ (b.take c) n).1.length ≤ 1048576 := by omega
      have hz := getZ_put hl q3 (b.drop (getZ (b.take c) n).2.1)
      rw [← e1, q2] at hz
      rw [hz] at hc
      dsimp only at hc
      have := congrArg List.length q5
      rw [List.length_take] at this
      omega
end Go.Proofs.YtnjcncidlhllmaaGreat
namespace Go.Proofs.YtnjcncidlhllmaaGreat
set_option linter.unusedVariables false
set_option linter.unusedSimpArgs false
open Go.RowKit

theorem min_take {l : List Int} {k : Nat} (hk : 1 ≤ k) (h : k < l.length) : minL (l.take (k + 1)) = min (minL (l.take k)) (l.getD k 0) := by
  rw [take_snoc_int h, minL_snoc]
  intro e
  have := congrArg List.length e
  rw [List.length_take, List.length_nil] at this
  omega
theorem minN_0 {l : List Nat} (h : l ≠ []) : minL (zN l) = 0 ↔ 0 ∈ l := by
  have hne : zN l ≠ [] := by simpa [zN] using h
  have hpos : ∀ x ∈ zN l, 0 ≤ x := by
    intro x hx
    obtain ⟨u, _, rfl⟩ := List.mem_map.1 hx
    omega
  constructor
  · intro e
    have := minL_mem hne
    rw [e] at this
    obtain ⟨u, hu, e2⟩ := List.mem_map.1 this
    have : u = 0 := by omega
    rwa [this] at hu
  · intro hm
    have h1 := minL_le (l := zN l) 0 (List.mem_map.2 ⟨0, hm, rfl⟩)
    have h2 := hpos _ (minL_mem hne)
    omega

set_option maxRecDepth 100000 in
set_option maxHeartbeats 400000 in
theorem minI_any (A : Option Addr) (n c B : Nat) (l : List Int) (w : World) (hl : l.length = n) (h0 : 0 < n) (hn : n ≤ c) (hc : c ≤ maxLen) (hr : Rd w B A (iz .i64 l)) :
    Calls Tryz.prog 97 #[.slice A n c] w (Ret (.int .i64 (minL l)) w) := by
  unfold maxLen at hc
  obtain ⟨ad, rfl, _, hcell0⟩ := hr.intAt (j := 0) (by omega)
  have HR := hide hr
  have HL := hide hl
  have HM := hide (fun (k : Nat) (hk : 1 ≤ k) (h : k < l.length) => min_take hk h)
  obtain ⟨x0, hx0⟩ : ∃ x, x = l.getD 0 0 := ⟨_, rfl⟩
  have HX0 : Hid (x0 = minL (l.take 1)) := hide (by
    rw [hx0]
    cases l with
    | nil => simp at hl; omega
    | cons y r => rfl)
  rw [← hx0] at hcell0
  rw [show ad.add 0 = ad by simp [Addr.add]] at hcell0
  clear hr hl hx0
  go_enter Tryz.func97, Tryz.ntmps97
  go_wp2
  go_loop [3, 4] (fun m i => ∃ (k : Nat) (y : Int), 1 ≤ k ∧ k ≤ n ∧ i = .int .i64 k ∧ m = .int .i64 y ∧ Hid (y = minL (l.take k))) (fun _ i => n - (intOf i).toNat)
  case atStart => exact ⟨1, x0, by omega, by omega, rfl, rfl, HX0⟩
  case round =>
    obtain ⟨k, y, hk1, hk, rfl, rfl, HY⟩ := hrel
    by_cases hlt : k < n
    · have h1 : k < l.length := by rw [HL.out]; exact hlt
      obtain ⟨ad2, e2, _, hcell⟩ := HR.out.intAt h1
      injection e2 with e2
      subst e2
      have HS := hide (HM.out k hk1 h1)
      rw [← HY.out] at HS
      generalize l.getD k 0 = x at hcell HS
      clear h1
      by_cases hyx : y ≤ x
      · have HE : Hid (y = minL (l.take (k + 1))) := hide (by rw [HS.out]; omega)
        go_wp2
        go_round
        case rel => exact ⟨k + 1, y, by omega, by omega, by go_num, rfl, HE⟩
        case measure => simp [intOf]; omega
      · have HE : Hid (x = minL (l.take (k + 1))) := hide (by rw [HS.out]; omega)
        have hyx2 : x < y := by omega
        clear hyx
        go_wp2
        go_round
        case rel => exact ⟨k + 1, x, by omega, by omega, by go_num, rfl, HE⟩
        case measure => simp [intOf]; omega
    · obtain rfl : k = n := by omega
      have HE : Hid (y = minL l) := hide (by rw [HY.out, ← HL.out, List.take_length])
      go_wp2
      go_ret
      exact ⟨by rw [← HE.out]; rfl, rfl⟩

set_option maxRecDepth 100000 in
set_option maxHeartbeats 400000 in
theorem minU_any (A : Option Addr) (n c B : Nat) (l : List Int) (w : World) (hl : l.length = n) (h0 : 0 < n) (hn : n ≤ c) (hc : c ≤ maxLen) (hr : Rd w B A (iz .u64 l)) :
    Calls Tryz.prog 104 #[.slice A n c] w (Ret (.int .u64 (minL l)) w) := by
  unfold maxLen at hc
  obtain ⟨ad, rfl, _, hcell0⟩ := hr.intAt (j := 0) (by omega)
  have HR := hide hr
  have HL := hide hl
  have HM := hide (fun (k : Nat) (hk : 1 ≤ k) (h : k < l.length) => min_take hk h)
  obtain ⟨x0, hx0⟩ : ∃ x, x = l.getD 0 0 := ⟨_, rfl⟩
  have HX0 : Hid (x0 = minL (l.take 1)) := hide (by
    rw [hx0]
    cases l with
    | nil => simp at hl; omega
    | cons y r => rfl)
  rw [← hx0] at hcell0
  rw [show ad.add 0 = ad by simp [Addr.add]] at hcell0
  clear hr hl hx0
  go_enter Tryz.func104, Tryz.ntmps104
  go_wp2
  go_loop [3, 4] (fun m i => ∃ (k : Nat) (y : Int), 1 ≤ k ∧ k ≤ n ∧ i = .int .i64 k ∧ m = .int .u64 y ∧ Hid (y = minL (l.take k))) (fun _ i => n - (intOf i).toNat)
  case atStart => exact ⟨1, x0, by omega, by omega, rfl, rfl, HX0⟩
  case round =>
    obtain ⟨k, y, hk1, hk, rfl, rfl, HY⟩ := hrel
    by_cases hlt : k < n
    · have h1 : k < l.length := by rw [HL.out]; exact hlt
      obtain ⟨ad2, e2, _, hcell⟩ := HR.out.intAt h1
      injection e2 with e2
      subst e2
      have HS := hide (HM.out k hk1 h1)
      rw [← HY.out] at HS
      generalize l.getD k 0 = x at hcell HS
      clear h1
      by_cases hyx : y ≤ x
      · have HE : Hid (y = minL (l.take (k + 1))) := hide (by rw [HS.out]; omega)
        go_wp2
        go_round
        case rel => exact ⟨k + 1, y, by omega, by omega, by go_num, rfl, HE⟩
        case measure => simp [intOf]; omega
      · have HE : Hid (x = minL (l.take (k + 1))) := hide (by rw [HS.out]; omega)
        have hyx2 : x < y := by omega
        clear hyx
        go_wp2
        go_round
        case rel => exact ⟨k + 1, x, by omega, by omega, by go_num, rfl, HE⟩
        case measure => simp [intOf]; omega
    · obtain rfl : k = n := by omega
      have HE : Hid (y = minL l) := hide (by rw [HY.out, ← HL.out, List.take_length])
      go_wp2
      go_ret
      exact ⟨by rw [← HE.out]; rfl, rfl⟩

set_option maxRecDepth 100000 in
set_option maxHeartbeats 400000 in
theorem clipI_any (A : Option Addr) (n c : Nat) (w : World) (hn : n ≤ c) (hc : c ≤ maxLen) :
    Calls Tryz.prog 105 #[.slice A n c] w (Ret (.slice A n n) w) := by
  unfold maxLen at hc
  go_enter Tryz.func105, Tryz.ntmps105
  go_wp2
  go_ret
  exact ⟨by simp, rfl⟩

/-- a number above another one. -/
theorem above_val {x le : Int} (h1 : -9223372036854775808 ≤ x ∧ x ≤ 9223372036854775807) (h2 : -9223372036854775808 ≤ le ∧ le ≤ 9223372036854775807) (h : le ≤ x) :
    IntKind.u64.wrap (IntKind.u64.wrap x - IntKind.u64.wrap le) = (((x - le).toNat : Nat) : Int) := by
  rw [IntKind.wrap_u64, IntKind.wrap_u64, IntKind.wrap_u64]
  omega
end Go.Proofs.YtnjcncidlhllmaaGreat
namespace Go.Proofs.YtnjcncidlhllmaaGreat
set_option linter.unusedVariables false
set_option linter.unusedSimpArgs false
open Go.RowKit

theorem encF_at : ∀ (f u i : Nat) (h : i < (encF f u).length), u < 2 ^ (7 * (f + 1)) → ((encF f u)[i]).toNat = u / 2 ^ (7 * i) % 128 + (if i + 1 < (encF f u).length then 128 else 0)
  | 0, u, i, h, hu => by
    have hi : i = 0 := by simp [encF] at h; exact h
    subst hi
    have hu' : u < 128 := by simpa using hu
    have e : (if 0 + 1 < (encF 0 u).length then 128 else 0) = 0 := if_neg (by simp [encF])
    rw [e]
    simp only [encF, List.getElem_cons_zero]
    rw [ofNat_toNat (by omega)]
    simp; omega
  | f + 1, u, i, h, hu => by
    by_cases hb : 127 < u
    · have e0 : encF (f + 1) u = UInt8.ofNat (u % 128 + 128) :: encF f (u / 128) := by rw [encF, if_pos hb]
      have hl := (encF_len f (u / 128)).1
      cases i with
      | zero =>
        simp only [e0, List.getElem_cons_zero, List.length_cons]
        rw [ofNat_toNat (by omega), if_pos (by omega)]
        simp
      | succ j =>
        have hj : j < (encF f (u / 128)).length := by rw [e0] at h; simpa using h
        have hu' : u / 128 < 2 ^ (7 * (f + 1)) := by rw [pow7] at hu; omega
        have ih := encF_at f (u / 128) j hj hu'
        simp only [e0, List.getElem_cons_succ, List.length_cons]
        rw [ih, Nat.div_div_eq_div_mul, pow7]
        congr 1
        by_cases hc : j + 1 < (encF f (u / 128)).length
        · rw [if_pos hc, if_pos (by omega)]
        · rw [if_neg hc, if_neg (by omega)]
    · have e0 : encF (f + 1) u = [UInt8.ofNat u] := by rw [encF, if_neg hb]
      have hi : i = 0 := by rw [e0] at h; simpa using h
      subst hi
      simp only [e0, List.getElem_cons_zero, List.length_cons, List.length_nil]
      rw [ofNat_toNat (by omega), if_neg (by omega)]
      simp; omega

theorem encF_more : ∀ (f u i : Nat), 1 ≤ i → i ≤ (encF f u).length → (i < (encF f u).length ↔ (i < f + 1 ∧ 0 < u / 2 ^ (7 * i)))
  | 0, u, i, h1, h2 => by
    have e : (encF 0 u).length = 1 := by simp [encF]
    rw [e] at h2 ⊢
    omega
  | f + 1, u, i, h1, h2 => by
    obtain ⟨j, rfl⟩ : ∃ j, i = j + 1 := ⟨i - 1, by omega⟩
    by_cases hb : 127 < u
    · have e0 : encF (f + 1) u = UInt8.ofNat (u % 128 + 128) :: encF f (u / 128) := by rw [encF, if_pos hb]
      have hl := (encF_len f (u / 128)).1
      rw [e0, List.length_cons] at h2 ⊢
      cases j with
      | zero =>
        have : 0 < u / 2 ^ (7 * (0 + 1)) := by simp; omega
        constructor
        · intro _; exact ⟨by omega, this⟩
        · intro _; omega
      | succ j =>
        have ih := encF_more f (u / 128) (j + 1) (by omega) (by omega)
        rw [Nat.div_div_eq_div_mul, ← pow7] at ih
        constructor
        · intro h; have := ih.1 (by omega); exact ⟨by omega, this.2⟩
        · intro h; have := ih.2 ⟨by omega, h.2⟩; omega
    · have e0 : encF (f + 1) u = [UInt8.ofNat u] := by rw [encF, if_neg hb]
      rw [e0, List.length_cons, List.length_nil] at h2 ⊢
      have : j = 0 := by omega
      subst this
      have : u / 2 ^ (7 * (0 + 1)) = 0 := by simp; omega
      rw [this]
      omega

theorem u64_pow {u : Nat} (h : u < 18446744073709551616) : u < 2 ^ (7 * (9 + 1)) := by
  have e : (2 : Nat) ^ (7 * (9 + 1)) = 1180591620717411303424 := by decide
  rw [e]; omega
theorem enc_at {u i : Nat} (hu : u < 18446744073709551616) (h : i < (enc u).length) : ((enc u).getD i 0).toNat = u / 2 ^ (7 * i) % 128 + (if i + 1 < (enc u).length then 128 else 0) := by
  have := encF_at 9 u i h (u64_pow hu)
  simp only [List.getD_eq_getElem?_getD, List.getElem?_eq_getElem h, Option.getD_some]
  exact this
theorem enc_more {u i : Nat} (h1 : 1 ≤ i) (h2 : i ≤ (enc u).length) : (i < (enc u).length ↔ (i < 10 ∧ 0 < u / 2 ^ (7 * i))) := encF_more 9 u i h1 h2
theorem enc_len (u : Nat) : 1 ≤ (enc u).length ∧ (enc u).length ≤ 10 := encF_len 9 u

/-- how many bytes above 127 stand ahead. -/
def lead : List UInt8 → Nat
  | [] => 0
  | b :: r => if 127 < b.toNat then lead r + 1 else 0
/-- the value of groups. -/
def gval : List UInt8 → Nat
  | [] => 0
  | b :: r => b.toNat % 128 + 128 * gval r

theorem lead_encF : ∀ (f u : Nat) (rest : List UInt8), u < 2 ^ (7 * (f + 1)) → lead (encF f u ++ rest) + 1 = (encF f u).length
  | 0, u, rest, hu => by
    have hu' : u < 128 := by simpa using hu
    simp only [encF, List.cons_append, List.nil_append, lead]
    rw [ofNat_toNat (by omega), if_neg (by omega)]
    rfl
  | f + 1, u, rest, hu => by
    by_cases hb : 127 < u
    · rw [encF, if_pos hb, List.cons_append, lead, ofNat_toNat (by omega), if_pos (by omega), List.length_cons, lead_encF f (u / 128) rest (by rw [pow7] at hu; omega)]
    · rw [encF, if_neg hb, List.cons_append, lead, ofNat_toNat (by omega), if_neg (by omega)]
      rfl
theorem gval_encF : ∀ (f u : Nat), u < 2 ^ (7 * (f + 1)) → gval (encF f u) = u
  | 0, u, hu => by
    have hu' : u < 128 := by simpa using hu
    simp only [encF, gval]
    rw [ofNat_toNat (by omega)]
    omega
  | f + 1, u, hu => by
    by_cases hb : 127 < u
    · rw [encF, if_pos hb, gval, ofNat_toNat (by omega), gval_encF f (u / 128) (by rw [pow7] at hu; omega)]
      omega
    · rw [encF, if_neg hb, gval, ofNat_toNat (by omega)]
      simp only [gval]
      omega

theorem dec_parts {bs : List UInt8} {u k : Nat} (h : dec 0 0 bs = some (u, k)) : lead bs + 1 = k ∧ gval (bs.take k) = u ∧ u < 18446744073709551616 ∧ k ≤ 10 ∧ k ≤ bs.length ∧ enc u = bs.take k := by
  have hu := dec_lt _ 0 0 u k (by decide) h
  have he := enc_dec h
  have hl := enc_len u
  have hb : bs = enc u ++ bs.drop k := by rw [he, List.take_append_drop]
  have hk : (enc u).length = k ∧ k ≤ bs.length := by
    have h2 := dec_enc u hu (bs.drop k)
    rw [← hb, h] at h2
    injection h2 with h2
    injection h2 with _ h2
    refine ⟨h2.symm, ?_⟩
    have : (bs.take k).length = k := by rw [← he]; exact h2.symm
    rw [List.length_take] at this
    omega
  refine ⟨?_, ?_, hu, by omega, hk.2, he⟩
  · have := lead_encF 9 u (bs.drop k) (u64_pow hu)
    rw [hb]
    rw [← hk.1]
    rw [hk.1]
    exact this.trans hk.1
  · rw [← he]; exact gval_encF 9 u (u64_pow hu)

theorem ref_none1 {bs : List UInt8} (h : bs.length ≤ lead bs ∨ 9 < lead bs) : dec 0 0 bs = none := by
  cases hd : dec 0 0 bs with
  | none => rfl
  | some x =>
    obtain ⟨h1, _, _, h4, h5, _⟩ := dec_parts (u := x.1) (k := x.2) hd
    omega
theorem ref_none2 {bs : List UInt8} (h : enc (gval (bs.take (lead bs + 1)) % 18446744073709551616) ≠ bs.take (lead bs + 1)) : dec 0 0 bs = none := by
  cases hd : dec 0 0 bs with
  | none => rfl
  | some x =>
    obtain ⟨h1, h2, h3, h4, h5, h6⟩ := dec_parts (u := x.1) (k := x.2) hd
    rw [h1, h2, Nat.mod_eq_of_lt h3] at h
    exact absurd h6 h
theorem ref_some {bs : List UInt8} {u k : Nat} (hu : u < 18446744073709551616) (hk : k ≤ bs.length) (h : enc u = bs.take k) : dec 0 0 bs = some (u, k) := by
  have h2 := dec_enc u hu (bs.drop k)
  rw [h, List.take_append_drop] at h2
  rw [h2]
  congr 2
  rw [List.length_take]; omega

theorem lead_step {bs : List UInt8} {k : Nat} (h : k < bs.length) (hb : 127 < (bs.getD k 0).toNat) (hk : lead bs = k + lead (bs.drop k)) : lead bs = (k + 1) + lead (bs.drop (k + 1)) := by
  rw [hk, List.drop_eq_getElem_cons h, lead]
  have e : bs.getD k 0 = bs[k] := by simp [List.getElem?_eq_getElem h]
  rw [e] at hb
  rw [if_pos hb]
  omega
theorem lead_stop {bs : List UInt8} {k : Nat} (h : bs.length ≤ k ∨ ¬ 127 < (bs.getD k 0).toNat) (hk : lead bs = k + lead (bs.drop k)) : lead bs = k := by
  by_cases hl : bs.length ≤ k
  · rw [hk, List.drop_eq_nil_of_le hl]; rfl
  · have hl' : k < bs.length := by omega
    have e : bs.getD k 0 = bs[k] := by simp [List.getElem?_eq_getElem hl']
    have hb : ¬ 127 < bs[k].toNat := by rw [e] at h; omega
    rw [hk, List.drop_eq_getElem_cons hl', lead, if_neg hb]
    rfl

/-- the groups of bytes j .. k, the last one first. -/
def gv (bs : List UInt8) (k j : Nat) : Nat := gval ((bs.take k).drop j) % 18446744073709551616
theorem gv_end (bs : List UInt8) (k : Nat) : gv bs k k = 0 := by
  unfold gv
  rw [List.drop_eq_nil_of_le (by simp; omega)]
  rfl
theorem gv_step {bs : List UInt8} {k j : Nat} (hj : j < k) (hk : k ≤ bs.length) :
    bits .or .u64 (IntKind.u64.wrap ((gv bs k (j + 1) : Int) * 128)) (((bs.getD j 0).toNat % 128 : Nat) : Int) = (gv bs k j : Int) := by
  have hj' : j < bs.length := by omega
  have e : bs.getD j 0 = bs[j] := by simp [List.getElem?_eq_getElem hj']
  have hd : (bs.take k).drop j = bs[j] :: (bs.take k).drop (j + 1) := by
    rw [List.drop_eq_getElem_cons (by simp; omega)]
    simp
  rw [e]
  unfold gv
  rw [hd, gval]
  generalize gval ((bs.take k).drop (j + 1)) = y
  have hx : bs[j].toNat % 128 < 128 := Nat.mod_lt _ (by omega)
  generalize bs[j].toNat % 128 = x at hx
  have e1 : IntKind.u64.wrap (((y % 18446744073709551616 : Nat) : Int) * 128) = ((y * 128 % 18446744073709551616 : Nat) : Int) := by rw [IntKind.wrap_u64]; omega
  rw [e1, u64_or_nat _ _ (by omega) (by omega)]
  have e2 : y * 128 % 18446744073709551616 = y % 144115188075855872 * 2 ^ 7 := by omega
  rw [e2, Nat.or_comm, or_shift (k := 7) (by omega)]
  omega
end Go.Proofs.YtnjcncidlhllmaaGreat
namespace Go.Proofs.YtnjcncidlhllmaaGreat
set_option linter.unusedVariables false
set_option linter.unusedSimpArgs false
open Go.RowKit

set_option maxRecDepth 100000 in
set_option maxHeartbeats 800000 in
theorem refUint_any (u : Nat) (w : World) (hu : u < 18446744073709551616) :
    Calls Tryz.prog 92 #[.int .u64 u] w (GivesB w (enc u)) := by
  have HM := hide (fun i => @enc_more u i)
  have HA := hide (fun i => @enc_at u i hu)
  have hl := enc_len u
  obtain ⟨i0, hi, hz, hsz, hby⟩ := info_parts Tryz.info5
  obtain ⟨L, HL⟩ : ∃ L, Hid ((enc u).length = L) := ⟨_, hide rfl⟩
  rw [HL.out] at hl HM HA
  obtain ⟨hl1, hl2⟩ := hl
  generalize enc u = E at HL HM HA
  go_enter Tryz.func92, Tryz.ntmps92
  go_wp2
  go_loop [3] (fun i => ∃ k : Nat, 1 ≤ k ∧ k ≤ L ∧ i = .int .i64 k) (fun i => 10 - (intOf i).toNat)
  case atStart => exact ⟨1, by omega, hl1, rfl⟩
  case round =>
    obtain ⟨k, hk1, hkL, rfl⟩ := hrel
    have hm := HM.out k hk1 hkL
    have hp : (0 : Int) < 2 ^ (7 * k) := Int.pow_pos (by omega)
    by_cases hlt : k < L
    · have h10 := (hm.1 hlt).1
      have hgt := (hm.1 hlt).2
      clear hm
      have hg2 : (0 : Int) < (u : Int) / 2 ^ (7 * k) := by
        have : ((u / 2 ^ (7 * k) : Nat) : Int) = (u : Int) / 2 ^ (7 * k) := by simp
        omega
      clear hgt
      go_wp2
      go_round
      case rel => exact ⟨k + 1, by omega, by omega, by go_num⟩
      case measure => simp [intOf]; omega
    · obtain rfl : k = L := by omega
      have hstop : (((k : Int) < 10 ∧ decide ((0 : Int) < (u : Int) / 2 ^ (7 * k)) = false) ∨ ¬ (k : Int) < 10) := by
        by_cases h10 : k < 10
        · refine .inl ⟨by omega, ?_⟩
          have : ¬ 0 < u / 2 ^ (7 * k) := fun h => hlt (hm.2 ⟨h10, h⟩)
          have e : ((u / 2 ^ (7 * k) : Nat) : Int) = (u : Int) / 2 ^ (7 * k) := by simp
          simp only [decide_eq_false_iff_not]
          omega
        · exact .inr (by omega)
      clear hm hlt
      rcases hstop with ⟨h10, hz0⟩ | h10
      all_goals
        go_wp2
        go_loopw [4, 5] (fun v i wr => ∃ j : Nat, j ≤ k ∧ i = .int .i64 j ∧ Hid (Own wr w.heap.size 5 1 v j (by8 (E.take j))) ∧ Hid (Fr No w wr)) (fun _ i _ => k - (intOf i).toNat)
        case atStart => exact ⟨0, by omega, rfl, hide (Own.nil _ _ _ _), hide (Fr.refl _ _)⟩
        case round =>
          obtain ⟨j, hj, rfl, HOw, HFr⟩ := hrel
          have hgw := HFr.out.size
          by_cases hlt : j < k
          · have hat := HA.out j hlt
            have hsn := take_snoc8 (l := E) (k := j) (by rw [HL.out]; exact hlt)
            have HSN := hide hsn
            clear hsn
            generalize E.getD j 0 = b at hat HSN
            by_cases hmore : j + 1 < k
            · rw [if_pos hmore] at hat
              have hb : (u : Int) / 2 ^ (7 * j) % 128 + 128 = (b.toNat : Int) := by rw [hat]; simp
              clear hat
              have HS := hide (Src.one (P := Tryz.prog) wr (e := 5) Tryz.underlying25 (.int .u8 b.toNat) rfl)
              have HOw' := hide (HOw.out.fr0 ((Fr.refl No wr).alloc (.cells #[.int .u8 b.toNat] 5)))
              have b1 : (j + 1) * 1 ≤ 140737488355328 := by omega
              have b2 : j + 1 ≤ maxLen := by unfold maxLen; omega
              have b3 : w.heap.size ≤ (wr.alloc (.cells #[.int .u8 b.toNat] 5)).heap.size := by simp; omega
              go_wp2_with (at_builtin; refine wpList_append_gen _ rfl (.tmp 37) (.tmp 39) 25 25 rfl w.heap.size 5 i0 (.int .u8 0) 1 1 Tryz.underlying25 hi hz hsz hby rfl u4 j (by8 (E.take j)) rfl HOw'.out _ 1 [.int .u8 b.toNat] rfl HS.out b1 b2 b3 ?_; intro v' w' hown hfr hat; have HOn := hide hown; have HFn := hide hfr; clear hown hfr hat)
              go_roundw
              case rel => exact ⟨j + 1, by omega, by go_num, hide (by rw [HSN.out, by8_append]; exact HOn.out), hide ((HFr.out.alloc _).own HFn.out (fun g hg => .inl (HOw.out.lt g hg).1))⟩
              case measure => simp [intOf]; omega
            · rw [if_neg hmore] at hat
              have hb : (u : Int) / 2 ^ (7 * j) % 128 = (b.toNat : Int) := by rw [hat]; simp
              clear hat
              have HS := hide (Src.one (P := Tryz.prog) wr (e := 5) Tryz.underlying25 (.int .u8 b.toNat) rfl)
              have HOw' := hide (HOw.out.fr0 ((Fr.refl No wr).alloc (.cells #[.int .u8 b.toNat] 5)))
              have b1 : (j + 1) * 1 ≤ 140737488355328 := by omega
              have b2 : j + 1 ≤ maxLen := by unfold maxLen; omega
              have b3 : w.heap.size ≤ (wr.alloc (.cells #[.int .u8 b.toNat] 5)).heap.size := by simp; omega
              go_wp2_with (at_builtin; refine wpList_append_gen _ rfl (.tmp 37) (.tmp 39) 25 25 rfl w.heap.size 5 i0 (.int .u8 0) 1 1 Tryz.underlying25 hi hz hsz hby rfl u4 j (by8 (E.take j)) rfl HOw'.out _ 1 [.int .u8 b.toNat] rfl HS.out b1 b2 b3 ?_; intro v' w' hown hfr hat; have HOn := hide hown; have HFn := hide hfr; clear hown hfr hat)
              go_roundw
              case rel => exact ⟨j + 1, by omega, by go_num, hide (by rw [HSN.out, by8_append]; exact HOn.out), hide ((HFr.out.alloc _).own HFn.out (fun g hg => .inl (HOw.out.lt g hg).1))⟩
              case measure => simp [intOf]; omega
          · go_wp2
            go_ret
            have hjk : j = k := by omega
            refine ⟨_, rfl, ?_, HFr.out⟩
            have h := HOw.out
            rw [hjk, List.take_of_length_le (by rw [HL.out]; omega)] at h
            rw [HL.out]
            exact h

end Go.Proofs.YtnjcncidlhllmaaGreat
namespace Go.Proofs.YtnjcncidlhllmaaGreat
set_option linter.unusedVariables false
set_option linter.unusedSimpArgs false
open Go.RowKit

set_option maxRecDepth 100000 in
set_option maxHeartbeats 400000 in
theorem turned_any (n : Int) (w : World) (h1 : -9223372036854775808 ≤ n) (h2 : n ≤ 9223372036854775807) :
    Calls Tryz.prog 144 #[.int .i64 n] w (Ret (.int .u64 (zz n)) w) := by
  by_cases h0 : 0 ≤ n
  · have HZ := hide (show (zz n : Int) = IntKind.u64.wrap (2 * IntKind.u64.wrap n) by
      unfold zz
      rw [if_pos h0, IntWalk.u64_in n (by omega), IntWalk.u64_in _ (by omega)]
      omega)
    go_enter Tryz.func144, Tryz.ntmps144
    go_wp2
    go_ret
    exact ⟨by rw [HZ.out]; first | rfl | (simp [IntKind.wrap_u64]; omega), rfl⟩
  · have HZ := hide (show (zz n : Int) = -2 * n - 1 by
      unfold zz
      rw [if_neg h0]
      omega)
    go_enter Tryz.func144, Tryz.ntmps144
    go_wp2
    go_ret
    exact ⟨by rw [HZ.out]; congr 2; simp [IntKind.wrap_u64]; omega, rfl⟩

end Go.Proofs.YtnjcncidlhllmaaGreat
namespace Go.Proofs.YtnjcncidlhllmaaGreat
set_option linter.unusedVariables false
set_option linter.unusedSimpArgs false
open Go.RowKit

theorem min_step {l : List Int} {k : Nat} (h : k < l.length) : minL (l.take (max (k + 1) 1)) = min (minL (l.take (max k 1))) (l.getD k 0) := by
  rcases Nat.eq_zero_or_pos k with rfl | hk
  · cases l with
    | nil => simp at h
    | cons y r => simp [minL]
  · rw [show max (k + 1) 1 = k + 1 by omega, show max k 1 = k by omega, min_take hk h]
theorem aboveL_at {l : List Int} {k : Nat} (h : k < l.length) : (aboveL l).getD k 0 = (l.getD k 0 - minL l).toNat := by
  unfold aboveL
  simp [List.getElem?_eq_getElem h]
theorem InI.at {l : List Int} (h : InI l) {k : Nat} (hk : k < l.length) : -9223372036854775808 ≤ l.getD k 0 ∧ l.getD k 0 ≤ 9223372036854775807 := by
  have : l.getD k 0 = l[k] := by simp [List.getElem?_eq_getElem hk]
  rw [this]
  exact h _ (List.getElem_mem hk)
theorem minL_at {l : List Int} {k : Nat} (hk : k < l.length) : minL l ≤ l.getD k 0 := by
  have : l.getD k 0 = l[k] := by simp [List.getElem?_eq_getElem hk]
  rw [this]
  exact minL_le _ (List.getElem_mem hk)
theorem above_snoc {l : List Int} {k : Nat} (h : k < l.length) : nz ((aboveL l).take k) ++ [.int .u64 (((l.getD k 0 - minL l).toNat : Nat) : Int)] = nz ((aboveL l).take (k + 1)) := by
  rw [take_snocN (by rw [aboveL_len]; exact h), nz_append, aboveL_at h]
  rfl
theorem psz_le {w n : Nat} (hw : w ≤ 64) : psz w n ≤ 8 * n + 1 := by
  have : w * n ≤ 64 * n := Nat.mul_le_mul_right _ hw
  unfold psz
  omega
theorem wid_above {l : List Int} (h : InI l) : wid (aboveL l) ≤ 64 := wid_64 (aboveL_64 h)

set_option maxRecDepth 100000 in
set_option maxHeartbeats 1000000 in
theorem refOne_any (A : Option Addr) (n c B : Nat) (l : List Int) (w : World) (hl : l.length = n) (h0 : 0 < n) (hi : InI l) (hn : n ≤ c) (hc : c ≤ maxLen) (hb : n ≤ 1048576) (hB : B ≤ w.heap.size) (hr : Rd w B A (iz .i64 l)) :
    Calls Tryz.prog 119 #[.slice A n c] w (GivesB w (oneB l)) := by
  obtain ⟨i0, hi0, hz, hsz, hby⟩ := info_parts Tryz.infoKU64
  obtain ⟨j0, hj0, jz, jsz, jby⟩ := info_parts Tryz.info5
  unfold maxLen at hc
  obtain ⟨ad, rfl, _, hcell0⟩ := hr.intAt (j := 0) (by omega)
  rw [show ad.add 0 = ad by simp [Addr.add]] at hcell0
  have HR := hide hr
  have HL := hide hl
  have HI := hide hi
  obtain ⟨x0, hx0⟩ : ∃ x, x = l.getD 0 0 := ⟨_, rfl⟩
  have HX0 : Hid (x0 = minL (l.take (max 0 1))) := hide (by
    rw [hx0]
    cases l with
    | nil => simp at hl; omega
    | cons y r => rfl)
  rw [← hx0] at hcell0
  obtain ⟨le, hle⟩ : ∃ m, m = minL l := ⟨_, rfl⟩
  have HLe := hide hle
  have hle1 : -9223372036854775808 ≤ le ∧ le ≤ 9223372036854775807 := by rw [hle]; exact minL_in hi
  clear hr hl hx0 hi hle
  go_enter Tryz.func119, Tryz.ntmps119
  go_wp2
  go_loop [3, 4] (fun m i => ∃ (k : Nat) (y : Int), k ≤ n ∧ i = .int .i64 k ∧ m = .int .i64 y ∧ Hid (y = minL (l.take (max k 1)))) (fun _ i => n - (intOf i).toNat)
  case atStart => exact ⟨0, x0, by omega, rfl, rfl, HX0⟩
  case round =>
    obtain ⟨k, y, hk, rfl, rfl, HY⟩ := hrel
    by_cases hlt : k < n
    · have h1 : k < l.length := by rw [HL.out]; exact hlt
      obtain ⟨ad2, e2, _, hcell⟩ := HR.out.intAt h1
      injection e2 with e2
      subst e2
      have HS := hide (min_step h1)
      rw [← HY.out] at HS
      generalize l.getD k 0 = x at hcell HS
      clear h1
      by_cases hyx : y ≤ x
      · have HE : Hid (y = minL (l.take (max (k + 1) 1))) := hide (by rw [HS.out]; omega)
        go_wp2
        go_round
        case rel => exact ⟨k + 1, y, by omega, by go_num, rfl, HE⟩
        case measure => simp [intOf]; omega
      · have HE : Hid (x = minL (l.take (max (k + 1) 1))) := hide (by rw [HS.out]; omega)
        have hyx2 : x < y := by omega
        clear hyx
        go_wp2
        go_round
        case rel => exact ⟨k + 1, x, by omega, by go_num, rfl, HE⟩
        case measure => simp [intOf]; omega
    · obtain rfl : k = n := by omega
      obtain rfl : y = le := by rw [HY.out, HLe.out, show max k 1 = k by omega, ← HL.out, List.take_length]
      clear hlt hcell0
      go_wp2
      go_loopw [5, 6] (fun v i wr => ∃ j : Nat, j ≤ k ∧ i = .int .i64 j ∧ Hid (Own wr w.heap.size 79 1 v j (nz ((aboveL l).take j))) ∧ Hid (Fr No w wr)) (fun _ i _ => k - (intOf i).toNat)
      case atStart => exact ⟨0, by omega, rfl, hide (Own.nil _ _ _ _), hide (Fr.refl _ _)⟩
      case round =>
        obtain ⟨j, hj, rfl, HOw, HFr⟩ := hrel
        have hgw := HFr.out.size
        by_cases hlt : j < k
        · have h1 : j < l.length := by rw [HL.out]; exact hlt
          obtain ⟨ad2, e2, _, hcell⟩ := (HR.out.fr0 HFr.out).intAt h1
          injection e2 with e2
          subst e2
          have hx := HI.out.at h1
          have hmx := minL_at h1
          rw [← HLe.out] at hmx
          have HS := hide (above_snoc h1)
          rw [← HLe.out] at HS
          generalize l.getD j 0 = x at hcell HS hx hmx
          have HV := above_val hx hle1 hmx
          obtain ⟨u, hu⟩ : ∃ u, u = (x - y).toNat := ⟨_, rfl⟩
          rw [← hu] at HV HS
          clear h1 hu
          have HSr := hide (Src.one (P := Tryz.prog) wr (e := 79) Tryz.underlying129 (.int .u64 (u : Nat)) rfl)
          have HOw' := hide (HOw.out.fr0 ((Fr.refl No wr).alloc (.cells #[.int .u64 (u : Nat)] 79)))
          have b1 : (j + 1) * 8 ≤ 140737488355328 := by omega
          have b2 : j + 1 ≤ maxLen := by unfold maxLen; omega
          have b3 : w.heap.size ≤ (wr.alloc (.cells #[.int .u64 (u : Nat)] 79)).heap.size := by simp; omega
          go_wp2_with (first | (at_builtin; refine wpList_append_gen _ rfl (.tmp 34) (.tmp 43) 129 129 rfl w.heap.size 79 i0 (.int .u64 0) 1 8 Tryz.underlying129 hi0 hz hsz hby rfl u5 j (nz ((aboveL l).take j)) rfl HOw'.out _ 1 [.int .u64 (u : Nat)] rfl HSr.out b1 b2 b3 ?_; intro v1 w1 hown hfr hat; have HF1 : Hid (Fr No w w1) := hide ((HFr.out.alloc _).own hfr (fun g hg => .inl (HOw.out.lt g hg).1)); have HOn : Hid (Own w1 w.heap.size 79 1 v1 (j + 1) (nz ((aboveL l).take (j + 1)))) := hide (by rw [← HS.out]; exact hown); clear hown hfr hat))
          go_roundw
          case rel => exact ⟨j + 1, by omega, by go_num, HOn, HF1⟩
          case measure => simp [intOf]; omega
        · obtain rfl : j = k := by omega
          clear hlt
          have hal : (aboveL l).length = j := by rw [aboveL_len, HL.out]
          have hal2 := hide hal
          have hab := HOw.out
          rw [List.take_of_length_le (by rw [hal]; exact Nat.le_refl _)] at hab
          obtain ⟨A2, c2, rfl, q1, q2, _⟩ := hab.form
          have HRa := hide hab.rd
          have H64 := hide (aboveL_64 HI.out)
          have HOA := hide hab
          obtain ⟨W, hW⟩ : ∃ W, W = wid (aboveL l) := ⟨_, rfl⟩
          have HWd := hide (refWidth_any A2 j c2 _ (aboveL l) wr hal H64.out q1 q2 HRa.out)
          rw [← hW] at HWd
          have hW64 : W ≤ 64 := by rw [hW]; exact wid_above HI.out
          have HTu := hide (fun w => turned_any y w hle1.1 hle1.2)
          have hzz := zz_lt hle1.1 hle1.2
          have HE1 : Hid (oneB l = enc (zz y) ++ [UInt8.ofNat W] ++ packed W (aboveL l)) := hide (by unfold oneB; rw [← HLe.out, ← hW])
          have HQ2 := hide q2
          have HWW := hide hW
          clear hW hab hal q2
          generalize zz y = Z at HTu hzz HE1
          have HUi := hide (fun w => refUint_any Z w hzz)
          have hel := enc_len Z
          have HEL := hide hel.2
          generalize enc Z = E at HUi HE1 hel HEL
          obtain ⟨en, hen⟩ : ∃ k, k = E.length := ⟨_, rfl⟩
          have HEn := hide hen
          rw [← hen] at hel
          clear hen
          have HBW := hide (ofNat_toNat (x := W) (by omega))
          have hpl : (packed W (aboveL l)).length ≤ 8388609 := by rw [packed_len, hal2.out]; have := psz_le (n := j) hW64; omega
          obtain ⟨pn, hpn⟩ : ∃ k, k = (packed W (aboveL l)).length := ⟨_, rfl⟩
          rw [← hpn] at hpl
          have HPn := hide hpn
          clear hpn
          go_wp2_with (first
            | (go_at_call 143; refine HWd.out.mono ?_; rintro en1 w1 ⟨rfl, rfl⟩)
            | (go_at_call 144; refine (HTu.out _).mono ?_; rintro en1 w1 ⟨rfl, rfl⟩)
            | (go_at_call 92; refine (HUi.out _).mono ?_; rintro en1 w1 ⟨v1, rfl, hown, hfr⟩; have HO1 := hide hown; have HF1 := hide hfr; rw [← HEn.out] at HO1; have hg1 := hfr.size; have HS1 := hide (Src.one (P := Tryz.prog) w1 (e := 5) Tryz.underlying25 (.int .u8 (W : Nat)) rfl); have HO1' := hide (HO1.out.fr0 ((Fr.refl No w1).alloc (.cells #[.int .u8 (W : Nat)] 5))); have b1 : (en + 1) * 1 ≤ 140737488355328 := (by omega); have b2 : en + 1 ≤ maxLen := (by unfold maxLen; omega); have b3 : wr.heap.size ≤ (w1.alloc (.cells #[.int .u8 (W : Nat)] 5)).heap.size := (by simp; omega); clear hown hfr)
            | (at_builtin; refine wpList_append_gen _ rfl (.tmp 50) (.tmp 53) 25 25 rfl wr.heap.size 5 j0 (.int .u8 0) 1 1 Tryz.underlying25 hj0 jz jsz jby rfl v1 en (by8 E) rfl HO1'.out _ 1 [.int .u8 (W : Nat)] rfl HS1.out b1 b2 b3 ?_; intro v2 w2 hown hfr hat; have HO2 := hide hown; have HF2 : Hid (Fr No wr w2) := hide ((HF1.out.alloc _).own hfr (fun g hg => .inl (HO1.out.lt g hg).1)); have hg2 := HF2.out.size; have HBi := hide (refBits_any A2 j c2 wr.heap.size W (aboveL l) w2 hal2.out H64.out q1 HQ2.out (by omega) hg2 (HRa.out.fr0 HF2.out)); rw [show bitsZ (aboveL l) W = packed W (aboveL l) by unfold bitsZ; rw [if_pos (by omega)]; rfl] at HBi; clear hown hfr hat)
            | (go_at_call 145; refine HBi.out.mono ?_; rintro en1 w3 ⟨v3, rfl, hown, hfr⟩; rw [← HPn.out] at hown; obtain ⟨A3, c3, rfl, _⟩ := hown.form; have HS3 := hide (Src.ofRd (P := Tryz.prog) (size := 1) w3 Tryz.underlying25 A3 pn c3 (by8 (packed W (aboveL l))) (by rw [by8_length, HPn.out]; omega) (by omega) hown.rd (by8_one _)); have HO3 := hide (HO2.out.fr0 hfr); have HF3 := hide (HF2.out.tr hfr); have hg3 := hfr.size; have c1 : (en + 1 + pn) * 1 ≤ 140737488355328 := (by omega); have c2' : en + 1 + pn ≤ maxLen := (by unfold maxLen; omega); have c3' : wr.heap.size ≤ w3.heap.size := (by omega); clear hown hfr)
            | (at_builtin; refine wpList_append_gen _ rfl (.tmp 55) (.tmp 58) 25 25 rfl wr.heap.size 5 j0 (.int .u8 0) 1 1 Tryz.underlying25 hj0 jz jsz jby rfl v2 (en + 1) _ rfl HO3.out _ pn (by8 (packed W (aboveL l))) rfl HS3.out c1 c2' c3' ?_; intro v4 w4 hown hfr hat; have HO4 := hide hown; have HF4 : Hid (Fr No wr w4) := hide (HF3.out.own hfr (fun g hg => .inl (HO3.out.lt g hg).1)); clear hown hfr hat))
          go_ret
          refine ⟨_, rfl, ?_, HFr.out.tr HF4.out⟩
          have h := HO4.out.lower hgw
          rw [HE1.out]
          have e8 : by8 [UInt8.ofNat W] = [.int .u8 (W : Nat)] := by simp only [by8, List.map_cons, List.map_nil, HBW.out]
          rw [by8_append, by8_append, e8]
          have el : (E ++ [UInt8.ofNat W] ++ packed W (aboveL l)).length = en + 1 + pn := by simp [HEn.out, HPn.out]; omega
          rw [el]
          exact h
end Go.Proofs.YtnjcncidlhllmaaGreat
namespace Go.Proofs.YtnjcncidlhllmaaGreat
set_option linter.unusedVariables false
set_option linter.unusedSimpArgs false
open Go.RowKit

def bytesR (bs : List UInt8) (x : Int) : Option (List UInt8) := if x < 0 ∨ (bs.length : Int) < x then none else some (bs.take x.toNat)

def bytesS (bs : List UInt8) (a : Nat) (e x : Int) : List UInt8 × Nat × Int :=
  if e = 0 then (match bytesR (bs.drop a) x with | none => ([], a, 20) | some s => (s, a + x.toNat, 0)) else ([], a, e)

end Go.Proofs.YtnjcncidlhllmaaGreat
namespace Go.Proofs.YtnjcncidlhllmaaGreat
set_option linter.unusedVariables false
set_option linter.unusedSimpArgs false
open Go.RowKit

theorem or_step {v g k : Nat} (hv : v < 2 ^ (7 * k)) (hk : k ≤ 9) (hg : g < 128) (h9 : k = 9 → g ≤ 1) :
    bits .or .u64 (v : Int) (IntKind.u64.wrap ((g : Int) * 2 ^ (7 * k))) = ((v + g * 2 ^ (7 * k) : Nat) : Int) := by
  have hlt : v + g * 2 ^ (7 * k) < 18446744073709551616 := by
    by_cases h : k = 9
    · subst h
      have := h9 rfl
      have e : (2 : Nat) ^ (7 * 9) = 9223372036854775808 := by decide
      rw [e] at hv ⊢
      omega
    · have := acc_lt hv hg
      have h2 : 2 ^ (7 * (k + 1)) ≤ 2 ^ 63 := Nat.pow_le_pow_right (by omega) (by omega)
      omega
  have e1 : (g : Int) * 2 ^ (7 * k) = ((g * 2 ^ (7 * k) : Nat) : Int) := by simp
  rw [e1, IntWalk.u64_in _ (by omega), u64_or_nat _ _ (by omega) (by omega), or_shift hv]

set_option maxRecDepth 100000 in
set_option maxHeartbeats 800000 in
theorem number_any (r : Value) (A : Option Addr) (n c B : Nat) (bs : List UInt8) (w : World) (hl : bs.length = n) (hn : n ≤ c) (hc : c ≤ maxLen) (hr : Rd w B A (by8 bs)) :
    Calls Tryz.prog 80 #[r, .slice A n c] w (Ret (numV (dec 0 0 bs)) w) := by
  unfold maxLen at hc
  have HR := hide hr; clear hr
  have HL := hide hl; clear hl
  by_cases h10 : n ≤ 10
  all_goals
    go_enter Tryz.func80, Tryz.ntmps80
    go_wp2
    go_loop [6, 16] (fun a i => ∃ k v : Nat, k ≤ n ∧ k ≤ 10 ∧ Hid (v < 2 ^ (7 * k)) ∧ i = .int .i64 k ∧ a = .int .u64 v ∧ Hid (dec 0 0 bs = dec k v (bs.drop k))) (fun _ i => n - (intOf i).toNat)
    case atStart => exact ⟨0, 0, by omega, by omega, hide (by decide), rfl, rfl, hide rfl⟩
    case round =>
      obtain ⟨k, v, hk, hk10, HV, rfl, rfl, HD⟩ := hrel
      by_cases hlt : k < n ∧ k < 10
      · obtain ⟨hlt, hlt10⟩ := hlt
        have hkl : k < bs.length := by rw [HL.out]; exact hlt
        obtain ⟨ad, rfl, _, hcell⟩ := HR.out.byte hkl
        have s1 := hide (@dec_bad9 bs k v hkl)
        have s2 := hide (@dec_stop bs k v hkl hlt10)
        have s3 := hide (@dec_bad0 bs k v hkl)
        have s4 := hide (@dec_more bs k v hkl hlt10)
        generalize bs.getD k 0 = b at hcell s1 s2 s3 s4
        have hg := and_127 b
        have hb := b.toNat_lt
        generalize b.toNat = x at hcell s1 s2 s3 s4 hg hb
        obtain ⟨g, hgd⟩ : ∃ g : Nat, g = x % 128 := ⟨_, rfl⟩
        rw [← hgd] at hg s1 s2 s4
        have hg1 : g < 128 := by omega
        have hb' : x < 256 := by omega
        clear hb
        have HG := hide hgd; clear hgd
        clear hkl
        have cases9 : (Hid (k = 9 ∧ 1 < g) ∧ ((k : Int) == 9) = true ∧ 1 < g) ∨ (Hid (¬ (k = 9 ∧ 1 < g)) ∧ ((k : Int) == 9) = true ∧ g ≤ 1) ∨ (Hid (¬ (k = 9 ∧ 1 < g)) ∧ ((k : Int) == 9) = false) := by
          by_cases h9 : k = 9
          · by_cases hg : 1 < g
            · exact .inl ⟨hide ⟨h9, hg⟩, by simp; omega, hg⟩
            · exact .inr (.inl ⟨hide (fun h => hg h.2), by simp; omega, by omega⟩)
          · exact .inr (.inr ⟨hide (fun h => h9 h.1), by simp; omega⟩)
        rcases cases9 with ⟨t9, t9b, tg⟩ | cases9
        · have HF := hide (HD.out.trans (s1.out t9.out))
          clear s1 s2 s3 s4
          go_wp2
          go_ret2
          exact ⟨by rw [HF.out]; rfl, rfl⟩
        · have ho := or_step HV.out (by omega) hg1 (by intro h9; rcases cases9 with ⟨_, _, h⟩ | ⟨_, h⟩ <;> first | exact h | (simp [h9] at h))
          have HV' := hide (acc_lt HV.out hg1)
          have t9 : ¬ (k = 9 ∧ 1 < g) := by rcases cases9 with ⟨h, _⟩ | ⟨h, _⟩ <;> exact h.out
          have z2 := hide (s2.out t9)
          have z4 := hide (s4.out t9)
          clear s2 s4 t9
          generalize v + g * 2 ^ (7 * k) = v' at ho HV' z2 z4
          clear HV s1
          rcases cases9 with ⟨t9, t9b, tg⟩ | ⟨t9, t9b⟩
          all_goals
            go_wp2
            · go_ret2
              exact ⟨by rw [HD.out, s3.out (by omega) (by omega)]; rfl, rfl⟩
            · go_ret2
              exact ⟨by rw [HD.out, z2.out (by omega) (by omega)]; simp [numV], rfl⟩
            · go_ret2
              exact ⟨by rw [HD.out, z2.out (by omega) (by omega)]; simp [numV], rfl⟩
            · go_round
              case rel => exact ⟨k + 1, v', by omega, by omega, HV', by go_num, rfl, hide (HD.out.trans (z4.out (by omega)))⟩
              case measure => simp [intOf]; omega
      · have HF := hide (HD.out.trans (dec_end (bs := bs) (k := k) (v := v) (by rw [HL.out]; omega)))
        go_wp2
        go_ret2
        exact ⟨by rw [HF.out]; rfl, rfl⟩

end Go.Proofs.YtnjcncidlhllmaaGreat
