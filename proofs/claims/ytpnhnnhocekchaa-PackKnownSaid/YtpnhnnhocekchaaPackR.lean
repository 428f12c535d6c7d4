/- Rows of numbers in blocks, in plain Lean: what is put is got, and there is one form. -/
import Derived.Test.YtpnhnnhocekchaaPackP
import Derived.Test.YtpnhnnhocekchaaRd
namespace Go.Proofs.Ytpnhnnhocekchaa
set_option linter.unusedVariables false
set_option linter.unusedSimpArgs false
open Go.RowKit

/-- signed numbers of 64 bits. -/
def InI (l : List Int) : Prop := ∀ x ∈ l, -9223372036854775808 ≤ x ∧ x ≤ 9223372036854775807
theorem InI.take {l : List Int} (h : InI l) (k : Nat) : InI (l.take k) := fun x hx => h x (List.mem_of_mem_take hx)
theorem InI.drop {l : List Int} (h : InI l) (k : Nat) : InI (l.drop k) := fun x hx => h x (List.mem_of_mem_drop hx)
def minL : List Int → Int
  | [] => 0
  | x :: r => r.foldl min x
theorem minF (r : List Int) (a : Int) : r.foldl min a ≤ a ∧ (∀ x ∈ r, r.foldl min a ≤ x) ∧ (r.foldl min a = a ∨ r.foldl min a ∈ r) := by
  induction r generalizing a with
  | nil => simp
  | cons y r ih =>
    rw [List.foldl_cons]
    obtain ⟨h1, h2, h3⟩ := ih (min a y)
    refine ⟨by omega, ?_, ?_⟩
    · intro x hx
      rcases List.mem_cons.1 hx with rfl | hx
      · omega
      · exact h2 x hx
    · rcases h3 with h3 | h3
      · rcases Int.le_total a y with h | h
        · left; omega
        · right; rw [h3, Int.min_eq_right h]; exact List.mem_cons_self ..
      · exact .inr (List.mem_cons_of_mem _ h3)
theorem minL_le {l : List Int} : ∀ x ∈ l, minL l ≤ x := by
  cases l with
  | nil => intro x hx; cases hx
  | cons y r =>
    intro x hx
    rcases List.mem_cons.1 hx with rfl | hx
    · exact (minF r _).1
    · exact (minF r y).2.1 x hx
theorem minL_mem {l : List Int} (h : l ≠ []) : minL l ∈ l := by
  cases l with
  | nil => exact absurd rfl h
  | cons y r =>
    rcases (minF r y).2.2 with h | h
    · rw [show minL (y :: r) = y from h]; exact List.mem_cons_self ..
    · exact List.mem_cons_of_mem _ h
theorem minL_is {l : List Int} {m : Int} (h : m ∈ l) (h2 : ∀ x ∈ l, m ≤ x) : minL l = m := by
  have h3 := minL_le m h
  have h4 := h2 _ (minL_mem (List.ne_nil_of_mem h))
  omega
theorem minL_in {l : List Int} (h : InI l) : -9223372036854775808 ≤ minL l ∧ minL l ≤ 9223372036854775807 := by
  by_cases hl : l = []
  · subst hl; decide
  · exact h _ (minL_mem hl)
theorem minL_snoc {l : List Int} (h : l ≠ []) (x : Int) : minL (l ++ [x]) = min (minL l) x := by
  cases l with
  | nil => exact absurd rfl h
  | cons y r => simp [minL, List.foldl_append]

/-- a block's numbers above its least. -/
def aboveL (l : List Int) : List Nat := l.map fun x => (x - minL l).toNat
theorem aboveL_len (l : List Int) : (aboveL l).length = l.length := by simp [aboveL]
theorem aboveL_64 {l : List Int} (h : InI l) : In64 (aboveL l) := by
  intro u hu
  obtain ⟨x, hx, rfl⟩ := List.mem_map.1 hu
  have h1 := h x hx
  have h2 := minL_in h
  omega
theorem aboveL_0 {l : List Int} (h : l ≠ []) : 0 ∈ aboveL l := List.mem_map.2 ⟨_, minL_mem h, by omega⟩
theorem above_back (l : List Int) : (aboveL l).map (fun (u : Nat) => minL l + (u : Int)) = l := by
  unfold aboveL
  rw [List.map_map]
  conv => rhs; rw [← List.map_id l]
  apply List.map_congr_left
  intro x hx
  have := minL_le x hx
  simp
  omega
theorem above_of {le : Int} {ab : List Nat} (h0 : 0 ∈ ab) : minL (ab.map fun (u : Nat) => le + (u : Int)) = le ∧ aboveL (ab.map fun (u : Nat) => le + (u : Int)) = ab := by
  have hm : minL (ab.map fun (u : Nat) => le + (u : Int)) = le := by
    refine minL_is (List.mem_map.2 ⟨0, h0, by omega⟩) ?_
    intro x hx
    obtain ⟨u, _, rfl⟩ := List.mem_map.1 hx
    omega
  refine ⟨hm, ?_⟩
  unfold aboveL
  rw [hm, List.map_map]
  conv => rhs; rw [← List.map_id ab]
  apply List.map_congr_left
  intro u hu
  simp
  omega
/-- a block's form. -/
def oneB (l : List Int) : List UInt8 := enc (zz (minL l)) ++ [UInt8.ofNat (wid (aboveL l))] ++ packed (wid (aboveL l)) (aboveL l)
theorem oneB_len (l : List Int) : (oneB l).length = (enc (zz (minL l))).length + 1 + psz (wid (aboveL l)) l.length := by
  simp [oneB, packed_len, aboveL_len]
  omega

/-- a block's bytes, read: its least number, the width, the numbers above, how many bytes. -/
def parseB (bs : List UInt8) (k : Nat) : Option (Int × Nat × List Nat × Nat) :=
  match dec 0 0 bs with
  | none => none
  | some (u, j) =>
    if j < bs.length then
      if (bs.getD j 0).toNat ≤ 64 then
        if j + 1 + psz (bs.getD j 0).toNat k ≤ bs.length then
          if leftN ((bs.drop (j + 1)).take (psz (bs.getD j 0).toNat k)) ((bs.getD j 0).toNat * k) = 0 then
            some (unzz u, (bs.getD j 0).toNat, unpacked (bs.getD j 0).toNat k ((bs.drop (j + 1)).take (psz (bs.getD j 0).toNat k)), j + 1 + psz (bs.getD j 0).toNat k)
          else none
        else none
      else none
    else none
/-- the block's numbers, where the block is the form of its numbers. -/
def blkOk (le : Int) (w : Nat) (ab : List Nat) : Prop := wid ab = w ∧ 0 ∈ ab ∧ ∀ u ∈ ab, le + (u : Int) ≤ 9223372036854775807
instance (le : Int) (w : Nat) (ab : List Nat) : Decidable (blkOk le w ab) := by unfold blkOk; infer_instance
def blkB (bs : List UInt8) (k : Nat) : Option (List Int × Nat) :=
  match parseB bs k with
  | none => none
  | some (le, w, ab, m) => if blkOk le w ab then some (ab.map (fun (u : Nat) => le + (u : Int)), m) else none

theorem parse_one {l : List Int} (hl : l ≠ []) (hi : InI l) (rest : List UInt8) : parseB (oneB l ++ rest) l.length = some (minL l, wid (aboveL l), aboveL l, (oneB l).length) := by
  have hz := zz_lt (minL_in hi).1 (minL_in hi).2
  have hw := wid_64 (aboveL_64 hi)
  have e : oneB l ++ rest = enc (zz (minL l)) ++ (UInt8.ofNat (wid (aboveL l)) :: (packed (wid (aboveL l)) (aboveL l) ++ rest)) := by simp [oneB]
  have hlen : (oneB l ++ rest).length = (enc (zz (minL l))).length + 1 + psz (wid (aboveL l)) l.length + rest.length := by rw [List.length_append, oneB_len]
  unfold parseB
  rw [e, dec_enc _ hz]
  rw [← e]
  have hg : (oneB l ++ rest).getD (enc (zz (minL l))).length 0 = UInt8.ofNat (wid (aboveL l)) := by rw [e]; simp
  have hd : (oneB l ++ rest).drop ((enc (zz (minL l))).length + 1) = packed (wid (aboveL l)) (aboveL l) ++ rest := by
    rw [e, ← List.drop_drop]
    simp
  have ht : (packed (wid (aboveL l)) (aboveL l) ++ rest).take (psz (wid (aboveL l)) l.length) = packed (wid (aboveL l)) (aboveL l) := by
    have : psz (wid (aboveL l)) l.length = (packed (wid (aboveL l)) (aboveL l)).length := by rw [packed_len, aboveL_len]
    rw [this, List.take_left]
  dsimp only
  rw [hg, ofNat_toNat (by omega), hd, ht, if_pos (by omega), if_pos hw, if_pos (by omega)]
  have hp := packed_left (wid (aboveL l)) (aboveL l)
  have hu := unpack_pack (wid_lt (aboveL_64 hi))
  rw [aboveL_len] at hp hu
  rw [if_pos hp, hu, unzz_zz, oneB_len]
theorem parse_parts {bs : List UInt8} {k : Nat} {le : Int} {w : Nat} {ab : List Nat} {m : Nat} (h : parseB bs k = some (le, w, ab, m)) :
    ab.length = k ∧ m ≤ bs.length ∧ w ≤ 64 ∧ In64 ab ∧ (-9223372036854775808 ≤ le ∧ le ≤ 9223372036854775807) ∧ 2 ≤ m ∧ enc (zz le) ++ [UInt8.ofNat w] ++ packed w ab = bs.take m := by
  unfold parseB at h
  split at h
  · cases h
  · rename_i u j hd
    split at h
    · rename_i h1
      split at h
      · rename_i h2
        split at h
        · rename_i h3
          split at h
          · rename_i h4
            injection h with h
            simp only [Prod.mk.injEq] at h
            obtain ⟨rfl, rfl, rfl, rfl⟩ := h
            have hj := dec_le _ _ _ _ _ hd
            have hu := dec_lt _ 0 0 u j (by decide) hd
            have he := enc_dec hd
            have hl : ((bs.drop (j + 1)).take (psz (bs.getD j 0).toNat k)).length = psz (bs.getD j 0).toNat k := by rw [List.length_take, List.length_drop]; omega
            refine ⟨unpacked_len _ _ _, h3, h2, unpacked_64 h2, unzz_bd hu, by omega, ?_⟩
            rw [zz_unzz, he, pack_unpack hl h4]
            have e1 : UInt8.ofNat (bs.getD j 0).toNat = bs.getD j 0 := UInt8.ofNat_toNat
            rw [e1, List.take_add, List.take_add]
            congr 2
            have e2 : bs.drop j = bs[j] :: bs.drop (j + 1) := List.drop_eq_getElem_cons h1
            rw [e2, List.getD_eq_getElem?_getD, List.getElem?_eq_getElem h1]
            rfl
          · cases h
        · cases h
      · cases h
    · cases h
theorem blk_parts {bs : List UInt8} {k : Nat} {x : List Int} {m : Nat} (h : blkB bs k = some (x, m)) : x.length = k ∧ InI x ∧ oneB x = bs.take m ∧ m ≤ bs.length ∧ 2 ≤ m := by
  unfold blkB at h
  split at h
  · cases h
  · rename_i le w ab m' hp
    split at h
    · rename_i hok
      injection h with h
      simp only [Prod.mk.injEq] at h
      obtain ⟨rfl, rfl⟩ := h
      obtain ⟨h1, h2, h3, h4, h5, h6, h7⟩ := parse_parts hp
      obtain ⟨q1, q2, q3⟩ := hok
      refine ⟨by rw [List.length_map, h1], ?_, ?_, h2, h6⟩
      · intro y hy
        obtain ⟨u, hu, rfl⟩ := List.mem_map.1 hy
        have := q3 u hu
        omega
      · obtain ⟨a1, a2⟩ := above_of (le := le) q2
        unfold oneB
        rw [a1, a2, q1, h7]
    · cases h
theorem one_ok {l : List Int} (hl : l ≠ []) (hi : InI l) : blkOk (minL l) (wid (aboveL l)) (aboveL l) := by
  refine ⟨rfl, aboveL_0 hl, ?_⟩
  intro u hu
  obtain ⟨x, hx, rfl⟩ := List.mem_map.1 hu
  have := minL_le x hx
  have := hi x hx
  omega
theorem blk_one {l : List Int} (hl : l ≠ []) (hi : InI l) (rest : List UInt8) : blkB (oneB l ++ rest) l.length = some (l, (oneB l).length) := by
  unfold blkB
  rw [parse_one hl hi]
  dsimp only
  rw [if_pos (one_ok hl hi), above_back]
theorem oneB_ge2 {l : List Int} : 2 ≤ (oneB l).length := by
  have := (encF_len 9 (zz (minL l))).1
  rw [oneB_len]
  unfold enc
  omega
/-- the reference's way: the numbers are put once more and held against the bytes. -/
theorem ref_ok {bs : List UInt8} {k : Nat} {le : Int} {w : Nat} {ab : List Nat} {m : Nat} (hk : 1 ≤ k) (h : parseB bs k = some (le, w, ab, m)) : oneB (ab.map fun (u : Nat) => wrap64 (le + (u : Int))) = bs.take m ↔ blkOk le w ab := by
  obtain ⟨h1, h2, h3, h4, h5, h6, h7⟩ := parse_parts h
  constructor
  · intro he
    have hne : (ab.map fun (u : Nat) => wrap64 (le + (u : Int))) ≠ [] := by
      intro e
      have := congrArg List.length e
      simp [h1] at this
      omega
    have hin : InI (ab.map fun (u : Nat) => wrap64 (le + (u : Int))) := by
      intro y hy
      obtain ⟨u, _, rfl⟩ := List.mem_map.1 hy
      unfold wrap64
      omega
    have hp := parse_one hne hin (bs.drop m)
    rw [he, List.take_append_drop, List.length_map, h1, h] at hp
    injection hp with hp
    simp only [Prod.mk.injEq] at hp
    obtain ⟨a1, a2, a3, a4⟩ := hp
    have hok := one_ok hne hin
    rw [← a1, ← a2, ← a3] at hok
    exact hok
  · rintro ⟨q1, q2, q3⟩
    have e : (ab.map fun (u : Nat) => wrap64 (le + (u : Int))) = ab.map fun (u : Nat) => le + (u : Int) := by
      apply List.map_congr_left
      intro u hu
      have := q3 u hu
      rw [IntWalk.wrap64_in _ (by omega)]
    rw [e]
    obtain ⟨a1, a2⟩ := above_of (le := le) q2
    unfold oneB
    rw [a1, a2, q1, h7]

/-! Rows. -/
def chunkL (l : List Int) (j : Nat) : List Int := (l.drop (128 * j)).take 128
def putUp (l : List Int) (i : Nat) : List UInt8 := (List.range i).flatMap fun j => oneB (chunkL l j)
theorem putUp_succ (l : List Int) (i : Nat) : putUp l (i + 1) = putUp l i ++ oneB (chunkL l i) := by simp [putUp, List.range_succ, List.flatMap_append]
def chunks (n : Nat) : Nat := (n + 127) / 128
def putR (l : List Int) : List UInt8 := putUp l (chunks l.length)
theorem putUp_tail (l : List Int) (i : Nat) : putUp l (i + 1) = oneB (l.take 128) ++ putUp (l.drop 128) i := by
  unfold putUp
  rw [List.range_succ_eq_map, List.flatMap_cons, List.flatMap_map]
  have e : ∀ j, chunkL l (j + 1) = chunkL (l.drop 128) j := fun j => by
    unfold chunkL
    rw [List.drop_drop, show 128 * (j + 1) = 128 + 128 * j by omega]
  have e0 : chunkL l 0 = l.take 128 := by simp [chunkL]
  rw [e0]
  congr 1
  congr 1
  funext j
  exact congrArg oneB (e j)
theorem putR_nil : putR [] = [] := rfl
theorem putR_cons {l : List Int} (h : l ≠ []) : putR l = oneB (l.take 128) ++ putR (l.drop 128) := by
  have hl : 0 < l.length := List.length_pos_iff.2 h
  unfold putR
  have e : chunks l.length = chunks (l.drop 128).length + 1 := by
    simp [chunks]
    omega
  rw [e, putUp_tail]

/-- n numbers, read from place a on. -/
def getF : Nat → List UInt8 → Nat → Nat → Option (List Int × Nat)
  | 0, b, a, n => if n = 0 then some ([], a) else none
  | f + 1, b, a, n => if n = 0 then some ([], a) else
    match blkB (b.drop a) (min n 128) with
    | none => none
    | some (x, m) => (getF f b (a + m) (n - min n 128)).map fun r => (x ++ r.1, r.2)
theorem getF_fuel : ∀ (f g : Nat) (b : List UInt8) (a n : Nat), n ≤ f → n ≤ g → getF f b a n = getF g b a n
  | 0, 0, b, a, n, _, _ => rfl
  | 0, g + 1, b, a, n, h, _ => by
    have : n = 0 := by omega
    simp [getF, this]
  | f + 1, 0, b, a, n, _, h => by
    have : n = 0 := by omega
    simp [getF, this]
  | f + 1, g + 1, b, a, n, h1, h2 => by
    rw [getF, getF]
    by_cases h0 : n = 0
    · rw [if_pos h0, if_pos h0]
    · rw [if_neg h0, if_neg h0]
      cases blkB (b.drop a) (min n 128) with
      | none => rfl
      | some r =>
        dsimp only
        rw [getF_fuel f g b (a + r.2) (n - min n 128) (by omega) (by omega)]
theorem getF_put : ∀ (f : Nat) (l : List Int) (pre rest : List UInt8), l.length ≤ f → InI l → getF f (pre ++ putR l ++ rest) pre.length l.length = some (l, pre.length + (putR l).length)
  | 0, l, pre, rest, hf, hi => by
    have : l = [] := List.eq_nil_of_length_eq_zero (by omega)
    subst this
    simp [getF, putR_nil]
  | f + 1, l, pre, rest, hf, hi => by
    rw [getF]
    by_cases h0 : l = []
    · subst h0
      simp [putR_nil]
    · have hl : 0 < l.length := List.length_pos_iff.2 h0
      rw [if_neg (by omega), putR_cons h0]
      have hd : (pre ++ (oneB (l.take 128) ++ putR (l.drop 128)) ++ rest).drop pre.length = oneB (l.take 128) ++ (putR (l.drop 128) ++ rest) := by simp
      have hk : min l.length 128 = (l.take 128).length := by simp; omega
      have hne : l.take 128 ≠ [] := by
        intro e
        have := congrArg List.length e
        rw [← hk, List.length_nil] at this
        omega
      rw [hd, hk, blk_one hne (hi.take 128)]
      dsimp only
      have hr : l.length - (l.take 128).length = (l.drop 128).length := by simp; omega
      have e : pre ++ (oneB (l.take 128) ++ putR (l.drop 128)) ++ rest = (pre ++ oneB (l.take 128)) ++ putR (l.drop 128) ++ rest := by simp
      have ih := getF_put f (l.drop 128) (pre ++ oneB (l.take 128)) rest (by simp; omega) (hi.drop 128)
      rw [List.length_append] at ih
      rw [hr, e, ih]
      simp
      omega
theorem getF_parts : ∀ (f : Nat) (b : List UInt8) (a n : Nat) (x : List Int) (e : Nat), a ≤ b.length → getF f b a n = some (x, e) →
    x.length = n ∧ InI x ∧ a ≤ e ∧ e ≤ b.length ∧ b.take a ++ putR x = b.take e
  | 0, b, a, n, x, e, ha, h => by
    rw [getF] at h
    split at h
    · rename_i h0
      injection h with h
      simp only [Prod.mk.injEq] at h
      obtain ⟨rfl, rfl⟩ := h
      exact ⟨by simp [h0], (fun _ h => by cases h), Nat.le_refl _, ha, by simp [putR_nil]⟩
    · cases h
  | f + 1, b, a, n, x, e, ha, h => by
    rw [getF] at h
    split at h
    · rename_i h0
      injection h with h
      simp only [Prod.mk.injEq] at h
      obtain ⟨rfl, rfl⟩ := h
      exact ⟨by simp [h0], (fun _ h => by cases h), Nat.le_refl _, ha, by simp [putR_nil]⟩
    · rename_i h0
      split at h
      · cases h
      · rename_i x1 m hb
        obtain ⟨h1, h2, h3, h4, h5⟩ := blk_parts hb
        cases hg : getF f b (a + m) (n - min n 128) with
        | none => rw [hg] at h; cases h
        | some r =>
          obtain ⟨x2, e2⟩ := r
          rw [hg] at h
          injection h with h
          simp only [Prod.mk.injEq] at h
          obtain ⟨rfl, rfl⟩ := h
          rw [List.length_drop] at h4
          obtain ⟨g1, g2, g3, g4, g5⟩ := getF_parts f b (a + m) (n - min n 128) x2 e2 (by omega) hg
          have hne : x1 ++ x2 ≠ [] := by
            intro e
            have := congrArg List.length e
            simp [h1] at this
            omega
          refine ⟨by rw [List.length_append, h1, g1]; omega, ?_, by omega, g4, ?_⟩
          · intro y hy
            rcases List.mem_append.1 hy with hy | hy
            · exact h2 y hy
            · exact g2 y hy
          · rw [putR_cons hne]
            have ht : (x1 ++ x2).take 128 = x1 ∧ (x1 ++ x2).drop 128 = x2 := by
              by_cases h128 : n ≤ 128
              · have : x2 = [] := List.eq_nil_of_length_eq_zero (by omega)
                subst this
                have hx : x1.length ≤ 128 := by omega
                simp [List.take_of_length_le hx, List.drop_eq_nil_of_le hx]
              · have hx : x1.length = 128 := by omega
                constructor
                · rw [List.take_append_of_le_length (by omega), List.take_of_length_le (by omega)]
                · rw [List.drop_append_of_le_length (by omega), List.drop_eq_nil_of_le (by omega)]
                  rfl
            rw [ht.1, ht.2, ← g5, h3, List.take_add, List.append_assoc]
/-- Get's answer. -/
def getZ (b : List UInt8) (n : Int) : List Int × Nat × Int :=
  if n < 0 ∨ 1048576 < n then ([], 0, 1) else
    match getF n.toNat b 0 n.toNat with
    | none => ([], 0, 20)
    | some (x, e) => (x, e, 0)
theorem getZ_put {l : List Int} (hl : l.length ≤ 1048576) (hi : InI l) (rest : List UInt8) : getZ (putR l ++ rest) l.length = (l, (putR l).length, 0) := by
  unfold getZ
  rw [if_neg (by omega)]
  have h := getF_put l.length l [] rest (Nat.le_refl _) hi
  simp only [List.nil_append, List.length_nil, Nat.zero_add] at h
  simp only [Int.toNat_natCast, h]
theorem getZ_cases (b : List UInt8) (n : Int) :
    ((getZ b n).2.2 ≠ 0 ∧ (getZ b n).1 = [] ∧ (getZ b n).2.1 = 0 ∧ ((n < 0 ∨ 1048576 < n) ∧ (getZ b n).2.2 = 1 ∨ ¬ (n < 0 ∨ 1048576 < n) ∧ (getZ b n).2.2 = 20)) ∨
    ((getZ b n).2.2 = 0 ∧ ¬ (n < 0 ∨ 1048576 < n) ∧ ((getZ b n).1.length : Int) = n ∧ InI (getZ b n).1 ∧ (getZ b n).2.1 ≤ b.length ∧ putR (getZ b n).1 = b.take (getZ b n).2.1) := by
  unfold getZ
  by_cases h : n < 0 ∨ 1048576 < n
  · rw [if_pos h]
    exact .inl ⟨by decide, rfl, rfl, .inl ⟨h, rfl⟩⟩
  · rw [if_neg h]
    cases hg : getF n.toNat b 0 n.toNat with
    | none => exact .inl ⟨by decide, rfl, rfl, .inr ⟨h, rfl⟩⟩
    | some r =>
      obtain ⟨x, e⟩ := r
      obtain ⟨h1, h2, h3, h4, h5⟩ := getF_parts _ _ _ _ _ _ (Nat.zero_le _) hg
      refine .inr ⟨rfl, h, ?_, h2, h4, ?_⟩
      · dsimp only
        rw [h1]
        omega
      · simpa using h5
/-- cut short it is not read. -/
theorem getZ_short {b : List UInt8} {n : Int} (h : (getZ b n).2.2 = 0) {c : Nat} (hc : c < (getZ b n).2.1) : (getZ (b.take c) n).2.2 = 20 := by
  rcases getZ_cases b n with ⟨h1, _⟩ | ⟨_, h1, h2, h3, h4, h5⟩
  · exact absurd h h1
  · rcases getZ_cases (b.take c) n with ⟨q1, q2, q3, q4 | q4⟩ | ⟨q0, q1, q2, q3, q4, q5⟩
    · exact absurd q4.1 h1
    · exact q4.2
    · exfalso
      rw [List.length_take] at q4
      rw [List.take_take, Nat.min_eq_left (by omega)] at q5
      have e1 : b = putR (getZ (b.take c) n).1 ++ b.drop (getZ (b.take c) n).2.1 := by rw [q5, List.take_append_drop]
      have hl : (getZ (b.take c) n).1.length ≤ 1048576 := by omega
      have hz := getZ_put hl q3 (b.drop (getZ (b.take c) n).2.1)
      rw [← e1, q2] at hz
      rw [hz] at hc
      dsimp only at hc
      have := congrArg List.length q5
      rw [List.length_take] at this
      omega
end Go.Proofs.Ytpnhnnhocekchaa
