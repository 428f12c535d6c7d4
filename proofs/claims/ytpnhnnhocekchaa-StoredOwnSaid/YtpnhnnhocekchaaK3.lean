/- Several texts in one: PackR, StoP, SizeP, TextP, BytesP, Number, NumCut, TakeU, StoPr. -/
import Derived.Test.YtpnhnnhocekchaaK2
import Derived.Laws.BytesString
import Derived.Deep.RegionWith
namespace Go.Proofs.Ytpnhnnhocekchaa
set_option linter.unusedVariables false
set_option linter.unusedSimpArgs false
open Go.RowKit

/-- signed numbers of 64 bits. -/
def InI (l : List Int) : Prop := ∀ x ∈ l, -9223372036854775808 ≤ x ∧ x ≤ 9223372036854775807
theorem InI.take {l : List Int} (h : InI l) (k : Nat) : InI (l.take k) := fun x hx => h x (List.mem_of_mem_take hx)
theorem InI.drop {l : List Int} (h : InI l) (k : Nat) : InI (l.drop k) := fun x hx => h x (List.mem_of_mem_drop hx)
def minL : List Int → Int
  | [] => 0
  | x :: r => r.foldl min x
theorem minF (r : List Int) (a : Int) : r.foldl min a ≤ a ∧ (∀ x ∈ r, r.foldl min a ≤ x) ∧ (r.foldl min a = a ∨ r.foldl min a ∈ r) := by
  induction r generalizing a with
  | nil => simp
  | cons y r ih =>
    rw [List.foldl_cons]
    obtain ⟨h1, h2, h3⟩ := ih (min a y)
    refine ⟨by omega, ?_, ?_⟩
    · intro x hx
      rcases List.mem_cons.1 hx with rfl | hx
      · omega
      · exact h2 x hx
    · rcases h3 with h3 | h3
      · rcases Int.le_total a y with h | h
        · left; omega
        · right; rw [h3, Int.min_eq_right h]; exact List.mem_cons_self ..
      · exact .inr (List.mem_cons_of_mem _ h3)
theorem minL_le {l : List Int} : ∀ x ∈ l, minL l ≤ x := by
  cases l with
  | nil => intro x hx; cases hx
  | cons y r =>
    intro x hx
    rcases List.mem_cons.1 hx with rfl | hx
    · exact (minF r _).1
    · exact (minF r y).2.1 x hx
theorem minL_mem {l : List Int} (h : l ≠ []) : minL l ∈ l := by
  cases l with
  | nil => exact absurd rfl h
  | cons y r =>
    rcases (minF r y).2.2 with h | h
    · rw [show minL (y :: r) = y from h]; exact List.mem_cons_self ..
    · exact List.mem_cons_of_mem _ h
theorem minL_is {l : List Int} {m : Int} (h : m ∈ l) (h2 : ∀ x ∈ l, m ≤ x) : minL l = m := by
  have h3 := minL_le m h
  have h4 := h2 _ (minL_mem (List.ne_nil_of_mem h))
  omega
theorem minL_in {l : List Int} (h : InI l) : -9223372036854775808 ≤ minL l ∧ minL l ≤ 9223372036854775807 := by
  by_cases hl : l = []
  · subst hl; decide
  · exact h _ (minL_mem hl)
theorem minL_snoc {l : List Int} (h : l ≠ []) (x : Int) : minL (l ++ [x]) = min (minL l) x := by
  cases l with
  | nil => exact absurd rfl h
  | cons y r => simp [minL, List.foldl_append]

/-- a block's numbers above its least. -/
def aboveL (l : List Int) : List Nat := l.map fun x => (x - minL l).toNat
theorem aboveL_len (l : List Int) : (aboveL l).length = l.length := by simp [aboveL]
theorem aboveL_64 {l : List Int} (h : InI l) : In64 (aboveL l) := by
  intro u hu
  obtain ⟨x, hx, rfl⟩ := List.mem_map.1 hu
  have h1 := h x hx
  have h2 := minL_in h
  omega
theorem aboveL_0 {l : List Int} (h : l ≠ []) : 0 ∈ aboveL l := List.mem_map.2 ⟨_, minL_mem h, by omega⟩
theorem above_back (l : List Int) : (aboveL l).map (fun (u : Nat) => minL l + (u : Int)) = l := by
  unfold aboveL
  rw [List.map_map]
  conv => rhs; rw [← List.map_id l]
  apply List.map_congr_left
  intro x hx
  have := minL_le x hx
  simp
  omega
theorem above_of {le : Int} {ab : List Nat} (h0 : 0 ∈ ab) : minL (ab.map fun (u : Nat) => le + (u : Int)) = le ∧ aboveL (ab.map fun (u : Nat) => le + (u : Int)) = ab := by
  have hm : minL (ab.map fun (u : Nat) => le + (u : Int)) = le := by
    refine minL_is (List.mem_map.2 ⟨0, h0, by omega⟩) ?_
    intro x hx
    obtain ⟨u, _, rfl⟩ := List.mem_map.1 hx
    omega
  refine ⟨hm, ?_⟩
  unfold aboveL
  rw [hm, List.map_map]
  conv => rhs; rw [← List.map_id ab]
  apply List.map_congr_left
  intro u hu
  simp
  omega
/-- a block's form. -/
def oneB (l : List Int) : List UInt8 := enc (zz (minL l)) ++ [UInt8.ofNat (wid (aboveL l))] ++ packed (wid (aboveL l)) (aboveL l)
theorem oneB_len (l : List Int) : (oneB l).length = (enc (zz (minL l))).length + 1 + psz (wid (aboveL l)) l.length := by
  simp [oneB, packed_len, aboveL_len]
  omega

/-- a block's bytes, read: its least number, the width, the numbers above, how many bytes. -/
def parseB (bs : List UInt8) (k : Nat) : Option (Int × Nat × List Nat × Nat) :=
  match dec 0 0 bs with
  | none => none
  | some (u, j) =>
    if j < bs.length then
      if (bs.getD j 0).toNat ≤ 64 then
        if j + 1 + psz (bs.getD j 0).toNat k ≤ bs.length then
          if leftN ((bs.drop (j + 1)).take (psz (bs.getD j 0).toNat k)) ((bs.getD j 0).toNat * k) = 0 then
            some (unzz u, (bs.getD j 0).toNat, unpacked (bs.getD j 0).toNat k ((bs.drop (j + 1)).take (psz (bs.getD j 0).toNat k)), j + 1 + psz (bs.getD j 0).toNat k)
          else none
        else none
      else none
    else none
/-- the block's numbers, where the block is the form of its numbers. -/
def blkOk (le : Int) (w : Nat) (ab : List Nat) : Prop := wid ab = w ∧ 0 ∈ ab ∧ ∀ u ∈ ab, le + (u : Int) ≤ 9223372036854775807
instance (le : Int) (w : Nat) (ab : List Nat) : Decidable (blkOk le w ab) := by unfold blkOk; infer_instance
def blkB (bs : List UInt8) (k : Nat) : Option (List Int × Nat) :=
  match parseB bs k with
  | none => none
  | some (le, w, ab, m) => if blkOk le w ab then some (ab.map (fun (u : Nat) => le + (u : Int)), m) else none

theorem parse_one {l : List Int} (hl : l ≠ []) (hi : InI l) (rest : List UInt8) : parseB (oneB l ++ rest) l.length = some (minL l, wid (aboveL l), aboveL l, (oneB l).length) := by
  have hz := zz_lt (minL_in hi).1 (minL_in hi).2
  have hw := wid_64 (aboveL_64 hi)
  have e : oneB l ++ rest = enc (zz (minL l)) ++ (UInt8.ofNat (wid (aboveL l)) :: (packed (wid (aboveL l)) (aboveL l) ++ rest)) := by simp [oneB]
  have hlen : (oneB l ++ rest).length = (enc (zz (minL l))).length + 1 + psz (wid (aboveL l)) l.length + rest.length := by rw [List.length_append, oneB_len]
  unfold parseB
  rw [e, dec_enc _ hz]
  rw [← e]
  have hg : (oneB l ++ rest).getD (enc (zz (minL l))).length 0 = UInt8.ofNat (wid (aboveL l)) := by rw [e]; simp
  have hd : (oneB l ++ rest).drop ((enc (zz (minL l))).length + 1) = packed (wid (aboveL l)) (aboveL l) ++ rest := by
    rw [e, ← List.drop_drop]
    simp
  have ht : (packed (wid (aboveL l)) (aboveL l) ++ rest).take (psz (wid (aboveL l)) l.length) = packed (wid (aboveL l)) (aboveL l) := by
    have : psz (wid (aboveL l)) l.length = (packed (wid (aboveL l)) (aboveL l)).length := by rw [packed_len, aboveL_len]
    rw [this, List.take_left]
  dsimp only
  rw [hg, ofNat_toNat (by omega), hd, ht, if_pos (by omega), if_pos hw, if_pos (by omega)]
  have hp := packed_left (wid (aboveL l)) (aboveL l)
  have hu := unpack_pack (wid_lt (aboveL_64 hi))
  rw [aboveL_len] at hp hu
  rw [if_pos hp, hu, unzz_zz, oneB_len]
theorem parse_parts {bs : List UInt8} {k : Nat} {le : Int} {w : Nat} {ab : List Nat} {m : Nat} (h : parseB bs k = some (le, w, ab, m)) :
    ab.length = k ∧ m ≤ bs.length ∧ w ≤ 64 ∧ In64 ab ∧ (-9223372036854775808 ≤ le ∧ le ≤ 9223372036854775807) ∧ 2 ≤ m ∧ enc (zz le) ++ [UInt8.ofNat w] ++ packed w ab = bs.take m := by
  unfold parseB at h
  split at h
  · cases h
  · rename_i u j hd
    split at h
    · rename_i h1
      split at h
      · rename_i h2
        split at h
        · rename_i h3
          split at h
          · rename_i h4
            injection h with h
            simp only [Prod.mk.injEq] at h
            obtain ⟨rfl, rfl, rfl, rfl⟩ := h
            have hj := dec_le _ _ _ _ _ hd
            have hu := dec_lt _ 0 0 u j (by decide) hd
            have he := enc_dec hd
            have hl : ((bs.drop (j + 1)).take (psz (bs.getD j 0).toNat k)).length = psz (bs.getD j 0).toNat k := by rw [List.length_take, List.length_drop]; omega
            refine ⟨unpacked_len _ _ _, h3, h2, unpacked_64 h2, unzz_bd hu, by omega, ?_⟩
            rw [zz_unzz, he, pack_unpack hl h4]
            have e1 : UInt8.ofNat (bs.getD j 0).toNat = bs.getD j 0 := UInt8.ofNat_toNat
            rw [e1, List.take_add, List.take_add]
            congr 2
            have e2 : bs.drop j = bs[j] :: bs.drop (j + 1) := List.drop_eq_getElem_cons h1
            rw [e2, List.getD_eq_getElem?_getD, List.getElem?_eq_getElem h1]
            rfl
          · cases h
        · cases h
      · cases h
    · cases h
theorem blk_parts {bs : List UInt8} {k : Nat} {x : List Int} {m : Nat} (h : blkB bs k = some (x, m)) : x.length = k ∧ InI x ∧ oneB x = bs.take m ∧ m ≤ bs.length ∧ 2 ≤ m := by
  unfold blkB at h
  split at h
  · cases h
  · rename_i le w ab m' hp
    split at h
    · rename_i hok
      injection h with h
      simp only [Prod.mk.injEq] at h
      obtain ⟨rfl, rfl⟩ := h
      obtain ⟨h1, h2, h3, h4, h5, h6, h7⟩ := parse_parts hp
      obtain ⟨q1, q2, q3⟩ := hok
      refine ⟨by rw [List.length_map, h1], ?_, ?_, h2, h6⟩
      · intro y hy
        obtain ⟨u, hu, rfl⟩ := List.mem_map.1 hy
        have := q3 u hu
        omega
      · obtain ⟨a1, a2⟩ := above_of (le := le) q2
        unfold oneB
        rw [a1, a2, q1, h7]
    · cases h
theorem one_ok {l : List Int} (hl : l ≠ []) (hi : InI l) : blkOk (minL l) (wid (aboveL l)) (aboveL l) := by
  refine ⟨rfl, aboveL_0 hl, ?_⟩
  intro u hu
  obtain ⟨x, hx, rfl⟩ := List.mem_map.1 hu
  have := minL_le x hx
  have := hi x hx
  omega
theorem blk_one {l : List Int} (hl : l ≠ []) (hi : InI l) (rest : List UInt8) : blkB (oneB l ++ rest) l.length = some (l, (oneB l).length) := by
  unfold blkB
  rw [parse_one hl hi]
  dsimp only
  rw [if_pos (one_ok hl hi), above_back]
theorem oneB_ge2 {l : List Int} : 2 ≤ (oneB l).length := by
  have := (encF_len 9 (zz (minL l))).1
  rw [oneB_len]
  unfold enc
  omega
/-- the reference's way: the numbers are put once more and held against the bytes. -/
theorem ref_ok {bs : List UInt8} {k : Nat} {le : Int} {w : Nat} {ab : List Nat} {m : Nat} (hk : 1 ≤ k) (h : parseB bs k = some (le, w, ab, m)) : oneB (ab.map fun (u : Nat) => wrap64 (le + (u : Int))) = bs.take m ↔ blkOk le w ab := by
  obtain ⟨h1, h2, h3, h4, h5, h6, h7⟩ := parse_parts h
  constructor
  · intro he
    have hne : (ab.map fun (u : Nat) => wrap64 (le + (u : Int))) ≠ [] := by
      intro e
      have := congrArg List.length e
      simp [h1] at this
      omega
    have hin : InI (ab.map fun (u : Nat) => wrap64 (le + (u : Int))) := by
      intro y hy
      obtain ⟨u, _, rfl⟩ := List.mem_map.1 hy
      unfold wrap64
      omega
    have hp := parse_one hne hin (bs.drop m)
    rw [he, List.take_append_drop, List.length_map, h1, h] at hp
    injection hp with hp
    simp only [Prod.mk.injEq] at hp
    obtain ⟨a1, a2, a3, a4⟩ := hp
    have hok := one_ok hne hin
    rw [← a1, ← a2, ← a3] at hok
    exact hok
  · rintro ⟨q1, q2, q3⟩
    have e : (ab.map fun (u : Nat) => wrap64 (le + (u : Int))) = ab.map fun (u : Nat) => le + (u : Int) := by
      apply List.map_congr_left
      intro u hu
      have := q3 u hu
      rw [IntWalk.wrap64_in _ (by omega)]
    rw [e]
    obtain ⟨a1, a2⟩ := above_of (le := le) q2
    unfold oneB
    rw [a1, a2, q1, h7]

/-! Rows. -/
def chunkL (l : List Int) (j : Nat) : List Int := (l.drop (128 * j)).take 128
def putUp (l : List Int) (i : Nat) : List UInt8 := (List.range i).flatMap fun j => oneB (chunkL l j)
theorem putUp_succ (l : List Int) (i : Nat) : putUp l (i + 1) = putUp l i ++ oneB (chunkL l i) := by simp [putUp, List.range_succ, List.flatMap_append]
def chunks (n : Nat) : Nat := (n + 127) / 128
def putR (l : List Int) : List UInt8 := putUp l (chunks l.length)
theorem putUp_tail (l : List Int) (i : Nat) : putUp l (i + 1) = oneB (l.take 128) ++ putUp (l.drop 128) i := by
  unfold putUp
  rw [List.range_succ_eq_map, List.flatMap_cons, List.flatMap_map]
  have e : ∀ j, chunkL l (j + 1) = chunkL (l.drop 128) j := fun j => by
    unfold chunkL
    rw [List.drop_drop, show 128 * (j + 1) = 128 + 128 * j by omega]
  have e0 : chunkL l 0 = l.take 128 := by simp [chunkL]
  rw [e0]
  congr 1
  congr 1
  funext j
  exact congrArg oneB (e j)
theorem putR_nil : putR [] = [] := rfl
theorem putR_cons {l : List Int} (h : l ≠ []) : putR l = oneB (l.take 128) ++ putR (l.drop 128) := by
  have hl : 0 < l.length := List.length_pos_iff.2 h
  unfold putR
  have e : chunks l.length = chunks (l.drop 128).length + 1 := by
    simp [chunks]
    omega
  rw [e, putUp_tail]

/-- n numbers, read from place a on. -/
def getF : Nat → List UInt8 → Nat → Nat → Option (List Int × Nat)
  | 0, b, a, n => if n = 0 then some ([], a) else none
  | f + 1, b, a, n => if n = 0 then some ([], a) else
    match blkB (b.drop a) (min n 128) with
    | none => none
    | some (x, m) => (getF f b (a + m) (n - min n 128)).map fun r => (x ++ r.1, r.2)
theorem getF_fuel : ∀ (f g : Nat) (b : List UInt8) (a n : Nat), n ≤ f → n ≤ g → getF f b a n = getF g b a n
  | 0, 0, b, a, n, _, _ => rfl
  | 0, g + 1, b, a, n, h, _ => by
    have : n = 0 := by omega
    simp [getF, this]
  | f + 1, 0, b, a, n, _, h => by
    have : n = 0 := by omega
    simp [getF, this]
  | f + 1, g + 1, b, a, n, h1, h2 => by
    rw [getF, getF]
    by_cases h0 : n = 0
    · rw [if_pos h0, if_pos h0]
    · rw [if_neg h0, if_neg h0]
      cases blkB (b.drop a) (min n 128) with
      | none => rfl
      | some r =>
        dsimp only
        rw [getF_fuel f g b (a + r.2) (n - min n 128) (by omega) (by omega)]
theorem getF_put : ∀ (f : Nat) (l : List Int) (pre rest : List UInt8), l.length ≤ f → InI l → getF f (pre ++ putR l ++ rest) pre.length l.length = some (l, pre.length + (putR l).length)
  | 0, l, pre, rest, hf, hi => by
    have : l = [] := List.eq_nil_of_length_eq_zero (by omega)
    subst this
    simp [getF, putR_nil]
  | f + 1, l, pre, rest, hf, hi => by
    rw [getF]
    by_cases h0 : l = []
    · subst h0
      simp [putR_nil]
    · have hl : 0 < l.length := List.length_pos_iff.2 h0
      rw [if_neg (by omega), putR_cons h0]
      have hd : (pre ++ (oneB (l.take 128) ++ putR (l.drop 128)) ++ rest).drop pre.length = oneB (l.take 128) ++ (putR (l.drop 128) ++ rest) := by simp
      have hk : min l.length 128 = (l.take 128).length := by simp; omega
      have hne : l.take 128 ≠ [] := by
        intro e
        have := congrArg List.length e
        rw [← hk, List.length_nil] at this
        omega
      rw [hd, hk, blk_one hne (hi.take 128)]
      dsimp only
      have hr : l.length - (l.take 128).length = (l.drop 128).length := by simp; omega
      have e : pre ++ (oneB (l.take 128) ++ putR (l.drop 128)) ++ rest = (pre ++ oneB (l.take 128)) ++ putR (l.drop 128) ++ rest := by simp
      have ih := getF_put f (l.drop 128) (pre ++ oneB (l.take 128)) rest (by simp; omega) (hi.drop 128)
      rw [List.length_append] at ih
      rw [hr, e, ih]
      simp
      omega
theorem getF_parts : ∀ (f : Nat) (b : List UInt8) (a n : Nat) (x : List Int) (e : Nat), a ≤ b.length → getF f b a n = some (x, e) →
    x.length = n ∧ InI x ∧ a ≤ e ∧ e ≤ b.length ∧ b.take a ++ putR x = b.take e
  | 0, b, a, n, x, e, ha, h => by
    rw [getF] at h
    split at h
    · rename_i h0
      injection h with h
      simp only [Prod.mk.injEq] at h
      obtain ⟨rfl, rfl⟩ := h
      exact ⟨by simp [h0], (fun _ h => by cases h), Nat.le_refl _, ha, by simp [putR_nil]⟩
    · cases h
  | f + 1, b, a, n, x, e, ha, h => by
    rw [getF] at h
    split at h
    · rename_i h0
      injection h with h
      simp only [Prod.mk.injEq] at h
      obtain ⟨rfl, rfl⟩ := h
      exact ⟨by simp [h0], (fun _ h => by cases h), Nat.le_refl _, ha, by simp [putR_nil]⟩
    · rename_i h0
      split at h
      · cases h
      · rename_i x1 m hb
        obtain ⟨h1, h2, h3, h4, h5⟩ := blk_parts hb
        cases hg : getF f b (a + m) (n - min n 128) with
        | none => rw [hg] at h; cases h
        | some r =>
          obtain ⟨x2, e2⟩ := r
          rw [hg] at h
          injection h with h
          simp only [Prod.mk.injEq] at h
          obtain ⟨rfl, rfl⟩ := h
          rw [List.length_drop] at h4
          obtain ⟨g1, g2, g3, g4, g5⟩ := getF_parts f b (a + m) (n - min n 128) x2 e2 (by omega) hg
          have hne : x1 ++ x2 ≠ [] := by
            intro e
            have := congrArg List.length e
            simp [h1] at this
            omega
          refine ⟨by rw [List.length_append, h1, g1]; omega, ?_, by omega, g4, ?_⟩
          · intro y hy
            rcases List.mem_append.1 hy with hy | hy
            · exact h2 y hy
            · exact g2 y hy
          · rw [putR_cons hne]
            have ht : (x1 ++ x2).take 128 = x1 ∧ (x1 ++ x2).drop 128 = x2 := by
              by_cases h128 : n ≤ 128
              · have : x2 = [] := List.eq_nil_of_length_eq_zero (by omega)
                subst this
                have hx : x1.length ≤ 128 := by omega
                simp [List.take_of_length_le hx, List.drop_eq_nil_of_le hx]
              · have hx : x1.length = 128 := by omega
                constructor
                · rw [List.take_append_of_le_length (by omega), List.take_of_length_le (by omega)]
                · rw [List.drop_append_of_le_length (by omega), List.drop_eq_nil_of_le (by omega)]
                  rfl
            rw [ht.1, ht.2, ← g5, h3, List.take_add, List.append_assoc]
/-- Get's answer. -/
def getZ (b : List UInt8) (n : Int) : List Int × Nat × Int :=
  if n < 0 ∨ 1048576 < n then ([], 0, 1) else
    match getF n.toNat b 0 n.toNat with
    | none => ([], 0, 20)
    | some (x, e) => (x, e, 0)
theorem getZ_put {l : List Int} (hl : l.length ≤ 1048576) (hi : InI l) (rest : List UInt8) : getZ (putR l ++ rest) l.length = (l, (putR l).length, 0) := by
  unfold getZ
  rw [if_neg (by omega)]
  have h := getF_put l.length l [] rest (Nat.le_refl _) hi
  simp only [List.nil_append, List.length_nil, Nat.zero_add] at h
  simp only [Int.toNat_natCast, h]
theorem getZ_cases (b : List UInt8) (n : Int) :
    ((getZ b n).2.2 ≠ 0 ∧ (getZ b n).1 = [] ∧ (getZ b n).2.1 = 0 ∧ ((n < 0 ∨ 1048576 < n) ∧ (getZ b n).2.2 = 1 ∨ ¬ (n < 0 ∨ 1048576 < n) ∧ (getZ b n).2.2 = 20)) ∨
    ((getZ b n).2.2 = 0 ∧ ¬ (n < 0 ∨ 1048576 < n) ∧ ((getZ b n).1.length : Int) = n ∧ InI (getZ b n).1 ∧ (getZ b n).2.1 ≤ b.length ∧ putR (getZ b n).1 = b.take (getZ b n).2.1) := by
  unfold getZ
  by_cases h : n < 0 ∨ 1048576 < n
  · rw [if_pos h]
    exact .inl ⟨by decide, rfl, rfl, .inl ⟨h, rfl⟩⟩
  · rw [if_neg h]
    cases hg : getF n.toNat b 0 n.toNat with
    | none => exact .inl ⟨by decide, rfl, rfl, .inr ⟨h, rfl⟩⟩
    | some r =>
      obtain ⟨x, e⟩ := r
      obtain ⟨h1, h2, h3, h4, h5⟩ := getF_parts _ _ _ _ _ _ (Nat.zero_le _) hg
      refine .inr ⟨rfl, h, ?_, h2, h4, ?_⟩
      · dsimp only
        rw [h1]
        omega
      · simpa using h5
/-- cut short it is not read. -/
theorem getZ_short {b : List UInt8} {n : Int} (h : (getZ b n).2.2 = 0) {c : Nat} (hc : c < (getZ b n).2.1) : (getZ (b.take c) n).2.2 = 20 := by
  rcases getZ_cases b n with ⟨h1, _⟩ | ⟨_, h1, h2, h3, h4, h5⟩
  · exact absurd h h1
  · rcases getZ_cases (b.take c) n with ⟨q1, q2, q3, q4 | q4⟩ | ⟨q0, q1, q2, q3, q4, q5⟩
    · exact absurd q4.1 h1
    · exact q4.2
    · exfalso
      rw [List.length_take] at q4
      rw [List.take_take, Nat.min_eq_left (by omega)] at q5
      have e1 : b = putR (getZ (b.take c) n).1 ++ b.drop (getZ (b.take c) n).2.1 := by rw [q5, List.take_append_drop]
      have hl : (getZ (b.take c) n).1.length ≤ 1048576 := by omega
      have hz := getZ_put hl q3 (b.drop (getZ (b.take c) n).2.1)
      rw [← e1, q2] at hz
      rw [hz] at hc
      dsimp only at hc
      have := congrArg List.length q5
      rw [List.length_take] at this
      omega
end Go.Proofs.Ytpnhnnhocekchaa
namespace Go.Proofs.Ytpnhnnhocekchaa
set_option linter.unusedVariables false
set_option linter.unusedSimpArgs false
open Go.RowKit

structure EntV where
  f : ByteArray
  t : ByteArray
  ns : List Int
def EntV.none : EntV := ⟨⟨#[]⟩, ⟨#[]⟩, []⟩
def txtB (s : ByteArray) : List UInt8 := enc s.size ++ s.data.toList
def numsB (l : List Int) : List UInt8 := l.flatMap fun n => enc (zz n)
def entB (e : EntV) : List UInt8 := txtB e.f ++ txtB e.t ++ enc e.ns.length ++ numsB e.ns
def entsB (l : List EntV) : List UInt8 := l.flatMap entB
def formB (l : List EntV) : List UInt8 := enc l.length ++ entsB l
def entOk (e : EntV) : Prop := e.f.size ≤ 24 ∧ e.t.size ≤ 4096 ∧ e.ns.length ≤ 4
instance (e : EntV) : Decidable (entOk e) := by unfold entOk; infer_instance
def docOk (l : List EntV) : Prop := l.length ≤ 64 ∧ ∀ e ∈ l, entOk e
instance (l : List EntV) : Decidable (docOk l) := by unfold docOk; infer_instance
def mayB (ds : List (List EntV)) : Prop := ds.length ≤ 16384 ∧ ∀ d ∈ ds, docOk d
instance (ds : List (List EntV)) : Decidable (mayB ds) := by unfold mayB; infer_instance
def formZ (l : List EntV) : List UInt8 × Bool := if docOk l then (formB l, true) else ([], false)
theorem numsB_snoc (l : List Int) (n : Int) : numsB (l ++ [n]) = numsB l ++ enc (zz n) := by simp [numsB, List.flatMap_append]
theorem entsB_snoc (l : List EntV) (e : EntV) : entsB (l ++ [e]) = entsB l ++ entB e := by simp [entsB, List.flatMap_append]
theorem numsB_le : ∀ l : List Int, (numsB l).length ≤ 10 * l.length
  | [] => by simp [numsB]
  | n :: r => by
    have h1 := numsB_le r
    have h2 := (enc_len (zz n)).2
    have e : numsB (n :: r) = enc (zz n) ++ numsB r := rfl
    rw [e, List.length_append, List.length_cons]
    omega
theorem entB_le {e : EntV} (h : entOk e) : (entB e).length ≤ 4190 := by
  obtain ⟨h1, h2, h3⟩ := h
  have a1 := (enc_len e.f.size).2
  have a2 := (enc_len e.t.size).2
  have a3 := (enc_len e.ns.length).2
  have a4 := numsB_le e.ns
  have b1 : e.f.data.toList.length = e.f.size := by rw [Array.length_toList]; rfl
  have b2 : e.t.data.toList.length = e.t.size := by rw [Array.length_toList]; rfl
  unfold entB txtB
  simp only [List.length_append]
  omega
theorem entsB_le : ∀ l : List EntV, (∀ e ∈ l, entOk e) → (entsB l).length ≤ 4190 * l.length
  | [], _ => by simp [entsB]
  | e :: r, h => by
    have h1 := entsB_le r (fun x hx => h x (List.mem_cons_of_mem _ hx))
    have h2 := entB_le (h e List.mem_cons_self)
    have e' : entsB (e :: r) = entB e ++ entsB r := rfl
    rw [e', List.length_append, List.length_cons]
    omega
theorem formB_le {l : List EntV} (h : docOk l) : (formB l).length ≤ 268170 := by
  have h1 := entsB_le l h.2
  have h2 := (enc_len l.length).2
  have h3 := h.1
  unfold formB
  rw [List.length_append]
  omega

/-! Chunks: how many documents, and their bytes. -/
def addD (cs : List (Nat × List UInt8)) (b : List UInt8) : List (Nat × List UInt8) :=
  match cs.getLast? with
  | none => [(1, b)]
  | some (n, x) => if 256 ≤ x.length then cs ++ [(1, b)] else cs.dropLast ++ [(n + 1, x ++ b)]
def cutsB (ds : List (List EntV)) : List (Nat × List UInt8) := ds.foldl (fun cs d => addD cs (formB d)) []
theorem cutsB_snoc (ds : List (List EntV)) (d : List EntV) : cutsB (ds ++ [d]) = addD (cutsB ds) (formB d) := by simp [cutsB, List.foldl_append]
def headB (cs : List (Nat × List UInt8)) : List UInt8 := cs.flatMap fun c => enc c.1 ++ enc c.2.length
def bodyB (cs : List (Nat × List UInt8)) : List UInt8 := cs.flatMap fun c => c.2
def buildB (ds : List (List EntV)) : List UInt8 :=
  if mayB ds then enc ds.length ++ enc (cutsB ds).length ++ headB (cutsB ds) ++ bodyB (cutsB ds) else []

/-! Memory: an entry has three cells: two texts, a row of numbers. -/
def NsM (w : World) (B : Nat) (R : Option Addr) (n c : Nat) (ns : List Int) : Prop := ns.length = n ∧ n ≤ c ∧ c ≤ maxLen ∧ InI ns ∧ Rd w B R (iz .i64 ns)
theorem NsM.fr {w w' : World} {B : Nat} {R : Option Addr} {n c : Nat} {ns : List Int} {S : Nat → Prop} (h : NsM w B R n c ns) (f : Fr S w w') (hS : ∀ k, k < B → ¬ S k) : NsM w' B R n c ns := ⟨h.1, h.2.1, h.2.2.1, h.2.2.2.1, h.2.2.2.2.fr f hS⟩
/-- entries at hand. -/
def EntM (w : World) (B : Nat) (ad : Addr) (e : EntV) : Prop :=
  ad.block < B ∧ w.cell? ad = some (.string e.f) ∧ w.cell? ⟨ad.block, ad.off + 1, none⟩ = some (.string e.t) ∧ ∃ R n c, w.cell? ⟨ad.block, ad.off + 2, none⟩ = some (.slice R n c) ∧ NsM w B R n c e.ns
theorem add_block (ad : Addr) (i : Nat) : (ad.add i).block = ad.block := by
  unfold Addr.add
  split <;> rfl
theorem EntM.fr {w w' : World} {B : Nat} {ad : Addr} {e : EntV} {S : Nat → Prop} (h : EntM w B ad e) (f : Fr S w w') (hS : ∀ k, k < B → ¬ S k) : EntM w' B ad e := by
  obtain ⟨h0, h1, h2, R, n, c, h3, h4⟩ := h
  exact ⟨h0, f.cell h1 (hS _ h0), f.cell h2 (hS _ h0), R, n, c, f.cell h3 (hS _ h0), h4.fr f hS⟩
def RdE (w : World) (B : Nat) (A : Option Addr) (l : List EntV) : Prop := ∀ k, k < l.length → ∃ ad, A = some ad ∧ EntM w B (ad.add (k * 3)) (l.getD k .none)
theorem RdE.fr {w w' : World} {B : Nat} {A : Option Addr} {l : List EntV} {S : Nat → Prop} (h : RdE w B A l) (f : Fr S w w') (hS : ∀ k, k < B → ¬ S k) : RdE w' B A l := fun k hk => by
  obtain ⟨ad, e, h1⟩ := h k hk
  exact ⟨ad, e, h1.fr f hS⟩
theorem RdE.fr0 {w w' : World} {B : Nat} {A : Option Addr} {l : List EntV} (h : RdE w B A l) (f : Fr No w w') : RdE w' B A l := h.fr f (fun _ _ h => h)
def DocM (w : World) (B : Nat) (ad : Addr) (d : List EntV) : Prop := ad.block < B ∧ ∃ R n c, w.cell? ad = some (.slice R n c) ∧ d.length = n ∧ n ≤ c ∧ c ≤ maxLen ∧ RdE w B R d
def RdD (w : World) (B : Nat) (A : Option Addr) (ds : List (List EntV)) : Prop := ∀ k, k < ds.length → ∃ ad, A = some ad ∧ DocM w B (ad.add k) (ds.getD k [])
theorem RdD.fr {w w' : World} {B : Nat} {A : Option Addr} {l : List (List EntV)} {S : Nat → Prop} (h : RdD w B A l) (f : Fr S w w') (hS : ∀ k, k < B → ¬ S k) : RdD w' B A l := fun k hk => by
  obtain ⟨ad, e, h0, R, n, c, h1, h2, h3, h4, h5⟩ := h k hk
  exact ⟨ad, e, h0, R, n, c, f.cell h1 (hS _ h0), h2, h3, h4, h5.fr f hS⟩
theorem RdD.fr0 {w w' : World} {B : Nat} {A : Option Addr} {l : List (List EntV)} (h : RdD w B A l) (f : Fr No w w') : RdD w' B A l := h.fr f (fun _ _ h => h)
end Go.Proofs.Ytpnhnnhocekchaa
namespace Go.Proofs.Ytpnhnnhocekchaa
set_option linter.unusedVariables false
set_option linter.unusedSimpArgs false
open Go.RowKit

/-! Size -/
def sizeR (bs : List UInt8) (most : Int) : Option (Nat × Nat) :=
  match dec 0 0 bs with
  | none => none
  | some (u, k) => if most < 0 ∨ most < (u : Int) then none else some (u, k)

def sizeV : Option (Nat × Nat) → Value
  | none => .tuple #[.int .i64 0, .int .i64 (-1)]
  | some (u, k) => .tuple #[.int .i64 u, .int .i64 k]

theorem sizeR_none {bs : List UInt8} {most : Int} (hd : dec 0 0 bs = none) : sizeR bs most = none := by unfold sizeR; rw [hd]

theorem sizeR_no {bs : List UInt8} {most : Int} {u k : Nat} (hd : dec 0 0 bs = some (u, k)) (h : most < 0 ∨ most < (u : Int)) : sizeR bs most = none := by
  unfold sizeR; rw [hd]; exact if_pos h

theorem sizeR_ok {bs : List UInt8} {most : Int} {u k : Nat} (hd : dec 0 0 bs = some (u, k)) (h : ¬ (most < 0 ∨ most < (u : Int))) : sizeR bs most = some (u, k) := by
  unfold sizeR; rw [hd]; exact if_neg h

def sizeS (bs : List UInt8) (a : Nat) (e most : Int) : Nat × Nat × Int :=
  if e = 0 then (match sizeR (bs.drop a) most with | none => (0, a, 20) | some (u, k) => (u, a + k, 0)) else (0, a, e)

theorem sizeR_le {bs : List UInt8} {most : Int} {u k : Nat} (h : sizeR bs most = some (u, k)) : k ≤ bs.length := by
  cases hd : dec 0 0 bs with
  | none => rw [sizeR_none hd] at h; cases h
  | some x =>
    obtain ⟨u', j⟩ := x
    have hk := dec_le _ _ _ _ _ hd
    by_cases hb : most < 0 ∨ most < (u' : Int)
    · rw [sizeR_no hd hb] at h; cases h
    · rw [sizeR_ok hd hb] at h
      injection h with h
      injection h with _ h
      omega

end Go.Proofs.Ytpnhnnhocekchaa
namespace Go.Proofs.Ytpnhnnhocekchaa
set_option linter.unusedVariables false
set_option linter.unusedSimpArgs false
open Go.RowKit

theorem foldl_push (bs : List UInt8) (s : ByteArray) : (bs.map fun b => ((b.toNat : Nat) : Int)).foldl (fun r n => r.push (UInt8.ofNat n.toNat)) s = ⟨s.data ++ bs.toArray⟩ := by
  induction bs generalizing s with
  | nil => obtain ⟨d⟩ := s; simp
  | cons b r ih =>
    obtain ⟨d⟩ := s
    rw [List.map_cons, List.foldl_cons, ih]
    show ByteArray.mk ((d.push (UInt8.ofNat ((b.toNat : Int).toNat))) ++ r.toArray) = ByteArray.mk (d ++ (b :: r).toArray)
    congr 1
    rw [Int.toNat_natCast, UInt8.ofNat_toNat]
    apply Array.ext'
    simp

/-- bytes that are read, as a text. -/
theorem conv_rd (w : World) {B : Nat} (A : Option Addr) (l c : Nat) (bs : List UInt8) (hl : bs.length = l) (hr : Rd w B A (by8 bs)) :
    (convert 23 9 (.slice A l c)).run Try.prog w = .ok (.string ⟨bs.toArray⟩) w := by
  rw [run_convert_bytes_string w 23 9 5 A l c Try.underlying23 Try.underlying5 Try.underlying9]
  cases A with
  | none =>
    have h0 := hr.len0
    subst h0
    subst hl
    simp [Conv.bytesToString]
    rfl
  | some a =>
    have h := run_loadCells_list (P := Try.prog) (w := w) a (by8 bs) (fun j v hv => by
      obtain ⟨ad, e, _, hc⟩ := hr j v hv
      injection e with e
      subst e
      exact hc)
    rw [by8_length, hl] at h
    have e : (bs.map fun b => ((b.toNat : Nat) : Int)).map (Value.int .u8) = by8 bs := by simp [by8, Function.comp_def]
    rw [← e] at h
    rw [run_bytesToString w a l c _ h, foldl_push]
    congr 2
    simp

def textR (bs : List UInt8) (most : Int) : Option (List UInt8 × Nat) :=
  match dec 0 0 bs with
  | none => none
  | some (u, k) => if most < 0 ∨ most < (u : Int) ∨ bs.length - k < u then none else some ((bs.drop k).take u, k + u)

def textV : Option (List UInt8 × Nat) → Value
  | none => .tuple #[.string ⟨#[]⟩, .int .i64 (-1)]
  | some (s, k) => .tuple #[.string ⟨s.toArray⟩, .int .i64 k]

theorem textR_none {bs : List UInt8} {most : Int} (hd : dec 0 0 bs = none) : textR bs most = none := by unfold textR; rw [hd]

theorem textR_no {bs : List UInt8} {most : Int} {u k : Nat} (hd : dec 0 0 bs = some (u, k)) (h : most < 0 ∨ most < (u : Int) ∨ bs.length - k < u) : textR bs most = none := by
  unfold textR; rw [hd]; exact if_pos h

theorem textR_ok {bs : List UInt8} {most : Int} {u k : Nat} (hd : dec 0 0 bs = some (u, k)) (h : ¬ (most < 0 ∨ most < (u : Int) ∨ bs.length - k < u)) : textR bs most = some ((bs.drop k).take u, k + u) := by
  unfold textR; rw [hd]; exact if_neg h

def textS (bs : List UInt8) (a : Nat) (e most : Int) : List UInt8 × Nat × Int :=
  if e = 0 then (match textR (bs.drop a) most with | none => ([], a, 20) | some (s, k) => (s, a + k, 0)) else ([], a, e)

theorem textR_le {bs : List UInt8} {most : Int} {s : List UInt8} {k : Nat} (h : textR bs most = some (s, k)) : k ≤ bs.length := by
  cases hd : dec 0 0 bs with
  | none => rw [textR_none hd] at h; cases h
  | some x =>
    obtain ⟨u, j⟩ := x
    have hk := dec_le _ _ _ _ _ hd
    by_cases hb : most < 0 ∨ most < (u : Int) ∨ bs.length - j < u
    · rw [textR_no hd hb] at h; cases h
    · rw [textR_ok hd hb] at h
      injection h with h
      injection h with _ h
      omega

end Go.Proofs.Ytpnhnnhocekchaa
namespace Go.Proofs.Ytpnhnnhocekchaa
set_option linter.unusedVariables false
set_option linter.unusedSimpArgs false
open Go.RowKit

def bytesR (bs : List UInt8) (x : Int) : Option (List UInt8) := if x < 0 ∨ (bs.length : Int) < x then none else some (bs.take x.toNat)

def bytesS (bs : List UInt8) (a : Nat) (e x : Int) : List UInt8 × Nat × Int :=
  if e = 0 then (match bytesR (bs.drop a) x with | none => ([], a, 20) | some s => (s, a + x.toNat, 0)) else ([], a, e)

end Go.Proofs.Ytpnhnnhocekchaa
namespace Go.Proofs.Ytpnhnnhocekchaa
set_option linter.unusedVariables false
set_option linter.unusedSimpArgs false
open Go.RowKit

theorem or_step {v g k : Nat} (hv : v < 2 ^ (7 * k)) (hk : k ≤ 9) (hg : g < 128) (h9 : k = 9 → g ≤ 1) :
    bits .or .u64 (v : Int) (IntKind.u64.wrap ((g : Int) * 2 ^ (7 * k))) = ((v + g * 2 ^ (7 * k) : Nat) : Int) := by
  have hlt : v + g * 2 ^ (7 * k) < 18446744073709551616 := by
    by_cases h : k = 9
    · subst h
      have := h9 rfl
      have e : (2 : Nat) ^ (7 * 9) = 9223372036854775808 := by decide
      rw [e] at hv ⊢
      omega
    · have := acc_lt hv hg
      have h2 : 2 ^ (7 * (k + 1)) ≤ 2 ^ 63 := Nat.pow_le_pow_right (by omega) (by omega)
      omega
  have e1 : (g : Int) * 2 ^ (7 * k) = ((g * 2 ^ (7 * k) : Nat) : Int) := by simp
  rw [e1, IntWalk.u64_in _ (by omega), u64_or_nat _ _ (by omega) (by omega), or_shift hv]

set_option maxRecDepth 100000 in
set_option maxHeartbeats 800000 in
theorem number_any (r : Value) (A : Option Addr) (n c B : Nat) (bs : List UInt8) (w : World) (hl : bs.length = n) (hn : n ≤ c) (hc : c ≤ maxLen) (hr : Rd w B A (by8 bs)) :
    Calls Try.prog 94 #[r, .slice A n c] w (Ret (numV (dec 0 0 bs)) w) := by
  unfold maxLen at hc
  have HR := hide hr; clear hr
  have HL := hide hl; clear hl
  by_cases h10 : n ≤ 10
  all_goals
    go_enter Try.func94, Try.ntmps94
    go_wp2
    go_loop [6, 16] (fun a i => ∃ k v : Nat, k ≤ n ∧ k ≤ 10 ∧ Hid (v < 2 ^ (7 * k)) ∧ i = .int .i64 k ∧ a = .int .u64 v ∧ Hid (dec 0 0 bs = dec k v (bs.drop k))) (fun _ i => n - (intOf i).toNat)
    case atStart => exact ⟨0, 0, by omega, by omega, hide (by decide), rfl, rfl, hide rfl⟩
    case round =>
      obtain ⟨k, v, hk, hk10, HV, rfl, rfl, HD⟩ := hrel
      by_cases hlt : k < n ∧ k < 10
      · obtain ⟨hlt, hlt10⟩ := hlt
        have hkl : k < bs.length := by rw [HL.out]; exact hlt
        obtain ⟨ad, rfl, _, hcell⟩ := HR.out.byte hkl
        have s1 := hide (@dec_bad9 bs k v hkl)
        have s2 := hide (@dec_stop bs k v hkl hlt10)
        have s3 := hide (@dec_bad0 bs k v hkl)
        have s4 := hide (@dec_more bs k v hkl hlt10)
        generalize bs.getD k 0 = b at hcell s1 s2 s3 s4
        have hg := and_127 b
        have hb := b.toNat_lt
        generalize b.toNat = x at hcell s1 s2 s3 s4 hg hb
        obtain ⟨g, hgd⟩ : ∃ g : Nat, g = x % 128 := ⟨_, rfl⟩
        rw [← hgd] at hg s1 s2 s4
        have hg1 : g < 128 := by omega
        have hb' : x < 256 := by omega
        clear hb
        have HG := hide hgd; clear hgd
        clear hkl
        have cases9 : (Hid (k = 9 ∧ 1 < g) ∧ ((k : Int) == 9) = true ∧ 1 < g) ∨ (Hid (¬ (k = 9 ∧ 1 < g)) ∧ ((k : Int) == 9) = true ∧ g ≤ 1) ∨ (Hid (¬ (k = 9 ∧ 1 < g)) ∧ ((k : Int) == 9) = false) := by
          by_cases h9 : k = 9
          · by_cases hg : 1 < g
            · exact .inl ⟨hide ⟨h9, hg⟩, by simp; omega, hg⟩
            · exact .inr (.inl ⟨hide (fun h => hg h.2), by simp; omega, by omega⟩)
          · exact .inr (.inr ⟨hide (fun h => h9 h.1), by simp; omega⟩)
        rcases cases9 with ⟨t9, t9b, tg⟩ | cases9
        · have HF := hide (HD.out.trans (s1.out t9.out))
          clear s1 s2 s3 s4
          go_wp2
          go_ret2
          exact ⟨by rw [HF.out]; rfl, rfl⟩
        · have ho := or_step HV.out (by omega) hg1 (by intro h9; rcases cases9 with ⟨_, _, h⟩ | ⟨_, h⟩ <;> first | exact h | (simp [h9] at h))
          have HV' := hide (acc_lt HV.out hg1)
          have t9 : ¬ (k = 9 ∧ 1 < g) := by rcases cases9 with ⟨h, _⟩ | ⟨h, _⟩ <;> exact h.out
          have z2 := hide (s2.out t9)
          have z4 := hide (s4.out t9)
          clear s2 s4 t9
          generalize v + g * 2 ^ (7 * k) = v' at ho HV' z2 z4
          clear HV s1
          rcases cases9 with ⟨t9, t9b, tg⟩ | ⟨t9, t9b⟩
          all_goals
            go_wp2
            · go_ret2
              exact ⟨by rw [HD.out, s3.out (by omega) (by omega)]; rfl, rfl⟩
            · go_ret2
              exact ⟨by rw [HD.out, z2.out (by omega) (by omega)]; simp [numV], rfl⟩
            · go_ret2
              exact ⟨by rw [HD.out, z2.out (by omega) (by omega)]; simp [numV], rfl⟩
            · go_round
              case rel => exact ⟨k + 1, v', by omega, by omega, HV', by go_num, rfl, hide (HD.out.trans (z4.out (by omega)))⟩
              case measure => simp [intOf]; omega
      · have HF := hide (HD.out.trans (dec_end (bs := bs) (k := k) (v := v) (by rw [HL.out]; omega)))
        go_wp2
        go_ret2
        exact ⟨by rw [HF.out]; rfl, rfl⟩

end Go.Proofs.Ytpnhnnhocekchaa
namespace Go.Proofs.Ytpnhnnhocekchaa
set_option linter.unusedVariables false
set_option linter.unusedSimpArgs false
open Go.RowKit

theorem num_cut {w : World} {B : Nat} {A : Option Addr} {bs : List UInt8} {c at_ : Nat} (r : Value) (hr : Rd w B A (by8 bs)) (h1 : bs.length ≤ c) (h2 : c ≤ maxLen) (h3 : at_ ≤ bs.length) (nq : Nat) :
    Calls Try.prog 94 #[r, .slice (if c = at_ then A else A.map (·.add at_)) (bs.length - at_) (c - at_)] (w.drewN nq) fun e w' => e = .returned (numV (dec 0 0 (bs.drop at_))) ∧ w' = w.drewN nq :=
  (number_any r _ _ _ B (bs.drop at_) (w.drewN nq) (by simp) (by omega) (by omega) (by rw [by8_drop]; exact Rd.cut (w := w) hr (by rw [by8_length]; exact h1))).mono fun _ _ ⟨a, b⟩ => ⟨a, b.symm⟩

theorem num_none {w : World} {B : Nat} {A : Option Addr} {bs : List UInt8} {c at_ : Nat} (r : Value) (hr : Rd w B A (by8 bs)) (h1 : bs.length ≤ c) (h2 : c ≤ maxLen) (h3 : at_ ≤ bs.length) (hd : dec 0 0 (bs.drop at_) = none) (nq : Nat) :
    Calls Try.prog 94 #[r, .slice (if c = at_ then A else A.map (·.add at_)) (bs.length - at_) (c - at_)] (w.drewN nq) fun e w' => e = .returned (.tuple #[.int .u64 0, .int .i64 (-1)]) ∧ w' = w.drewN nq := by
  have h := num_cut r hr h1 h2 h3 nq
  rw [hd] at h
  exact h

theorem num_some {w : World} {B : Nat} {A : Option Addr} {bs : List UInt8} {c at_ u k : Nat} (r : Value) (hr : Rd w B A (by8 bs)) (h1 : bs.length ≤ c) (h2 : c ≤ maxLen) (h3 : at_ ≤ bs.length) (hd : dec 0 0 (bs.drop at_) = some (u, k)) (nq : Nat) :
    Calls Try.prog 94 #[r, .slice (if c = at_ then A else A.map (·.add at_)) (bs.length - at_) (c - at_)] (w.drewN nq) fun e w' => e = .returned (.tuple #[.int .u64 u, .int .i64 k]) ∧ w' = w.drewN nq := by
  have h := num_cut r hr h1 h2 h3 nq
  rw [hd] at h
  exact h

end Go.Proofs.Ytpnhnnhocekchaa
namespace Go.Proofs.Ytpnhnnhocekchaa
set_option linter.unusedVariables false
set_option linter.unusedSimpArgs false
open Go.RowKit

def uintR (bs : List UInt8) (a : Nat) (e : Int) : Nat × Nat × Int :=
  if e = 0 then (match dec 0 0 (bs.drop a) with | none => (0, a, 20) | some (u, k) => (u, a + k, 0)) else (0, a, e)

theorem uintR_lt (bs : List UInt8) (a : Nat) (e : Int) : (uintR bs a e).1 < 18446744073709551616 := by
  unfold uintR
  split
  · cases hd : dec 0 0 (bs.drop a) with
    | none => simp
    | some x => exact dec_lt _ 0 0 x.1 x.2 (by decide) hd
  · simp

theorem uintR_none {bs : List UInt8} {a : Nat} (hd : dec 0 0 (bs.drop a) = none) : uintR bs a 0 = (0, a, 20) := by unfold uintR; rw [if_pos rfl, hd]

theorem uintR_some {bs : List UInt8} {a u k : Nat} (hd : dec 0 0 (bs.drop a) = some (u, k)) : uintR bs a 0 = (u, a + k, 0) := by unfold uintR; rw [if_pos rfl, hd]

set_option maxRecDepth 100000 in
set_option maxHeartbeats 400000 in
theorem takeU_bad (g : Nat) (bs : List UInt8) (at_ : Nat) (w : World) (h : RD w g bs at_ 0) (hd : dec 0 0 (bs.drop at_) = none) :
    Calls Try.prog 93 #[.pointer (some ⟨g, 0, none⟩), .func (.func 94) #[.pointer (some ⟨g, 0, none⟩)] #[]] w (RDRet (.int .u64 0) w g bs at_ 20) := by
  obtain ⟨A, c, ⟨c0, c1, c2⟩, hf, h1, h2, h3, h4, hr⟩ := h.parts
  have HN := hide (num_none (.pointer (some ⟨g, 0, none⟩)) hr h1 h2 h3 hd)
  have H := hide h
  clear h hr hd
  go_enter Try.func93, Try.ntmps93
  go_wp2_with (fail)
  go_quiet ((go_at_call 94; exact Calls.quiet_of_same (HN.out _)))
  go_wp2
  all_goals
    go_ret
    exact ⟨rfl, (H.out.drewN _).set2 20, ((Fr.refl _ _).drewN _).put _ _⟩

set_option maxRecDepth 100000 in
set_option maxHeartbeats 400000 in
theorem takeU_ok (g : Nat) (bs : List UInt8) (at_ u k : Nat) (w : World) (h : RD w g bs at_ 0) (hd : dec 0 0 (bs.drop at_) = some (u, k)) :
    Calls Try.prog 93 #[.pointer (some ⟨g, 0, none⟩), .func (.func 94) #[.pointer (some ⟨g, 0, none⟩)] #[]] w (RDRet (.int .u64 u) w g bs (at_ + k) 0) := by
  obtain ⟨A, c, ⟨c0, c1, c2⟩, hf, h1, h2, h3, h4, hr⟩ := h.parts
  have HN := hide (num_some (.pointer (some ⟨g, 0, none⟩)) hr h1 h2 h3 hd)
  have hk := dec_le _ _ _ _ _ hd
  have hk1 : at_ + k ≤ bs.length := by have := hk.2; simp at this; omega
  have H := hide h
  clear h hr hd hk
  go_enter Try.func93, Try.ntmps93
  go_wp2_with (fail)
  go_quiet ((go_at_call 94; exact Calls.quiet_of_same (HN.out _)))
  go_wp2
  all_goals
    go_ret
    exact ⟨rfl, (H.out.drewN _).set1 _ hk1, ((Fr.refl _ _).drewN _).put _ _⟩

set_option maxRecDepth 100000 in
set_option maxHeartbeats 400000 in
theorem takeU_off (g : Nat) (bs : List UInt8) (at_ : Nat) (e : Int) (w : World) (f : Value) (h : RD w g bs at_ e) (he : e ≠ 0) :
    Calls Try.prog 93 #[.pointer (some ⟨g, 0, none⟩), f] w (RDRet (.int .u64 0) w g bs at_ e) := by
  obtain ⟨A, c, ⟨c0, c1, c2⟩, hf, h1, h2, h3, h4, hr⟩ := h.parts
  have hb : (e != 0) = true := by simpa using he
  have H := hide h
  clear h hr he
  go_enter Try.func93, Try.ntmps93
  go_wp2_with (fail)
  go_ret
  exact ⟨rfl, H.out, Fr.refl _ _⟩

set_option maxRecDepth 100000 in
set_option maxHeartbeats 400000 in
theorem takeU_nil (w : World) (f : Value) :
    Calls Try.prog 93 #[.pointer none, f] w (Ret (.int .u64 0) w) := by
  go_enter Try.func93, Try.ntmps93
  go_wp2_with (fail)
  go_ret
  exact ⟨rfl, rfl⟩

theorem takeU_all (g : Nat) (bs : List UInt8) (a : Nat) (e : Int) (w : World) (h : RD w g bs a e) :
    Calls Try.prog 93 #[.pointer (some ⟨g, 0, none⟩), .func (.func 94) #[.pointer (some ⟨g, 0, none⟩)] #[]] w (RDRet (.int .u64 (uintR bs a e).1) w g bs (uintR bs a e).2.1 (uintR bs a e).2.2) := by
  unfold uintR
  by_cases he : e = 0
  · subst he
    rw [if_pos rfl]
    cases hd : dec 0 0 (bs.drop a) with
    | none => exact takeU_bad g bs a w h hd
    | some x => exact takeU_ok g bs a x.1 x.2 w h hd
  · rw [if_neg he]
    exact takeU_off g bs a e w _ h he

set_option maxRecDepth 100000 in
set_option maxHeartbeats 400000 in
theorem int_any (g : Nat) (bs : List UInt8) (a : Nat) (e : Int) (w : World) (h : RD w g bs a e) :
    Calls Try.prog 62 #[.pointer (some ⟨g, 0, none⟩)] w (RDRet (.int .i64 (unzz (uintR bs a e).1)) w g bs (uintR bs a e).2.1 (uintR bs a e).2.2) := by
  have H := hide (takeU_all g bs a e w h)
  have HX := hide (xor_zz (uintR_lt bs a e))
  clear h
  generalize uintR bs a e = x at H HX
  go_enter Try.func62, Try.ntmps62
  go_wp2_with (go_at_call 93; refine H.out.mono ?_; rintro en w' ⟨rfl, hq⟩; have HQ := hide hq; clear hq)
  go_ret
  refine ⟨?_, HQ.out⟩
  rw [← HX.out]
  rfl

set_option maxRecDepth 100000 in
set_option maxHeartbeats 400000 in
theorem int_nil (w : World) :
    Calls Try.prog 62 #[.pointer none] w (Ret (.int .i64 0) w) := by
  have hx := xor_zz (u := 0) (by omega)
  have h00 : wrap64 0 = 0 := by unfold wrap64; omega
  simp [unzz, h00] at hx
  go_enter Try.func62, Try.ntmps62
  go_wp2_with (go_at_call 93; refine (takeU_nil _ _).mono ?_; rintro en w' ⟨rfl, rfl⟩)
  go_ret
  exact ⟨by simp [hx], rfl⟩

end Go.Proofs.Ytpnhnnhocekchaa
namespace Go.Proofs.Ytpnhnnhocekchaa
set_option linter.unusedVariables false
set_option linter.unusedSimpArgs false
open Go.RowKit

theorem pre_app {α : Type} {s t l : List α} {a : Nat} : s ++ t <+: l.drop a ↔ s <+: l.drop a ∧ t <+: l.drop (a + s.length) := by
  constructor
  · rintro ⟨r, hr⟩
    refine ⟨⟨t ++ r, by rw [← hr, List.append_assoc]⟩, ⟨r, ?_⟩⟩
    rw [← List.drop_drop, ← hr, List.append_assoc, List.drop_left]
  · rintro ⟨⟨r, hr⟩, ⟨q, hq⟩⟩
    refine ⟨q, ?_⟩
    rw [← List.drop_drop, ← hr, List.drop_left] at hq
    rw [List.append_assoc, hq, hr]
theorem pre_le {α : Type} {s l : List α} {a : Nat} (h : s <+: l.drop a) : s.length ≤ l.length - a := by
  have := h.length_le
  rw [List.length_drop] at this
  exact this
theorem pre_nil {α : Type} {l : List α} {a : Nat} : [] <+: l.drop a := ⟨l.drop a, rfl⟩
theorem pre_eq {α : Type} {s l : List α} (h : s <+: l.drop 0) (hl : s.length = l.length) : s = l := h.eq_of_length (by simpa using hl)

theorem uint_has {bs : List UInt8} {a u : Nat} (hu : u < 18446744073709551616) (h : enc u <+: bs.drop a) : uintR bs a 0 = (u, a + (enc u).length, 0) := by
  obtain ⟨r, hr⟩ := h
  refine uintR_some ?_
  rw [← hr]
  exact dec_enc u hu r
theorem dec_has {bs : List UInt8} {a u k : Nat} (hd : dec 0 0 (bs.drop a) = some (u, k)) : enc u <+: bs.drop a ∧ k = (enc u).length := by
  have h1 := enc_dec hd
  have h2 := dec_le _ _ _ _ _ hd
  have h3 : (enc u).length = k := by rw [h1, List.length_take]; omega
  exact ⟨by rw [h1]; exact List.take_prefix _ _, h3.symm⟩
theorem uint_of {bs : List UInt8} {a : Nat} {e : Int} (h : (uintR bs a e).2.2 = 0) : e = 0 ∧ (uintR bs a e).1 < 18446744073709551616 ∧ enc (uintR bs a e).1 <+: bs.drop a ∧ (uintR bs a e).2.1 = a + (enc (uintR bs a e).1).length := by
  by_cases he : e = 0
  · subst he
    cases hd : dec 0 0 (bs.drop a) with
    | none => rw [uintR_none hd] at h; cases h
    | some x =>
      obtain ⟨u, k⟩ := x
      have hlt := uintR_lt bs a 0
      rw [uintR_some hd] at hlt ⊢
      obtain ⟨h1, h2⟩ := dec_has hd
      exact ⟨rfl, hlt, h1, by rw [h2]⟩
  · exfalso
    unfold uintR at h
    rw [if_neg he] at h
    exact he h
theorem size_has {bs : List UInt8} {a u : Nat} {most : Int} (hu : u < 18446744073709551616) (hm : (u : Int) ≤ most) (h : enc u <+: bs.drop a) : sizeS bs a 0 most = (u, a + (enc u).length, 0) := by
  obtain ⟨r, hr⟩ := h
  have hd : dec 0 0 (bs.drop a) = some (u, (enc u).length) := by rw [← hr]; exact dec_enc u hu r
  unfold sizeS
  rw [if_pos rfl, sizeR_ok hd (by omega)]
theorem size_of {bs : List UInt8} {a : Nat} {e most : Int} (h : (sizeS bs a e most).2.2 = 0) : e = 0 ∧ ((sizeS bs a e most).1 : Int) ≤ most ∧ (sizeS bs a e most).1 < 18446744073709551616 ∧ enc (sizeS bs a e most).1 <+: bs.drop a ∧ (sizeS bs a e most).2.1 = a + (enc (sizeS bs a e most).1).length := by
  by_cases he : e = 0
  · subst he
    unfold sizeS at h ⊢
    rw [if_pos rfl] at h ⊢
    cases hd : dec 0 0 (bs.drop a) with
    | none => rw [sizeR_none hd] at h; cases h
    | some x =>
      obtain ⟨u, k⟩ := x
      by_cases hm : most < 0 ∨ most < (u : Int)
      · rw [sizeR_no hd hm] at h; cases h
      · rw [sizeR_ok hd hm]
        obtain ⟨h1, h2⟩ := dec_has hd
        exact ⟨rfl, by show (u : Int) ≤ most; omega, dec_lt _ 0 0 u k (by simp) hd, h1, by rw [h2]⟩
  · exfalso
    unfold sizeS at h
    rw [if_neg he] at h
    exact he h
theorem size_zero {bs : List UInt8} {a : Nat} {e most : Int} (h : (sizeS bs a e most).2.2 ≠ 0) : (sizeS bs a e most).1 = 0 := by
  unfold sizeS at h ⊢
  split
  · rename_i he
    rw [if_pos he] at h
    cases hs : sizeR (bs.drop a) most with
    | none => rfl
    | some x =>
      rw [hs] at h
      exact absurd rfl h
  · rfl
theorem sizeS_le {bs : List UInt8} {a : Nat} {e most : Int} (h0 : 0 ≤ most) : ((sizeS bs a e most).1 : Int) ≤ most := by
  by_cases h : (sizeS bs a e most).2.2 = 0
  · exact (size_of h).2.1
  · rw [size_zero h]; simpa using h0
theorem text_has {bs s : List UInt8} {a : Nat} {most : Int} (hm : (s.length : Int) ≤ most) (hs : s.length < 18446744073709551616) (h : enc s.length ++ s <+: bs.drop a) : textS bs a 0 most = (s, a + (enc s.length ++ s).length, 0) := by
  obtain ⟨r, hr⟩ := h
  have hd : dec 0 0 (bs.drop a) = some (s.length, (enc s.length).length) := by rw [← hr, List.append_assoc]; exact dec_enc _ hs _
  have hl : (bs.drop a).length = (enc s.length).length + s.length + r.length := by rw [← hr, List.length_append, List.length_append]
  have ht : textR (bs.drop a) most = some (s, (enc s.length).length + s.length) := by
    rw [textR_ok hd (by omega)]
    congr 2
    rw [← hr, List.append_assoc, List.drop_left, List.take_left]
  unfold textS
  rw [if_pos rfl, ht]
  simp
theorem text_of {bs : List UInt8} {a : Nat} {e most : Int} (h : (textS bs a e most).2.2 = 0) : e = 0 ∧ ((textS bs a e most).1.length : Int) ≤ most ∧ (textS bs a e most).1.length < 18446744073709551616 ∧ enc (textS bs a e most).1.length ++ (textS bs a e most).1 <+: bs.drop a ∧ (textS bs a e most).2.1 = a + (enc (textS bs a e most).1.length ++ (textS bs a e most).1).length := by
  by_cases he : e = 0
  · subst he
    unfold textS at h ⊢
    rw [if_pos rfl] at h ⊢
    cases hd : dec 0 0 (bs.drop a) with
    | none => rw [textR_none hd] at h; cases h
    | some x =>
      obtain ⟨u, k⟩ := x
      by_cases hm : most < 0 ∨ most < (u : Int) ∨ (bs.drop a).length - k < u
      · rw [textR_no hd hm] at h; cases h
      · rw [textR_ok hd hm]
        obtain ⟨h1, h2⟩ := dec_has hd
        have h3 := dec_le _ _ _ _ _ hd
        have hl : (((bs.drop a).drop k).take u).length = u := by rw [List.length_take, List.length_drop]; omega
        refine ⟨rfl, ?_, ?_, ?_, ?_⟩
        · show (((((bs.drop a).drop k).take u).length : Nat) : Int) ≤ most
          rw [hl]; omega
        · show (((bs.drop a).drop k).take u).length < _
          rw [hl]; exact dec_lt _ 0 0 u k (by simp) hd
        · show enc (((bs.drop a).drop k).take u).length ++ ((bs.drop a).drop k).take u <+: bs.drop a
          rw [hl, pre_app, ← h2, ← List.drop_drop]
          exact ⟨h1, List.take_prefix _ _⟩
        · show a + (k + u) = _
          rw [List.length_append, hl, ← h2]
  · exfalso
    unfold textS at h
    rw [if_neg he] at h
    exact he h
theorem bytes_has {bs s : List UInt8} {a : Nat} (h : s <+: bs.drop a) : bytesS bs a 0 (s.length : Nat) = (s, a + s.length, 0) := by
  obtain ⟨r, hr⟩ := h
  unfold bytesS bytesR
  rw [if_pos rfl, if_neg (by rw [← hr]; simp; omega), ← hr]
  simp
theorem bytes_of {bs : List UInt8} {a k : Nat} {e : Int} (h : (bytesS bs a e (k : Nat)).2.2 = 0) : e = 0 ∧ (bytesS bs a e (k : Nat)).1.length = k ∧ (bytesS bs a e (k : Nat)).1 <+: bs.drop a ∧ (bytesS bs a e (k : Nat)).2.1 = a + k := by
  by_cases he : e = 0
  · subst he
    unfold bytesS bytesR at h ⊢
    rw [if_pos rfl] at h ⊢
    by_cases hm : (k : Int) < 0 ∨ ((bs.drop a).length : Int) < k
    · rw [if_pos hm] at h; cases h
    · rw [if_neg hm]
      refine ⟨rfl, ?_, ?_, ?_⟩
      · show ((bs.drop a).take (k : Int).toNat).length = k
        rw [List.length_take]; omega
      · exact List.take_prefix _ _
      · simp
  · exfalso
    unfold bytesS at h
    rw [if_neg he] at h
    exact he h

/-! Numbers, entries, documents. -/
def intsS (bs : List UInt8) : Nat → Nat → Int → List Int × Nat × Int
  | 0, a, e => ([], a, e)
  | q + 1, a, e => ((intsS bs q a e).1 ++ [unzz (uintR bs (intsS bs q a e).2.1 (intsS bs q a e).2.2).1], (uintR bs (intsS bs q a e).2.1 (intsS bs q a e).2.2).2)
theorem intsS_len (bs : List UInt8) (a : Nat) (e : Int) : ∀ q, (intsS bs q a e).1.length = q
  | 0 => rfl
  | q + 1 => by
    show ((intsS bs q a e).1 ++ [_]).length = q + 1
    rw [List.length_append, intsS_len bs a e q]
    rfl
theorem intsS_in (bs : List UInt8) (a : Nat) (e : Int) : ∀ q, InI (intsS bs q a e).1
  | 0 => fun x hx => by cases hx
  | q + 1 => fun x hx => by
    have hx : x ∈ (intsS bs q a e).1 ++ [_] := hx
    rcases List.mem_append.1 hx with hx | hx
    · exact intsS_in bs a e q x hx
    · rw [List.mem_singleton.1 hx]
      exact unzz_bd (uintR_lt _ _ _)
theorem ints_has {bs : List UInt8} {a : Nat} {l : List Int} (hi : InI l) (h : numsB l <+: bs.drop a) : ∀ q, q ≤ l.length → intsS bs q a 0 = (l.take q, a + (numsB (l.take q)).length, 0)
  | 0, _ => by simp [intsS, numsB]
  | q + 1, hq => by
    have ih := ints_has hi h q (by omega)
    have hx : l.take (q + 1) = l.take q ++ [l.getD q 0] := by
      rw [List.take_succ_eq_append_getElem (by omega), List.getD_eq_getElem?_getD, List.getElem?_eq_getElem (by omega)]
      rfl
    have hin : -9223372036854775808 ≤ l.getD q 0 ∧ l.getD q 0 ≤ 9223372036854775807 := hi _ (by rw [List.getD_eq_getElem?_getD, List.getElem?_eq_getElem (by omega)]; exact List.getElem_mem _)
    have hp : numsB (l.take (q + 1)) <+: bs.drop a := by
      refine List.IsPrefix.trans ?_ h
      conv => rhs; rw [← List.take_append_drop (q + 1) l]
      exact ⟨numsB (l.drop (q + 1)), by unfold numsB; rw [← List.flatMap_append]⟩
    rw [hx, numsB_snoc, pre_app] at hp
    have hu := uint_has (zz_lt hin.1 hin.2) hp.2
    unfold intsS
    rw [ih, hx, numsB_snoc, List.length_append, ← Nat.add_assoc]
    show (List.take q l ++ [unzz (uintR bs (a + (numsB (List.take q l)).length) 0).fst], (uintR bs (a + (numsB (List.take q l)).length) 0).snd) = _
    rw [hu]
    simp [unzz_zz]
theorem ints_of {bs : List UInt8} {a : Nat} {e : Int} : ∀ q, (intsS bs q a e).2.2 = 0 → e = 0 ∧ numsB (intsS bs q a e).1 <+: bs.drop a ∧ (intsS bs q a e).2.1 = a + (numsB (intsS bs q a e).1).length
  | 0, h => ⟨h, pre_nil, by simp [intsS, numsB]⟩
  | q + 1, h => by
    have h1 := uint_of (bs := bs) (a := (intsS bs q a e).2.1) (e := (intsS bs q a e).2.2) h
    obtain ⟨i1, i2, i3⟩ := ints_of q h1.1
    show e = 0 ∧ numsB ((intsS bs q a e).1 ++ [_]) <+: _ ∧ (uintR bs (intsS bs q a e).2.1 (intsS bs q a e).2.2).2.1 = _ + (numsB ((intsS bs q a e).1 ++ [_])).length
    rw [numsB_snoc, zz_unzz, pre_app, List.length_append, ← Nat.add_assoc, ← i3]
    exact ⟨i1, ⟨i2, h1.2.2.1⟩, h1.2.2.2⟩

def entS (bs : List UInt8) (a : Nat) (e : Int) : EntV × Nat × Int :=
  (⟨⟨(textS bs a e 24).1.toArray⟩, ⟨(textS bs (textS bs a e 24).2.1 (textS bs a e 24).2.2 4096).1.toArray⟩,
    (intsS bs (sizeS bs (textS bs (textS bs a e 24).2.1 (textS bs a e 24).2.2 4096).2.1 (textS bs (textS bs a e 24).2.1 (textS bs a e 24).2.2 4096).2.2 4).1 (sizeS bs (textS bs (textS bs a e 24).2.1 (textS bs a e 24).2.2 4096).2.1 (textS bs (textS bs a e 24).2.1 (textS bs a e 24).2.2 4096).2.2 4).2.1 (sizeS bs (textS bs (textS bs a e 24).2.1 (textS bs a e 24).2.2 4096).2.1 (textS bs (textS bs a e 24).2.1 (textS bs a e 24).2.2 4096).2.2 4).2.2).1⟩,
   (intsS bs (sizeS bs (textS bs (textS bs a e 24).2.1 (textS bs a e 24).2.2 4096).2.1 (textS bs (textS bs a e 24).2.1 (textS bs a e 24).2.2 4096).2.2 4).1 (sizeS bs (textS bs (textS bs a e 24).2.1 (textS bs a e 24).2.2 4096).2.1 (textS bs (textS bs a e 24).2.1 (textS bs a e 24).2.2 4096).2.2 4).2.1 (sizeS bs (textS bs (textS bs a e 24).2.1 (textS bs a e 24).2.2 4096).2.1 (textS bs (textS bs a e 24).2.1 (textS bs a e 24).2.2 4096).2.2 4).2.2).2)
theorem entS_eq {bs : List UInt8} {a : Nat} {e : Int} {f t : List UInt8} {a1 a2 a3 m : Nat} {e1 e2 e3 : Int} (h1 : textS bs a e 24 = (f, a1, e1)) (h2 : textS bs a1 e1 4096 = (t, a2, e2)) (h3 : sizeS bs a2 e2 4 = (m, a3, e3)) :
    entS bs a e = (⟨⟨f.toArray⟩, ⟨t.toArray⟩, (intsS bs m a3 e3).1⟩, (intsS bs m a3 e3).2) := by
  unfold entS
  simp only [h1, h2, h3]
def EntI (E : EntV) : Prop := InI E.ns
theorem ba_mkL (s : ByteArray) : (⟨s.data.toList.toArray⟩ : ByteArray) = s := by cases s; simp
theorem ba_size (s : ByteArray) : s.data.toList.length = s.size := by rw [Array.length_toList]; rfl
theorem ent_has {bs : List UInt8} {a : Nat} {E : EntV} (hok : entOk E) (hi : EntI E) (h : entB E <+: bs.drop a) : entS bs a 0 = (E, a + (entB E).length, 0) := by
  obtain ⟨o1, o2, o3⟩ := hok
  unfold entB txtB at h ⊢
  rw [pre_app, pre_app, pre_app] at h
  obtain ⟨⟨⟨p1, p2⟩, p3⟩, p4⟩ := h
  rw [← ba_size E.f] at p1 p2 p3 p4 o1
  rw [← ba_size E.t] at p2 p3 p4 o2
  have h1 := text_has (most := 24) (by omega) (by omega) p1
  have h2 := text_has (most := 4096) (by omega) (by omega) p2
  rw [List.length_append, ← Nat.add_assoc] at p3 p4
  have h3 := size_has (most := 4) (by omega) (by omega) p3
  rw [List.length_append, ← Nat.add_assoc] at p4
  have h4 := ints_has hi p4 E.ns.length (Nat.le_refl _)
  rw [List.take_length] at h4
  rw [entS_eq h1 h2 h3, h4, ba_mkL, ba_mkL, ← ba_size E.f, ← ba_size E.t]
  simp only [List.length_append, Nat.add_assoc]
theorem entB_mk {f t : List UInt8} {ns : List Int} {m : Nat} (hm : ns.length = m) : entB ⟨⟨f.toArray⟩, ⟨t.toArray⟩, ns⟩ = enc f.length ++ f ++ (enc t.length ++ t) ++ enc m ++ numsB ns := by
  subst hm
  have e : ∀ s : List UInt8, txtB ⟨s.toArray⟩ = enc s.length ++ s := fun s => by unfold txtB; rw [← ba_size]
  unfold entB
  dsimp only
  rw [e, e]
theorem four {x y z u v : List UInt8} {bs : List UInt8} {a a1 a2 a3 b : Nat} (h1 : x <+: bs.drop a) (e1 : a1 = a + x.length) (h2 : y <+: bs.drop a1) (e2 : a2 = a1 + y.length) (h3 : z <+: bs.drop a2) (e3 : a3 = a2 + z.length) (h4 : u <+: bs.drop a3) (e4 : b = a3 + u.length) (hv : v = x ++ y ++ z ++ u) : v <+: bs.drop a ∧ b = a + v.length := by
  subst e1 e2 e3 e4 hv
  rw [pre_app, pre_app, pre_app]
  simp only [List.length_append, ← Nat.add_assoc]
  exact ⟨⟨⟨⟨h1, h2⟩, h3⟩, h4⟩, trivial⟩
theorem ent_of {bs : List UInt8} {a : Nat} {e : Int} (h : (entS bs a e).2.2 = 0) : e = 0 ∧ entOk (entS bs a e).1 ∧ EntI (entS bs a e).1 ∧ entB (entS bs a e).1 <+: bs.drop a ∧ (entS bs a e).2.1 = a + (entB (entS bs a e).1).length := by
  obtain ⟨f, a1, e1, h1⟩ : ∃ f a1 e1, textS bs a e 24 = (f, a1, e1) := ⟨_, _, _, rfl⟩
  obtain ⟨t, a2, e2, h2⟩ : ∃ t a2 e2, textS bs a1 e1 4096 = (t, a2, e2) := ⟨_, _, _, rfl⟩
  obtain ⟨m, a3, e3, h3⟩ : ∃ m a3 e3, sizeS bs a2 e2 4 = (m, a3, e3) := ⟨_, _, _, rfl⟩
  rw [entS_eq h1 h2 h3] at h ⊢
  obtain ⟨i1, i2, i3⟩ := ints_of m h
  have s3 := size_of (bs := bs) (a := a2) (e := e2) (most := 4) (by rw [h3]; exact i1)
  rw [h3] at s3
  have s2 := text_of (bs := bs) (a := a1) (e := e1) (most := 4096) (by rw [h2]; exact s3.1)
  rw [h2] at s2
  have s1 := text_of (bs := bs) (a := a) (e := e) (most := 24) (by rw [h1]; exact s2.1)
  rw [h1] at s1
  dsimp only at s1 s2 s3 i3 ⊢
  have z1 : (⟨f.toArray⟩ : ByteArray).size = f.length := by rw [← ba_size]
  have z2 : (⟨t.toArray⟩ : ByteArray).size = t.length := by rw [← ba_size]
  have z3 := intsS_len bs a3 e3 m
  refine ⟨s1.1, ⟨by show (⟨f.toArray⟩ : ByteArray).size ≤ 24; rw [z1]; omega, by show (⟨t.toArray⟩ : ByteArray).size ≤ 4096; rw [z2]; omega, by show (intsS bs m a3 e3).1.length ≤ 4; rw [z3]; omega⟩, intsS_in bs a3 e3 m, ?_, ?_⟩
  · exact (four s1.2.2.2.1 s1.2.2.2.2 s2.2.2.2.1 s2.2.2.2.2 s3.2.2.2.1 s3.2.2.2.2 i2 i3 (entB_mk z3)).1
  · exact (four s1.2.2.2.1 s1.2.2.2.2 s2.2.2.2.1 s2.2.2.2.2 s3.2.2.2.1 s3.2.2.2.2 i2 i3 (entB_mk z3)).2
end Go.Proofs.Ytpnhnnhocekchaa
