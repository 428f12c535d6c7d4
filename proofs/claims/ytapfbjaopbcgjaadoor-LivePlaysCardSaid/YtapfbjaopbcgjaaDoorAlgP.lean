/- Sets go together as sets do; a set read from its bytes is the set: plain Lean. -/
import Derived.Test.YtapfbjaopbcgjaaDoorReadP
import Derived.Test.YtapfbjaopbcgjaaDoorFullP
import Derived.Test.YtapfbjaopbcgjaaDoorCount
import Derived.Test.YtapfbjaopbcgjaaDoorBytesL
import Derived.Test.YtapfbjaopbcgjaaDoorCodecLaw
import Derived.Test.YtapfbjaopbcgjaaDoorWithW
namespace Go.Proofs.YtapfbjaopbcgjaaDoor
set_option linter.unusedVariables false
set_option linter.unusedSimpArgs false
open Go.RowKit

theorem cnt_and_or (f g : Nat → Bool) : ∀ n, cntN f n + cntN g n = cntN (fun j => f j && g j) n + cntN (fun j => f j || g j) n
  | 0 => rfl
  | n + 1 => by
    have ih := cnt_and_or f g n
    simp only [cntN]
    by_cases hf : f n = true <;> by_cases hg : g n = true <;> simp [hf, hg] <;> omega
theorem cnt_minus (f g : Nat → Bool) : ∀ n, cntN (fun j => f j && !g j) n + cntN (fun j => f j && g j) n = cntN f n
  | 0 => rfl
  | n + 1 => by
    have ih := cnt_minus f g n
    simp only [cntN]
    by_cases hf : f n = true <;> by_cases hg : g n = true <;> simp [hf, hg] <;> omega
theorem hasN_joinL (op : Bool → Bool → Bool) (a b : List Bool) {j : Nat} (h : j < a.length) : hasN (joinL op a b) j = op (hasN a j) (hasN b j) := by
  unfold joinL
  rw [hasN, List.getD_eq_getElem?_getD, List.getElem?_map, List.getElem?_range h]
  rfl
theorem count_joinL (op : Bool → Bool → Bool) (a b : List Bool) : countL (joinL op a b) = cntN (fun j => op (hasN a j) (hasN b j)) a.length := by
  unfold countL
  rw [joinL_len]
  exact cntN_congr fun j hj => hasN_joinL op a b hj
theorem count_and_or {a b : List Bool} (h : b.length = a.length) : countL a + countL b = countL (joinL (fun p q => p && q) a b) + countL (joinL (fun p q => p || q) a b) := by
  rw [count_joinL, count_joinL]
  unfold countL
  rw [h]
  exact cnt_and_or _ _ _
theorem count_minus (a b : List Bool) : countL (joinL (fun p q => p && !q) a b) + countL (joinL (fun p q => p && q) a b) = countL a := by
  rw [count_joinL, count_joinL]
  exact cnt_minus _ _ _
theorem range_has (a : List Bool) : (List.range a.length).map (hasN a) = a := by
  apply List.ext_getElem
  · simp
  · intro i h1 h2
    simp [hasN, h2]
theorem minus_or_and (a b : List Bool) : joinL (fun p q => p || q) (joinL (fun p q => p && !q) a b) (joinL (fun p q => p && q) a b) = a := by
  conv => rhs; rw [← range_has a]
  rw [joinL, joinL_len]
  apply List.map_congr_left
  intro j hj
  rw [List.mem_range] at hj
  rw [hasN_joinL _ _ _ hj, hasN_joinL _ _ _ hj]
  cases hasN a j <;> cases hasN b j <;> rfl
theorem hasI_joinL (op : Bool → Bool → Bool) (a b : List Bool) {j : Nat} (h : j < a.length) : hasI (joinL op a b) (j : Nat) = op (hasI a (j : Nat)) (hasI b (j : Nat)) := by
  unfold hasI
  rw [Int.toNat_natCast, decide_eq_true (by omega), hasN_joinL op a b h]
  simp
/-- the bytes of a set. -/
def setE (l : List Bool) : List UInt8 := enc l.length ++ setB l
theorem setB_len (l : List Bool) : (setB l).length = (l.length + 7) / 8 := by unfold setB; rw [byf_len]; rfl
theorem setB_bit (l : List Bool) {j : Nat} (h : j < 8 * (setB l).length) : bitB (setB l) j = hasN l j := by
  rw [setB_len] at h
  unfold bitB setB byf
  rw [List.getD_eq_getElem?_getD, List.getElem?_map, List.getElem?_range (by unfold byteN; omega)]
  simp only [Option.map_some, Option.getD_some]
  rw [ofNat_toNat (wN_lt _ 8), wN_bit, decide_eq_true (by omega), Bool.true_and]
  rw [show 8 * (j / 8) + j % 8 = j by omega]
theorem setE_size {l : List Bool} (h : l.length ≤ 16384) : sizeS (setE l) 0 0 16384 = (l.length, (enc l.length).length, 0) := by
  unfold sizeS
  rw [if_pos rfl, List.drop_zero, sizeR_ok (show dec 0 0 (setE l) = some (l.length, (enc l.length).length) from dec_enc l.length (by omega) (setB l)) (by omega)]
  simp
theorem setE_bytes {l : List Bool} : bytesS (setE l) (enc l.length).length 0 (((l.length + 7) / 8 : Nat) : Int) = (setB l, (setE l).length, 0) := by
  unfold bytesS
  rw [if_pos rfl]
  have e : (setE l).drop (enc l.length).length = setB l := by unfold setE; rw [List.drop_left]
  have hr : bytesR ((setE l).drop (enc l.length).length) (((l.length + 7) / 8 : Nat) : Int) = some (setB l) := by
    rw [e]
    unfold bytesR
    rw [if_neg (by rw [setB_len]; omega), Int.toNat_natCast, List.take_of_length_le (by rw [setB_len]; omega)]
  rw [hr]
  simp only [Int.toNat_natCast]
  rw [show (setE l).length = (enc l.length).length + (l.length + 7) / 8 by unfold setE; rw [List.length_append, setB_len]]
theorem setE_parts {l : List Bool} (h : l.length ≤ 16384) : rdN (setE l) = l.length ∧ rdS (setE l) = setB l ∧ rdEnd (setE l) = 0 := by
  have h1 : rdN (setE l) = l.length := by unfold rdN; rw [setE_size h]
  refine ⟨h1, ?_, ?_⟩
  · unfold rdS
    rw [h1, setE_size h]
    simp only
    rw [setE_bytes]
  · unfold rdEnd rdA rdE
    rw [h1, setE_size h]
    simp only
    rw [setE_bytes]
    simp [endE]
theorem setE_reads {l : List Bool} (h : l.length ≤ 16384) : readsB (setE l) := by
  obtain ⟨h1, h2, h3⟩ := setE_parts h
  refine ⟨h3, ?_⟩
  rw [h1, h2]
  intro j hj hn
  rw [setB_bit l hj, hasN_big hn]
theorem setE_back {l : List Bool} (h : l.length ≤ 16384) : readL (setE l) = l := by
  obtain ⟨h1, h2, h3⟩ := setE_parts h
  unfold readL
  rw [h1, h2, atK_top (by rw [setB_len]; omega)]
  conv => rhs; rw [← range_has l]
  apply List.map_congr_left
  intro j hj
  rw [List.mem_range] at hj
  exact setB_bit l (by rw [setB_len]; omega)
end Go.Proofs.YtapfbjaopbcgjaaDoor
