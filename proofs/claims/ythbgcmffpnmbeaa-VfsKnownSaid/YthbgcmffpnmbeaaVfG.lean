/- Is a name one? -/
import Derived.Test.YthbgcmffpnmbeaaVfQ
import Derived.Lib.ConvBytes
namespace Go.Proofs.Ythbgcmffpnmbeaa
set_option linter.unusedVariables false
set_option linter.unusedSimpArgs false
open Go.RowKit Go.Maps

theorem getD_mem8 {l : List UInt8} {k : Nat} (h : k < l.length) : l.getD k 0 ∈ l := by
  rw [List.getD, List.getElem?_eq_getElem h]
  exact List.getElem_mem _
/-- a text as bytes. -/
theorem conv8 (X : ByteArray) (w : World) : ∃ C W1, (convert 9 35 (.string X)).run Try.prog w = .ok (.slice (some ⟨w.heap.size, 0, none⟩) X.size C) W1 ∧ Fr No w W1 ∧ Rd W1 W1.heap.size (some ⟨w.heap.size, 0, none⟩) (by8 X.data.toList) := by
  refine ⟨_, _, Lib.run_convert_string_bytes w _ _ 5 X Try.underlying9 Try.underlying35 Try.underlying5, ⟨rfl, rfl, rfl, by rw [Lib.bytesWorld_size]; omega, fun i hi _ => Lib.bytesWorld_at_old w _ X i hi⟩, fun j u hu => ?_⟩
  have hj : j < X.size := by
    have := (List.getElem?_eq_some_iff.1 hu).1
    rwa [by8_length, Array.length_toList] at this
  refine ⟨_, rfl, by rw [Lib.bytesWorld_size]; simp, ?_⟩
  rw [Addr.add_lit, Nat.zero_add, Lib.bytesWorld_cell w _ X j hj, ← hu]
  have hj' : j < X.data.toList.length := by rw [Array.length_toList]; exact hj
  simp [by8, List.getD, List.getElem?_eq_getElem hj']

set_option maxRecDepth 100000 in
set_option maxHeartbeats 800000 in
theorem good_any (t : Tx) (w : World) : Calls Try.prog 47 #[sv t] w (RetB (goodP t) w) := by
  unfold sv
  have hs := tx_size t
  have hd : (ByteArray.mk t.toArray).data.toList = t := by simp
  generalize ByteArray.mk t.toArray = X at hs hd
  unfold goodP
  by_cases h0 : t.length < 1
  · have d0 : decide (((t.length : Nat) : Int) < 1) = true := decide_eq_true (by omega)
    have e0 : decide (1 ≤ t.length) = false := decide_eq_false (by omega)
    go_enter Try.func47, Try.ntmps47
    go_wp2
    go_ret
    exact ⟨by rw [e0]; rfl, Fr.refl _ _⟩
  · by_cases h1 : 24 < t.length
    · have d0 : decide (((t.length : Nat) : Int) < 1) = false := decide_eq_false (by omega)
      have d1 : decide ((24 : Int) < ((t.length : Nat) : Int)) = true := decide_eq_true (by omega)
      have e1 : decide (t.length ≤ 24) = false := decide_eq_false (by omega)
      go_enter Try.func47, Try.ntmps47
      go_wp2
      go_ret
      exact ⟨by rw [e1]; simp, Fr.refl _ _⟩
    · have d0 : decide (((t.length : Nat) : Int) < 1) = false := decide_eq_false (by omega)
      have d1 : decide ((24 : Int) < ((t.length : Nat) : Int)) = false := decide_eq_false (by omega)
      have e0 : decide (1 ≤ t.length) = true := decide_eq_true (by omega)
      have e1 : decide (t.length ≤ 24) = true := decide_eq_true (by omega)
      obtain ⟨C, W1, hconv, hfr, hrd⟩ := conv8 X w
      rw [hd] at hrd
      rw [hs] at hconv
      have HF := hide hfr
      have HR := hide hrd
      clear hfr hrd
      go_enter Try.func47, Try.ntmps47
      go_wp2
      go_loop [16] (fun i => ∃ k : Nat, k ≤ t.length ∧ i = .int .i64 k ∧ Hid ((t.take k).all okC = true)) (fun i => t.length - (intOf i).toNat)
      case atStart => exact ⟨0, by omega, rfl, hide rfl⟩
      case round =>
        obtain ⟨k, hk, rfl, HT⟩ := hrel
        by_cases hlt : k < t.length
        · obtain ⟨ad, e, _, hcell⟩ := HR.out.byte hlt
          obtain rfl := Option.some.inj e
          have hcell' : W1.cell? ⟨w.heap.size, k, none⟩ = some (.int .u8 ((t.getD k 0).toNat : Nat)) := by simpa [Addr.add_lit] using hcell
          clear hcell
          have hm : (t.take (k + 1)).all okC = ((t.take k).all okC && okC (t.getD k 0)) := by rw [take_getD 0 hlt, List.all_append]; simp
          rw [HT.out, Bool.true_and] at hm
          have HM := hide hm
          have HB : Hid (okC (t.getD k 0) = false → t.all okC = false) := hide fun h => by
            rw [List.all_eq_false]
            exact ⟨_, getD_mem8 hlt, by rw [h]; simp⟩
          have HO := hide (show okC (t.getD k 0) = ((97 ≤ (t.getD k 0).toNat && (t.getD k 0).toNat ≤ 122) || (48 ≤ (t.getD k 0).toNat && (t.getD k 0).toNat ≤ 57) || (t.getD k 0).toNat == 46 || (t.getD k 0).toNat == 95) from rfl)
          generalize okC (t.getD k 0) = ob at HM HO HB
          have hb := (t.getD k 0).toNat_lt
          clear hm
          generalize (t.getD k 0).toNat = x at HO hcell' hb
          go_wp2
          all_goals
            first
            | (go_ret
               have hf : ob = false := by
                 rw [HO.out]
                 clear HO HB HM HT HF HR hconv hcell' d0 d1 e0 e1
                 simp at *
                 omega
               exact ⟨by rw [HB.out hf]; simp, HF.out⟩)
            | (have hf : ob = true := by
                 rw [HO.out]
                 clear HO HB HM HT HF HR hconv hcell' d0 d1 e0 e1
                 simp at *
                 omega
               exact ⟨⟨k + 1, hlt, by simp, hide (by rw [HM.out]; exact hf)⟩, by simp [intOf]; omega⟩)
        · have e : k = t.length := by omega
          subst e
          go_wp2
          go_ret
          exact ⟨by rw [List.take_length] at HT; rw [HT.out]; simp, HF.out⟩
end Go.Proofs.Ythbgcmffpnmbeaa
