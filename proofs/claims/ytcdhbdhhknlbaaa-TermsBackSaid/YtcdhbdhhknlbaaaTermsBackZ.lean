/- TermsBack holds. No condition. -/
import Derived.Test.YtcdhbdhhknlbaaaK9
import Derived.Test.YtcdhbdhhknlbaaaTBackWZ
namespace Go.Proofs.Ytcdhbdhhknlbaaa
set_option linter.unusedVariables false
set_option linter.unusedSimpArgs false
open Go.ChangeShapes Go.WideShapes Go.ChangeAt Go.RowKit

set_option maxRecDepth 100000 in
theorem termsBack_lifted (os : Os) (started : os.Started) (H : Type) (enc : TypeId × Value → H) :
    ReturnsInHanded {} Try.checked os 4 .any (Rows.termsBackSpec.pre6 enc Try.prog Try.f4 Rows.termsBackRow.domain false) (Rows.termsBackSpec.post enc Try.prog Try.f4 false true false false) := by
  refine returnsInHanded_of_change_shaped (C := Try.checked) Try.own started (by kernel_rfl) Try.func4
    (ChangeSpec.witness6 (enc := enc) (C := Try.checked) false ⟨#[], #[.slice none 0 0, .slice none 0 0, .slice none 0 0, .slice none 0 0], []⟩ 8 (by kernel_rfl) (by kernel_rfl) (by kernel_rfl) (by kernel_rfl)) ?_
  intro W base args ds gs before hval0 hW hcnd hsz0 _ _
  have hval : ∀ (j : Nat) t v, Try.f4.params[j]? = some t → args[j]? = some v → Value.okWide Try.prog W .any base t v := hval0
  have hW' := hW
  obtain ⟨p, q, hA0, hV, rfl, hfz, hnd⟩ := hW
  have hA : DataW.TrodAll enc Try.prog W 0 (fun _ => true) true Try.f4.params.toList args.toList ds p := hA0
  have hsz : (DataW.weightsEach Try.prog (Try.f4.params.toList ++ Rows.termsBackSpec.plain.varTypes Try.prog) (ds ++ gs)).all (· ≤ reachBytes) = true := hsz0
  rw [Try.params4] at hA hval hsz
  obtain ⟨v0, vs0, d0, ds0, p0, q0, hargs0, rfl, rfl, h0, r0⟩ := trodAll_cons hA
  obtain ⟨v1, vs1, d1, ds1, p1, q1, hargs1, rfl, rfl, h1, r1⟩ := trodAll_cons r0
  obtain ⟨v2, vs2, d2, ds2, p2, q2, hargs2, rfl, rfl, h2, r2⟩ := trodAll_cons r1
  obtain ⟨v3, vs3, d3, ds3, p3, q3, hargs3, rfl, rfl, h3, r3⟩ := trodAll_cons r2
  obtain ⟨rfl, rfl, rfl⟩ := trodAll_nil r3
  obtain rfl : args = #[v0, v1, v2, v3] := by cases args; simp_all
  obtain ⟨rfl, rfl⟩ := trodVars_none hV
  obtain ⟨a0, len0, cap0, rfl⟩ := okWide_slice Try.underlying22 (hval 0 22 v0 rfl rfl)
  obtain ⟨a1, len1, cap1, rfl⟩ := okWide_slice Try.underlying22 (hval 1 22 v1 rfl rfl)
  obtain ⟨a2, len2, cap2, rfl⟩ := okWide_slice Try.underlying23 (hval 2 23 v2 rfl rfl)
  obtain ⟨a3, len3, cap3, rfl⟩ := okWide_slice Try.underlying23 (hval 3 23 v3 rfl rfl)
  have k0 := h0
  have lt0 : ∀ x ∈ p0, x.block < W.heap.size := by obtain ⟨m, hm⟩ := k0; exact DataW.trod_lt m _ _ _ hm
  have k1 := h1
  have lt1 : ∀ x ∈ p1, x.block < W.heap.size := by obtain ⟨m, hm⟩ := k1; exact DataW.trod_lt m _ _ _ hm
  have k2 := h2
  have lt2 : ∀ x ∈ p2, x.block < W.heap.size := by obtain ⟨m, hm⟩ := k2; exact DataW.trod_lt m _ _ _ hm
  have k3 := h3
  have lt3 : ∀ x ∈ p3, x.block < W.heap.size := by obtain ⟨m, hm⟩ := k3; exact DataW.trod_lt m _ _ _ hm
  obtain ⟨l0, hl0, hn0, hc0, hcb0, hr0, hwf0⟩ := openS h0 (fun elems spare e => sized_slice hsz (j := 0) rfl (by rw [e]; rfl) Try.underlying22)
  obtain ⟨l1, hl1, hn1, hc1, hcb1, hr1, hwf1⟩ := openS h1 (fun elems spare e => sized_slice hsz (j := 1) rfl (by rw [e]; rfl) Try.underlying22)
  obtain ⟨i2, hl2i, hn2, hc2, hcb2, hr2i, hwf2i⟩ := openU64 h2 (fun elems spare e => sized_slice hsz (j := 2) rfl (by rw [e]; rfl) Try.underlying23)
  obtain ⟨l2, hl2, hr2, hwf2⟩ : ∃ l : List Nat, l.length = len2 ∧ Rd W W.heap.size a2 (un l) ∧ U64s l := by
    refine ⟨i2.map Int.toNat, by rw [List.length_map]; exact hl2i, ?_, fun v hv => ?_⟩
    · have e : un (i2.map Int.toNat) = iz .u64 i2 := by
        simp only [un, iz, List.map_map]
        refine List.map_congr_left fun z hz => ?_
        have := hwf2i z hz
        simp only [Function.comp]
        rw [Int.toNat_of_nonneg this.1]
      rw [e]; exact hr2i
    · obtain ⟨z, hz, rfl⟩ := List.mem_map.1 hv
      have := hwf2i z hz
      omega
  obtain ⟨i3, hl3i, hn3, hc3, hcb3, hr3i, hwf3i⟩ := openU64 h3 (fun elems spare e => sized_slice hsz (j := 3) rfl (by rw [e]; rfl) Try.underlying23)
  obtain ⟨l3, hl3, hr3, hwf3⟩ : ∃ l : List Nat, l.length = len3 ∧ Rd W W.heap.size a3 (un l) ∧ U64s l := by
    refine ⟨i3.map Int.toNat, by rw [List.length_map]; exact hl3i, ?_, fun v hv => ?_⟩
    · have e : un (i3.map Int.toNat) = iz .u64 i3 := by
        simp only [un, iz, List.map_map]
        refine List.map_congr_left fun z hz => ?_
        have := hwf3i z hz
        simp only [Function.comp]
        rw [Int.toNat_of_nonneg this.1]
      rw [e]; exact hr3i
    · obtain ⟨z, hz, rfl⟩ := List.mem_map.1 hv
      have := hwf3i z hz
      omega
  clear hA0 hval0 hsz0 hsz
  refine (tback_any a0 a1 a2 a3 len0 cap0 len1 cap1 len2 cap2 len3 cap3 l0 l1 l2 l3 W hl0 hn0 hc0 hr0 hwf0 hl1 hn1 hc1 hr1 hwf1 hl2 hn2 hc2 hr2 hwf2 hl3 hn3 hc3 hr3 hwf3).mono fun e W' ⟨he, hf⟩ => ?_
  subst he
  have bel := hf.below
  exact ⟨_, rfl, _, _, _, [], _, [], hW', trodAll_mk1 (shut_bool Try.underlying4 _), (trodAll_cons_mk (Below.trod Try.laidOut (by kernel_rfl) (of_decide_eq_true (by kernel_rfl)) k0 bel lt0) (trodAll_cons_mk (Below.trod Try.laidOut (by kernel_rfl) (of_decide_eq_true (by kernel_rfl)) k1 bel lt1) (trodAll_cons_mk (Below.trod Try.laidOut (by kernel_rfl) (of_decide_eq_true (by kernel_rfl)) k2 bel lt2) (trodAll_cons_mk (Below.trod Try.laidOut (by kernel_rfl) (of_decide_eq_true (by kernel_rfl)) k3 bel lt3) trodAll_mk0)))), rfl, bel.frame _, fun h => by cases h⟩

theorem termsBack_holds : Rows.TermsBackSaid :=
  OpenClaim.holds_of_wide 4 Try.f4 rfl rfl rfl rfl rfl rfl rfl ⟨rfl, rfl, rfl, rfl, rfl⟩ rfl rfl rfl rfl rfl (by kernel_rfl) Try.func4 (by kernel_rfl)
    (of_decide_eq_true (by kernel_rfl)) (by unfold Func.isWrapper; first | (rw [if_pos (by decide +kernel)]; kernel_rfl) | (rw [if_neg (by decide +kernel)]; exact ⟨rfl, rfl⟩))
    (fun os started H enc _ => termsBack_lifted os started H enc)
#print axioms termsBack_holds
end Go.Proofs.Ytcdhbdhhknlbaaa
