/- The changes: what each makes of a directory's names. -/
import Derived.Test.YthbgcmffpnmbeaaVfI
import Derived.Maps.OwnOps
import Derived.LaidEqlPtr
namespace Go.Proofs.Ythbgcmffpnmbeaa
set_option linter.unusedVariables false
set_option linter.unusedSimpArgs false
open Go.RowKit Go.Maps

theorem Try.infoF : (Try.prog.info? 83).map (fun i => (i.zero, i.size, i.bytes)) = some (some (.agg #[.slice none 0 0, .int .i64 0]), 2, 32) := by kernel_rfl
theorem eql_none (W : World) (a : Addr) : (binOp .eql 79 (.pointer none) (.pointer (some a))).run Try.prog W = .ok (.bool false) W := by
  have h : ∀ d : Nat, (Op.equalIn (d + 1) 79 (.pointer none) (.pointer (some a))).run Try.prog W = .ok false W := fun d => by
    simp [Op.equalIn, run_underlying Try.underlying79]
  simp only [binOp]
  simp [Op.equal, Op.maxDepth, h 9999]
def RetM (w : World) (b n : Nat) (m : Ents) (en : Ending) (w' : World) : Prop := en = .returned (.tuple #[]) ∧ (∃ D', MapM w' b n m D') ∧ Fr (Is b) w w'
section
variable {w : World} {Z : Nat → Prop} {b n : Nat} {m : Ents} {D : DataW Empty}
set_option maxRecDepth 100000 in
set_option maxHeartbeats 400000 in
theorem put_any {b1 b2 f : Nat} {t : Tx} (hm : MapM w b n m D) (hn : n < maxLen) (h1 : BoxF w Z b1 f) (h2 : BoxT w Z b2 t) :
    Calls Try.prog 68 #[.map (some b), bx b1, bx b2] w (RetM w b (n + 1) (m.put t f)) := by
  have c1 : w.cell? ⟨b1, 0, none⟩ = some (fpt f) := by rw [cell_of_row w b1 0 _ _ _ h1.1]; rfl
  have c2 : w.cell? ⟨b2, 0, none⟩ = some (sv t) := by rw [cell_of_row w b2 0 _ _ _ h2.1]; rfl
  have HM := hide hm
  have hk := keyT h2.2.2
  have hv : fileR (fpt f) = some ((.lit (.int .i64 (f : Nat)) : DataW Empty), []) := fileR_opt (some f)
  have HK := hide hk
  have HV := hide hv
  clear hm h1 h2 hk hv
  unfold bx
  unfold fpt at *
  unfold sv at *
  go_enter Try.func68, Try.ntmps68
  go_wp2_with (at_mapUpdate; refine wpList_mapUpdate_in _ rfl _ _ _ 68 rfl 9 79 Try.keyS Try.underlying68 fileR b n D rfl HM.out.own hn _ _ _ rfl rfl HK.out _ [] HV.out ?_; intro w1 hown hturn)
  go_end0
  exact ⟨rfl, ⟨_, HM.out.put_of hown⟩, Fr.turned hturn⟩
set_option maxRecDepth 100000 in
set_option maxHeartbeats 400000 in
theorem del_any {b1 : Nat} {t : Tx} (hm : MapM w b n m D) (h2 : BoxT w Z b1 t) :
    Calls Try.prog 70 #[.map (some b), bx b1] w (RetM w b n (m.del t)) := by
  have c2 : w.cell? ⟨b1, 0, none⟩ = some (sv t) := by rw [cell_of_row w b1 0 _ _ _ h2.1]; rfl
  have HM := hide hm
  have HK := hide (keyT h2.2.2)
  clear hm h2
  unfold bx
  unfold sv at *
  go_enter Try.func70, Try.ntmps70
  go_wp2_with (at_delete; refine wpList_delete_own _ rfl _ _ 68 9 rfl 79 Try.keyS Try.underlying68 fileR b n D rfl HM.out.own _ _ rfl HK.out ?_; intro w1 hown hturn)
  go_end0
  exact ⟨rfl, ⟨_, HM.out.del_of hown⟩, Fr.turned hturn⟩
set_option maxRecDepth 100000 in
set_option maxHeartbeats 400000 in
theorem ren_any {b1 b2 b3 f : Nat} {s t : Tx} (hm : MapM w b n m D) (hn : n < maxLen) (h1 : BoxT w Z b1 s) (h2 : BoxF w Z b2 f) (h3 : BoxT w Z b3 t)
    (hF : ∀ g, g = f ∨ m s = some g → ∃ cs ta, w.heap[g]? = some (.cells cs ta (0, 0))) :
    Calls Try.prog 69 #[.map (some b), bx b1, bx b2, bx b3] w (RetM w b (n + 1) ((Ch.ren s t f).app m)) := by
  have c1 : w.cell? ⟨b1, 0, none⟩ = some (sv s) := by rw [cell_of_row w b1 0 _ _ _ h1.1]; rfl
  have c2 : w.cell? ⟨b2, 0, none⟩ = some (fpt f) := by rw [cell_of_row w b2 0 _ _ _ h2.1]; rfl
  have c3 : w.cell? ⟨b3, 0, none⟩ = some (sv t) := by rw [cell_of_row w b3 0 _ _ _ h3.1]; rfl
  have hl := hm.look h1.2.2
  obtain ⟨i0, hi, _, hsz, _⟩ := info_parts Try.infoF
  have heq : (binOp .eql 79 (.pointer (some ⟨f, 0, none⟩)) (.pointer (some ⟨f, 0, none⟩))).run Try.prog w = .ok (.bool true) w := run_eql_ptr_same w _ Try.underlying79 hi
  obtain ⟨es, clock, hbm⟩ := hm.isMap
  have HB := hide h3
  have HB2 := hide h2
  have HM := hide hm
  have HK := hide (keyT h1.2.2)
  have HK3 := hide (keyT h3.2.2)
  have HV := hide (show fileR (fpt f) = some ((.lit (.int .i64 (f : Nat)) : DataW Empty), []) from fileR_opt (some f))
  have n1 : ∀ o : Obj, w.heap[b2]? = some o → b2 = b → False := fun o ho e => by subst e; rw [hbm] at ho; rw [h2.1] at hbm; cases hbm
  have e2 : b2 ≠ b := fun e => n1 _ h2.1 e
  have e3 : b3 ≠ b := fun e => by subst e; rw [h3.1] at hbm; cases hbm
  clear hm h1 h2 h3 n1 hbm
  unfold bx
  show Calls _ _ _ _ (RetM w b (n + 1) (Ents.put (if m s = some f then m.del s else m) t f))
  have HF := hide hF
  clear hF
  by_cases hf : m s = some f
  · rw [hf] at hl
    rw [if_pos hf]
    unfold optV at hl
    unfold fpt at *
    unfold sv at *
    go_enter Try.func69, Try.ntmps69
    go_wp2_with (first
      | (at_delete; refine wpList_delete_own _ rfl _ _ 68 9 rfl 79 Try.keyS Try.underlying68 fileR b n D rfl HM.out.own _ _ rfl HK.out ?_; intro w1 hown1 hturn1; have HM1 := hide (HM.out.del_of hown1); have HF1 := hide (Fr.turned hturn1); have c2' := HF1.out.cell c2 e2; have c3' := HF1.out.cell c3 e3; clear hown1 hturn1)
      | (at_mapUpdate; refine wpList_mapUpdate_in _ rfl _ _ _ 68 rfl 9 79 Try.keyS Try.underlying68 fileR b n _ rfl HM1.out.own hn _ _ _ rfl rfl HK3.out _ [] HV.out ?_; intro w2 hown hturn))
    go_end0
    exact ⟨rfl, ⟨_, HM1.out.put_of hown⟩, HF1.out.ts (Fr.turned hturn)⟩
  · rw [if_neg hf]
    cases hm : m s with
    | none =>
      rw [hm] at hl
      have hneq := eql_none w ⟨f, 0, none⟩
      clear heq
      unfold optV at hl
      unfold fpt at *
      unfold sv at *
      go_enter Try.func69, Try.ntmps69
      go_wp2_with ((at_mapUpdate; refine wpList_mapUpdate_in _ rfl _ _ _ 68 rfl 9 79 Try.keyS Try.underlying68 fileR b n _ rfl HM.out.own hn _ _ _ rfl rfl HK3.out _ [] HV.out ?_; intro w2 hown hturn))
      go_end0
      exact ⟨rfl, ⟨_, HM.out.put_of hown⟩, Fr.turned hturn⟩
    | some g =>
      have hg : g ≠ f := fun e => hf (by rw [hm, e])
      have hneq : (binOp .eql 79 (.pointer (some ⟨g, 0, none⟩)) (.pointer (some ⟨f, 0, none⟩))).run Try.prog w = .ok (.bool false) w := by
        obtain ⟨ca, ta, ha⟩ := HF.out g (.inr hm)
        obtain ⟨cb, tb, hb⟩ := HF.out f (.inl rfl)
        exact run_eql_ptr_other w Try.underlying79 hi (by rw [hsz]; decide) (fun e => hg (congrArg Addr.block e)) ha hb
      clear heq
      rw [hm] at hl
      unfold optV at hl
      unfold fpt at *
      unfold sv at *
      go_enter Try.func69, Try.ntmps69
      go_wp2_with ((at_mapUpdate; refine wpList_mapUpdate_in _ rfl _ _ _ 68 rfl 9 79 Try.keyS Try.underlying68 fileR b n _ rfl HM.out.own hn _ _ _ rfl rfl HK3.out _ [] HV.out ?_; intro w2 hown hturn))
      go_end0
      exact ⟨rfl, ⟨_, HM.out.put_of hown⟩, Fr.turned hturn⟩
end
end Go.Proofs.Ythbgcmffpnmbeaa
