/- Some of the chapter's answers: awake of the statements on files. -/
import Derived.Test.YtapfbjaopbcgjaaKitF
import Derived.Test.YtapfbjaopbcgjaaFrameLaw
import Derived.Test.YtapfbjaopbcgjaaSealW
namespace Go.Proofs.Ytapfbjaopbcgjaa
set_option linter.unusedVariables false
set_option linter.unusedSimpArgs false
open Go.RowKit

def nine : List UInt8 := [49, 50, 51, 52, 53, 54, 55, 56, 57]
theorem crc_nine : crcOf nine = 3421780262 := by decide +kernel
def litB : List (List UInt8) := [[5, 6], [], [7]]
def litF : List UInt8 := [76, 84, 1, 1, 3, 2, 0, 1, 5, 6, 7]
theorem lit_body : bodyB 1 litB = litF := by decide +kernel
theorem lit_seal : sealB 1 litB = litF ++ fourB (crcOf litF) := by unfold sealB; rw [lit_body]
theorem lit_long : longB 1 litB = false := by decide +kernel
theorem lit_bsl (w : World) (fz : Nat × Nat) : BSl (((w.alloc (.cells #[.int .u8 5, .int .u8 6] 5)).alloc (.cells #[.int .u8 7] 5)).alloc (.cells #[.slice (some ⟨w.heap.size, 0, none⟩) 2 2, .slice none 0 0, .slice (some ⟨w.heap.size + 1, 0, none⟩) 1 1] 23)) (w.heap.size + 3) (some ⟨w.heap.size + 2, 0, none⟩) litB := by
  have h0 : (((w.alloc (.cells #[.int .u8 5, .int .u8 6] 5)).alloc (.cells #[.int .u8 7] 5)).alloc (.cells #[.slice (some ⟨w.heap.size, 0, none⟩) 2 2, .slice none 0 0, .slice (some ⟨w.heap.size + 1, 0, none⟩) 1 1] 23)).heap[w.heap.size]? = some (.cells #[.int .u8 5, .int .u8 6] 5 (0, 0)) := by
    rw [Below.heap_alloc _ _ _ (by simp; omega), Below.heap_alloc _ _ _ (by simp)]
    exact heap_alloc_new w _
  have h1 : (((w.alloc (.cells #[.int .u8 5, .int .u8 6] 5)).alloc (.cells #[.int .u8 7] 5)).alloc (.cells #[.slice (some ⟨w.heap.size, 0, none⟩) 2 2, .slice none 0 0, .slice (some ⟨w.heap.size + 1, 0, none⟩) 1 1] 23)).heap[w.heap.size + 1]? = some (.cells #[.int .u8 7] 5 (0, 0)) := by
    rw [Below.heap_alloc _ _ _ (by simp)]
    have := heap_alloc_new (w.alloc (.cells #[.int .u8 5, .int .u8 6] 5)) (.cells #[.int .u8 7] 5)
    simpa using this
  have h2 : (((w.alloc (.cells #[.int .u8 5, .int .u8 6] 5)).alloc (.cells #[.int .u8 7] 5)).alloc (.cells #[.slice (some ⟨w.heap.size, 0, none⟩) 2 2, .slice none 0 0, .slice (some ⟨w.heap.size + 1, 0, none⟩) 1 1] 23)).heap[w.heap.size + 2]? = some (.cells #[.slice (some ⟨w.heap.size, 0, none⟩) 2 2, .slice none 0 0, .slice (some ⟨w.heap.size + 1, 0, none⟩) 1 1] 23 (0, 0)) := by
    have := heap_alloc_new ((w.alloc (.cells #[.int .u8 5, .int .u8 6] 5)).alloc (.cells #[.int .u8 7] 5)) (.cells #[.slice (some ⟨w.heap.size, 0, none⟩) 2 2, .slice none 0 0, .slice (some ⟨w.heap.size + 1, 0, none⟩) 1 1] 23)
    simpa using this
  generalize ((w.alloc (.cells #[.int .u8 5, .int .u8 6] 5)).alloc (.cells #[.int .u8 7] 5)).alloc (.cells #[.slice (some ⟨w.heap.size, 0, none⟩) 2 2, .slice none 0 0, .slice (some ⟨w.heap.size + 1, 0, none⟩) 1 1] 23) = W at h0 h1 h2 ⊢
  intro j bs hj
  have hb := (Rd.block h2)
  match j, hj with
  | 0, hj =>
    injection hj with hj
    subst hj
    obtain ⟨ad, e, _, hc⟩ := hb 0 _ rfl
    exact ⟨ad, _, 2, e, by (rw [← Option.some.inj e]; simp), hc, Nat.le_refl _, by unfold maxLen; simp, (Rd.block h0).more (by omega)⟩
  | 1, hj =>
    injection hj with hj
    subst hj
    obtain ⟨ad, e, _, hc⟩ := hb 1 _ rfl
    exact ⟨ad, _, 0, e, by (rw [← Option.some.inj e]; simp), hc, Nat.le_refl _, by unfold maxLen; simp, Rd.nil _ _ _⟩
  | 2, hj =>
    injection hj with hj
    subst hj
    obtain ⟨ad, e, _, hc⟩ := hb 2 _ rfl
    exact ⟨ad, _, 1, e, by (rw [← Option.some.inj e]; simp), hc, Nat.le_refl _, by unfold maxLen; simp, (Rd.block h1).more (by omega)⟩
  | (j + 3), hj => simp [litB] at hj

def GivesS (bs : List UInt8) (w : World) (en : Ending) (w' : World) : Prop := ∃ A c, en = .returned (.tuple #[.slice A bs.length c, .int .i64 0]) ∧ Own w' w.heap.size 5 1 (.slice A bs.length c) bs.length (by8 bs) ∧ bs.length ≤ c ∧ c ≤ maxLen ∧ Fr No w w'
theorem seal_lit (w : World) (A : Option Addr) (B : Nat) (hB : B ≤ w.heap.size) (h : BSl w B A litB) : Calls Try.prog 10 #[.int .u8 1, .slice A 3 3] w (GivesS (litF ++ fourB (crcOf litF)) w) := by
  have hs := seal_any 1 A 3 3 B litB w rfl (Nat.le_refl _) (by unfold maxLen; omega) hB h (by decide)
  refine Calls.mono hs ?_
  rintro en w' (⟨hl, _, _⟩ | ⟨_, v, rfl, ho, hf⟩)
  · rw [lit_long] at hl; cases hl
  · rw [lit_seal] at ho
    obtain ⟨A', c', rfl, h1, h2, _⟩ := ho.form
    exact ⟨A', c', rfl, ho, h1, h2, hf⟩
def GivesL (bss : List (List UInt8)) (w : World) (en : Ending) (w' : World) : Prop := ∃ A c vals, en = .returned (.tuple #[.slice A bss.length c, .int .i64 0]) ∧ Own w' w.heap.size 23 1 (.slice A bss.length c) bss.length vals ∧ Vals w' w.heap.size vals bss ∧ bss.length ≤ c ∧ c ≤ maxLen ∧ BSl w' w'.heap.size A bss ∧ Fr No w w'
theorem open_zero {kind : UInt8} {d : List UInt8} {bss : List (List UInt8)} {w w' : World} {en : Ending} (he : openE kind d = 0) (hL : openL kind d = bss) (h : GivesOpen kind d w en w') : GivesL bss w en w' := by
  subst hL
  obtain ⟨v, vals, rfl, ho, hv, hf⟩ := h
  obtain ⟨A', c', rfl, h1, h2, _, h3, _⟩ := ho.form
  rw [he]
  exact ⟨A', c', vals, rfl, ho, hv, h1, h2, hv.bsl h3, hf⟩
theorem open_lit (w : World) (A : Option Addr) (c B : Nat) (hc : (litF ++ fourB (crcOf litF)).length ≤ c) (hc2 : c ≤ maxLen) (hB : B ≤ w.heap.size) (h : Rd w B A (by8 (litF ++ fourB (crcOf litF)))) : Calls Try.prog 17 #[.int .u8 1, .slice A (litF ++ fourB (crcOf litF)).length c] w (GivesL litB w) := by
  have ho := open_any 1 A _ c B _ w rfl hc hc2 hB h
  have hp := open_seal 1 litB lit_long
  rw [lit_seal] at hp
  exact Calls.mono ho fun en w' hg => open_zero hp.1 hp.2 hg

set_option maxRecDepth 100000 in
set_option maxHeartbeats 1600000 in
theorem awake04_any (w : World) : Calls Try.prog 9 #[] w (RetB true w) := by
  have kc := fun (w : World) (C : Array Value) (n c : Nat) => Lib.run_convert_bytes_const (P := Try.prog) w 23 5 C n c Try.underlying23 Try.underlying5
  have HS1 := hide (seal_lit _ _ _ (by simp) (lit_bsl w (0, 0)))
  have hq : (litF ++ fourB (crcOf litF)).length = 15 := rfl
  have HOp := hide (fun (W : World) (A : Option Addr) (c : Nat) (h1 : (litF ++ fourB (crcOf litF)).length ≤ c) (h2 : c ≤ maxLen) (h : Rd W W.heap.size A (by8 (litF ++ fourB (crcOf litF)))) => open_lit W A c W.heap.size h1 h2 (Nat.le_refl _) h)
  have HSm : Hid (∀ (W : World), Calls Try.prog 13 #[.slice (some ⟨W.heap.size + 1, 0, none⟩) 1 1] ((W.alloc (.cells #[.int .u8 49, .int .u8 50, .int .u8 51, .int .u8 52, .int .u8 53, .int .u8 54, .int .u8 55, .int .u8 56, .int .u8 57] 5 (9, 10))).alloc (.cells #[.slice (some ⟨W.heap.size, 0, none⟩) 9 9] 23)) (RetF (.int .u32 3421780262) W)) := hide (fun W => by
    have h1 := Rd.block (w := W.alloc (.cells #[.int .u8 49, .int .u8 50, .int .u8 51, .int .u8 52, .int .u8 53, .int .u8 54, .int .u8 55, .int .u8 56, .int .u8 57] 5 (9, 10))) (heap_alloc_new W _)
    have h2 := BSl.single (w := W.alloc (.cells #[.int .u8 49, .int .u8 50, .int .u8 51, .int .u8 52, .int .u8 53, .int .u8 54, .int .u8 55, .int .u8 56, .int .u8 57] 5 (9, 10))) (bs := nine) (n := 9) (c := 9) (e := 23) rfl (Nat.le_refl _) (by unfold maxLen; omega) h1 (by simp)
    have h3 := sum_any _ 1 1 _ [nine] _ rfl (Nat.le_refl _) (by unfold maxLen; omega) (by simp) h2
    have e : [nine].flatten = nine := by simp
    rw [e, crc_nine] at h3
    rw [show (W.alloc (.cells #[.int .u8 49, .int .u8 50, .int .u8 51, .int .u8 52, .int .u8 53, .int .u8 54, .int .u8 55, .int .u8 56, .int .u8 57] 5 (9, 10))).heap.size = W.heap.size + 1 by simp] at h3
    exact Calls.mono h3 fun en w' ⟨he, hf⟩ => ⟨he, (((Fr.refl No W).alloc _).alloc _).tr hf⟩)
  go_enter Try.func9, Try.ntmps9
  go_wp2_with (first
    | (go_at_call 10; refine HS1.out.mono ?_; rintro en w1 ⟨A1, c1, rfl, hown, hq1, hq2, hfr⟩; have O1 := hide hown; have F1 : Hid (Fr No w w1) := hide (((((Fr.refl No w).alloc _).alloc _).alloc _).tr hfr); have Q1 := hide hq1; have Q2 := hide hq2; clear hown hfr hq1 hq2)
    | (go_at_call 17; refine (HOp.out w1 A1 c1 Q1.out Q2.out O1.out.rd).mono ?_; rintro en w2 ⟨A2, c2, vals, rfl, hown, hvals, hq1, hq2, hbl, hfr⟩; have P2 := hide hown; have V2 := hide hvals; have B2 := hide hbl; have O2 := hide (O1.out.fr0 hfr); have F2 := hide (F1.out.tr hfr); have Q3 := hide hq1; have Q4 := hide hq2; clear hown hvals hbl hq1 hq2 hfr)
    | (go_at_call 13; refine (HSm.out w2).mono ?_; rintro en w3 ⟨rfl, hfr⟩; have O3 := hide (O2.out.fr0 hfr); have B3 := hide (B2.out.fr0 hfr); have F3 := hide (F2.out.tr hfr); clear hfr)
    | (go_at_call 22; refine (sealedL_any _ 11 litF w3.heap.size _ rfl (own_new8 w3 _ 11 litF _ rfl rfl (by unfold maxLen; omega)) (by omega) (by simp)).mono ?_; rintro en w4 ⟨v4, rfl, hown, hfr⟩; have f4 : Hid (Fr No w3 w4) := hide (((Fr.refl No w3).alloc _).own hfr (fun g hg => .inl (Nat.le_of_eq (Option.some.inj hg)))); obtain ⟨A4, c4, rfl, hq1, hq2, _, hq3, _⟩ := hown.form; have O4 := hide (O3.out.fr0 f4.out); have R4 := hide hq3; have B4 := hide (B3.out.fr0 f4.out); have F4 := hide (F3.out.tr f4.out); have Q5 := hide hq1; have Q6 := hide hq2; clear hown hfr hq1 hq2 hq3)
    | (go_at_call 12; refine (kbytes_any A1 A4 _ c1 _ c4 _ _ (litF ++ fourB (crcOf litF)) (litF ++ fourB (crcOf litF)) _ rfl rfl Q1.out Q2.out Q5.out Q6.out O4.out.rd R4.out).mono ?_; rw [decide_eq_true rfl]; rintro en w5 ⟨rfl, nq5, rfl⟩; have B5 := hide (B4.out.fr0 ((Fr.refl No w4).drewN nq5)); have F5 := hide (F4.out.drewN nq5); generalize w4.drewN nq5 = w5 at B5 F5 ⊢))
  refine (kblocks_any A2 _ _ c2 3 3 _ _ litB litB _ rfl rfl Q3.out Q4.out (Nat.le_refl _) (by unfold maxLen; omega) (B5.out.fr0 ((((Fr.refl No w5).alloc _).alloc _).alloc _)) (lit_bsl w5 (0, 0))).mono ?_
  rintro en w6 ⟨he, nq6, rfl⟩
  have F6 := hide ((((F5.out.alloc (.cells #[.int .u8 5, .int .u8 6] 5)).alloc (.cells #[.int .u8 7] 5)).alloc (.cells #[.slice (some ⟨w5.heap.size, 0, none⟩) 2 2, .slice none 0 0, .slice (some ⟨w5.heap.size + 1, 0, none⟩) 1 1] 23)).drewN nq6)
  have e : decide (litB = litB) = true := decide_eq_true rfl
  rw [e] at he
  subst he
  go_wp2
  go_ret
  exact ⟨rfl, F6.out⟩
end Go.Proofs.Ytapfbjaopbcgjaa
