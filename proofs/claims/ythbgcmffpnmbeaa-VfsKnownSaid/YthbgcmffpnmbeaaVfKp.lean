/- The chapter's examples: plain. -/
import Derived.Test.YthbgcmffpnmbeaaVfAw
import Derived.Test.YthbgcmffpnmbeaaVfHa
namespace Go.Proofs.Ythbgcmffpnmbeaa
set_option linter.unusedVariables false
set_option linter.unusedSimpArgs false
open Go.RowKit Go.Maps

theorem keys_put {t : Tx} {f : Nat} : KeysL (Ents.put (fun _ => none) t f) [t] := by
  refine ⟨List.pairwise_singleton _ _, fun k => ?_⟩
  simp only [Ents.put, List.mem_singleton]
  split
  · rename_i e; simp [e]
  · rename_i e; simp [e]
theorem s4_none {f : Nat} {ks : List Tx} {C : Di} (h : CrashR (s4 f) [0] ks C) : heldB C [] [] := by
  have hk : ks = [] := h.keys.uniq ⟨List.Pairwise.nil, fun k => by
    show k ∈ [] ↔ ((fun _ => none : Ents) k).isSome = true
    simp⟩
  subst hk
  exact h.held (inv_s4 f).gds rfl fun i k g x hi => by simp at hi
def a2 (f : Nat) : Di := { (s1 f).tick with dur := (s1 f).now, chs := [] }
def a3 (f : Nat) : Di := (a2 f).tick.made (.ren [97] [98] f)
theorem a_syd (f : Nat) : sydS (s1 f) = (0, a2 f) := sydS_calm rfl rfl
theorem a_ren (f : Nat) : renS (a2 f) [97] [98] = (0, a3 f) := by
  unfold renS
  rw [cal_calm rfl rfl]
  have hn : (a2 f).now [97] = some f := by simp [a2, s1, Di.made, Ch.app, Ents.put, Di.setF, Di.tick]
  rw [hn]
  rfl
theorem gd_a3 (f : Nat) : Gd (a3 f) := by
  refine ⟨fun k g h => ?_, fun c hc => ?_⟩
  · have e : (a3 f).dur = Ents.put (fun _ => none) [97] f := rfl
    rw [e] at h
    simp only [Ents.put] at h
    split at h
    · rename_i e1; rw [e1]; rfl
    · cases h
  · have : c = .ren [97] [98] f := by simpa [a3, a2, Di.made, Di.tick] using hc
    subst this
    rfl
theorem a3_old {f : Nat} {ks : List Tx} {C : Di} (h : CrashR (a3 f) [0] ks C) : heldB C [[97]] [[]] := by
  have hk : ks = [[97]] := h.keys.uniq keys_one
  subst hk
  refine h.held (gd_a3 f) rfl fun i k g x hi hl hx => ?_
  have hi0 : i = 0 := by have := (List.getElem?_eq_some_iff.1 hi).1; simp at this; omega
  subst hi0
  obtain rfl : [97] = k := by simpa using hi
  have hg : some f = some g := hl
  obtain rfl := Option.some.inj hg
  have hxx : some (⟨[], 0⟩ : Fi) = some x := by rw [← hx]; simp [a3, a2, s1, Di.made, Di.setF, Di.tick]
  obtain rfl := Option.some.inj hxx
  simp [keep]
theorem a3_left (f : Nat) : leftS (a3 f).chs [1] (a3 f).dur = Ents.put (fun _ => none) [98] f := by
  funext k
  show (Ch.app (.ren [97] [98] f) (Ents.put (fun _ => none) [97] f)) k = _
  simp only [Ch.app, Ents.put, Ents.del, if_true]
  by_cases h : k = [98]
  · rw [if_pos h, if_pos h]
  · rw [if_neg h, if_neg h]
    by_cases h2 : k = [97] <;> simp [h2]
theorem a3_new {f : Nat} {ks : List Tx} {C : Di} (h : CrashR (a3 f) [1] ks C) : heldB C [[98]] [[]] := by
  have hk : ks = [[98]] := by
    have h3 := h.keys
    rw [a3_left] at h3
    exact h3.uniq keys_put
  subst hk
  refine h.held (gd_a3 f) rfl fun i k g x hi hl hx => ?_
  have hi0 : i = 0 := by have := (List.getElem?_eq_some_iff.1 hi).1; simp at this; omega
  subst hi0
  obtain rfl : [98] = k := by simpa using hi
  rw [a3_left] at hl
  have hg : some f = some g := by simpa [Ents.put] using hl
  obtain rfl := Option.some.inj hg
  have hxx : some (⟨[], 0⟩ : Fi) = some x := by rw [← hx]; simp [a3, a2, s1, Di.made, Di.setF, Di.tick]
  obtain rfl := Option.some.inj hxx
  simp [keep]
-- a call that is made to fail
def x0 : Di := { newD with at_ := 2, e := 12, part := 4 }
def x1 (f : Nat) : Di := (x0.tick.setF f ⟨[], 0⟩).made (.put [97] f)
def x2 (f : Nat) : Di := (x1 f).tick.cut.setF f ⟨[], 0⟩
def x3 (f : Nat) : Di := (x2 f).tick.setF f ⟨[9], 0⟩
theorem x_fai : faiS newD 2 12 4 = x0 := rfl
theorem x_cre {f c : Nat} (h : SizeM x0.now c) : creS x0 [97] f c = (0, x1 f) := by
  obtain rfl := size_new h
  rfl
theorem x_ap1 (f : Nat) : appS (x1 f) [97] [1, 2, 3] = (12, x2 f) := by
  have hc : cal (x1 f) [[97]] = (12, true, (x1 f).tick.cut) := rfl
  have ha : appF (x1 f) [97] = some (f, ⟨[], 0⟩) := appF_some (by simp [x1, Di.made, Ch.app, Ents.put]) (by simp [x1, Di.made, Di.setF])
  have e : (x1 f).part.toNat % (([1, 2, 3] : List UInt8).length + 1) = 0 := by
    show (4 : Int).toNat % 4 = 0
    decide
  unfold appS
  rw [hc, ha, if_neg (by simp)]
  simp only
  rw [if_neg (by decide), if_pos trivial, e]
  rfl
theorem x_ap2 (f : Nat) : appS (x2 f) [97] [9] = (0, x3 f) := by
  have hc : cal (x2 f) [[97]] = (0, false, (x2 f).tick) := rfl
  have ha : appF (x2 f) [97] = some (f, ⟨[], 0⟩) := appF_some (by simp [x2, x1, Di.made, Di.setF, Di.cut, Di.tick, Ch.app, Ents.put]) (by simp [x2, Di.setF])
  unfold appS
  rw [hc, ha]
  rfl
theorem x_held (f : Nat) : heldB (x3 f) [[97]] [[9]] := by
  refine ⟨?_, rfl, fun i hi => ?_⟩
  · rw [show (x3 f).off = false from rfl, if_neg (by simp)]
    exact keys_one
  · have hi0 : i = 0 := by simp at hi; omega
    subst hi0
    exact reaS_ok rfl rfl (f := f) (x := ⟨[9], 0⟩) (by simp [x3, x2, x1, Di.made, Di.setF, Di.cut, Di.tick, Ch.app, Ents.put]) (by simp [x3, Di.setF])
-- power goes
def y0 : Di := { newD with halt := 1 }
def y1 (f : Nat) : Di := (y0.tick.setF f ⟨[], 0⟩).made (.put [97] f)
def y2 (f : Nat) : Di := (y1 f).tick
theorem y_hal : halS newD 1 = y0 := rfl
theorem y_cre {f c : Nat} (h : SizeM y0.now c) : creS y0 [97] f c = (0, y1 f) := by
  obtain rfl := size_new h
  rfl
theorem y_cr2 (f g c : Nat) : creS (y1 f) [98] g c = (14, y2 f) := rfl
theorem y_rea (f : Nat) : reaS (y2 f) [97] = ([], 14) := rfl
-- errors
def z1 : Di := newD.tick
def z2 : Di := z1.tick
def z3 (f : Nat) : Di := (z2.tick.setF f ⟨[], 0⟩).made (.put [97] f)
def z4 (f : Nat) : Di := (z3 f).tick
def z5 (f : Nat) : Di := (z4 f).tick
def z6 (f : Nat) : Di := (z5 f).tick
def z7 (f : Nat) : Di := (z6 f).tick
def z8 (f : Nat) : Di := (z7 f).tick
theorem z_cr1 (f c : Nat) : creS newD [65] f c = (1, z1) := rfl
theorem z_cr2 (f c : Nat) : creS z1 [] f c = (1, z2) := rfl
theorem z_cr3 {f c : Nat} (h : SizeM z2.now c) : creS z2 [97] f c = (0, z3 f) := by
  obtain rfl := size_new h
  rfl
theorem z_now (f : Nat) (t : Tx) : (z3 f).now t = if t = [97] then some f else none := rfl
theorem z_cr4 (f g c : Nat) : creS (z3 f) [97] g c = (11, z4 f) := by
  unfold creS
  rw [cal_calm rfl rfl, z_now]
  rfl
theorem z_app (f : Nat) : appS (z4 f) [98] [] = (10, z5 f) := by
  unfold appS
  rw [cal_calm rfl rfl, appF_none (show (z4 f).now [98] = none from rfl)]
  rfl
theorem z_ren1 (f : Nat) : renS (z5 f) [98] [99] = (10, z6 f) := by
  unfold renS
  rw [cal_calm rfl rfl, show (z5 f).now [98] = none from rfl]
  rfl
theorem z_ren2 (f : Nat) : renS (z6 f) [97] [97] = (0, z7 f) := by
  unfold renS
  rw [cal_calm rfl rfl, show (z6 f).now [97] = some f from rfl]
  rfl
theorem z_del (f : Nat) : delS (z7 f) [98] = (10, z8 f) := by
  unfold delS
  rw [cal_calm rfl rfl, show (z7 f).now [98] = none from rfl]
  rfl
end Go.Proofs.Ythbgcmffpnmbeaa
