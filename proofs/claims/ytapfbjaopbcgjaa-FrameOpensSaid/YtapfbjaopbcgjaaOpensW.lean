/- The walk of FrameOpens: it answers true; nothing that was there has changed. -/
import Derived.Test.YtapfbjaopbcgjaaRefOpen
import Derived.Test.YtapfbjaopbcgjaaApartV
import Derived.Test.YtapfbjaopbcgjaaFBackW
namespace Go.Proofs.Ytapfbjaopbcgjaa
set_option linter.unusedVariables false
set_option linter.unusedSimpArgs false
open Go.RowKit

/-- the source: a slice of slices that is read. -/
theorem src_rows (W : World) (A : Option Addr) (n c base : Nat) (vals : List Value) (h : Own W base 23 1 (.slice A n c) n vals) (V : ∀ u ∈ vals, u.oneCell' = true) : Src Try.prog 1 22 (.slice A n c) n vals W :=
  Src.ofRd (P := Try.prog) (size := 1) W Try.underlying22 A n c vals (by have := h.1; omega) (by omega) h.rd V
theorem Vals.one {w : World} {base : Nat} {vals : List Value} {bss : List (List UInt8)} (V : Vals w base vals bss) : ∀ u ∈ vals, u.oneCell' = true := by
  intro u hu
  obtain ⟨j, hj⟩ := List.getElem?_of_mem hu
  obtain ⟨bs, _, ho⟩ := V.get hj
  obtain ⟨A, c, rfl, _⟩ := ho.form
  rfl
def kindB (d : List UInt8) : UInt8 := if kindOK d = true then d.getD 3 0 else 0
section
variable (kind : UInt8) (A : Option Addr) (n c : Nat) (d : List UInt8) (w : World)
theorem kind_gen (B : Nat) (W : World) (hl : d.length = n) (hn : n ≤ c) (hc : c ≤ maxLen) (hr : Rd W B A (by8 d)) : Calls Try.prog 19 #[.slice A n c] W (RetQ (.tuple #[.int .u8 ((kindB d).toNat : Nat), .bool (kindOK d)]) W) := by
  unfold kindB
  cases h : kindOK d with
  | true => exact kind_yes A n c B d W hl hn hc hr h
  | false => exact kind_no A n c B d W hl hn hc hr h
theorem refKind_gen (B : Nat) (W : World) (hl : d.length = n) (hn : n ≤ c) (hc : c ≤ maxLen) (hr : Rd W B A (by8 d)) : Calls Try.prog 20 #[.slice A n c] W (RetQ (.tuple #[.int .u8 ((kindB d).toNat : Nat), .bool (kindOK d)]) W) := by
  unfold kindB
  cases h : kindOK d with
  | true => exact refKind_yes A n c B d W hl hn hc hr h
  | false => exact refKind_no A n c B d W hl hn hc hr h

theorem openL_few {kind : UInt8} {d : List UInt8} : (openL kind d).length ≤ 1024 ∧ ∀ b ∈ openL kind d, b.length ≤ 16777216 := by
  by_cases he : openE kind d = 0
  · obtain ⟨h1, h2⟩ := seal_open kind d he
    have h3 := long_no h1
    refine ⟨h3.1, fun b hb => ?_⟩
    have := flat_mem hb
    omega
  · rw [openL_bad he]
    exact ⟨by simp, fun b hb => by cases hb⟩

set_option maxRecDepth 100000 in
set_option maxHeartbeats 4000000 in
theorem opens_any (hl : d.length = n) (hn : n ≤ c) (hc : c ≤ maxLen) (hcb : c ≤ 140737488351232) (hr : Rd w w.heap.size A (by8 d)) :
    Calls Try.prog 4 #[.int .u8 (kind.toNat : Nat), .slice A n c] w (RetB true w) := by
  have HC := hide hc
  have HCB := hide hcb
  unfold maxLen at hc
  have HR := hide hr
  have HL := hide hl
  clear hr hl hcb
  obtain ⟨i1, hi1, hz1, hsz1, hby1⟩ := info_parts Try.infoB
  by_cases hg : 100000 < n ∧ n ≤ 16777216
  · have hd1 : decide ((100000 : Int) < (n : Int)) = true := by
      apply decide_eq_true
      omega
    have hd2 : decide ((n : Int) ≤ 16777216) = true := by
      apply decide_eq_true
      omega
    clear hg
    go_enter Try.func4, Try.ntmps4
    go_wp2_with (go_at_call 9; refine (awake04_any _).mono ?_; rintro en w11 ⟨rfl, hfr⟩; have F11 := hide hfr; clear hfr)
    go_ret
    exact ⟨rfl, F11.out⟩
  · have hx : (decide ((100000 : Int) < (n : Int)) = false) ∨ (decide ((100000 : Int) < (n : Int)) = true ∧ decide ((n : Int) ≤ 16777216) = false) := by
      by_cases h : 100000 < n
      · exact .inr ⟨by apply decide_eq_true; omega, by apply decide_eq_false; omega⟩
      · exact .inl (by apply decide_eq_false; omega)
    have HLe := hide (lent8_any A n c _ d w HL.out (by have := HCB.out; omega) HR.out)
    have HO1 := hide (fun W A' c' (h : Rd W W.heap.size A' (by8 d)) (h1 : n ≤ c') (h2 : c' ≤ maxLen) => Calls.mono (open_any kind A' n c' W.heap.size d W HL.out h1 h2 (Nat.le_refl _) h) (fun _ _ h => h.le))
    have HO2 := hide (fun W (h : Rd W W.heap.size A (by8 d)) => Calls.mono (refOpen_any kind A n c W.heap.size d W HL.out hn HC.out (Nat.le_refl _) h) (fun _ _ h => h.le))
    have HK1 := hide (fun W A' c' (h : Rd W W.heap.size A' (by8 d)) (h1 : n ≤ c') (h2 : c' ≤ maxLen) => kind_gen A' n c' d W.heap.size W HL.out h1 h2 h)
    have HK2 := hide (fun W (h : Rd W W.heap.size A (by8 d)) => refKind_gen A n c d W.heap.size W HL.out hn HC.out h)
    have HFew := hide (openL_few (kind := kind) (d := d))
    generalize openE kind d = e at HO1 HO2
    generalize openL kind d = bl at HO1 HO2 HFew
    generalize kindB d = kb at HK1 HK2
    generalize kindOK d = ok at HK1 HK2
    have HBk := hide (fun W A' c' A'' c'' b b' (h : BSl W b A' bl) (h0 : BSl W b' A'' bl) (h1 : bl.length ≤ c') (h2 : c' ≤ maxLen) (h3 : bl.length ≤ c'') (h4 : c'' ≤ maxLen) => kblocks_same (kblocks_any A' A'' _ c' _ c'' b b' bl bl W rfl rfl h1 h2 h3 h4 h h0))
    obtain ⟨m, hm⟩ : ∃ m, m = bl.length := ⟨_, rfl⟩
    have hm24 : m ≤ 1024 := by rw [hm]; exact HFew.out.1
    have HM := hide hm
    clear hg hm
    have b1 : Hid ((0 + m) * 24 ≤ 140737488355328) := hide (by omega)
    have b2 : 0 + m ≤ maxLen := by unfold maxLen; omega
    have b3 : Hid ((0 + m + m) * 24 ≤ 140737488355328) := hide (by omega)
    have b4 : 0 + m + m ≤ maxLen := by unfold maxLen; omega
    have he : (e == e) = true := by simp
    have hkb : (((kb.toNat : Nat) : Int) == ((kb.toNat : Nat) : Int)) = true := by simp
    unfold GivesLE at HO1 HO2
    simp only [← HM.out] at HO1 HO2 HBk
    rcases hx with hx | ⟨hx, hx2⟩
    all_goals
      go_enter Try.func4, Try.ntmps4
      go_upto_region 2 with (fail)
      try clear hx
      try clear hx2
      go_wp2_with (first
        | (go_at_call 8; refine HLe.out.mono ?_; rintro en w1 ⟨A1, c1, rfl, hown, hfr⟩; rw [HL.out] at hown ⊢; have OL := hide hown; have F1 := hide hfr; have hle := hown.le; have L1 := hide (show n ≤ c1 by omega); have L2 := hide hle.2.2; have RL := hide (show Rd w1 w1.heap.size A1 (by8 d) by (have h := hown.rd.tk d.length; rw [← by8_take, List.take_left] at h; exact h)); clear hown hfr hle)
        | (go_at_call 17; have mk := Q2; clear mk; refine (HO1.out w2 A1 c1 (RL.out.fr0 f2.out |>.more f2.out.size) L1.out L2.out).mono ?_; rintro en w3 ⟨Ab, cb, vb, rfl, hown, hvals, hq1, hq2, hbl, hfr⟩; have OB := hide hown; have VB := hide hvals; have BB := hide hbl; have b1' := hide hq1; have b2' := hide hq2; have F3 := hide (F2.out.tr hfr); have f3 := hide (f2.out.tr hfr); have f23 := hide hfr; clear hown hvals hq1 hq2 hbl hfr)
        | (go_at_call 17; refine (HO1.out w1 A1 c1 RL.out L1.out L2.out).mono ?_; rintro en w2 ⟨Aa, ca, va, rfl, hown, hvals, hq1, hq2, hbl, hfr⟩; have OA := hide hown; have VA := hide hvals; have BA := hide hbl; have a1' := hide hq1; have a2' := hide hq2; have F2 := hide (F1.out.tr hfr); have f2 := hide hfr; have Q2 := hide True.intro; clear hown hvals hq1 hq2 hbl hfr)
        | (go_at_call 18; refine (HO2.out w3 ((HR.out.fr0 F3.out).more F3.out.size)).mono ?_; rintro en w4 ⟨Aw, cw, vw, rfl, hown, hvals, hq1, hq2, hbl, hfr⟩; have BW := hide hbl; have w1' := hide hq1; have w2' := hide hq2; have F4 := hide (F3.out.tr hfr); have f34 := hide hfr; have g5 := hide (Fr.refl No w4); clear hown hvals hq1 hq2 hbl hfr)
        | (go_at_call 19; refine (HK1.out w4 A1 c1 (RL.out.fr0 (f3.out.tr f34.out) |>.more (f3.out.tr f34.out).size) L1.out L2.out).mono ?_; rintro en w5 ⟨rfl, nq5, rfl⟩; clear g5; have g5 := hide ((Fr.refl No w4).drewN nq5); generalize w4.drewN nq5 = w5 at g5 ⊢)
        | (go_at_call 20; refine (HK2.out w5 ((HR.out.fr0 (F4.out.tr g5.out)).more (F4.out.tr g5.out).size)).mono ?_; rintro en w6 ⟨rfl, nq6, rfl⟩; have g6 := hide (g5.out.drewN nq6); generalize w5.drewN nq6 = w6 at g6 ⊢)
        | (at_builtin; refine wpList_append_gen _ rfl (.tmp 56) (.tmp 57) 22 22 rfl w4.heap.size 23 i1 (.slice none 0 0) 1 24 Try.underlying22 hi1 hz1 hsz1 hby1 rfl (.slice none 0 0) 0 [] rfl (Own.nil _ _ _ _) _ m va rfl (src_rows w6 Aa m ca _ va (OA.out.fr0 (f23.out.tr (f34.out.tr g6.out))) VA.out.one) b1.out b2 g6.out.size ?_; intro v7 w7 hown hfr hat; have O7 := hide hown; have g7 : Hid (Fr No w4 w7) := hide (g6.out.own hfr (fun g hg => by cases hg)); clear hown hfr hat)
        | (at_builtin; refine wpList_append_gen _ rfl (.tmp 59) (.tmp 60) 22 22 rfl w4.heap.size 23 i1 (.slice none 0 0) 1 24 Try.underlying22 hi1 hz1 hsz1 hby1 rfl v7 (0 + m) _ rfl O7.out _ m vb rfl (src_rows w7 Ab m cb _ vb (OB.out.fr0 (f34.out.tr g7.out)) VB.out.one) b3.out b4 g7.out.size ?_; intro v8 w8 hown hfr hat; have O8 := hide hown; have f78 := hide hfr; clear hown hfr hat))
      have z12 : w1.heap.size ≤ w2.heap.size := f2.out.size
      have z23 : w2.heap.size ≤ w3.heap.size := f23.out.size
      have z34 : w3.heap.size ≤ w4.heap.size := f34.out.size
      have z04 : w.heap.size ≤ w4.heap.size := F4.out.size
      have z01 : w.heap.size ≤ w1.heap.size := F1.out.size
      have F8 : Hid (Fr No w w8) := hide ((F4.out.tr g7.out).trans f78.out (fun i hi e => by have := (O7.out.lt i e).1; omega))
      have BA8 := hide ((BA.out.fr0 (f23.out.tr (f34.out.tr g7.out))).fr f78.out (fun k hk e => by have := (O7.out.lt k e).1; omega))
      have BB8 := hide ((BB.out.fr0 (f34.out.tr g7.out)).fr f78.out (fun k hk e => by have := (O7.out.lt k e).1; omega))
      have BW8 := hide ((BW.out.fr0 g7.out).fr f78.out (fun k hk e => by have := (O7.out.lt k e).1; omega))
      have OL8 := hide ((OL.out.fr0 (f3.out.tr (f34.out.tr g7.out))).fr f78.out (fun g hg e => by have h1 := (OL.out.lt g hg).2; have h2 := (O7.out.lt g e).1; have h3 := f2.out.size; omega))
      have VA8 := hide ((VA.out.fr0 (f23.out.tr (f34.out.tr g7.out))).other O7.out (by decide) f78.out)
      have VB8 := hide ((VB.out.fr0 (f34.out.tr g7.out)).other O7.out (by decide) f78.out)
      have V8 := hide (VA8.out.append VB8.out (fun j v hv k hk => by obtain ⟨_, _, ho⟩ := VA.out.get hv; exact (ho.lt k hk).2) (Nat.le_refl w1.heap.size) z12)
      obtain ⟨A8, c8, rfl, _, _, _, _, _⟩ := O8.out.form
      have P8 : Hid (Own w8 w1.heap.size 23 1 (.slice A8 (m + m) c8) (m + m) (va ++ vb)) := hide (by
        have h := O8.out.lower (show w1.heap.size ≤ w4.heap.size by omega)
        rw [List.nil_append, Nat.zero_add] at h
        exact h)
      have HL9 := hide (fun k hk => (OL.out.lt k hk).2)
      have HKp := hide (fun W (h : Own W w.heap.size 5 1 (.slice A1 (n + 1) c1) (n + 1) (by8 (d ++ [201]))) (h2 : Rd W w.heap.size A (by8 d)) => kept8_any A1 A n c1 n c W.heap.size w.heap.size d W HL.out HL.out h.le.2.1 L2.out hn HC.out h.rd h2)
      have HR8 := hide (HR.out.fr0 F8.out)
      have g8 := hide (Fr.refl No w8)
      have HAp : Hid (∀ W, Fr No w8 W → Calls Try.prog 16 #[.slice A8 (m + m) c8] W (fun en w' => en = .returned (.bool true) ∧ Fr (fun k => ∃ (j : Nat) (v : Value), (va ++ vb)[j]? = some v ∧ v.ownBlock = some k) W w')) := hide (fun W g => apart8_vals A8 (m + m) c8 w1.heap.size (va ++ vb) (bl ++ bl) W (P8.out.fr0 g) (V8.out.fr0 g) (by omega) (fun b hb => by have := HFew.out.2 b (by rcases List.mem_append.1 hb with h | h <;> exact h); omega))
      have hvb : ∀ k, (∃ (j : Nat) (v : Value), (va ++ vb)[j]? = some v ∧ v.ownBlock = some k) → w1.heap.size ≤ k := fun k h => by
        obtain ⟨j, v, hv, hk⟩ := h
        obtain ⟨_, _, ho⟩ := V8.out.get hv
        exact (ho.lt k hk).1
      have HOL : Hid (∀ g, (Value.slice A1 (n + 1) c1).ownBlock = some g → ¬ (∃ (j : Nat) (v : Value), (va ++ vb)[j]? = some v ∧ v.ownBlock = some g)) := hide (fun g hg e => by have h1 := HL9.out g hg; have h2 := hvb g e; omega)
      have HRL : Hid (∀ k, k < w.heap.size → ¬ (∃ (j : Nat) (v : Value), (va ++ vb)[j]? = some v ∧ v.ownBlock = some k)) := hide (fun k hk e => by have h2 := hvb k e; omega)
      clear hvb
      clear OL VA VB OA OB BA BB BW O7 O8 VA8 VB8 F1 F2 F3 F4 f2 f3 f23 f34 g5 g6 g7 f78 HO1 HO2 HK1 HK2 RL HLe
      go_wp2_with (first
        | (go_at_call 21; have mk := G9; clear mk; refine (HBk.out w9 Ab cb Aw cw _ _ (BB8.out.fr0 g9.out) (BW8.out.fr0 g9.out) b1'.out b2'.out w1'.out w2'.out).mono ?_; rintro en w10 ⟨rfl, nq10, rfl⟩; have g10 := hide (g9.out.drewN nq10); generalize w9.drewN nq10 = w10 at g10 ⊢)
        | (go_at_call 21; refine (HBk.out w8 Aa ca Aw cw _ _ BA8.out BW8.out a1'.out a2'.out w1'.out w2'.out).mono ?_; rintro en w9 ⟨rfl, nq9, rfl⟩; have G9 := hide True.intro; have g9 := hide (g8.out.drewN nq9); generalize w8.drewN nq9 = w9 at g9 ⊢)
        | (go_at_call 15; have mk := G12; clear mk; refine (HKp.out w12 OL12.out HR12.out).mono ?_; rintro en w13 ⟨rfl, nq13, rfl⟩; have F13 := hide (F12.out.drewN nq13); generalize w12.drewN nq13 = w13 at F13 ⊢)
        | (go_at_call 15; refine (HKp.out w10 (OL8.out.fr0 g10.out) (HR8.out.fr0 g10.out)).mono ?_; rintro en w11 ⟨rfl, nq11, rfl⟩; have g11 := hide (g10.out.drewN nq11); generalize w10.drewN nq11 = w11 at g11 ⊢)
        | (go_at_call 16; refine (HAp.out w11 g11.out).mono ?_; rintro en w12 ⟨rfl, hfr⟩; have G12 := hide True.intro; have OL12 := hide ((OL8.out.fr0 g11.out).fr hfr HOL.out); have HR12 := hide ((HR8.out.fr0 g11.out).fr hfr HRL.out); have F12 := hide ((F8.out.tr g11.out).trans hfr HRL.out); clear hfr)
        | (go_at_call 9; refine (awake04_any _).mono ?_; rintro en w14 ⟨rfl, hfr⟩; have F14 := hide (F13.out.tr hfr); clear hfr))
      go_ret
      exact ⟨rfl, F14.out⟩
end
end Go.Proofs.Ytapfbjaopbcgjaa
