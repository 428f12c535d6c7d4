/- Crash. -/
import Derived.Test.YthbgcmffpnmbeaaVfC0
import Derived.Deep.CutRange
import Derived.Deep.DeepCutAuto
import Derived.Deep.RegionLaw
import Derived.IntWalk
import Derived.Deep.RegionHeld3
namespace Go.Proofs.Ythbgcmffpnmbeaa
set_option linter.unusedVariables false
set_option linter.unusedSimpArgs false
open Go.RowKit Go.Maps

theorem chgv {w : World} {Z : Nat → Prop} {c : Ch} {v : Value} (hv : ChV w Z c v) :
    (∃ b1 b2, v = .func (.func 68) #[] #[bx b1, bx b2] ∧ ∀ (W : World) (b n : Nat) (m : Ents) (D : DataW Empty), ChV W Z c v → MapM W b n m D → n < maxLen → (∀ g, c.file = some g ∨ (∃ k, m k = some g) → ∃ cs ta, W.heap[g]? = some (.cells cs ta (0, 0))) → Calls Try.prog 68 #[.map (some b), bx b1, bx b2] W (RetM W b (n + 1) (c.app m))) ∨
    (∃ b1 b2 b3, v = .func (.func 69) #[] #[bx b1, bx b2, bx b3] ∧ ∀ (W : World) (b n : Nat) (m : Ents) (D : DataW Empty), ChV W Z c v → MapM W b n m D → n < maxLen → (∀ g, c.file = some g ∨ (∃ k, m k = some g) → ∃ cs ta, W.heap[g]? = some (.cells cs ta (0, 0))) → Calls Try.prog 69 #[.map (some b), bx b1, bx b2, bx b3] W (RetM W b (n + 1) (c.app m))) ∨
    (∃ b1, v = .func (.func 70) #[] #[bx b1] ∧ ∀ (W : World) (b n : Nat) (m : Ents) (D : DataW Empty), ChV W Z c v → MapM W b n m D → n < maxLen → (∀ g, c.file = some g ∨ (∃ k, m k = some g) → ∃ cs ta, W.heap[g]? = some (.cells cs ta (0, 0))) → Calls Try.prog 70 #[.map (some b), bx b1] W (RetM W b (n + 1) (c.app m))) := by
  cases c with
  | put t f =>
    obtain ⟨b1, b2, rfl, _⟩ := hv
    refine .inl ⟨b1, b2, rfl, fun W b n m D h1 h2 h3 h4 => ?_⟩
    rcases chg_any h1 h2 h3 h4 with ⟨_, _, e, hc⟩ | ⟨_, _, _, e, _⟩ | ⟨_, e, _⟩
    · simp only [Value.func.injEq] at e
      obtain ⟨_, _, e⟩ := e
      simp only [bx, Array.mk.injEq, List.cons.injEq, Value.pointer.injEq, Option.some.injEq, Addr.mk.injEq, and_true, true_and] at e
      obtain ⟨rfl, rfl⟩ := e
      exact hc
    · simp at e
    · simp at e
  | ren s t f =>
    obtain ⟨b1, b2, b3, rfl, _⟩ := hv
    refine .inr (.inl ⟨b1, b2, b3, rfl, fun W b n m D h1 h2 h3 h4 => ?_⟩)
    rcases chg_any h1 h2 h3 h4 with ⟨_, _, e, _⟩ | ⟨_, _, _, e, hc⟩ | ⟨_, e, _⟩
    · simp at e
    · simp only [Value.func.injEq] at e
      obtain ⟨_, _, e⟩ := e
      simp only [bx, Array.mk.injEq, List.cons.injEq, Value.pointer.injEq, Option.some.injEq, Addr.mk.injEq, and_true, true_and] at e
      obtain ⟨rfl, rfl, rfl⟩ := e
      exact hc
    · simp at e
  | del t =>
    obtain ⟨b1, rfl, _⟩ := hv
    refine .inr (.inr ⟨b1, rfl, fun W b n m D h1 h2 h3 h4 => ?_⟩)
    rcases chg_any h1 h2 h3 h4 with ⟨_, _, e, _⟩ | ⟨_, _, _, e, _⟩ | ⟨_, e, hc⟩
    · simp at e
    · simp at e
    · simp only [Value.func.injEq] at e
      obtain ⟨_, _, e⟩ := e
      simp only [bx, Array.mk.injEq, List.cons.injEq, Value.pointer.injEq, Option.some.injEq, Addr.mk.injEq, and_true, true_and] at e
      subst e
      exact hc
theorem DirP.hold {w : World} {Z : Nat → Prop} {d N : Nat} {S : Di} {p : Ph} (h : DirP w Z d S N p) {c : Ch} {m : Ents} (hc : c ∈ S.chs) (hm : ∀ k f, m k = some f → (S.fs f).isSome = true) :
    ∀ g, c.file = some g ∨ (∃ k, m k = some g) → ∃ cs ta, w.heap[g]? = some (.cells cs ta (0, 0)) := fun g hg => by
  have hs : (S.fs g).isSome = true := by
    rcases hg with hg | ⟨k, hg⟩
    · exact h.chf c hc g hg
    · exact hm k g hg
  obtain ⟨x, hx⟩ := Option.isSome_iff_exists.1 hs
  exact ⟨_, _, (h.files g x hx).1.cell⟩
/-- two blocks of the call's own. -/
def Two (a b : Nat) : Nat → Prop := fun k => k = a ∨ k = b
set_option maxRecDepth 100000 in
set_option maxHeartbeats 3200000 in
theorem crash_any (w : World) (Z : Nat → Prop) (d N : Nat) (S : Di) (p : Ph) (A : Option Addr) (n c B : Nat) (l : List Int) (h : DirP w Z d S N p) (hN : N ≤ 1099511627000)
    (hl : l.length = n) (hn : n ≤ c) (hc : c ≤ maxLen) (hr : Rd w B A (iz .i64 l)) (hB : B ≤ w.heap.size) (hw : ∀ z ∈ l, -9223372036854775808 ≤ z ∧ z ≤ 9223372036854775807) :
    Calls Try.prog 14 #[.pointer (some ⟨d, 0, none⟩), .slice A n c] w (RetCr w S l N) := by
  have f0 : Fr No w (w.alloc (.cells #[.slice A n c] 23)) := (Fr.refl _ _).alloc _
  obtain ⟨w0, hw0⟩ : ∃ W, W = w.alloc (.cells #[.slice A n c] 23) := ⟨_, rfl⟩
  have hbox : BoxC w0 w.heap.size l A n c B := by
    subst hw0
    exact ⟨heap_alloc_new w _, hl, hn, hc, hr.fr0 f0, hB, hw⟩
  rw [← hw0] at f0
  have HBx := hide hbox
  have HF0 := hide f0
  have H := hide h
  have h0 := h.fr0 f0
  have H0 := hide h0
  obtain ⟨nd, Dd, ad, md⟩ := h0.dur
  have k1 : w.cell? ⟨d, 1, none⟩ = some (.map (some p.mb)) := h.cell rfl
  have hdl := h.lt d h.zd
  have hmc0 := mclone_any w0 _ _ _ _ md
  rw [show w0.heap.size = w.heap.size + 1 by subst hw0; simp] at hmc0
  have HMc := hide hmc0
  clear hmc0
  obtain ⟨vs, ov, cv⟩ := h.chs
  obtain ⟨Ac, cc, hcv, hcc, hccm, _, hcr, _⟩ := ov.form
  have k2 : w.cell? ⟨d, 2, none⟩ = some (.slice Ac S.chs.length cc) := by rw [← hcv]; exact h.cell rfl
  have HCr := hide hcr
  have HCv := hide cv
  have HVl := hide (show vs.length = S.chs.length by have := ov.1; omega)
  have HSz := hide (show w.heap.size < w0.heap.size by subst hw0; simp)
  have HAd := hide ad
  unfold maxLen at hccm
  clear h hl hn hc hr hbox f0 h0 md ov cv hcr ad
  go_enter Try.func14, Try.ntmps14
  go_wp2_with (go_at_call 44; rw [← hw0]; refine HMc.out.mono ?_; rintro e w1 ⟨rfl, hm1, hf1⟩; have HM1 := hide hm1; have HF1 := hide hf1; have j2 := (HF0.out.tr hf1).cell k2 (fun h => h); clear hm1 hf1)
  have HBx1 := hide (HBx.out.fr0 HF1.out)
  have HL0 := hide (LfI.zero (S := S) (l := l) H0.out.durf)
  go_wp2
  go_loopw [27] (fun i wr => ∃ (k : Nat) (m : Ents) (D : DataW Empty) (A' : Option Addr) (n' c' : Nat), k ≤ S.chs.length ∧ i = .int .i64 k ∧ Hid (Fr (Two w.heap.size (w.heap.size + 1)) w1 wr) ∧ Hid (BoxC wr w.heap.size (l.drop k) A' n' c' B) ∧ Hid (MapM wr (w.heap.size + 1) (nd + k) m D) ∧ Hid (LfI S l k m)) (fun i _ => S.chs.length - (intOf i).toNat)
  case atStart => exact ⟨0, _, _, A, n, c, by omega, rfl, hide (Fr.refl _ _), HBx1, HM1, HL0⟩
  case round =>
    obtain ⟨k, m, D, A', n', c', hk, rfl, HW, HB, HM, HL⟩ := hrel
    by_cases hlt : k < S.chs.length
    · obtain ⟨cx, hcx⟩ : ∃ cx, S.chs[k]? = some cx := ⟨_, List.getElem?_eq_getElem hlt⟩
      obtain ⟨v, hv⟩ : ∃ v, vs[k]? = some v := ⟨vs[k]'(by rw [HVl.out]; exact hlt), List.getElem?_eq_getElem _⟩
      obtain ⟨ad, rfl, _, hcell⟩ := HCr.out k v hv
      have hNo : Fr No w wr := (HF0.out.tr HF1.out).trans HW.out (fun i hi hz => by have := HSz.out; rcases hz with e | e <;> omega)
      have hcell' := hNo.cell hcell (fun h => h)
      have hcv' : ChV wr Z cx v := (HCv.out k cx v hcx hv).fr hNo (fun _ _ h => h) (fun _ h => h)
      obtain ⟨q, hq⟩ : ∃ q, q = hdC (l.drop k) := ⟨_, rfl⟩
      have HNx : Hid (Calls Try.prog 45 #[.pointer (some ⟨w.heap.size, 0, none⟩)] wr (fun en w' => en = .returned (.int .i64 (q : Nat)) ∧ (∃ A' n' c', BoxC w' w.heap.size (l.drop (k + 1)) A' n' c' B) ∧ Fr (Is w.heap.size) wr w')) := hide ((next_any wr w.heap.size (l.drop k) A' n' c' B HB.out).mono fun en w' h' => by
        obtain ⟨h1, h2, h3⟩ := h'
        rw [List.tail_drop] at h2
        exact ⟨by rw [hq]; exact h1, h2, h3⟩)
      have HLn := hide (HL.out.next hcx (H.out.chf cx (List.mem_of_getElem? hcx)))
      rw [← hq] at HLn
      have HNo := hide hNo
      have HDl := hide hdl
      by_cases hodd : q % 2 = 1
      · have hb : (((q : Nat) : Int) % 2 == 1) = true := by simp; omega
        rw [if_pos hodd] at HLn
        have HCg : Hid (∀ w2, Fr (Is w.heap.size) wr w2 → ChV w2 Z cx v ∧ MapM w2 (w.heap.size + 1) (nd + k) m D ∧ (∀ g, cx.file = some g ∨ (∃ k, m k = some g) → ∃ cs ta, w2.heap[g]? = some (.cells cs ta (0, 0)))) := hide fun w2 hf2 => by
          have hfw : Fr No w w2 := HNo.out.trans hf2 (fun i hi hz => by have e : i = w.heap.size := hz; omega)
          exact ⟨hcv'.fr hf2 (fun j hj e => by have e' : j = w.heap.size := e; have := H.out.lt j hj; omega) (fun _ h => h), HM.out.fr hf2 (fun e => by have e' : (w.heap.size + 1) = w.heap.size := e; have := HSz.out; omega), (H.out.fr0 hfw).hold (List.mem_of_getElem? hcx) HL.out.isf⟩
        have hnd : nd + k < maxLen := by have := HAd.out; unfold maxLen; omega
        clear hNo hcell hv hcx hq
        rcases chgv hcv' with ⟨b1, b2, rfl, HC0⟩ | ⟨b1, b2, b3, rfl, HC0⟩ | ⟨b1, rfl, HC0⟩
        · have HC := hide HC0
          clear HC0 hcv'
          unfold bx at HC
          unfold bx at hcell'
          go_wp2_with (first | (go_at_call 45; refine HNx.out.mono ?_; rintro e w2 ⟨rfl, ⟨A2, n2, c2, hb2⟩, hf2⟩; have HB2 := hide hb2; have HF2 := hide hf2; obtain ⟨hx1, hx2, hx3⟩ := HCg.out w2 hf2; have hc2 := HC.out w2 _ _ _ _ hx1 hx2 hnd hx3; clear hx1 hx2 hx3 hb2 hf2) | (go_at_call 68; refine hc2.mono ?_; rintro e w3 ⟨rfl, ⟨D3, hm3⟩, hf3⟩; have HM3 := hide hm3; have HF3 := hide hf3; clear hm3 hf3))
          go_round
          case rel => exact ⟨k + 1, cx.app m, D3, A2, n2, c2, by omega, by go_num, hide ((HW.out.ts (HF2.out.mono fun i _ e => .inl e)).ts (HF3.out.mono fun i _ e => .inr e)), hide (HB2.out.fr HF3.out (fun e => by have e' : w.heap.size = w.heap.size + 1 := e; omega) (fun j hj e => by have e' : j = (w.heap.size + 1) := e; have := HSz.out; omega)), hide HM3.out, HLn⟩
          case measure => simp [intOf]; omega
        · have HC := hide HC0
          clear HC0 hcv'
          unfold bx at HC
          unfold bx at hcell'
          go_wp2_with (first | (go_at_call 45; refine HNx.out.mono ?_; rintro e w2 ⟨rfl, ⟨A2, n2, c2, hb2⟩, hf2⟩; have HB2 := hide hb2; have HF2 := hide hf2; obtain ⟨hx1, hx2, hx3⟩ := HCg.out w2 hf2; have hc2 := HC.out w2 _ _ _ _ hx1 hx2 hnd hx3; clear hx1 hx2 hx3 hb2 hf2) | (go_at_call 69; refine hc2.mono ?_; rintro e w3 ⟨rfl, ⟨D3, hm3⟩, hf3⟩; have HM3 := hide hm3; have HF3 := hide hf3; clear hm3 hf3))
          go_round
          case rel => exact ⟨k + 1, cx.app m, D3, A2, n2, c2, by omega, by go_num, hide ((HW.out.ts (HF2.out.mono fun i _ e => .inl e)).ts (HF3.out.mono fun i _ e => .inr e)), hide (HB2.out.fr HF3.out (fun e => by have e' : w.heap.size = w.heap.size + 1 := e; omega) (fun j hj e => by have e' : j = (w.heap.size + 1) := e; have := HSz.out; omega)), hide HM3.out, HLn⟩
          case measure => simp [intOf]; omega
        · have HC := hide HC0
          clear HC0 hcv'
          unfold bx at HC
          unfold bx at hcell'
          go_wp2_with (first | (go_at_call 45; refine HNx.out.mono ?_; rintro e w2 ⟨rfl, ⟨A2, n2, c2, hb2⟩, hf2⟩; have HB2 := hide hb2; have HF2 := hide hf2; obtain ⟨hx1, hx2, hx3⟩ := HCg.out w2 hf2; have hc2 := HC.out w2 _ _ _ _ hx1 hx2 hnd hx3; clear hx1 hx2 hx3 hb2 hf2) | (go_at_call 70; refine hc2.mono ?_; rintro e w3 ⟨rfl, ⟨D3, hm3⟩, hf3⟩; have HM3 := hide hm3; have HF3 := hide hf3; clear hm3 hf3))
          go_round
          case rel => exact ⟨k + 1, cx.app m, D3, A2, n2, c2, by omega, by go_num, hide ((HW.out.ts (HF2.out.mono fun i _ e => .inl e)).ts (HF3.out.mono fun i _ e => .inr e)), hide (HB2.out.fr HF3.out (fun e => by have e' : w.heap.size = w.heap.size + 1 := e; omega) (fun j hj e => by have e' : j = (w.heap.size + 1) := e; have := HSz.out; omega)), hide HM3.out, HLn⟩
          case measure => simp [intOf]; omega
      · have hb : (((q : Nat) : Int) % 2 == 1) = false := by simp; omega
        rw [if_neg hodd] at HLn
        clear hNo hcell hv hcx hq hcv'
        go_wp2_with (go_at_call 45; refine HNx.out.mono ?_; rintro e w2 ⟨rfl, ⟨A2, n2, c2, hb2⟩, hf2⟩; have HB2 := hide hb2; have HF2 := hide hf2; clear hb2 hf2)
        go_round
        case rel => exact ⟨k + 1, m, D, A2, n2, c2, by omega, by go_num, hide (HW.out.ts (HF2.out.mono fun i _ e => .inl e)), HB2, hide ((HM.out.fr HF2.out (fun e => by have e' : (w.heap.size + 1) = w.heap.size := e; have := HSz.out; omega)).mono (by omega)), HLn⟩
        case measure => simp [intOf]; omega
    · obtain rfl : k = S.chs.length := by omega
      obtain ⟨wa, rfl⟩ : ∃ W : World, W = wr := ⟨_, rfl⟩
      have hm := HL.out.end_
      have HMe := hide hm
      have HMf := hide HL.out.isf
      clear hm
      have HAd1 := hide (show nd + S.chs.length ≤ 1099511627776 by have := HAd.out; omega)
      have HNew := hide (fun W => new_any W)
      have HKy := hide (fun W => mkeys_any (w.heap.size + 1) W)
      have HSo := hide (fun (W : World) (M : MapM W (w.heap.size + 1) (nd + S.chs.length) m D) => msorted_any W (w.heap.size + 1) _ m D M HAd1.out)
      have HWs := hide (show w.heap.size + 1 < wa.heap.size from HM.out.lt)
      go_wp2_with (first
        | (go_at_call 9; refine (HNew.out _).mono ?_; rintro e w2 ⟨rfl, hf2, ⟨p0, hd2⟩⟩; have HF2 := hide hf2; have HD2 := hide hd2; clear hf2 hd2)
        | (go_at_call 42; refine (HKy.out _).mono ?_; rintro e w3 ⟨rfl, rfl⟩)
        | (go_at_call 41; refine (HSo.out w2 (HM.out.fr0 HF2.out)).mono ?_; rintro e w4 ⟨A4, c4, ks, rfl, hks, hkl, ho4, hf4⟩; have HO4 := hide ho4; have HF4 := hide hf4; have HKs := hide hks; have HKl := hide hkl; have hle4 := ho4.le.2.1; have hm4 := ho4.le.2.2; clear ho4 hf4 hks hkl))
      have hm4' := hm4
      unfold maxLen at hm4'
      have HF24 := hide (((Fr.refl No w2).alloc (.cells #[.map (some (w.heap.size + 1))] 68)).tr HF4.out)
      have HM4 := hide ((HM.out.fr0 HF2.out).fr0 HF24.out)
      have HB4 := hide ((HB.out.fr0 HF2.out).fr0 HF24.out)
      have HD4 := hide (HD2.out.fr0 HF24.out)
      have hkn : ks.length ≤ N := by
        have h1 := HKs.out.size.uniq HM4.out.size
        have h2 := HM4.out.own.size_le
        have := HAd.out
        omega
      go_loopw [44] (fun i wr => ∃ (k : Nat) (C : Di) (Z2 : Nat → Prop) (p2 : Ph) (A' : Option Addr) (n' c' : Nat), k ≤ ks.length ∧ i = .int .i64 k ∧ Hid (Fr (Two w.heap.size p0.nb) w4 wr) ∧ Hid (BoxC wr w.heap.size (l.drop (S.chs.length + k)) A' n' c' B) ∧ Hid (DirP wr Z2 (wa.heap.size + 2) C k p2) ∧ Hid (∀ j, Z2 j → wa.heap.size ≤ j) ∧ Hid (p2.nb = p0.nb) ∧ Hid (CrI S m (l.drop S.chs.length) ks k C)) (fun i _ => ks.length - (intOf i).toNat)
      case atStart => exact ⟨0, newD, _, p0, A', n', c', by omega, rfl, hide (Fr.refl _ _), HB4, HD4, hide (fun j hj => hj.1), hide rfl, hide (CrI.zero _ _ _ _)⟩
      case round =>
        obtain ⟨k, C, Z2, p2, A', n', c', hk, rfl, HW5, HB5, HD5, HZ5, HNb, HC5⟩ := hrel
        by_cases hlt : k < ks.length
        · have hNo5 : Fr No w wr := ((((HF0.out.tr HF1.out).trans HW.out (fun i hi hz => by rcases hz with e | e <;> omega)).tr HF2.out).tr HF24.out).trans HW5.out (fun i hi hz => by
            have := HWs.out
            have h3 := HD2.out.znb.1
            rcases hz with e | e <;> omega)
          have HNo5 := hide hNo5
          have ho5 := HO4.out.fr HW5.out (fun g hg hz => by
            have h1 := (HO4.out.lt g hg).1
            have h2 := HD2.out.znb.2
            have h3 := HF2.out.size
            have h4 := HWs.out
            simp at h1
            rcases hz with e | e <;> omega)
          have HM5 := hide (HM4.out.fr HW5.out (fun hz => by
            have h3 := HD2.out.znb.1
            have h4 := HWs.out
            rcases hz with e | e <;> omega))
          obtain ⟨ad, X, rfl, _, hcell, hX, _, _⟩ := cellStr ho5.rd hlt
          have ev : Value.string X = sv (ks.getD k []) := by unfold sv; rw [← hX]
          obtain ⟨t, ht⟩ : ∃ t, t = ks.getD k [] := ⟨_, rfl⟩
          rw [← ht] at ev
          have htk : ks[k]? = some t := by rw [ht, List.getD, List.getElem?_eq_getElem hlt]; rfl
          have htm := List.mem_of_getElem? htk
          obtain ⟨f, hmf⟩ := Option.isSome_iff_exists.1 ((HKs.out.2 t).1 htm)
          obtain ⟨x, hx⟩ := Option.isSome_iff_exists.1 (HMf.out t f hmf)
          have hl5 := HM5.out.look (HKl.out t htm)
          rw [hmf, ← ev] at hl5
          unfold optV fpt at hl5
          have h5 := H.out.fr0 hNo5
          obtain ⟨A9, c9, hq⟩ := h5.file hx
          have hfi := (h5.files f x hx).1
          have hown := hfi.own
          rw [hq.v] at hown
          have hownw := (H.out.files f x hx).1.own
          rw [hq.v] at hownw
          have HRw := hide hownw.rd
          have hmost := hfi.most
          have hsle := hfi.le
          have q0 := hq.c0
          have q1 := hq.c1
          have hle9 := hq.le
          have hcm9 := hq.most
          have HRd := hide hown.rd
          have hfw : f < w.heap.size := H.out.lt f (H.out.files f x hx).2.1
          obtain ⟨q, hqd⟩ : ∃ q, q = hdC (l.drop (S.chs.length + k)) := ⟨_, rfl⟩
          have HNx : Hid (∀ W, Fr No wr W → Calls Try.prog 45 #[.pointer (some ⟨w.heap.size, 0, none⟩)] W (fun en w' => en = .returned (.int .i64 (q : Nat)) ∧ (∃ A' n' c', BoxC w' w.heap.size (l.drop (S.chs.length + (k + 1))) A' n' c' B) ∧ Fr (Is w.heap.size) W w')) := hide fun W fW => (next_any W w.heap.size (l.drop (S.chs.length + k)) A' n' c' B (HB5.out.fr0 fW)).mono fun en w' h' => by
            obtain ⟨h1, h2, h3⟩ := h'
            rw [List.tail_drop] at h2
            exact ⟨by rw [hqd]; exact h1, h2, h3⟩
          have HQd := hide hqd
          have HHx := hide hx
          have HTk := hide htk
          have HMk := hide hmf
          have hk0 : wr.cell? ⟨wa.heap.size + 2, 0, none⟩ = some (.map (some p0.nb)) := by rw [← HNb.out]; exact HD5.out.cell rfl
          have HDl := hide hdl
          obtain ⟨nn, hnn⟩ : ∃ nn, nn = x.s + q % (x.b.length - x.s + 1) := ⟨_, rfl⟩
          have hnle : nn ≤ x.b.length := by rw [hnn]; exact keep_le hsle q
          have HNn := hide hnn
          have hfcb : f ≠ w.heap.size := by omega
          obtain ⟨m0, hm0⟩ : ∃ m0, m0 = x.b.length - x.s := ⟨_, rfl⟩
          obtain ⟨rr, hrr⟩ : ∃ rr, rr = q % (m0 + 1) := ⟨_, rfl⟩
          have hw1 : IntKind.i64.wrap ((x.b.length : Int) - (x.s : Int)) = (m0 : Int) := by rw [IntWalk.i64_in _ (by omega)]; omega
          have hw2 : IntKind.i64.wrap ((m0 : Int) + 1) = (m0 : Int) + 1 := IntWalk.i64_in _ (by omega)
          have hd0 : ¬ ((m0 : Int) + 1 = 0) := by omega
          have htmo : (q : Int).tmod ((m0 : Int) + 1) = (rr : Int) := by
            rw [Int.tmod_eq_emod_of_nonneg (by omega), hrr]
            exact (Int.natCast_emod _ _).symm
          have hw3 : IntKind.i64.wrap ((x.s : Int) + (rr : Int)) = (nn : Int) := by
            have : nn = x.s + rr := by rw [hnn, hrr, hm0]
            rw [IntWalk.i64_in _ (by omega)]; omega
          have HEv := hide ev
          clear hm0 hrr
          clear ev hNo5 ho5 ht htk htm hmf hx h5 hq hfi hown hownw hqd hX hnn
          go_upto_region 16 with (fail)
          go_cut [13] from 51 to 69 (fun v wz => v = .int .i64 (nn : Nat) ∧ (∃ A n c, Hid (BoxC wz w.heap.size (l.drop (S.chs.length + (k + 1))) A n c B)) ∧ Hid (Fr (Is w.heap.size) wr wz))
          case first =>
            have HK0 : Hid (wr.drew.cell? ⟨f, 0, none⟩ = some (.slice A9 x.b.length c9) ∧ wr.drew.cell? ⟨f, 1, none⟩ = some (.int .i64 (x.s : Nat))) := hide ⟨q0, q1⟩
            clear q0 q1
            go_region_held3 (fun W => W.cell? ⟨f, 0, none⟩ = some (.slice A9 x.b.length c9) ∧ W.cell? ⟨f, 1, none⟩ = some (.int .i64 (x.s : Nat))) (first | exact HK6.out | exact HK0.out) (first
              | (go_at_call 45; refine (HNx.out _ (Fr.refl No wr).drew).mono ?_; rintro e w6 ⟨rfl, ⟨A2, n2, c2, hb2⟩, hf6⟩; have HB6 := hide hb2; have HF6 := hide (((Fr.refl No wr).drew.any (Is w.heap.size)).ts hf6); have HK6 := hide (p := _ ∧ _) ⟨hf6.cell HK0.out.1 hfcb, hf6.cell HK0.out.2 hfcb⟩; clear hb2 hf6))
            all_goals (go_wp2; go_meet)
            all_goals exact ⟨rfl, ⟨_, _, _, HB6⟩, HF6⟩
          case rest =>
            obtain ⟨rfl, ⟨A6, n6, c6, HB6⟩, HF6⟩ := hcut
            obtain ⟨w6, rfl⟩ : ∃ W : World, W = wc := ⟨_, rfl⟩
            clear hw1 hw2 hd0 htmo hw3 HNx
            have hx0 := HF6.out.cell q0 hfcb
            have hxk := HF6.out.cell hk0 (fun e => by have e' : wa.heap.size + 2 = w.heap.size := e; have := HWs.out; omega)
            have HD6 := hide (HD5.out.fr HF6.out (fun j hj e => by have e' : j = w.heap.size := e; have := HZ5.out j hj; have := HWs.out; omega))
            have hw6 : wr.heap.size ≤ w6.heap.size := HF6.out.size
            have HNo6 := hide (HNo5.out.trans HF6.out (fun i hi e => by have e' : i = w.heap.size := e; omega))
            have HRd6 := hide ((HRw.out.fr0 HNo6.out).tk nn)
            rw [← by8_take] at HRd6
            have HTl := hide (show (x.b.take nn).length = nn by rw [List.length_take]; omega)
            have HCl := hide (fun W (f : Fr No w6 W) => clone_any A9 nn c9 w.heap.size (x.b.take nn) W HTl.out (by omega) hcm9 (by omega) (Nat.le_trans HNo6.out.size f.size) (HRd6.out.fr0 f))
            obtain ⟨n8, D8, hn8, hm8⟩ := HD6.out.now
            rw [HNb.out] at hm8
            have HM8 := hide (hm8.mono hn8)
            clear hm8
            have HKey := hide (keyT (k := t) (HKl.out t (List.mem_of_getElem? HTk.out)))
            rw [← HEv.out] at HKey
            have hn63 : k < maxLen := by unfold maxLen; omega
            go_upto_region 17 with (fail)
            refine wp_calm fun K hK => ?_
            go_cut [] from 70 to 84 (fun wz => ∃ (g : Nat) (w8 : World), Hid (C.fs g = none ∧ (∃ p', p'.nb = p2.nb ∧ DirP wz (Zw Z2 w6 w8) (wa.heap.size + 2) { C.setF g (keep x q) with now := C.now.put t g } (k + 1) p') ∧ Fr (Is p2.nb) w6 wz))
            case first =>
              have HK0 : Hid (w6.drew.cell? ⟨f, 0, none⟩ = some (.slice A9 x.b.length c9) ∧ w6.drew.cell? ⟨wa.heap.size + 2, 0, none⟩ = some (.map (some p0.nb))) := hide ⟨hx0, hxk⟩
              clear hx0 hxk q0 q1 hK
              have hfx : f < w6.heap.size := Nat.lt_of_lt_of_le hfw HNo6.out.size
              have hxx : wa.heap.size + 2 < w6.heap.size := HD6.out.lt _ HD6.out.zd
              have hfnb : f ≠ p0.nb := fun e => by have := HD2.out.znb.1; have := HWs.out; omega
              have hxnb : wa.heap.size + 2 ≠ p0.nb := fun e => by
                obtain ⟨es, clock, hb⟩ := HM8.out.isMap
                rw [← e, HD6.out.dir] at hb
                cases hb
              have hz1 : (0 : Int) ≤ (nn : Int) := by omega
              have hz2 : (nn : Int) ≤ (c9 : Int) := by omega
              have hz3 : nn ≤ c9 := by omega
              go_region_held3 (fun W => W.cell? ⟨f, 0, none⟩ = some (.slice A9 x.b.length c9) ∧ W.cell? ⟨wa.heap.size + 2, 0, none⟩ = some (.map (some p0.nb))) (first | exact HK9.out | exact HK8.out | exact HK7.out | exact HK0.out) (first
                | (go_at_call 46; refine (HCl.out _ (Fr.refl No w6).drew).mono ?_; intro e w7 hg7; obtain ⟨A7, c7, rfl, ho7, hf7⟩ := give2 HTl.out hg7; have HF7 := hide (((Fr.refl No w6).drew).tr hf7); have HO7 := hide ho7; have HK7 := hide (p := _ ∧ _) ⟨hf7.cell HK0.out.1 (fun h => h), hf7.cell HK0.out.2 (fun h => h)⟩; have HF8 := hide (HF7.out.alloc (.cells #[.slice A7 nn c7, .int .i64 (nn : Nat)] 83)); have HK8 := hide (p := _ ∧ _) ⟨((Fr.refl No w7).alloc (.cells #[.slice A7 nn c7, .int .i64 (nn : Nat)] 83)).cell HK7.out.1 (fun h => h), ((Fr.refl No w7).alloc (.cells #[.slice A7 nn c7, .int .i64 (nn : Nat)] 83)).cell HK7.out.2 (fun h => h)⟩; have HM9 := hide (HM8.out.fr0 HF8.out); obtain ⟨w9, hrun9, hown9, hturn9⟩ := HM9.out.own.store Try.keyS Try.underlying68 hn63 HKey.out (fileR_opt (some w7.heap.size)); unfold optV fpt at hrun9; have HO9 := hide hown9; have HT9 := hide hturn9; have HK9 := hide (p := _ ∧ _) ⟨(Fr.turned hturn9).cell HK8.out.1 hfnb, (Fr.turned hturn9).cell HK8.out.2 hxnb⟩; clear hown9 hturn9; have hfx7 : f < w7.heap.size := Nat.lt_of_lt_of_le hfx hf7.size; have hxx7 : wa.heap.size + 2 < w7.heap.size := Nat.lt_of_lt_of_le hxx hf7.size; clear hg7 ho7 hf7))
              all_goals (go_wp2; go_meet)
              all_goals
                have hkp : keep x q = ⟨x.b.take nn, nn⟩ := by unfold keep; rw [← HNn.out]
                refine ⟨w7.heap.size, w7.alloc (.cells #[.slice A7 nn c7, .int .i64 (nn : Nat)] 83), ?_⟩
                rw [hkp]
                obtain ⟨g1, p', g2, g3⟩ := HD6.out.fileIn (x := ⟨x.b.take nn, nn⟩) (f := w7.heap.size) (k := t) (N' := k + 1) HF8.out (heap_alloc_new w7 _) HF7.out.size (by
                  show Own _ _ _ _ _ (x.b.take nn).length _
                  rw [HTl.out]
                  exact HO7.out.fr0 ((Fr.refl No w7).alloc _)) (by show nn ≤ (x.b.take nn).length; rw [HTl.out]; exact Nat.le_refl _) (by show (x.b.take nn).length ≤ _; rw [HTl.out]; omega) (Nat.le_succ k) (by
                  rw [HNb.out]
                  exact ⟨k + 1, _, Nat.le_refl _, HM9.out.put_of (by rw [HEv.out] at *; exact HO9.out)⟩) (by rw [HNb.out]; exact Fr.turned HT9.out)
                exact hide ⟨g1, ⟨p', g2, g3⟩, (HF8.out.any _).ts (by rw [HNb.out]; exact Fr.turned HT9.out)⟩
            case rest =>
              obtain ⟨g, w8, HG⟩ := hcut
              obtain ⟨w9, rfl⟩ : ∃ W : World, W = wc := ⟨_, rfl⟩
              refine hK _ _ ?_
              go_wp2
              go_round
              case rel =>
                obtain ⟨hg1, ⟨p', hg2, hg3⟩, hg4⟩ := HG.out
                refine ⟨k + 1, _, _, p', A6, n6, c6, by omega, by go_num, hide ((HW5.out.ts (HF6.out.mono fun i _ e => .inl e)).ts (hg4.mono fun i _ e => .inr (by have e' : i = p2.nb := e; rw [e', HNb.out]))), hide (HB6.out.fr hg4 ?_ ?_), hide hg3, hide ?_, hide (hg2.trans HNb.out), hide ?_⟩
                · intro e
                  have e' : w.heap.size = p2.nb := e
                  have h1 := HNb.out
                  have h2 := HD2.out.znb.1
                  have h3 := HWs.out
                  omega
                · intro j hj e
                  have e' : j = p2.nb := e
                  have h1 := HNb.out
                  have h2 := HD2.out.znb.1
                  have h3 := HWs.out
                  omega
                · intro j hj
                  rcases hj with hj | hj
                  · exact HZ5.out j hj
                  · have h1 := HD6.out.lt _ HD6.out.zd
                    have h2 := hj.1
                    omega
                · have h1 := HC5.out.next HTk.out (HKs.out.1.imp (fun {a b} hab e => by subst e; exact List.lt_irrefl a hab)) HMk.out HHx.out hg1
                  rw [List.drop_drop, ← HQd.out] at h1
                  exact h1
              case measure => simp [intOf]; omega
        · obtain rfl : k = ks.length := by omega
          obtain ⟨n8, D8, hn8, hm8⟩ := HD5.out.now
          rw [HNb.out] at hm8
          have hx0 : wr.cell? ⟨wa.heap.size + 2, 0, none⟩ = some (.map (some p0.nb)) := by rw [← HNb.out]; exact HD5.out.cell rfl
          have HCl := hide (mclone_any wr _ _ _ _ hm8)
          have hxl := HD5.out.lt _ HD5.out.zd
          have hne : wa.heap.size + 2 ≠ wr.heap.size := by omega
          have HN8 := hide hn8
          clear hm8 hn8
          go_wp2_with (go_at_call 44; refine HCl.out.mono ?_; rintro e w6 ⟨rfl, hm6, hf6⟩; have hd6 := hf6.blk HD5.out.dir (fun h => h); have g1 := frozen_of_row w6 _ 1 _ _ hd6; have z1 : w6.cell? ⟨wa.heap.size + 2, 1, none⟩ = some (.map (some p2.mb)) := cell_of_row w6 _ 1 _ _ _ hd6; have HM6 := hide hm6; have HF6 := hide hf6; clear hm6 hf6 hd6)
          go_ret
          obtain ⟨h7, f7⟩ := HD5.out.dur1 HC5.out.chs HF6.out HM6.out HN8.out (Nat.le_refl _)
          have hcr := HC5.out
          rw [HMe.out] at hcr
          have hks := HKs.out
          rw [HMe.out] at hks
          refine ⟨ks, _, _, _, hcr.end_ hks, ⟨_, h7.mono hkn⟩, fun j hj => ?_, rfl, ?_⟩
          · have h3 := HWs.out
            rcases hj with hj | hj
            · have := HZ5.out j hj; omega
            · have := hj.1; omega
          · have hNo5 : Fr No w wr := ((((HF0.out.tr HF1.out).trans HW.out (fun i hi hz => by rcases hz with e | e <;> omega)).tr HF2.out).tr HF24.out).trans HW5.out (fun i hi hz => by
              have := HWs.out
              have h3 := HD2.out.znb.1
              rcases hz with e | e <;> omega)
            exact (hNo5.tr HF6.out).trans f7 (fun i hi e => by have e' : i = wa.heap.size + 2 := e; have := HWs.out; omega)
end Go.Proofs.Ythbgcmffpnmbeaa
