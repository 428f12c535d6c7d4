/- Several texts in one: BkOn, BkTp, Le8. -/
import Derived.Test.YtpopbkcbplmcaaaK13
namespace Go.Proofs.Ytpopbkcbplmcaaa
set_option linter.unusedVariables false
set_option linter.unusedSimpArgs false
open Go.RowKit

theorem empty_no : ∀ dims l, ¬ IsB [] dims l := by
  intro dims l h
  have h1 := h.2.2
  have h2 := congrArg List.length h1
  rw [buildT, List.length_append, List.length_append] at h2
  have := (enc_len dims).1
  simp at h2
  omega
theorem bad_no {dims : Int} {l : List Pt} (hm : ¬ mayP dims l) : ∀ d l', ¬ IsB (keptP dims l) d l' := by rw [keptP_no hm]; exact empty_no
theorem whole_in {m : Nat} {p : Pt} (hp : p.2.length = m) (hi : InI p.2) : inB (lowW m) (highW m) p = true := by
  rw [inB_iff]
  intro d hd
  have h1 : p.2.getD d 0 ∈ p.2 := getD_mem hd
  have h2 := hi _ h1
  rw [hp] at hd
  simp only [lowW, highW, List.getD, List.getElem?_replicate, if_pos hd, Option.getD_some]
  exact h2
theorem whole_box {m : Nat} {l : List Pt} (hm : mayP (m : Int) l) (hi : InI2 l) : boxP m l (lowW m) (highW m) = l := by
  unfold boxP
  rw [if_pos ⟨by simp [lowW], by simp [highW]⟩]
  exact List.filter_eq_self.2 (fun p hp => whole_in (by have := (hm.2.2.2 p hp).1; omega) (hi p hp).1)
/-- what lies above is written. -/
theorem TrM.above {S : Nat → Prop} {w w' : World} {base gT dims : Nat} {l : List Pt} (h : TrM w base gT dims l) (f : Fr S w w') (hS : ∀ k, S k → w.heap.size ≤ k) : TrM w' base gT dims l := by
  obtain ⟨gn, vlo, vhi, q1, q2, q3, q4⟩ := h.ex
  have hS' : ∀ k, k < w.heap.size → ¬ S k := fun k h1 h2 => by have := hS k h2; omega
  exact ⟨⟨gn, vlo, vhi, f.blk q1 (hS' gT (Array.getElem?_eq_some_iff.1 q1).1), (TreeM.fr f (fun k hk => hS' k hk.2) q2).mono fun k hk => ⟨hk.1, by have := f.size; omega⟩, q3.fr f (fun k hk => hS' k (q3.lt k hk).2), q4.fr f (fun k hk => hS' k (q4.lt k hk).2)⟩, h.lo⟩
/-- two rows of int that share no memory. -/
theorem apart2_any (W : World) (base q : Nat) (A1 A2 : Option Addr) (n c1 c2 : Nat) (xs ys : List Value) (hn : n ≤ 2097152) (hq : W.heap[q]? = some (.cells #[.slice A1 n c1, .slice A2 n c2] 40 (0, 0))) (h1 : Own W base 3 1 (.slice A1 n c1) n xs) (h2 : Own W base 3 1 (.slice A2 n c2) n ys) (ha : ∀ k, (Value.slice A1 n c1).ownBlock = some k → (Value.slice A2 n c2).ownBlock ≠ some k) (M : Nat) (b1 : ∀ k, (Value.slice A1 n c1).ownBlock = some k → k < M) (b2 : ∀ k, (Value.slice A2 n c2).ownBlock = some k → k < M) :
    Calls Try.prog 18 #[.slice (some ⟨q, 0, none⟩) 2 2] W (fun en w' => en = .returned (.bool true) ∧ Fr (fun k => base ≤ k ∧ k < M) W w') := by
  have hO : Owns W base 3 2 (fun j => if j = 0 then A1 else A2) (fun _ => n) (fun j => if j = 0 then c1 else c2) (fun j => if j = 0 then xs else ys) := by
    intro j hj
    have : j = 0 ∨ j = 1 := by omega
    rcases this with rfl | rfl
    · exact h1
    · exact h2
  refine (apartInt_any q 2 2 (fun j => if j = 0 then A1 else A2) (fun _ => n) (fun j => if j = 0 then c1 else c2) #[.slice A1 n c1, .slice A2 n c2] W base (fun j => if j = 0 then xs else ys) (by decide) (fun _ _ => hn) (by decide) (by unfold maxLen; decide) hq ?_ hO ⟨?_⟩).mono fun en w' h => ⟨h.1, h.2.mono fun i _ ⟨j, hj, e⟩ => ⟨((hO j hj).lt i e).1, by
    have : j = 0 ∨ j = 1 := by omega
    rcases this with rfl | rfl
    · exact b1 i e
    · exact b2 i e⟩⟩
  · intro j hj
    have : j = 0 ∨ j = 1 := by omega
    rcases this with rfl | rfl <;> rfl
  · intro i j hi hj hne k h3 h4
    have hi' : i = 0 ∨ i = 1 := by omega
    have hj' : j = 0 ∨ j = 1 := by omega
    rcases hi' with rfl | rfl <;> rcases hj' with rfl | rfl
    · exact hne rfl
    · exact ha k h3 h4
    · exact ha k h4 h3
    · exact hne rfl
/-- four rows of int64 that share no memory. -/
theorem apart4_any (W : World) (base q : Nat) (A1 A2 A3 A4 : Option Addr) (n1 n2 c1 c2 c3 c4 : Nat) (xs ys zs us : List Value) (hn1 : n1 ≤ 2097152) (hn2 : n2 ≤ 2097152) (hq : W.heap[q]? = some (.cells #[.slice A1 n1 c1, .slice A2 n2 c2, .slice A3 n1 c3, .slice A4 n2 c4] 23 (0, 0)))
    (h1 : Own W base 2 1 (.slice A1 n1 c1) n1 xs) (h2 : Own W base 2 1 (.slice A2 n2 c2) n2 ys) (h3 : Own W base 2 1 (.slice A3 n1 c3) n1 zs) (h4 : Own W base 2 1 (.slice A4 n2 c4) n2 us)
    (a12 : ∀ k, (Value.slice A1 n1 c1).ownBlock = some k → (Value.slice A2 n2 c2).ownBlock ≠ some k) (a34 : ∀ k, (Value.slice A3 n1 c3).ownBlock = some k → (Value.slice A4 n2 c4).ownBlock ≠ some k) (M : Nat)
    (b1 : ∀ k, (Value.slice A1 n1 c1).ownBlock = some k → k < M) (b2 : ∀ k, (Value.slice A2 n2 c2).ownBlock = some k → k < M) (b3 : ∀ k, (Value.slice A3 n1 c3).ownBlock = some k → M ≤ k) (b4 : ∀ k, (Value.slice A4 n2 c4).ownBlock = some k → M ≤ k) :
    Calls Try.prog 19 #[.slice (some ⟨q, 0, none⟩) 4 4] W (fun en w' => en = .returned (.bool true) ∧ Fr (fun k => base ≤ k) W w') := by
  have hO : Owns W base 2 4 (fun j => if j = 0 then A1 else if j = 1 then A2 else if j = 2 then A3 else A4) (fun j => if j = 0 then n1 else if j = 1 then n2 else if j = 2 then n1 else n2) (fun j => if j = 0 then c1 else if j = 1 then c2 else if j = 2 then c3 else c4) (fun j => if j = 0 then xs else if j = 1 then ys else if j = 2 then zs else us) := by
    intro j hj
    have : j = 0 ∨ j = 1 ∨ j = 2 ∨ j = 3 := by omega
    rcases this with rfl | rfl | rfl | rfl
    · exact h1
    · exact h2
    · exact h3
    · exact h4
  refine (apartI64_any q 4 4 _ _ _ #[.slice A1 n1 c1, .slice A2 n2 c2, .slice A3 n1 c3, .slice A4 n2 c4] W base _ (by decide) (fun j hj => ?_) (by decide) (by unfold maxLen; decide) hq ?_ hO ⟨?_⟩).mono fun en w' h => ⟨h.1, h.2.mono fun i _ ⟨j, hj, e⟩ => ((hO j hj).lt i e).1⟩
  · split
    · exact hn1
    · split
      · exact hn2
      · split <;> assumption
  · intro j hj
    have : j = 0 ∨ j = 1 ∨ j = 2 ∨ j = 3 := by omega
    rcases this with rfl | rfl | rfl | rfl <;> rfl
  · intro i j hi hj hne k h5 h6
    have hi' : i = 0 ∨ i = 1 ∨ i = 2 ∨ i = 3 := by omega
    have hj' : j = 0 ∨ j = 1 ∨ j = 2 ∨ j = 3 := by omega
    have key : ∀ {x y : Option Nat}, x = some k → y = some k → (x = some k → k < M) → (y = some k → M ≤ k) → False := fun e1 e2 f1 f2 => by have := f1 e1; have := f2 e2; omega
    rcases hi' with rfl | rfl | rfl | rfl <;> rcases hj' with rfl | rfl | rfl | rfl
    · exact hne rfl
    · exact a12 k h5 h6
    · exact key h5 h6 (b1 k) (b3 k)
    · exact key h5 h6 (b1 k) (b4 k)
    · exact a12 k h6 h5
    · exact hne rfl
    · exact key h5 h6 (b2 k) (b3 k)
    · exact key h5 h6 (b2 k) (b4 k)
    · exact key h6 h5 (b1 k) (b3 k)
    · exact key h6 h5 (b2 k) (b3 k)
    · exact hne rfl
    · exact a34 k h5 h6
    · exact key h6 h5 (b1 k) (b4 k)
    · exact key h6 h5 (b2 k) (b4 k)
    · exact a34 k h6 h5
    · exact hne rfl
set_option maxRecDepth 100000 in
set_option maxHeartbeats 8000000 in
theorem bkdown_any (A : Option Addr) (n c B : Nat) (dims : Int) (l : List Po) (w : World) (hl : l.length = n) (hn : n ≤ c) (hc : c ≤ maxLen) (hc2 : n * 32 ≤ 140737488355328) (hns : ∀ e ∈ l, (e.2.length + 1) * 8 ≤ 140737488355328) (hB : B ≤ w.heap.size) (hi : InI2 l) (hr : RdPo w B A l) :
    Calls Try.prog 5 #[.int .i64 dims, .slice A n c] w (RetB true w) := by
  have HKn := hide (known13_any w)
  have HLe := hide (fun W (f : Fr No w W) => lentPo_any A n c B l W hl hn hc hc2 hns (Nat.le_trans hB f.size) (hr.fr0 f))
  have HL := hide hl
  have HI := hide hi
  have HC2 := hide hc2
  have HKl := hide (kept_len (dims := dims) (l := l))
  unfold maxLen at hc
  clear hl hr hns hi hB
  go_enter Try.func5, Try.ntmps5
  go_wp2_with (fail)
  refine HKn.out.mono ?_
  rintro en w0 ⟨rfl, hf0⟩
  have HF0 := hide hf0
  have HLe0 := hide (HLe.out w0 hf0)
  clear hf0 HKn HLe
  go_wp2_with (fail)
  refine HLe0.out.mono ?_
  rintro en w1 ⟨A1, c1, A2, c2, rfl, hle, hre, hf⟩
  obtain ⟨r1, r2, r3⟩ := hle.rd
  have HBb := hide (bbuild_any A1 n c1 w1.heap.size dims l w1 HL.out r2 r3 HC2.out (Nat.le_refl _) HI.out r1)
  have HF1 := hide (HF0.out.tr hf)
  unfold maxLen at r3
  clear hle hre hf r1 HLe0
  obtain ⟨bs, hbs⟩ : ∃ K, K = keptP dims l := ⟨_, rfl⟩
  rw [← hbs] at HBb HKl
  have HBs := hide hbs
  obtain ⟨m, hm⟩ : ∃ m, m = bs.length := ⟨_, rfl⟩
  have HMl := hide hm
  clear hbs hm
  go_wp2_with (fail)
  refine HBb.out.mono ?_
  rintro en w2 ⟨v2, rfl, hown, hfr⟩
  rw [← HMl.out] at hown HKl
  obtain ⟨A3, c3, rfl, p1, p2, _, p3, _⟩ := hown.form
  have HF2 := hide (HF1.out.tr hfr)
  have HOp := hide (callsIn_wide.1 (bopen_in 6 (Nat.le_refl _) m c3 A3 bs w2.heap.size w2 HMl.out.symm p1 p2 HKl.out (Nat.le_refl _) p3))
  unfold maxLen at p2
  clear hown hfr HBb p3
  by_cases hm : mayP dims l
  case neg =>
    have HNo := hide (show ∀ d l', ¬ IsB bs d l' by rw [HBs.out]; exact bad_no hm)
    clear hm
    go_wp2_with (fail)
    refine HOp.out.mono ?_
    rintro en w3 hq
    obtain ⟨rfl, f3⟩ := hq.no HNo.out
    have HF3 := hide (HF2.out.tr f3)
    clear hq f3 HOp
    go_wp2_with (fail)
    go_ret
    exact ⟨rfl, HF3.out⟩
  obtain ⟨d, rfl⟩ : ∃ d : Nat, dims = (d : Int) := ⟨dims.toNat, by have := hm.1; omega⟩
  have HM := hide hm
  have HIs := hide (show IsB bs d l by rw [HBs.out]; exact may_isB hm HI.out)
  have hd4 : 1 ≤ d ∧ d ≤ 4 := by have := hm.1; have := hm.2.1; omega
  have hn20 : n ≤ 1048576 := by have := hm.2.2.1; have := HL.out; omega
  have HWh := hide (fun W => whole_any d hd4.2 W)
  clear hm
  go_wp2_with (fail)
  refine HOp.out.mono ?_
  rintro en w3 hq
  obtain ⟨gT, rfl, f3, ht⟩ := hq.yes HIs.out
  have HT3 := hide ht
  have HF3 := hide (HF2.out.tr f3)
  have HW3 := hide (HWh.out w3)
  clear hq f3 ht HOp HF2 HF1 HF0 HWh
  go_wp2_with (fail)
  refine HW3.out.mono ?_
  rintro en w4 ⟨Al, cl, Ah, ch, rfl, ol, oh, f4⟩
  have hl1 := ol.le
  have hl2 := oh.le
  have HC4 := hide (And.intro hl1 hl2)
  have HRl := hide ol.rd
  have HRh := hide oh.rd
  have HF4 := hide (HF3.out.tr f4)
  have HT4 := hide (HT3.out.fr0 f4)
  have HRg := hide (fun W (f : Fr No w4 W) => brange_any w2.heap.size gT d l Al Ah d d cl ch w4.heap.size w4.heap.size (lowW d) (highW d) W (HT4.out.fr0 f) HM.out (by simp [lowW]) (by simp [highW]) HC4.out.1.2.1 HC4.out.2.2.1 HC4.out.1.2.2 HC4.out.2.2.2 f.size f.size (HRl.out.fr0 f) (HRh.out.fr0 f))
  have HCt := hide (fun W (f : Fr (fun k => w4.heap.size ≤ k) w4 W) => count_any w2.heap.size gT d l Al Ah d d cl ch w4.heap.size w4.heap.size (lowW d) (highW d) W (HT4.out.above f (fun k h => h)) HM.out (by simp [lowW]) (by simp [highW]) HC4.out.1.2.1 HC4.out.2.2.1 HC4.out.1.2.2 HC4.out.2.2.2 f.size f.size (HRl.out.fr f (fun k h1 h2 => by have h2 : w4.heap.size ≤ k := h2; omega)) (HRh.out.fr f (fun k h1 h2 => by have h2 : w4.heap.size ≤ k := h2; omega)))
  have hwb := whole_box HM.out HI.out
  rw [hwb, HL.out] at HCt
  have hrl : (rngZ d l (lowW d) (highW d)).length ≤ 2097152 := by
    have h1 : (rngZ d l (lowW d) (highW d)).length ≤ (sortZ ((boxP d l (lowW d) (highW d)).map (·.1))).length := compactZ_le _
    rw [sortZ_len, List.length_map, hwb, HL.out] at h1
    omega
  obtain ⟨rg, hrg⟩ : ∃ r, r = rngZ d l (lowW d) (highW d) := ⟨_, rfl⟩
  rw [← hrg] at HRg hrl
  obtain ⟨z, hz⟩ : ∃ z, z = rg.length := ⟨_, rfl⟩
  rw [← hz] at hrl
  have HZ := hide hz
  have HR4 := hide (HRg.out w4 (Fr.refl No w4))
  have HBo := hide (fun W (f : Fr No w4 W) => bounds_any w2.heap.size gT d l W (HT4.out.fr0 f) HM.out)
  have hbl1 : (lowsB d l).length ≤ 4 := by unfold lowsB; split <;> simp <;> omega
  have hbl2 : (highsB d l).length ≤ 4 := by unfold highsB; split <;> simp <;> omega
  unfold Gives2 at HBo
  obtain ⟨ls, hls⟩ : ∃ r, r = lowsB d l := ⟨_, rfl⟩
  obtain ⟨hs, hhs⟩ : ∃ r, r = highsB d l := ⟨_, rfl⟩
  rw [← hls] at HBo hbl1
  rw [← hhs] at HBo hbl2
  obtain ⟨n1, hn1⟩ : ∃ r, r = ls.length := ⟨_, rfl⟩
  obtain ⟨n2, hn2⟩ : ∃ r, r = hs.length := ⟨_, rfl⟩
  rw [← hn1] at HBo hbl1
  rw [← hn2] at HBo hbl2
  clear ol oh f4 HW3 hl1 hl2 hwb hrg hz hls hhs hn1 hn2
  go_wp2_with (fail)
  refine HR4.out.mono ?_
  rintro en w5 ⟨v5, rfl, o5, f5⟩
  rw [← HZ.out] at o5
  obtain ⟨A5, c5, rfl, x1, x2, _⟩ := o5.form
  have HO5 := hide o5
  have HF5 := hide f5
  have HR5 := hide (HRg.out w5 f5)
  clear o5 f5 HR4 HRg x1 x2
  go_wp2_with (fail)
  refine HR5.out.mono ?_
  rintro en w6 ⟨v6, rfl, o6, f6⟩
  rw [← HZ.out] at o6
  obtain ⟨A6, c6, rfl, x1, x2, _⟩ := o6.form
  have HO6 := hide o6
  have HO56 := hide (HO5.out.fr0 f6)
  have HF6 := hide (HF5.out.tr f6)
  have HSz6 := hide f6.size
  have HB6 := hide (HBo.out w6 HF6.out)
  clear o6 f6 HR5 x1 x2
  go_wp2_with (fail)
  refine HB6.out.mono ?_
  rintro en w7 ⟨v7, v8, rfl, o7, o8, a78, f7⟩
  obtain ⟨A7, c7, rfl, x1, x2, _⟩ := o7.form
  obtain ⟨A8, c8, rfl, y1, y2, _⟩ := o8.form
  have HO7 := hide o7
  have HO8 := hide o8
  have HA78 := hide a78
  have HF67 := hide f7
  have HF7 := hide (HF6.out.tr f7)
  have HB7 := hide (HBo.out w7 HF7.out)
  clear o7 o8 a78 f7 HB6 HBo x1 x2 y1 y2
  go_wp2_with (fail)
  refine HB7.out.mono ?_
  rintro en w8 ⟨v9, v10, rfl, o9, o10, a910, f8⟩
  obtain ⟨A9, c9, rfl, x1, x2, _⟩ := o9.form
  obtain ⟨A10, c10, rfl, y1, y2, _⟩ := o10.form
  have HF78 := hide f8
  have HF68 := hide (HF67.out.tr f8)
  have HF8 := hide (HF7.out.tr f8)
  obtain ⟨wa, hwa⟩ : ∃ x, x = w8.alloc (.cells #[.slice A5 z c5, .slice A6 z c6] 40) := ⟨_, rfl⟩
  have hba := heap_alloc_new w8 (.cells #[.slice A5 z c5, .slice A6 z c6] 40)
  have fa : Fr No w8 wa := by rw [hwa]; exact (Fr.refl No w8).alloc _
  rw [← hwa] at hba
  have HAp := hide (apart2_any wa w4.heap.size w8.heap.size A5 A6 z c5 c6 _ _ hrl hba (((HO56.out.fr0 HF68.out).fr0 fa)) ((((HO6.out.lower HF5.out.size).fr0 HF68.out)).fr0 fa) (fun k h1 h2 => by
    have a1 := (HO5.out.lt k h1).2
    have a2 := (HO6.out.lt k h2).1
    omega) w6.heap.size (fun k h1 => by have := (HO5.out.lt k h1).2; have := HSz6.out; omega) (fun k h1 => (HO6.out.lt k h1).2))
  have HWa := hide hwa
  have HFa := hide (HF8.out.tr fa)
  have HO7a := hide ((HO7.out.fr0 HF78.out).fr0 fa)
  have HO8a := hide ((HO8.out.fr0 HF78.out).fr0 fa)
  have HO9a := hide (o9.fr0 fa)
  have HO10a := hide (o10.fr0 fa)
  have HA910 := hide a910
  have HZ78 := hide (And.intro HF67.out.size f8.size)
  clear o9 o10 a910 f8 HB7 x1 x2 y1 y2 hwa hba fa
  go_wp2_with (fail)
  rw [← HWa.out]
  refine HAp.out.mono ?_
  rintro en w9 ⟨rfl, f9⟩
  have no9 : ∀ k, w6.heap.size ≤ k → ¬ (w4.heap.size ≤ k ∧ k < w6.heap.size) := fun k h1 h2 => by omega
  have HO7b := hide (HO7a.out.fr f9 (fun k hk => no9 k (HO7.out.lt k hk).1))
  have HO8b := hide (HO8a.out.fr f9 (fun k hk => no9 k (HO8.out.lt k hk).1))
  have HO9b := hide (HO9a.out.fr f9 (fun k hk => no9 k (by have := (HO9a.out.lt k hk).1; have := HZ78.out.1; omega)))
  have HO10b := hide (HO10a.out.fr f9 (fun k hk => no9 k (by have := (HO10a.out.lt k hk).1; have := HZ78.out.1; omega)))
  have HF9 := hide ((HFa.out.any (fun k => w4.heap.size ≤ k)).trans f9 (fun i hi h => h.1))
  obtain ⟨wb, hwb⟩ : ∃ x, x = w9.alloc (.cells #[.slice A7 n1 c7, .slice A8 n2 c8, .slice A9 n1 c9, .slice A10 n2 c10] 23) := ⟨_, rfl⟩
  have hbb := heap_alloc_new w9 (.cells #[.slice A7 n1 c7, .slice A8 n2 c8, .slice A9 n1 c9, .slice A10 n2 c10] 23)
  have fb : Fr No w9 wb := by rw [hwb]; exact (Fr.refl No w9).alloc _
  rw [← hwb] at hbb
  have hz6 : w4.heap.size ≤ w6.heap.size := HF6.out.size
  have hz7 : w4.heap.size ≤ w7.heap.size := by have := HZ78.out.1; omega
  have HAq := hide (apart4_any wb w4.heap.size w9.heap.size A7 A8 A9 A10 n1 n2 c7 c8 c9 c10 _ _ _ _ (by omega) (by omega) hbb ((HO7b.out.fr0 fb).lower hz6) ((HO8b.out.fr0 fb).lower hz6) ((HO9b.out.fr0 fb).lower hz7) ((HO10b.out.fr0 fb).lower hz7) HA78.out HA910.out w7.heap.size
    (fun k h => (HO7.out.lt k h).2) (fun k h => (HO8.out.lt k h).2) (fun k h => (HO9a.out.lt k h).1) (fun k h => (HO10a.out.lt k h).1))
  have HWb := hide hwb
  have HFb := hide (HF9.out.tr fb)
  clear f9 no9 hwb hbb fb hz6 hz7 HAp HFa HO7a HO8a HO9a HO10a
  go_wp2_with (fail)
  rw [← HWb.out]
  refine HAq.out.mono ?_
  rintro en w10 ⟨rfl, f10⟩
  have HF10 := hide (HFb.out.trans f10 (fun i hi h => h))
  have HC10 := hide (HCt.out w10 HF10.out)
  have bn : ((n : Int) == (n : Int)) = true := by simp
  clear f10 HAq HFb HCt
  go_wp2_with (fail)
  refine HC10.out.mono ?_
  rintro en w11 ⟨rfl, f11⟩
  have HF11 := hide ((HF4.out.trans HF10.out (fun i hi h => by have := HF4.out.size; have h : w4.heap.size ≤ i := h; omega)).tr f11)
  clear f11
  go_wp2_with (fail)
  go_ret
  exact ⟨rfl, HF11.out⟩
end Go.Proofs.Ytpopbkcbplmcaaa
namespace Go.Proofs.Ytpopbkcbplmcaaa
set_option linter.unusedVariables false
set_option linter.unusedSimpArgs false
open Go.RowKit

def rotL (l : List Pt) (k : Nat) : List Pt := l.drop k ++ l.take k
theorem rotL_perm (l : List Pt) (k : Nat) : (rotL l k).Perm l := by
  unfold rotL
  exact List.perm_append_comm.trans (by rw [List.take_append_drop])
theorem rotL_len (l : List Pt) (k : Nat) : (rotL l k).length = l.length := (rotL_perm l k).length_eq
theorem rotL_at {l : List Pt} {k j : Nat} (hk : k < l.length) (hj : j < l.length) : (rotL l k).getD j noPo = l.getD ((j + k) % l.length) noPo := by
  unfold rotL
  by_cases h : j < l.length - k
  · have e : (j + k) % l.length = j + k := Nat.mod_eq_of_lt (by omega)
    rw [e, List.getD, List.getElem?_append_left (by rw [List.length_drop]; exact h), List.getElem?_drop, List.getD, Nat.add_comm]
  · have e : (j + k) % l.length = j + k - l.length := by rw [Nat.mod_eq_sub_mod (by omega), Nat.mod_eq_of_lt (by omega)]
    rw [e, List.getD, List.getElem?_append_right (by rw [List.length_drop]; omega), List.length_drop, List.getElem?_take, if_pos (by omega), List.getD]
    congr 2
    omega
theorem swap_perm {α : Type} [Inhabited α] {l : List α} {i j : Nat} {a b : α} (hi : l[i]? = some a) (hj : l[j]? = some b) : ((l.set i b).set j a).Perm l := by
  obtain ⟨h1, rfl⟩ := List.getElem?_eq_some_iff.1 hi
  obtain ⟨h2, rfl⟩ := List.getElem?_eq_some_iff.1 hj
  exact List.set_set_perm h1 h2
/-- points of the call's own whose numbers are read. -/
structure CPts (W : World) (base B : Nat) (v : Value) (n : Nat) (qs : List PoL) : Prop where
  own : Own W base 44 2 v n (pFlat qs)
  ok : ∀ q ∈ qs, q.1.2.length ≤ q.2.2 ∧ q.2.2 ≤ maxLen ∧ Rd W B q.2.1 (iz .i64 q.1.2)
section
variable {W W' : World} {base B n : Nat} {v v' : Value} {qs : List PoL}
theorem CPts.fr0 (h : CPts W base B v n qs) (f : Fr No W W') : CPts W' base B v n qs := ⟨h.own.fr0 f, fun q hq => ⟨(h.ok q hq).1, (h.ok q hq).2.1, (h.ok q hq).2.2.fr0 f⟩⟩
theorem CPts.rd (h : CPts W base B v n qs) (hB : B ≤ W.heap.size) : ∃ A c, v = .slice A n c ∧ RdPo W W.heap.size A (qs.map (·.1)) ∧ n ≤ c ∧ c ≤ maxLen := by
  obtain ⟨A, c, rfl, h4, h5, _⟩ := h.own.form
  exact ⟨A, c, rfl, ⟨qs, rfl, h.own.rd, fun q hq => ⟨(h.ok q hq).1, (h.ok q hq).2.1, (h.ok q hq).2.2.more hB⟩⟩, h4, h5⟩
theorem CPts.nil (W : World) (base B : Nat) : CPts W base B (.slice none 0 0) 0 [] := ⟨Own.nil _ _ _ _, fun q hq => by cases hq⟩
/-- a point more. -/
theorem CPts.snoc {p : Pt} {A : Option Addr} {c : Nat} (h : CPts W base B v n qs) (hv : B ≤ base) (o : Own W' base 44 2 v' (n + 1) (pFlat qs ++ [.int .i64 p.1, .slice A p.2.length c])) (f : Fr (fun k => v.ownBlock = some k) W W') (h1 : p.2.length ≤ c) (h2 : c ≤ maxLen) (h3 : Rd W B A (iz .i64 p.2)) :
    CPts W' base B v' (n + 1) (qs ++ [(p, A, c)]) := by
  have hb : ∀ k, k < B → ¬ v.ownBlock = some k := fun k hk e => by have := (h.own.lt k e).1; omega
  refine ⟨by rw [pFlat_snoc]; exact o, fun q hq => ?_⟩
  rcases List.mem_append.1 hq with hq | hq
  · exact ⟨(h.ok q hq).1, (h.ok q hq).2.1, (h.ok q hq).2.2.fr f hb⟩
  · rw [List.mem_singleton.1 hq]; exact ⟨h1, h2, h3.fr f hb⟩
theorem pFlat_set : ∀ (l : List PoL) (i : Nat) (q : PoL), i < l.length → ((pFlat l).set (i * 2) (.int .i64 q.1.1)).set (i * 2 + 1) (.slice q.2.1 q.1.2.length q.2.2) = pFlat (l.set i q)
  | [], i, q, h => by simp at h
  | p :: r, 0, q, h => rfl
  | p :: r, i + 1, q, h => by
    have ih := pFlat_set r i q (by simpa using h)
    have e : ∀ l : List PoL, ∀ x : PoL, pFlat (x :: l) = .int .i64 x.1.1 :: .slice x.2.1 x.1.2.length x.2.2 :: pFlat l := fun _ _ => rfl
    rw [List.set_cons_succ, e, e, ← ih, show (i + 1) * 2 = i * 2 + 1 + 1 by omega]
    rfl
theorem Own.storeP {w : World} {base e n c : Nat} {A : Option Addr} {xs : List Value} (h : Own w base e 2 (.slice A n c) n xs) {k : Nat} (hk : k < n * 2) :
    ∃ g, A = some ⟨g, 0, none⟩ ∧ base ≤ g ∧ g < w.heap.size ∧ (Value.slice A n c).ownBlock = some g ∧ (∀ j, j < n * 2 → w.cell? ⟨g, j, none⟩ = xs[j]?) ∧ (∀ j, w.frozen? ⟨g, j, none⟩ = false) ∧
      ∀ v : Value, Own (w.setCell ⟨g, k, none⟩ v) base e 2 (.slice A n c) n (xs.set k v) := by
  obtain ⟨hl, A', c', hv, hn, hm, hA⟩ := h
  injection hv with h1 h2 h3
  subst h1; subst h3
  rcases hA with ⟨rfl, rfl⟩ | ⟨g, cur, rfl, hb, hh, hcs, ht⟩
  · obtain rfl : n = 0 := by omega
    omega
  · have hle : n * 2 ≤ c * 2 := Nat.mul_le_mul_right _ hn
    refine ⟨g, rfl, hb, (Array.getElem?_eq_some_iff.1 hh).1, rfl, fun j hj => ?_, fun j => by simp [World.frozen?, hh], ?_⟩
    · rw [cell_of_row w g j cur e (0, 0) hh, ← ht, List.getElem?_take, if_pos hj]
      simp
    · intro v
      refine ⟨by rw [List.length_set]; exact hl, _, c, rfl, hn, hm, .inr ⟨g, cur.set! k v, rfl, hb, ?_, by simpa using hcs, ?_⟩⟩
      · simp [World.setCell, Array.getElem?_modify, hh]
      · rw [← ht]
        simp only [Array.set!_eq_setIfInBounds, Array.toList_setIfInBounds]
        rw [List.take_set]
/-- a point is laid in another's place. -/
theorem CPts.put {g c i : Nat} {q : PoL} (h : CPts W base B (.slice (some ⟨g, 0, none⟩) n c) n qs) (hB : B ≤ base) (hi : i < n) (hq : q.1.2.length ≤ q.2.2 ∧ q.2.2 ≤ maxLen ∧ Rd W B q.2.1 (iz .i64 q.1.2)) :
    CPts ((W.setCell ⟨g, i * 2, none⟩ (.int .i64 q.1.1)).setCell ⟨g, i * 2 + 1, none⟩ (.slice q.2.1 q.1.2.length q.2.2)) base B (.slice (some ⟨g, 0, none⟩) n c) n (qs.set i q) := by
  obtain ⟨g1, e1, hg, _, _, _, _, p1⟩ := h.own.storeP (k := i * 2) (by omega)
  injection e1 with e1
  injection e1 with e1 _ _
  subst e1
  obtain ⟨g2, e2, _, _, _, _, _, p2⟩ := (p1 (.int .i64 q.1.1)).storeP (k := i * 2 + 1) (by omega)
  injection e2 with e2
  injection e2 with e2 _ _
  subst e2
  have hlen : qs.length = n := by have := h.own.1; rw [pFlat_len] at this; omega
  have f : Fr (Is g) W ((W.setCell ⟨g, i * 2, none⟩ (.int .i64 q.1.1)).setCell ⟨g, i * 2 + 1, none⟩ (.slice q.2.1 q.1.2.length q.2.2)) := ((Fr.refl (Is g) W).setCell (p := ⟨g, i * 2, none⟩) (fun _ => rfl) _).setCell (p := ⟨g, i * 2 + 1, none⟩) (fun _ => rfl) _
  have hno : ∀ k, k < B → ¬ Is g k := fun k hk e => by have e : k = g := e; omega
  refine ⟨?_, fun r hr => ?_⟩
  · rw [← pFlat_set qs i q (by omega)]
    exact p2 _
  · rcases List.mem_or_eq_of_mem_set hr with hr | rfl
    · exact ⟨(h.ok r hr).1, (h.ok r hr).2.1, (h.ok r hr).2.2.fr f hno⟩
    · exact ⟨hq.1, hq.2.1, hq.2.2.fr f hno⟩
/-- a point's cells. -/
theorem CPts.at {g c i : Nat} (h : CPts W base B (.slice (some ⟨g, 0, none⟩) n c) n qs) (hi : i < n) : ∃ q : PoL, qs[i]? = some q ∧ W.cell? ⟨g, i * 2, none⟩ = some (.int .i64 q.1.1) ∧ W.cell? ⟨g, i * 2 + 1, none⟩ = some (.slice q.2.1 q.1.2.length q.2.2) ∧ W.frozen? ⟨g, i * 2, none⟩ = false ∧ W.frozen? ⟨g, i * 2 + 1, none⟩ = false ∧ q.1.2.length ≤ q.2.2 ∧ q.2.2 ≤ maxLen ∧ Rd W B q.2.1 (iz .i64 q.1.2) := by
  have hlen : qs.length = n := by have := h.own.1; rw [pFlat_len] at this; omega
  obtain ⟨g1, e1, _, _, _, hc, hz, _⟩ := h.own.storeP (k := i * 2) (by omega)
  injection e1 with e1
  injection e1 with e1 _ _
  subst e1
  have hq : qs[i]? = some qs[i] := List.getElem?_eq_getElem (by omega)
  obtain ⟨a1, a2⟩ := pFlat_at hq
  have hk := h.ok _ (List.getElem_mem (show i < qs.length by omega))
  exact ⟨qs[i], hq, (hc _ (by omega)).trans a1, (hc _ (by omega)).trans a2, hz _, hz _, hk.1, hk.2.1, hk.2.2⟩
end
end Go.Proofs.Ytpopbkcbplmcaaa
namespace Go.Proofs.Ytpopbkcbplmcaaa
set_option linter.unusedVariables false
set_option linter.unusedSimpArgs false
open Go.RowKit

def GivesLent (w : World) (bs : List UInt8) (en : Ending) (w' : World) : Prop :=
  ∃ A c, en = .returned (.slice A bs.length c) ∧ Own w' w.heap.size 5 1 (.slice A (bs.length + 1) c) (bs.length + 1) (by8 (bs ++ [201])) ∧ Fr No w w'

set_option maxRecDepth 100000 in
set_option maxHeartbeats 800000 in
theorem lent8_any (A : Option Addr) (n c B : Nat) (bs : List UInt8) (w : World) (hl : bs.length = n) (hb : n + 1 ≤ 140737488355328) (hr : Rd w B A (by8 bs)) :
    Calls Try.prog 16 #[.slice A n c] w (GivesLent w bs) := by
  obtain ⟨i0, hi, hz, hsz, hby⟩ := info_parts Try.info5
  have HS := hide (Src.ofRd (P := Try.prog) (size := 1) w Try.underlying33 A n c (by8 bs) (by rw [by8_length, hl]; omega) (by omega) hr (by8_one _))
  have HL := hide hl
  clear hr hl
  have b1 : (0 + n) * 1 ≤ 140737488355328 := by omega
  have b2 : 0 + n ≤ maxLen := by unfold maxLen; omega
  have c1 : (0 + n + 1) * 1 ≤ 140737488355328 := by omega
  have c2 : 0 + n + 1 ≤ maxLen := by unfold maxLen; omega
  have HO0 := hide (Own.nil w w.heap.size 5 1)
  go_enter Try.func16, Try.ntmps16
  go_wp2_with (first
    | (at_builtin; refine wpList_append_gen _ rfl (.tmp 4) (.tmp 5) 33 33 rfl w.heap.size 5 i0 (.int .u8 0) 1 1 Try.underlying33 hi hz hsz hby rfl (.slice none 0 0) 0 [] rfl HO0.out _ n (by8 bs) rfl HS.out b1 b2 (Nat.le_refl _) ?_; intro v1 w1 hown hfr hat; have HO1 := hide hown; have HF1 : Hid (Fr No w w1) := hide ((Fr.refl No w).own hfr (fun g h => by cases h)); have hz1 := hfr.size; clear hown hfr hat)
    | (at_builtin; refine wpList_append_gen _ rfl (.tmp 7) (.tmp 8) 33 33 rfl w.heap.size 5 i0 (.int .u8 0) 1 1 Try.underlying33 hi hz hsz hby rfl v1 (0 + n) _ rfl (HO1.out.fr0 ((Fr.refl No w1).alloc (.cells #[.int .u8 201] 5))) _ 1 [.int .u8 201] rfl (Src.one (P := Try.prog) w1 (e := 5) Try.underlying33 (.int .u8 201) rfl) c1 c2 (by simp; omega) ?_; intro v2 w2 hown hfr hat; obtain ⟨A2, k2, rfl, hc1, hc2, _⟩ := hown.form; unfold maxLen at hc2; have HO2 := hide hown; have HF2 : Hid (Fr No w w2) := hide ((HF1.out.alloc _).own hfr (fun g hg => .inl (HO1.out.lt g hg).1)); clear hown hfr hat))
  go_ret
  refine ⟨A2, k2, ?_, ?_, HF2.out⟩
  · rw [HL.out]; first | rfl | simp
  · have h := HO2.out
    rw [HL.out, by8_append]
    simpa [by8] using h

end Go.Proofs.Ytpopbkcbplmcaaa
