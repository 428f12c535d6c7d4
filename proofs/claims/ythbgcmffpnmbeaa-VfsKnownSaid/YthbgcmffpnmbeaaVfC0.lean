/- Crash: what its loops keep. -/
import Derived.Test.YthbgcmffpnmbeaaVfZ
import Derived.Test.YthbgcmffpnmbeaaVfY
namespace Go.Proofs.Ythbgcmffpnmbeaa
set_option linter.unusedVariables false
set_option linter.unusedSimpArgs false
open Go.RowKit Go.Maps

theorem BoxC.fr0 {w w' : World} {cb : Nat} {l : List Int} {A : Option Addr} {n c B : Nat} (h : BoxC w cb l A n c B) (f : Fr No w w') : BoxC w' cb l A n c B := h.fr f (fun h => h) (fun _ _ h => h)
/-- A map's store inside a region. -/
theorem step_mapUpdate {H : Type} {P : Program} {ops : Array Oper} {o : Oper} {a : Act} {w : World} {K' : Act → World → Prop} {Q : Exit → Act → World → Prop} {E : Prop} (hg : o.guard = none) (m x v : Operand) (t : TypeId) (hop : o.op = Op.mapUpdate t m x v)
    (k e : TypeId) (K : Keyed P k) (ht : P.underlying t = some (.map k e)) (R : Value → Option (DataW H × List MemPlace)) (b n : Nat) (D : DataW H)
    (hm : a.eval m = .map (some b)) (hown : w.ownsMap P k R b n D) (hn : n < maxLen) (key val : Value) (kl : Lit) (hx : a.eval x = key) (hv : a.eval v = val) (hkey : keyOf P k key = some kl)
    (d : DataW H) (ps : List MemPlace) (hval : R val = some (d, ps))
    (hK : ∀ w', w'.ownsMap P k R b (n + 1) (D.put kl d) → w.mapTurned w' b → K' (a.put o.dst undef) w') :
    if Region.wanted o (yielded ops a.tmps) = true then Oper.wp P o a w K' Q else E := by
  have hw : Region.wanted o (yielded ops a.tmps) = true := by simp [Region.wanted, hg]
  rw [if_pos hw]
  obtain ⟨w', hrun, r1, r2⟩ := hown.store K ht hn hkey hval
  unfold Oper.wp
  simp [execOp, hop, hm, hx, hv, hrun, Result.andThen]
  exact hK w' r1 r2
/-- a statement that goes on, and in no other way ends. -/
theorem wp_calm {P : Program} {s : Code} {Q : Exit → Act → World → Prop} {a : Act} {w : World} (h : ∀ K : Act → World → Prop, (∀ a' w', Q .normal a' w' → K a' w') → s.wp P (Exit.then K (fun _ _ _ => False)) a w) : s.wp P Q a w := by
  refine wp_mono (h (Q .normal) (fun _ _ h => h)) ?_
  intro e a' w' hq
  cases e with
  | normal => exact hq
  | _ => exact hq.elim
/-- what a file keeps of its bytes. -/
def keep (x : Fi) (c : Nat) : Fi := ⟨x.b.take (x.s + c % (x.b.length - x.s + 1)), x.s + c % (x.b.length - x.s + 1)⟩
theorem keep_le {x : Fi} (h : x.s ≤ x.b.length) (c : Nat) : x.s + c % (x.b.length - x.s + 1) ≤ x.b.length := by
  have := Nat.mod_lt c (show x.b.length - x.s + 1 > 0 by omega)
  omega
/-- the first loop. -/
structure LfI (S : Di) (l : List Int) (i : Nat) (m : Ents) : Prop where
  left : leftS (S.chs.drop i) (l.drop i) m = leftS S.chs l S.dur
  isf : ∀ k f, m k = Option.some f → (S.fs f).isSome = true
theorem LfI.zero {S : Di} {l : List Int} (h : ∀ k f, S.dur k = some f → (S.fs f).isSome = true) : LfI S l 0 S.dur := ⟨rfl, h⟩
theorem LfI.next {S : Di} {l : List Int} {i : Nat} {m : Ents} {c : Ch} (h : LfI S l i m) (hc : S.chs[i]? = some c) (hf : ∀ f, c.file = some f → (S.fs f).isSome = true) :
    LfI S l (i + 1) (if hdC (l.drop i) % 2 = 1 then c.app m else m) := by
  have hi := (List.getElem?_eq_some_iff.1 hc).1
  refine ⟨?_, fun k f hk => ?_⟩
  · have e : S.chs[i] = c := (List.getElem?_eq_some_iff.1 hc).2
    rw [← h.left, List.drop_eq_getElem_cons hi, e, ← List.tail_drop (l := l)]
    rfl
  · split at hk
    · rcases app_file hk with hk | ⟨k', hk⟩
      · exact hf f hk
      · exact h.isf k' f hk
    · exact h.isf k f hk
theorem LfI.end_ {S : Di} {l : List Int} {m : Ents} (h : LfI S l S.chs.length m) : m = leftS S.chs l S.dur := by
  have := h.left
  rw [List.drop_length] at this
  exact this
/-- the second loop. -/
structure CrI (S : Di) (m : Ents) (l : List Int) (ks : List Tx) (i : Nat) (C : Di) : Prop where
  some : ∀ (j : Nat) (k : Tx), j < i → ks[j]? = some k → ∃ f x g, m k = Option.some f ∧ S.fs f = Option.some x ∧ C.now k = Option.some g ∧ C.fs g = Option.some (keep x (hdC (l.drop j)))
  none : ∀ k, (∀ j, j < i → ks[j]? ≠ Option.some k) → C.now k = Option.none
  chs : C.chs = []
  calls : C.calls = 0
  halt : C.halt = -1
  at_ : C.at_ = 0
  e : C.e = 0
  part : C.part = 0
theorem CrI.zero (S : Di) (m : Ents) (l : List Int) (ks : List Tx) : CrI S m l ks 0 newD := ⟨fun j k h => (by omega), fun k _ => rfl, rfl, rfl, rfl, rfl, rfl, rfl⟩
theorem CrI.next {S C : Di} {m : Ents} {l : List Int} {ks : List Tx} {i f g : Nat} {k : Tx} {x : Fi} (h : CrI S m l ks i C) (hk : ks[i]? = Option.some k) (hn : ks.Nodup) (hm : m k = Option.some f) (hx : S.fs f = Option.some x) (hg : C.fs g = Option.none) :
    CrI S m l ks (i + 1) { C.setF g (keep x (hdC (l.drop i))) with now := C.now.put k g } := by
  refine ⟨fun j k' hj hk' => ?_, fun k' hk' => ?_, h.chs, h.calls, h.halt, h.at_, h.e, h.part⟩
  · by_cases e : j = i
    · subst e
      rw [hk] at hk'
      obtain rfl := Option.some.inj hk'
      exact ⟨f, x, g, hm, hx, by simp [Ents.put], by simp [Di.setF]⟩
    · obtain ⟨f', x', g', h1, h2, h3, h4⟩ := h.some j k' (by omega) hk'
      have hne : k' ≠ k := fun ee => by
        subst ee
        have h5 := List.getElem?_eq_some_iff.1 hk
        have h6 := List.getElem?_eq_some_iff.1 hk'
        obtain ⟨a1, a2⟩ := h5
        obtain ⟨b1, b2⟩ := h6
        exact e ((List.getElem_inj hn).1 (b2.trans a2.symm))
      have hne2 : g' ≠ g := fun ee => by subst ee; rw [hg] at h4; cases h4
      exact ⟨f', x', g', h1, h2, by simp [Ents.put, hne, h3], by simp [Di.setF, hne2, h4]⟩
  · have hne : k' ≠ k := fun ee => hk' i (by omega) (by rw [ee]; exact hk)
    simp only [Ents.put, if_neg hne]
    exact h.none k' fun j hj => hk' j (by omega)
theorem CrI.end_ {S C : Di} {l : List Int} {ks : List Tx} (h : CrI S (leftS S.chs l S.dur) (l.drop S.chs.length) ks ks.length C) (hk : KeysL (leftS S.chs l S.dur) ks) :
    CrashR S l ks { C with dur := C.now } := by
  refine ⟨hk, fun i k hi => ?_, fun k hk => h.none k fun j _ hj => hk (List.mem_of_getElem? hj), rfl, h.chs, h.calls, h.halt, h.at_, h.e, h.part⟩
  obtain ⟨f, x, g, h1, h2, h3, h4⟩ := h.some i k (List.getElem?_eq_some_iff.1 hi).1 hi
  rw [List.drop_drop] at h4
  exact ⟨f, x, g, h1, h2, h3, h4⟩
section
variable {w w' : World} {Z : Nat → Prop} {d N f g n : Nat} {S : Di} {p : Ph} {v : Value} {x : Fi} {D : DataW Empty}
/-- A file more, with its bytes. -/
theorem DirP.addF (h : DirP w Z d S N p) (fr : Fr No w w') (hf : w'.heap[f]? = some (.cells #[v, .int .i64 (x.s : Nat)] 83 (0, 0))) (hl : w.heap.size ≤ f)
    (ho : Own w' w.heap.size 5 1 v x.b.length (by8 x.b)) (hle : x.s ≤ x.b.length) (hm : x.b.length ≤ 16777216) :
    S.fs f = none ∧ DirP w' (Zw Z w w') d (S.setF f x) N { p with fv := fun g => if g = f then v else p.fv g } := by
  have hno : S.fs f = none := by
    cases hx : S.fs f with
    | none => rfl
    | some x =>
      have := h.lt f (h.files f x hx).2.1
      omega
  have h0 := h.widen fr
  have hsome : ∀ g, (S.fs g).isSome = true → ((S.setF f x).fs g).isSome = true := fun g hg => by
    by_cases e : g = f
    · simp [Di.setF, e]
    · simp [Di.setF, e, hg]
  have hback : ∀ g, g ≠ f → ((S.setF f x).fs g).isSome = true → (S.fs g).isSome = true := fun g e hg => by simpa [Di.setF, e] using hg
  have hnew : ∀ k, v.ownBlock = some k → w.heap.size ≤ k ∧ k < w'.heap.size := fun k hk => ho.lt k hk
  have hold : ∀ g, (S.fs g).isSome = true → ∀ k, (p.fv g).ownBlock = some k → k < w.heap.size := fun g hg k hk => by
    obtain ⟨y, hy⟩ := Option.isSome_iff_exists.1 hg
    exact h.lt k ((h.files g y hy).2.2 k hk)
  refine ⟨hno, ⟨h0.dir, h0.now, h0.dur, h0.ne, h0.chs, fun g y hy => ?_, fun g1 g2 hne h1 h2 k hk => ?_, fun k g hg => hsome g (h0.nowf k g hg), fun k g hg => hsome g (h0.durf k g hg), fun c hc g hg => hsome g (h0.chf c hc g hg), h0.zd, h0.znb, h0.zmb, h0.zcv, h0.lt, h0.calls⟩⟩
  · by_cases e : g = f
    · subst e
      have : x = y := by simpa [Di.setF] using hy
      subst this
      simp only [if_true]
      exact ⟨⟨hf, ho.lower (Nat.zero_le _), hle, hm⟩, .inr ⟨hl, (Array.getElem?_eq_some_iff.1 hf).1⟩, fun k hk => .inr (hnew k hk)⟩
    · have hy' : S.fs g = some y := by simpa [Di.setF, e] using hy
      simp only [if_neg e]
      exact h0.files g y hy'
  · simp only at hk ⊢
    by_cases e1 : g1 = f
    · rw [if_pos e1] at hk
      have e2 : g2 ≠ f := fun e => hne (e1.trans e.symm)
      rw [if_neg e2]
      intro hk2
      have := hold g2 (hback g2 e2 h2) k hk2
      have := (hnew k hk).1
      omega
    · rw [if_neg e1] at hk
      by_cases e2 : g2 = f
      · rw [if_pos e2]
        intro hk2
        have := hold g1 (hback g1 e1 h1) k hk
        have := (hnew k hk2).1
        omega
      · rw [if_neg e2]
        exact h0.apart g1 g2 hne (hback g1 e1 h1) (hback g2 e2 h2) k hk
/-- .. and its name. -/
theorem DirP.fileIn {N' : Nat} {w5 w6 : World} {k : Tx} (h : DirP w Z d S N p) (fr : Fr No w w5) (hf : w5.heap[f]? = some (.cells #[v, .int .i64 (x.s : Nat)] 83 (0, 0))) (hl : w.heap.size ≤ f)
    (ho : Own w5 w.heap.size 5 1 v x.b.length (by8 x.b)) (hle : x.s ≤ x.b.length) (hm : x.b.length ≤ 16777216) (hN : N ≤ N') (hput : ∃ n D, n ≤ N' ∧ MapM w6 p.nb n (S.now.put k f) D) (fr6 : Fr (Is p.nb) w5 w6) :
    S.fs f = none ∧ ∃ p', p'.nb = p.nb ∧ DirP w6 (Zw Z w w5) d { S.setF f x with now := S.now.put k f } N' p' := by
  obtain ⟨h1, h2⟩ := h.addF fr hf hl ho hle hm
  refine ⟨h1, _, ?_, h2.nowW fr6 hput hN fun k' g hg => ?_⟩
  · rfl
  · unfold Ents.put at hg
    split at hg
    · obtain rfl := Option.some.inj hg
      simp [Di.setF]
    · exact h2.nowf k' g hg
/-- The durable directory is another one. -/
theorem DirP.dur1 (h : DirP w Z d S N p) (hc : S.chs = []) (fr : Fr No w w') (hm : MapM w' g n S.now D) (hn : n ≤ N) (hg : w.heap.size ≤ g) :
    DirP (w'.setCell ⟨d, 1, none⟩ (.map (some g))) (Zw Z w w') d { S with dur := S.now } N { p with mb := g } ∧ Fr (Is d) w' (w'.setCell ⟨d, 1, none⟩ (.map (some g))) := by
  have h0 := h.widen fr
  have f2 : Fr (Is d) w' (w'.setCell ⟨d, 1, none⟩ (.map (some g))) := (Fr.refl _ _).put 1 _
  have hk := OfK.is h0.dir
  obtain ⟨n1, D1, a1, m1⟩ := h0.now
  obtain ⟨vs, o1, c1⟩ := h0.chs
  have hne : p.nb ≠ g := by have := h.lt p.nb h.znb; omega
  refine ⟨⟨?_, ⟨n1, D1, a1, m1.frK f2 hk (by simp [kd])⟩, ⟨n, D, by show n + S.chs.length ≤ N; rw [hc]; simpa using hn, hm.frK f2 hk (by simp [kd])⟩, hne, ⟨vs, own_frK o1 f2 hk (by simp [kd]), fun j c v hc hv => (c1 j c v hc hv).frK f2 hk (by simp [kd]) (by simp [kd]) (fun _ h => h)⟩,
    fun f x hx => ⟨(h0.files f x hx).1.frK f2 hk (by simp [kd]) (by simp [kd]), (h0.files f x hx).2⟩, h0.apart, h0.nowf, h0.nowf, h0.chf, h0.zd, h0.znb, .inr ⟨hg, hm.lt⟩, h0.zcv, fun k hk => Nat.lt_of_lt_of_le (h0.lt k hk) f2.size, h0.calls⟩, f2⟩
  rw [heap_setCell_same w' d 1 (dirC p S) _ (.map (some g)) h0.dir]
  rfl
end
/-- what is left, a new directory. -/
def RetCr (w : World) (S : Di) (l : List Int) (N : Nat) (en : Ending) (w' : World) : Prop :=
  ∃ ks C Z x, CrashR S l ks C ∧ DirM w' Z x C N ∧ (∀ k, Z k → w.heap.size ≤ k) ∧ en = .returned (.pointer (some ⟨x, 0, none⟩)) ∧ Fr No w w'
end Go.Proofs.Ythbgcmffpnmbeaa
