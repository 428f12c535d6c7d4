/- Steps of a script, plain and in memory. -/
import Derived.Test.YthbgcmffpnmbeaaVfCr
import Derived.Test.YthbgcmffpnmbeaaVfHe
import Derived.Test.YthbgcmffpnmbeaaVfBg
import Derived.Test.YthbgcmffpnmbeaaVfU
namespace Go.Proofs.Ythbgcmffpnmbeaa
set_option linter.unusedVariables false
set_option linter.unusedSimpArgs false
open Go.RowKit Go.Maps

/-- a step. -/
structure Stp where
  kind : Int
  who : Int
  n : Int
  e : Int
  part : Int
  name : Tx
  other : Tx
  bytes : List UInt8
  cs : List Int
/-- what a step does to a directory. -/
def Su1 (S : Di) (s : Stp) (S1 : Di) : Prop :=
  (s.kind = 0 ∧ ∃ f c, SizeM S.now c ∧ S.fs f = none ∧ S1 = (creS S s.name f c).2) ∨
  (s.kind = 1 ∧ S1 = (appS S s.name s.bytes).2) ∨
  (s.kind = 2 ∧ S1 = (synS S s.name).2) ∨
  (s.kind = 3 ∧ S1 = (sydS S).2) ∨
  (s.kind = 4 ∧ S1 = (renS S s.name s.other).2) ∨
  (s.kind = 5 ∧ S1 = (delS S s.name).2) ∨
  ((s.kind < 0 ∨ 5 < s.kind) ∧ S1 = S)
def SuR : Di → List Stp → Di → Prop
  | S, [], S' => S' = S
  | S, s :: r, S' => ∃ S1, Su1 S s S1 ∧ SuR S1 r S'
theorem SuR.snoc {S S1 S2 : Di} {l : List Stp} {s : Stp} (h : SuR S l S1) (h1 : Su1 S1 s S2) : SuR S (l ++ [s]) S2 := by
  induction l generalizing S with
  | nil => obtain rfl : S1 = S := h; exact ⟨S2, h1, rfl⟩
  | cons a r ih => obtain ⟨Sa, h2, h3⟩ := h; exact ⟨Sa, h2, ih h3⟩
theorem cal_part (S : Di) (ns : List Tx) : (cal S ns).2.2.part = S.part := by
  unfold cal
  repeat' split
  all_goals rfl
theorem Su1.part {S S1 : Di} {s : Stp} (h : Su1 S s S1) : S1.part = S.part := by
  rcases h with ⟨_, f, c, _, _, rfl⟩ | ⟨_, rfl⟩ | ⟨_, rfl⟩ | ⟨_, rfl⟩ | ⟨_, rfl⟩ | ⟨_, rfl⟩ | ⟨_, rfl⟩
  · unfold creS
    repeat' split
    all_goals first | exact cal_part _ _ | rfl
  · unfold appS
    repeat' split
    all_goals exact cal_part _ _
  · unfold synS
    repeat' split
    all_goals exact cal_part _ _
  · unfold sydS
    repeat' split
    all_goals exact cal_part _ _
  · unfold renS
    repeat' split
    all_goals exact cal_part _ _
  · unfold delS
    repeat' split
    all_goals exact cal_part _ _
  · rfl
theorem SuR.part {S S1 : Di} {l : List Stp} (h : SuR S l S1) : S1.part = S.part := by
  induction l generalizing S with
  | nil => obtain rfl : S1 = S := h; rfl
  | cons a r ih => obtain ⟨Sa, h2, h3⟩ := h; rw [ih h3, h2.part]

/-- a step with where its slices lie. -/
structure StpV where
  s : Stp
  A1 : Option Addr
  c1 : Nat
  A2 : Option Addr
  c2 : Nat
def StpV.cells (v : StpV) : List Value :=
  [.int .i64 v.s.kind, .int .i64 v.s.who, .int .i64 v.s.n, .int .i64 v.s.e, .int .i64 v.s.part, sv v.s.name, sv v.s.other, .slice v.A1 v.s.bytes.length v.c1, .slice v.A2 v.s.cs.length v.c2]
structure StO (w : World) (B : Nat) (v : StpV) : Prop where
  l1 : v.s.bytes.length ≤ v.c1
  m1 : v.c1 ≤ maxLen
  r1 : Rd w B v.A1 (by8 v.s.bytes)
  l2 : v.s.cs.length ≤ v.c2
  m2 : v.c2 ≤ maxLen
  r2 : Rd w B v.A2 (iz .i64 v.s.cs)
  nm : v.s.name.length ≤ maxLen
  ot : v.s.other.length ≤ maxLen
  wf : ∀ z ∈ v.s.cs, -9223372036854775808 ≤ z ∧ z ≤ 9223372036854775807
  pt : -9223372036854775808 ≤ v.s.part ∧ v.s.part ≤ 9223372036854775807
  nn : -9223372036854775808 ≤ v.s.n ∧ v.s.n ≤ 9223372036854775807
/-- steps in memory. -/
def StR (w : World) (B : Nat) (A : Option Addr) (l : List StpV) : Prop :=
  ∀ j v, l[j]? = some v → ∃ ad, A = some ad ∧ ad.block < B ∧ StO w B v ∧ w.cell? (ad.add (j * 9)) = some (.int .i64 v.s.kind) ∧
    ∀ i u, i ≠ 0 → v.cells[i]? = some u → w.cell? ⟨(ad.add (j * 9)).block, (ad.add (j * 9)).off + i, none⟩ = some u
theorem StO.fr {T : Nat → Prop} {w w' : World} {B : Nat} {v : StpV} (h : StO w B v) (f : Fr T w w') (hT : ∀ k, k < B → ¬ T k) : StO w' B v :=
  { h with r1 := h.r1.fr f hT, r2 := h.r2.fr f hT }
theorem StR.fr {T : Nat → Prop} {w w' : World} {B : Nat} {A : Option Addr} {l : List StpV} (h : StR w B A l) (f : Fr T w w') (hT : ∀ k, k < B → ¬ T k) : StR w' B A l := fun j v hv => by
  obtain ⟨ad, e, hb, ho, h0, h1⟩ := h j v hv
  have hbl : ¬ T (ad.add (j * 9)).block := by rw [block_of_add]; exact hT _ hb
  exact ⟨ad, e, hb, ho.fr f hT, f.cell h0 hbl, fun i u hi hu => f.cell (h1 i u hi hu) hbl⟩
/-- steps in memory, the row's block apart from the rest. -/
def StT (w : World) (T : Nat → Prop) (B : Nat) (A : Option Addr) (l : List StpV) : Prop :=
  ∀ j v, l[j]? = some v → ∃ ad, A = some ad ∧ T ad.block ∧ StO w B v ∧ w.cell? (ad.add (j * 9)) = some (.int .i64 v.s.kind) ∧
    ∀ i u, i ≠ 0 → v.cells[i]? = some u → w.cell? ⟨(ad.add (j * 9)).block, (ad.add (j * 9)).off + i, none⟩ = some u
theorem StT.fr {S T : Nat → Prop} {w w' : World} {B : Nat} {A : Option Addr} {l : List StpV} (h : StT w T B A l) (f : Fr S w w') (hT : ∀ k, T k → ¬ S k) (hB : ∀ k, k < B → T k) : StT w' T B A l := fun j v hv => by
  obtain ⟨ad, e, hb, ho, h0, h1⟩ := h j v hv
  have hbl : ¬ S (ad.add (j * 9)).block := by rw [block_of_add]; exact hT _ hb
  exact ⟨ad, e, hb, ho.fr f (fun k hk => hT k (hB k hk)), f.cell h0 hbl, fun i u hi hu => f.cell (h1 i u hi hu) hbl⟩
theorem StR.t {w : World} {B : Nat} {A : Option Addr} {l : List StpV} (h : StR w B A l) : StT w (fun k => k < B) B A l := h
/-- one step, laid. -/
theorem StT.one {w : World} {B g : Nat} {v : StpV} {T : Nat → Prop} (ho : StO w B v) (hg : w.heap[g]? = some (.cells v.cells.toArray 40 (0, 0))) (hT : T g) : StT w T B (some ⟨g, 0, none⟩) [v] := fun j u hu => by
  have hj : j = 0 := by have := (List.getElem?_eq_some_iff.1 hu).1; simp at this; omega
  subst hj
  obtain rfl : v = u := by simpa using hu
  refine ⟨⟨g, 0, none⟩, rfl, hT, ho, ?_, fun i x hi hx => ?_⟩
  · rw [show (0 * 9 : Nat) = 0 from rfl, Addr.add_lit, cell_of_row w g _ _ _ (0, 0) hg]; rfl
  · rw [show (0 * 9 : Nat) = 0 from rfl, Addr.add_lit]
    show w.cell? ⟨g, 0 + 0 + i, none⟩ = _
    rw [cell_of_row w g _ _ _ (0, 0) hg]
    simpa using hx
end Go.Proofs.Ythbgcmffpnmbeaa
