/- Points, plain: how they go in a dimension; the tree's form. -/
import Derived.Test.YtkenjhalamdjfaaCodecLaw
import Derived.Test.YtkenjhalamdjfaaRefA
namespace Go.Proofs.Ytkenjhalamdjfaa
set_option linter.unusedVariables false
set_option linter.unusedSimpArgs false

/-- a point: document and place. -/
abbrev Pt := Int × List Int
def noPt : Pt := (0, [])
/-- rows of numbers, as they go. -/
theorem li_irrefl (s : List Int) : ¬ s < s := List.lt_irrefl s
theorem li_trans {s t u : List Int} (h : s < t) (k : t < u) : s < u := List.lt_trans h k
theorem li_total (s t : List Int) : s < t ∨ s = t ∨ t < s := by
  by_cases h1 : s < t
  · exact .inl h1
  · by_cases h2 : t < s
    · exact .inr (.inr h2)
    · exact .inr (.inl (List.le_antisymm (List.not_lt.1 h2) (List.not_lt.1 h1)))
def keyP (d : Nat) (p : Pt) : List Int := p.2.getD d 0 :: (p.2 ++ [p.1])
theorem keyP_inj {d : Nat} {a b : Pt} (h : keyP d a = keyP d b) : a = b := by
  have h1 : a.2 ++ [a.1] = b.2 ++ [b.1] := (List.cons.inj h).2
  have h2 := List.append_inj' h1 rfl
  exact Prod.ext (List.cons.inj h2.2).1 h2.1
def ltP (d : Nat) (a b : Pt) : Prop := keyP d a < keyP d b
instance (d : Nat) (a b : Pt) : Decidable (ltP d a b) := inferInstanceAs (Decidable (keyP d a < keyP d b))
def leP (d : Nat) (a b : Pt) : Bool := decide (¬ ltP d b a)
theorem leP_iff {d : Nat} {a b : Pt} : leP d a b = true ↔ ¬ (keyP d b < keyP d a) := ⟨fun h => of_decide_eq_true h, fun h => decide_eq_true (p := ¬ ltP d b a) h⟩
theorem leP_trans (d : Nat) (a b c : Pt) (h1 : leP d a b = true) (h2 : leP d b c = true) : leP d a c = true := by
  rw [leP_iff] at *
  exact List.not_lt.2 (List.le_trans (List.not_lt.1 h1) (List.not_lt.1 h2))
theorem leP_total (d : Nat) (a b : Pt) : (leP d a b || leP d b a) = true := by
  rw [Bool.or_eq_true, leP_iff, leP_iff]
  rcases li_total (keyP d a) (keyP d b) with h | h | h
  · exact .inl (List.lt_asymm h)
  · rw [h]; exact .inl (li_irrefl _)
  · exact .inr (List.lt_asymm h)
theorem leP_anti {d : Nat} {a b : Pt} (h1 : leP d a b = true) (h2 : leP d b a = true) : a = b := by
  rw [leP_iff] at *
  exact keyP_inj (List.le_antisymm (List.not_lt.1 h1) (List.not_lt.1 h2))
def sortP (d : Nat) (l : List Pt) : List Pt := l.mergeSort (leP d)
theorem sortP_len (d : Nat) (l : List Pt) : (sortP d l).length = l.length := List.length_mergeSort l
theorem sortP_perm (d : Nat) (l : List Pt) : (sortP d l).Perm l := List.mergeSort_perm l _
theorem sortP_up (d : Nat) (l : List Pt) : (sortP d l).Pairwise (fun a b => leP d a b = true) := List.pairwise_mergeSort (leP_trans d) (fun a b => by simpa using leP_total d a b) l
theorem sortP_uniq {d : Nat} {l m : List Pt} (hp : m.Perm l) (hs : m.Pairwise (fun a b => leP d a b = true)) : m = sortP d l :=
  (hp.trans (sortP_perm d l).symm).eq_of_pairwise (fun a b _ _ h1 h2 => leP_anti h1 h2) hs (sortP_up d l)
theorem sortP_mem {d : Nat} {l : List Pt} {p : Pt} : p ∈ sortP d l ↔ p ∈ l := (sortP_perm d l).mem_iff
/-- the least and the greatest number of a dimension. -/
def lowP (d : Nat) : List Pt → Int → Int
  | [], m => m
  | p :: r, m => lowP d r (if p.2.getD d 0 < m then p.2.getD d 0 else m)
def highP (d : Nat) : List Pt → Int → Int
  | [], m => m
  | p :: r, m => highP d r (if m < p.2.getD d 0 then p.2.getD d 0 else m)
theorem lowP_le (d : Nat) : ∀ (l : List Pt) (m : Int), lowP d l m ≤ m
  | [], m => Int.le_refl _
  | p :: r, m => by rw [lowP]; refine Int.le_trans (lowP_le d r _) ?_; split <;> omega
theorem highP_ge (d : Nat) : ∀ (l : List Pt) (m : Int), m ≤ highP d l m
  | [], m => Int.le_refl _
  | p :: r, m => by rw [highP]; refine Int.le_trans ?_ (highP_ge d r _); split <;> omega
theorem lowP_snoc (d : Nat) (p : Pt) : ∀ (l : List Pt) (m : Int), lowP d (l ++ [p]) m = (if p.2.getD d 0 < lowP d l m then p.2.getD d 0 else lowP d l m)
  | [], m => rfl
  | q :: r, m => by rw [List.cons_append, lowP, lowP, lowP_snoc d p r]
theorem highP_snoc (d : Nat) (p : Pt) : ∀ (l : List Pt) (m : Int), highP d (l ++ [p]) m = (if highP d l m < p.2.getD d 0 then p.2.getD d 0 else highP d l m)
  | [], m => rfl
  | q :: r, m => by rw [List.cons_append, highP, highP, highP_snoc d p r]
def farP (d : Nat) (l : List Pt) : Nat := (highP d l ((l.getD 0 noPt).2.getD d 0) - lowP d l ((l.getD 0 noPt).2.getD d 0)).toNat
def widF (l : List Pt) : Nat → Nat
  | 0 => 0
  | k + 1 => if farP (widF l k) l < farP k l then k else widF l k
theorem widF_lt (l : List Pt) : ∀ k, 0 < k → widF l k < k
  | 0, h => absurd h (by omega)
  | k + 1, _ => by
    rw [widF]
    split
    · omega
    · by_cases hk : k = 0
      · subst hk; simp [widF]
      · have := widF_lt l k (by omega); omega
/-- a point's form. -/
def ptB (p : Pt) : List UInt8 := enc p.1.toNat ++ (p.2.map (fun v => enc (zz v))).flatten
def ptsB (l : List Pt) : List UInt8 := (l.map ptB).flatten
/-- the tree's form. -/
def treeP (dims : Nat) (l : List Pt) : List UInt8 :=
  if h : l.length ≤ 8 then (0 : UInt8) :: (enc l.length ++ ptsB (sortP 0 l))
  else (1 : UInt8) :: (enc (widF l dims) ++ enc (zz (((sortP (widF l dims) l).getD ((l.length + 1) / 2) noPt).2.getD (widF l dims) 0)) ++ enc (treeP dims ((sortP (widF l dims) l).take ((l.length + 1) / 2))).length ++ treeP dims ((sortP (widF l dims) l).take ((l.length + 1) / 2)) ++ treeP dims ((sortP (widF l dims) l).drop ((l.length + 1) / 2)))
termination_by l.length
decreasing_by
  all_goals simp only [List.length_take, List.length_drop, sortP_len]; omega
def mayP (dims : Int) (l : List Pt) : Prop := 1 ≤ dims ∧ dims ≤ 4 ∧ l.length ≤ 1048576 ∧ ∀ p ∈ l, (p.2.length : Int) = dims ∧ 0 ≤ p.1 ∧ p.1 < 16384
def buildT (dims : Nat) (l : List Pt) : List UInt8 := enc dims ++ enc l.length ++ treeP dims l
theorem treeP_leaf {dims : Nat} {l : List Pt} (h : l.length ≤ 8) : treeP dims l = (0 : UInt8) :: (enc l.length ++ ptsB (sortP 0 l)) := by rw [treeP, dif_pos h]
theorem treeP_cut {dims : Nat} {l : List Pt} (h : ¬ l.length ≤ 8) {d n : Nat} {s : List Pt} (hd : d = widF l dims) (hs : s = sortP d l) (hn : n = (l.length + 1) / 2) :
    treeP dims l = (1 : UInt8) :: (enc d ++ enc (zz ((s.getD n noPt).2.getD d 0)) ++ enc (treeP dims (s.take n)).length ++ treeP dims (s.take n) ++ treeP dims (s.drop n)) := by
  rw [treeP, dif_neg h, ← hd, ← hn, ← hs]
theorem ptB_le {p : Pt} {k : Nat} (h : p.2.length ≤ k) : (ptB p).length ≤ 10 + 10 * k := by
  have h1 : ∀ l : List Int, ((l.map (fun v => enc (zz v))).flatten).length ≤ 10 * l.length := fun l => by
    induction l with
    | nil => simp
    | cons x r ih => have := (enc_len (zz x)).2; simp only [List.map_cons, List.flatten_cons, List.length_append, List.length_cons]; omega
  have h2 := (enc_len p.1.toNat).2
  have h3 := h1 p.2
  rw [ptB, List.length_append]
  omega
theorem ptsB_le : ∀ {l : List Pt}, (∀ p ∈ l, p.2.length ≤ 4) → (ptsB l).length ≤ 50 * l.length
  | [], _ => by simp [ptsB]
  | p :: r, h => by
    have h1 := ptsB_le (l := r) (fun q hq => h q (List.mem_cons_of_mem _ hq))
    have h2 := ptB_le (h p List.mem_cons_self)
    have e : ptsB (p :: r) = ptB p ++ ptsB r := by simp [ptsB]
    rw [e, List.length_append, List.length_cons]
    omega
theorem treeP_le (dims : Nat) : ∀ (n : Nat) (l : List Pt), l.length = n → 1 ≤ n → (∀ p ∈ l, p.2.length ≤ 4) → (treeP dims l).length + 40 ≤ 110 * n := by
  intro n
  induction n using Nat.strongRecOn with
  | ind n ih =>
    intro l hl h1 h4
    by_cases h8 : l.length ≤ 8
    · have h2 := ptsB_le (l := sortP 0 l) (fun p hp => h4 p (sortP_mem.1 hp))
      have h3 := (enc_len l.length).2
      rw [sortP_len] at h2
      rw [treeP_leaf h8, List.length_cons, List.length_append]
      omega
    · obtain ⟨d, hd⟩ : ∃ d, d = widF l dims := ⟨_, rfl⟩
      obtain ⟨s, hs⟩ : ∃ s, s = sortP d l := ⟨_, rfl⟩
      obtain ⟨k, hk⟩ : ∃ k, k = (l.length + 1) / 2 := ⟨_, rfl⟩
      have hsl : s.length = l.length := by rw [hs, sortP_len]
      have hsm : ∀ p ∈ s, p.2.length ≤ 4 := fun p hp => h4 p (sortP_mem.1 (by rw [← hs]; exact hp))
      have a1 := ih k (by omega) (s.take k) (by rw [List.length_take]; omega) (by omega) (fun p hp => hsm p (List.mem_of_mem_take hp))
      have a2 := ih (n - k) (by omega) (s.drop k) (by rw [List.length_drop]; omega) (by omega) (fun p hp => hsm p (List.mem_of_mem_drop hp))
      have e1 := (enc_len d).2
      have e2 := (enc_len (zz ((s.getD k noPt).2.getD d 0))).2
      have e3 := (enc_len (treeP dims (s.take k)).length).2
      rw [treeP_cut h8 hd hs hk]
      simp only [List.length_cons, List.length_append]
      omega
end Go.Proofs.Ytkenjhalamdjfaa
