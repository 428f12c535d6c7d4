/- Several texts in one: StoPd, StoPo, StoGood, Kit8, KitU64, KitI64. -/
import Derived.Test.YtpnhnnhocekchaaK3
namespace Go.Proofs.Ytpnhnnhocekchaa
set_option linter.unusedVariables false
set_option linter.unusedSimpArgs false
open Go.RowKit

def entsS (bs : List UInt8) : Nat → Nat → Option (List EntV × Nat)
  | 0, a => some ([], a)
  | n + 1, a => match entsS bs n a with
    | none => none
    | some (l, b) => if (entS bs b 0).2.2 = 0 then some (l ++ [(entS bs b 0).1], (entS bs b 0).2.1) else none
theorem entsS_some {bs : List UInt8} {n a b : Nat} {l : List EntV} (h : entsS bs n a = some (l, b)) : entsS bs (n + 1) a = if (entS bs b 0).2.2 = 0 then some (l ++ [(entS bs b 0).1], (entS bs b 0).2.1) else none := by
  rw [entsS, h]
theorem entsS_none {bs : List UInt8} {q a : Nat} (h : entsS bs q a = none) : ∀ n, q ≤ n → entsS bs n a = none := by
  intro n hn
  obtain ⟨d, rfl⟩ : ∃ d, n = q + d := ⟨n - q, by omega⟩
  clear hn
  induction d with
  | zero => exact h
  | succ d ih =>
    show entsS bs (q + d + 1) a = none
    rw [entsS, ih]
def DocI (d : List EntV) : Prop := ∀ e ∈ d, EntI e
theorem take_getD {α : Type} {l : List α} {d : α} {q : Nat} (h : q < l.length) : l.take (q + 1) = l.take q ++ [l.getD q d] := by
  rw [List.take_succ_eq_append_getElem h, List.getD_eq_getElem?_getD, List.getElem?_eq_getElem h]
  rfl
theorem getD_mem2 {α : Type} {l : List α} {d : α} {q : Nat} (h : q < l.length) : l.getD q d ∈ l := by
  rw [List.getD_eq_getElem?_getD, List.getElem?_eq_getElem h]
  exact List.getElem_mem h
theorem flat_take {α β : Type} (f : α → List β) (l : List α) (q : Nat) : (l.take q).flatMap f <+: l.flatMap f := by
  conv => rhs; rw [← List.take_append_drop q l]
  rw [List.flatMap_append]
  exact List.prefix_append _ _
theorem ents_has {bs : List UInt8} {a : Nat} {l : List EntV} (hok : ∀ e ∈ l, entOk e) (hi : DocI l) (h : entsB l <+: bs.drop a) : ∀ q, q ≤ l.length → entsS bs q a = some (l.take q, a + (entsB (l.take q)).length)
  | 0, _ => by simp [entsS, entsB]
  | q + 1, hq => by
    have ih := ents_has hok hi h q (by omega)
    have hx := take_getD (l := l) (d := EntV.none) (q := q) (by omega)
    have hm := getD_mem2 (l := l) (d := EntV.none) (q := q) (by omega)
    have hp : entsB (l.take (q + 1)) <+: bs.drop a := (flat_take entB l (q + 1)).trans h
    rw [hx, entsB_snoc, pre_app] at hp
    have he := ent_has (hok _ hm) (hi _ hm) hp.2
    rw [entsS_some ih, he, if_pos rfl, hx, entsB_snoc, List.length_append, Nat.add_assoc]
theorem ents_of {bs : List UInt8} {a : Nat} : ∀ (n b : Nat) (l : List EntV), entsS bs n a = some (l, b) → l.length = n ∧ (∀ e ∈ l, entOk e) ∧ DocI l ∧ entsB l <+: bs.drop a ∧ b = a + (entsB l).length
  | 0, b, l, h => by
    rw [entsS] at h
    injection h with h
    injection h with h1 h2
    subst h1 h2
    exact ⟨rfl, (fun _ h => by cases h), (fun _ h => by cases h), pre_nil, rfl⟩
  | n + 1, b, l, h => by
    cases h1 : entsS bs n a with
    | none => rw [entsS, h1] at h; cases h
    | some x =>
      obtain ⟨l1, b1⟩ := x
      obtain ⟨i1, i2, i3, i4, i5⟩ := ents_of n b1 l1 h1
      rw [entsS_some h1] at h
      split at h
      · rename_i he
        injection h with h
        injection h with h2 h3
        obtain ⟨_, o1, o2, o3, o4⟩ := ent_of he
        subst h2 h3
        refine ⟨by rw [List.length_append, i1]; rfl, ?_, ?_, ?_, ?_⟩
        · intro e hm
          rcases List.mem_append.1 hm with hm | hm
          · exact i2 e hm
          · rw [List.mem_singleton.1 hm]; exact o1
        · intro e hm
          rcases List.mem_append.1 hm with hm | hm
          · exact i3 e hm
          · rw [List.mem_singleton.1 hm]; exact o2
        · rw [entsB_snoc, pre_app, ← i5]; exact ⟨i4, o3⟩
        · rw [entsB_snoc, List.length_append, ← Nat.add_assoc, ← i5]; exact o4
      · cases h

def docS (bs : List UInt8) (a : Nat) : Option (List EntV × Nat) := if (sizeS bs a 0 64).2.2 = 0 then entsS bs (sizeS bs a 0 64).1 (sizeS bs a 0 64).2.1 else none
theorem doc_has {bs : List UInt8} {a : Nat} {d : List EntV} (hok : docOk d) (hi : DocI d) (h : formB d <+: bs.drop a) : docS bs a = some (d, a + (formB d).length) := by
  unfold formB at h ⊢
  rw [pre_app] at h
  have h64 := hok.1
  have h1 := size_has (most := 64) (by omega) (by omega) h.1
  have h2 := ents_has hok.2 hi h.2 d.length (Nat.le_refl _)
  rw [List.take_length] at h2
  unfold docS
  rw [h1, if_pos rfl, h2, List.length_append, Nat.add_assoc]
theorem doc_of {bs : List UInt8} {a b : Nat} {d : List EntV} (h : docS bs a = some (d, b)) : docOk d ∧ DocI d ∧ formB d <+: bs.drop a ∧ b = a + (formB d).length := by
  unfold docS at h
  split at h
  · rename_i hs
    obtain ⟨s0, s1, s2, s3, s4⟩ := size_of hs
    obtain ⟨i1, i2, i3, i4, i5⟩ := ents_of _ _ _ h
    refine ⟨⟨by omega, i2⟩, i3, ?_, ?_⟩
    · unfold formB
      rw [pre_app, i1, ← s4]
      exact ⟨s3, i4⟩
    · unfold formB
      rw [i1, List.length_append, ← Nat.add_assoc, ← s4]
      exact i5
  · cases h
def docsS (bs : List UInt8) : Nat → Nat → Option (List (List EntV) × Nat)
  | 0, a => some ([], a)
  | n + 1, a => match docsS bs n a with
    | none => none
    | some (l, b) => match docS bs b with
      | none => none
      | some (d, c) => some (l ++ [d], c)
theorem docsS_some {bs : List UInt8} {n a b : Nat} {l : List (List EntV)} (h : docsS bs n a = some (l, b)) : docsS bs (n + 1) a = match docS bs b with
      | none => none
      | some (d, c) => some (l ++ [d], c) := by
  rw [docsS, h]
theorem docsS_none {bs : List UInt8} {q a : Nat} (h : docsS bs q a = none) : ∀ n, q ≤ n → docsS bs n a = none := by
  intro n hn
  obtain ⟨d, rfl⟩ : ∃ d, n = q + d := ⟨n - q, by omega⟩
  clear hn
  induction d with
  | zero => exact h
  | succ d ih =>
    show docsS bs (q + d + 1) a = none
    rw [docsS, ih]
def bodyF (ds : List (List EntV)) : List UInt8 := ds.flatMap formB
theorem bodyF_snoc (ds : List (List EntV)) (d : List EntV) : bodyF (ds ++ [d]) = bodyF ds ++ formB d := by simp [bodyF, List.flatMap_append]
def DocsI (ds : List (List EntV)) : Prop := ∀ d ∈ ds, DocI d
theorem docs_has {bs : List UInt8} {a : Nat} {l : List (List EntV)} (hok : ∀ d ∈ l, docOk d) (hi : DocsI l) (h : bodyF l <+: bs.drop a) : ∀ q, q ≤ l.length → docsS bs q a = some (l.take q, a + (bodyF (l.take q)).length)
  | 0, _ => by simp [docsS, bodyF]
  | q + 1, hq => by
    have ih := docs_has hok hi h q (by omega)
    have hx := take_getD (l := l) (d := []) (q := q) (by omega)
    have hm := getD_mem2 (l := l) (d := []) (q := q) (by omega)
    have hp : bodyF (l.take (q + 1)) <+: bs.drop a := (flat_take formB l (q + 1)).trans h
    rw [hx, bodyF_snoc, pre_app] at hp
    have he := doc_has (hok _ hm) (hi _ hm) hp.2
    rw [docsS_some ih, he, hx, bodyF_snoc, List.length_append, Nat.add_assoc]
theorem docs_of {bs : List UInt8} {a : Nat} : ∀ (n b : Nat) (l : List (List EntV)), docsS bs n a = some (l, b) → l.length = n ∧ (∀ d ∈ l, docOk d) ∧ DocsI l ∧ bodyF l <+: bs.drop a ∧ b = a + (bodyF l).length
  | 0, b, l, h => by
    rw [docsS] at h
    injection h with h
    injection h with h1 h2
    subst h1 h2
    exact ⟨rfl, (fun _ h => by cases h), (fun _ h => by cases h), pre_nil, rfl⟩
  | n + 1, b, l, h => by
    cases h1 : docsS bs n a with
    | none => rw [docsS, h1] at h; cases h
    | some x =>
      obtain ⟨l1, b1⟩ := x
      obtain ⟨i1, i2, i3, i4, i5⟩ := docs_of n b1 l1 h1
      rw [docsS_some h1] at h
      cases h2 : docS bs b1 with
      | none => rw [h2] at h; cases h
      | some y =>
        obtain ⟨d, c⟩ := y
        rw [h2] at h
        injection h with h
        injection h with h3 h4
        obtain ⟨o1, o2, o3, o4⟩ := doc_of h2
        subst h3 h4
        refine ⟨by rw [List.length_append, i1]; rfl, ?_, ?_, ?_, ?_⟩
        · intro e hm
          rcases List.mem_append.1 hm with hm | hm
          · exact i2 e hm
          · rw [List.mem_singleton.1 hm]; exact o1
        · intro e hm
          rcases List.mem_append.1 hm with hm | hm
          · exact i3 e hm
          · rw [List.mem_singleton.1 hm]; exact o2
        · rw [bodyF_snoc, pre_app, ← i5]; exact ⟨i4, o3⟩
        · rw [bodyF_snoc, List.length_append, ← Nat.add_assoc, ← i5]; exact o4
/-- a chunk's bytes are just these documents. -/
def chunkOk (bs : List UInt8) (k : Nat) (ds : List (List EntV)) : Prop := docsS bs k 0 = some (ds, bs.length)
theorem chunk_has {ds : List (List EntV)} (hok : ∀ d ∈ ds, docOk d) (hi : DocsI ds) : chunkOk (bodyF ds) ds.length ds := by
  have h := docs_has (bs := bodyF ds) (a := 0) hok hi (by simp) ds.length (Nat.le_refl _)
  rw [List.take_length, Nat.zero_add] at h
  exact h
theorem chunk_of {bs : List UInt8} {k : Nat} {ds : List (List EntV)} (h : chunkOk bs k ds) : ds.length = k ∧ (∀ d ∈ ds, docOk d) ∧ DocsI ds ∧ bs = bodyF ds := by
  obtain ⟨i1, i2, i3, i4, i5⟩ := docs_of _ _ _ h
  exact ⟨i1, i2, i3, (pre_eq i4 (by omega)).symm⟩

/-! Documents that go into one chunk. -/
def addG (gs : List (List (List EntV))) (d : List EntV) : List (List (List EntV)) :=
  match gs.getLast? with
  | none => [[d]]
  | some g => if 256 ≤ (bodyF g).length then gs ++ [[d]] else gs.dropLast ++ [g ++ [d]]
def groups (ds : List (List EntV)) : List (List (List EntV)) := ds.foldl addG []
def gB (g : List (List EntV)) : Nat × List UInt8 := (g.length, bodyF g)
theorem groups_snoc (ds : List (List EntV)) (d : List EntV) : groups (ds ++ [d]) = addG (groups ds) d := by simp [groups, List.foldl_append]
theorem addG_map (gs : List (List (List EntV))) (d : List EntV) : (addG gs d).map gB = addD (gs.map gB) (formB d) := by
  unfold addG addD
  rw [List.getLast?_map]
  cases h : gs.getLast? with
  | none =>
    have : gs = [] := List.getLast?_eq_none_iff.1 h
    subst this
    simp [gB, bodyF]
  | some g =>
    show (if 256 ≤ (bodyF g).length then gs ++ [[d]] else gs.dropLast ++ [g ++ [d]]).map gB = if 256 ≤ (bodyF g).length then _ else _
    split
    · simp [gB, bodyF]
    · simp [gB, bodyF_snoc, List.map_dropLast]
theorem groups_cuts (ds : List (List EntV)) : cutsB ds = (groups ds).map gB := by
  have h : ∀ (gs : List (List (List EntV))), (ds.foldl addG gs).map gB = ds.foldl (fun cs d => addD cs (formB d)) (gs.map gB) := by
    induction ds with
    | nil => intro gs; rfl
    | cons d r ih => intro gs; rw [List.foldl_cons, List.foldl_cons, ih, addG_map]
  exact (h []).symm
theorem groups_flat (ds : List (List EntV)) : (groups ds).flatten = ds ∧ ∀ g ∈ groups ds, g ≠ [] := by
  have h : ∀ (r gs : List (List EntV) → Prop), True := fun _ _ => trivial
  have key : ∀ (l : List (List EntV)) (gs : List (List (List EntV))), (∀ g ∈ gs, g ≠ []) → (l.foldl addG gs).flatten = gs.flatten ++ l ∧ ∀ g ∈ l.foldl addG gs, g ≠ [] := by
    intro l
    induction l with
    | nil => intro gs hg; exact ⟨by simp, hg⟩
    | cons d r ih =>
      intro gs hg
      have h1 : (addG gs d).flatten = gs.flatten ++ [d] ∧ ∀ g ∈ addG gs d, g ≠ [] := by
        unfold addG
        cases h : gs.getLast? with
        | none =>
          have : gs = [] := List.getLast?_eq_none_iff.1 h
          subst this
          simp
        | some g =>
          have hgs : gs = gs.dropLast ++ [g] := by
            have hne : gs ≠ [] := fun e => by rw [e] at h; cases h
            have := List.dropLast_concat_getLast hne
            rw [List.getLast?_eq_some_getLast hne] at h
            injection h with h
            rw [h] at this
            exact this.symm
          show (if 256 ≤ (bodyF g).length then gs ++ [[d]] else gs.dropLast ++ [g ++ [d]]).flatten = _ ∧ ∀ x ∈ (if 256 ≤ (bodyF g).length then gs ++ [[d]] else gs.dropLast ++ [g ++ [d]]), x ≠ []
          split
          · refine ⟨by simp, fun x hx => ?_⟩
            rcases List.mem_append.1 hx with hx | hx
            · exact hg x hx
            · rw [List.mem_singleton.1 hx]; simp
          · refine ⟨?_, fun x hx => ?_⟩
            · conv => rhs; rw [hgs]
              simp
            · rcases List.mem_append.1 hx with hx | hx
              · exact hg x (List.dropLast_subset _ hx)
              · rw [List.mem_singleton.1 hx]; simp
      obtain ⟨i1, i2⟩ := ih (addG gs d) h1.2
      rw [List.foldl_cons]
      exact ⟨by rw [i1, h1.1]; simp, i2⟩
  have := key ds [] (fun _ h => by cases h)
  exact ⟨this.1, this.2⟩
end Go.Proofs.Ytpnhnnhocekchaa
namespace Go.Proofs.Ytpnhnnhocekchaa
set_option linter.unusedVariables false
set_option linter.unusedSimpArgs false
open Go.RowKit

/-- the chunks' table: how many documents each has, how many bytes; N documents there are, L is the most bytes. -/
def hdrS (bs : List UInt8) (L N : Nat) : Nat → Nat → Option (List (Nat × Nat) × Nat × Nat)
  | 0, a => some ([], a, 0)
  | c + 1, a => match hdrS bs L N c a with
    | none => none
    | some (ks, b, t) =>
      if (sizeS bs (sizeS bs b 0 16384).2.1 (sizeS bs b 0 16384).2.2 (L : Int)).2.2 = 0 ∧ 0 < (sizeS bs b 0 16384).1 ∧ t + (sizeS bs b 0 16384).1 ≤ N then
        some (ks ++ [((sizeS bs b 0 16384).1, (sizeS bs (sizeS bs b 0 16384).2.1 (sizeS bs b 0 16384).2.2 (L : Int)).1)], (sizeS bs (sizeS bs b 0 16384).2.1 (sizeS bs b 0 16384).2.2 (L : Int)).2.1, t + (sizeS bs b 0 16384).1)
      else none
theorem hdrS_some {bs : List UInt8} {L N c a b t : Nat} {ks : List (Nat × Nat)} (h : hdrS bs L N c a = some (ks, b, t)) : hdrS bs L N (c + 1) a =
      if (sizeS bs (sizeS bs b 0 16384).2.1 (sizeS bs b 0 16384).2.2 (L : Int)).2.2 = 0 ∧ 0 < (sizeS bs b 0 16384).1 ∧ t + (sizeS bs b 0 16384).1 ≤ N then
        some (ks ++ [((sizeS bs b 0 16384).1, (sizeS bs (sizeS bs b 0 16384).2.1 (sizeS bs b 0 16384).2.2 (L : Int)).1)], (sizeS bs (sizeS bs b 0 16384).2.1 (sizeS bs b 0 16384).2.2 (L : Int)).2.1, t + (sizeS bs b 0 16384).1)
      else none := by
  rw [hdrS, h]
theorem hdrS_none {bs : List UInt8} {L N q a : Nat} (h : hdrS bs L N q a = none) : ∀ n, q ≤ n → hdrS bs L N n a = none := by
  intro n hn
  obtain ⟨d, rfl⟩ : ∃ d, n = q + d := ⟨n - q, by omega⟩
  clear hn
  induction d with
  | zero => exact h
  | succ d ih =>
    show hdrS bs L N (q + d + 1) a = none
    rw [hdrS, ih]
def sumK (ks : List (Nat × Nat)) : Nat := (ks.map (·.1)).sum
theorem sumK_snoc (ks : List (Nat × Nat)) (x : Nat × Nat) : sumK (ks ++ [x]) = sumK ks + x.1 := by simp [sumK]
def headK (ks : List (Nat × Nat)) : List UInt8 := ks.flatMap fun c => enc c.1 ++ enc c.2
theorem headK_snoc (ks : List (Nat × Nat)) (x : Nat × Nat) : headK (ks ++ [x]) = headK ks ++ (enc x.1 ++ enc x.2) := by simp [headK, List.flatMap_append]
theorem sumK_take (ks : List (Nat × Nat)) (q : Nat) : sumK (ks.take q) ≤ sumK ks := by
  have h : sumK ks = sumK (ks.take q) + sumK (ks.drop q) := by
    conv => lhs; rw [← List.take_append_drop q ks]
    unfold sumK
    rw [List.map_append, List.sum_append]
  omega
theorem le_sum {x : Nat} : ∀ {l : List Nat}, x ∈ l → x ≤ l.sum
  | y :: r, h => by
    rw [List.sum_cons]
    rcases List.mem_cons.1 h with h | h
    · omega
    · have := le_sum h
      omega
theorem hdr_has {bs : List UInt8} {L N a : Nat} {ks : List (Nat × Nat)} (hL : L < 18446744073709551616) (h1 : ∀ k ∈ ks, 0 < k.1 ∧ k.1 ≤ 16384 ∧ k.2 ≤ L) (hN : sumK ks ≤ N) (h : headK ks <+: bs.drop a) :
    ∀ q, q ≤ ks.length → hdrS bs L N q a = some (ks.take q, a + (headK (ks.take q)).length, sumK (ks.take q))
  | 0, _ => by simp [hdrS, headK, sumK]
  | q + 1, hq => by
    have ih := hdr_has hL h1 hN h q (by omega)
    have hx := take_getD (l := ks) (d := (0, 0)) (q := q) (by omega)
    have hm := h1 _ (getD_mem2 (l := ks) (d := (0, 0)) (q := q) (by omega))
    have hp : headK (ks.take (q + 1)) <+: bs.drop a := (flat_take _ ks (q + 1)).trans h
    have hs := sumK_take ks (q + 1)
    rw [hx, headK_snoc, pre_app, pre_app] at hp
    rw [hx, sumK_snoc] at hs
    have e1 := size_has (most := 16384) (by omega) (by omega) hp.2.1
    have e2 := size_has (most := (L : Int)) (by omega) (by omega) hp.2.2
    rw [hdrS_some ih, e1]
    dsimp only
    rw [e2, if_pos ⟨rfl, hm.1, by omega⟩, hx, headK_snoc, sumK_snoc, List.length_append, List.length_append]
    simp only [Nat.add_assoc]
theorem hdr_of {bs : List UInt8} {L N a : Nat} : ∀ (c b t : Nat) (ks : List (Nat × Nat)), hdrS bs L N c a = some (ks, b, t) → ks.length = c ∧ (∀ k ∈ ks, 0 < k.1 ∧ k.2 ≤ L) ∧ headK ks <+: bs.drop a ∧ b = a + (headK ks).length ∧ t = sumK ks
  | 0, b, t, ks, h => by
    rw [hdrS] at h
    injection h with h
    injection h with h1 h2
    injection h2 with h2 h3
    subst h1 h2 h3
    exact ⟨rfl, (fun _ h => by cases h), pre_nil, rfl, rfl⟩
  | c + 1, b, t, ks, h => by
    cases h1 : hdrS bs L N c a with
    | none => rw [hdrS, h1] at h; cases h
    | some x =>
      obtain ⟨l1, b1, t1⟩ := x
      obtain ⟨i1, i2, i3, i4, i5⟩ := hdr_of c b1 t1 l1 h1
      rw [hdrS_some h1] at h
      split at h
      · rename_i hc
        obtain ⟨c1, c2, c3⟩ := hc
        injection h with h
        injection h with h3 h4
        injection h4 with h4 h5
        obtain ⟨o0, o1, o2, o3, o4⟩ := size_of c1
        obtain ⟨p0, p1, p2, p3, p4⟩ := size_of o0
        subst h3 h4 h5
        refine ⟨by rw [List.length_append, i1]; rfl, ?_, ?_, ?_, ?_⟩
        · intro e hm
          rcases List.mem_append.1 hm with hm | hm
          · exact i2 e hm
          · rw [List.mem_singleton.1 hm]; exact ⟨c2, by show (sizeS _ _ _ _).1 ≤ L; omega⟩
        · rw [headK_snoc, pre_app, pre_app, ← i4, ← p4]; exact ⟨i3, p3, o3⟩
        · rw [headK_snoc, List.length_append, List.length_append, ← Nat.add_assoc, ← i4, ← Nat.add_assoc, ← p4]; exact o4
        · rw [sumK_snoc, ← i5]
      · cases h
/-- the chunks' bytes, each read whole. -/
abbrev ChV := List UInt8 × List (List EntV)
def bodS (bs : List UInt8) (ks : List (Nat × Nat)) : Nat → Nat → Option (List ChV × Nat)
  | 0, a => some ([], a)
  | i + 1, a => match bodS bs ks i a with
    | none => none
    | some (cs, b) =>
      if (bytesS bs b 0 ((ks.getD i (0, 0)).2 : Nat)).2.2 = 0 then
        match docsS (bytesS bs b 0 ((ks.getD i (0, 0)).2 : Nat)).1 (ks.getD i (0, 0)).1 0 with
        | none => none
        | some (ds, l) => if l = (bytesS bs b 0 ((ks.getD i (0, 0)).2 : Nat)).1.length then some (cs ++ [((bytesS bs b 0 ((ks.getD i (0, 0)).2 : Nat)).1, ds)], (bytesS bs b 0 ((ks.getD i (0, 0)).2 : Nat)).2.1) else none
      else none
theorem bodS_none {bs : List UInt8} {ks : List (Nat × Nat)} {q a : Nat} (h : bodS bs ks q a = none) : ∀ n, q ≤ n → bodS bs ks n a = none := by
  intro n hn
  obtain ⟨d, rfl⟩ : ∃ d, n = q + d := ⟨n - q, by omega⟩
  clear hn
  induction d with
  | zero => exact h
  | succ d ih =>
    show bodS bs ks (q + d + 1) a = none
    rw [bodS, ih]
theorem bodS_step {bs : List UInt8} {ks : List (Nat × Nat)} {i a b : Nat} {cs : List ChV} {ds : List (List EntV)} (h : bodS bs ks i a = some (cs, b)) (h1 : (bytesS bs b 0 ((ks.getD i (0, 0)).2 : Nat)).2.2 = 0) (h2 : chunkOk (bytesS bs b 0 ((ks.getD i (0, 0)).2 : Nat)).1 (ks.getD i (0, 0)).1 ds) :
    bodS bs ks (i + 1) a = some (cs ++ [((bytesS bs b 0 ((ks.getD i (0, 0)).2 : Nat)).1, ds)], (bytesS bs b 0 ((ks.getD i (0, 0)).2 : Nat)).2.1) := by
  rw [bodS, h]
  dsimp only
  rw [if_pos h1, h2]
  exact if_pos rfl
theorem bodS_bad1 {bs : List UInt8} {ks : List (Nat × Nat)} {i a b : Nat} {cs : List ChV} (h : bodS bs ks i a = some (cs, b)) (h1 : (bytesS bs b 0 ((ks.getD i (0, 0)).2 : Nat)).2.2 ≠ 0) : bodS bs ks (i + 1) a = none := by
  rw [bodS, h]
  exact if_neg h1
theorem bodS_bad2 {bs : List UInt8} {ks : List (Nat × Nat)} {i a b : Nat} {cs : List ChV} (h : bodS bs ks i a = some (cs, b)) (h2 : ∀ ds, ¬ chunkOk (bytesS bs b 0 ((ks.getD i (0, 0)).2 : Nat)).1 (ks.getD i (0, 0)).1 ds) : bodS bs ks (i + 1) a = none := by
  rw [bodS, h]
  dsimp only
  split
  · split
    · rfl
    · rename_i ds l hd
      split
      · rename_i hl
        exact absurd (by rw [chunkOk, hd, hl]) (h2 ds)
      · rfl
  · rfl
def bodyC (cs : List ChV) : List UInt8 := cs.flatMap (·.1)
def kC (c : ChV) : Nat × Nat := (c.2.length, c.1.length)
def docsC (cs : List ChV) : List (List EntV) := cs.flatMap (·.2)
theorem bodyC_snoc (cs : List ChV) (c : ChV) : bodyC (cs ++ [c]) = bodyC cs ++ c.1 := by simp [bodyC, List.flatMap_append]
theorem bod_has {bs : List UInt8} {a : Nat} {cs : List ChV} (h1 : ∀ c ∈ cs, chunkOk c.1 c.2.length c.2) (h : bodyC cs <+: bs.drop a) : ∀ q, q ≤ cs.length → bodS bs (cs.map kC) q a = some (cs.take q, a + (bodyC (cs.take q)).length)
  | 0, _ => by simp [bodS, bodyC]
  | q + 1, hq => by
    have ih := bod_has h1 h q (by omega)
    have hx := take_getD (l := cs) (d := ([], [])) (q := q) (by omega)
    have hm := h1 _ (getD_mem2 (l := cs) (d := ([], [])) (q := q) (by omega))
    have hp : bodyC (cs.take (q + 1)) <+: bs.drop a := (flat_take _ cs (q + 1)).trans h
    have hk : (cs.map kC).getD q (0, 0) = kC (cs.getD q ([], [])) := by
      rw [List.getD_eq_getElem?_getD, List.getD_eq_getElem?_getD, List.getElem?_map, List.getElem?_eq_getElem (by omega)]
      rfl
    rw [hx, bodyC_snoc, pre_app] at hp
    have e1 := bytes_has hp.2
    have e2 : bytesS bs (a + (bodyC (cs.take q)).length) 0 (((cs.map kC).getD q (0, 0)).2 : Nat) = ((cs.getD q ([], [])).1, a + (bodyC (cs.take q)).length + (cs.getD q ([], [])).1.length, 0) := by rw [hk]; exact e1
    rw [bodS_step (ds := (cs.getD q ([], [])).2) ih (by rw [e2]) (by rw [e2, hk]; exact hm), e2, hx, bodyC_snoc, List.length_append, Nat.add_assoc]
theorem bod_of {bs : List UInt8} {ks : List (Nat × Nat)} {a : Nat} : ∀ (q b : Nat) (cs : List ChV), q ≤ ks.length → bodS bs ks q a = some (cs, b) → cs.map kC = ks.take q ∧ (∀ c ∈ cs, chunkOk c.1 c.2.length c.2) ∧ bodyC cs <+: bs.drop a ∧ b = a + (bodyC cs).length
  | 0, b, cs, _, h => by
    rw [bodS] at h
    injection h with h
    injection h with h1 h2
    subst h1 h2
    exact ⟨rfl, (fun _ h => by cases h), pre_nil, rfl⟩
  | q + 1, b, cs, hq, h => by
    cases h1 : bodS bs ks q a with
    | none => rw [bodS, h1] at h; cases h
    | some x =>
      obtain ⟨c1, b1⟩ := x
      obtain ⟨i1, i2, i3, i4⟩ := bod_of q b1 c1 (by omega) h1
      by_cases g1 : (bytesS bs b1 0 ((ks.getD q (0, 0)).2 : Nat)).2.2 = 0
      · by_cases g2 : ∃ ds, chunkOk (bytesS bs b1 0 ((ks.getD q (0, 0)).2 : Nat)).1 (ks.getD q (0, 0)).1 ds
        · obtain ⟨ds, g2⟩ := g2
          rw [bodS_step h1 g1 g2] at h
          injection h with h
          injection h with h2 h3
          obtain ⟨_, p1, p2, p3⟩ := bytes_of g1
          obtain ⟨q1, _, _, _⟩ := chunk_of g2
          subst h2 h3
          refine ⟨?_, ?_, ?_, ?_⟩
          · rw [List.map_append, i1, take_getD (d := (0, 0)) (by omega)]
            congr 1
            show [(ds.length, (bytesS bs b1 0 ((ks.getD q (0, 0)).2 : Nat)).1.length)] = _
            rw [q1, p1]
          · intro c hc
            rcases List.mem_append.1 hc with hc | hc
            · exact i2 c hc
            · rw [List.mem_singleton.1 hc]
              show chunkOk _ ds.length ds
              rw [q1]; exact g2
          · rw [bodyC_snoc, pre_app, ← i4]; exact ⟨i3, p2⟩
          · rw [bodyC_snoc, List.length_append, ← Nat.add_assoc, ← i4, p3, p1]
        · rw [bodS_bad2 h1 (fun ds hd => g2 ⟨ds, hd⟩)] at h; cases h
      · rw [bodS_bad1 h1 g1] at h; cases h

/-- bytes that are read whole, and are what would be built. -/
structure OpenOk (bs : List UInt8) (ks : List (Nat × Nat)) (cs : List ChV) : Prop where
  head : (sizeS bs (sizeS bs 0 0 16384).2.1 (sizeS bs 0 0 16384).2.2 ((sizeS bs 0 0 16384).1 : Nat)).2.2 = 0
  tab : ∃ a, hdrS bs bs.length (sizeS bs 0 0 16384).1 (sizeS bs (sizeS bs 0 0 16384).2.1 (sizeS bs 0 0 16384).2.2 ((sizeS bs 0 0 16384).1 : Nat)).1 (sizeS bs (sizeS bs 0 0 16384).2.1 (sizeS bs 0 0 16384).2.2 ((sizeS bs 0 0 16384).1 : Nat)).2.1 = some (ks, a, (sizeS bs 0 0 16384).1) ∧ bodS bs ks ks.length a = some (cs, bs.length)
  form : buildB (docsC cs) = bs
def kG (g : List (List EntV)) : ChV := (bodyF g, g)
theorem docsC_groups (gs : List (List (List EntV))) : docsC (gs.map kG) = gs.flatten := by
  induction gs with
  | nil => rfl
  | cons g r ih =>
    have : docsC ((g :: r).map kG) = g ++ docsC (r.map kG) := by simp [docsC, kG]
    rw [this, ih]; rfl
theorem bodyC_groups (gs : List (List (List EntV))) : bodyC (gs.map kG) = bodyB (gs.map gB) := by
  unfold bodyC bodyB
  rw [List.flatMap_map, List.flatMap_map]
  rfl
theorem headK_groups (gs : List (List (List EntV))) : headK ((gs.map kG).map kC) = headB (gs.map gB) := by
  unfold headK headB
  rw [List.flatMap_map, List.flatMap_map, List.flatMap_map]
  rfl
theorem sumK_groups (gs : List (List (List EntV))) : sumK ((gs.map kG).map kC) = gs.flatten.length := by
  unfold sumK
  rw [List.map_map, List.map_map, List.length_flatten]
  rfl
theorem flat_mem_le {gs : List (List (List EntV))} {g : List (List EntV)} (h : g ∈ gs) : g.length ≤ gs.flatten.length := by
  rw [List.length_flatten]
  exact le_sum (List.mem_map_of_mem h)
theorem flat_len_le {gs : List (List (List EntV))} (h : ∀ g ∈ gs, g ≠ []) : gs.length ≤ gs.flatten.length := by
  induction gs with
  | nil => simp
  | cons g r ih =>
    have h1 := ih (fun x hx => h x (List.mem_cons_of_mem _ hx))
    have h2 : 0 < g.length := List.length_pos_iff.2 (h g List.mem_cons_self)
    rw [List.flatten_cons, List.length_append, List.length_cons]
    omega
theorem body_mem_le {cs : List ChV} {c : ChV} (h : c ∈ cs) : c.1.length ≤ (bodyC cs).length := by
  unfold bodyC
  rw [List.length_flatMap]
  exact le_sum (List.mem_map_of_mem (f := fun c : ChV => c.1.length) h)
theorem open_of_build {ds : List (List EntV)} {bs : List UInt8} (hm : mayB ds) (hi : DocsI ds) (hb : buildB ds = bs) (hl : bs.length < 18446744073709551616) : OpenOk bs (((groups ds).map kG).map kC) ((groups ds).map kG) := by
  obtain ⟨gf, gn⟩ := groups_flat ds
  have hgl := flat_len_le gn
  rw [gf] at hgl
  have hN := hm.1
  have hb' := hb
  unfold buildB at hb'
  rw [if_pos hm, groups_cuts, List.length_map, ← headK_groups, ← bodyC_groups] at hb'
  generalize hcs : (groups ds).map kG = cs at *
  have hck : ∀ c ∈ cs, chunkOk c.1 c.2.length c.2 := by
    intro c hc
    rw [← hcs] at hc
    obtain ⟨g, hg, rfl⟩ := List.mem_map.1 hc
    have hsub : ∀ d ∈ g, d ∈ ds := fun d hd => by rw [← gf]; exact List.mem_flatten.2 ⟨g, hg, hd⟩
    exact chunk_has (fun d hd => hm.2 d (hsub d hd)) (fun d hd => hi d (hsub d hd))
  have hp : (enc ds.length ++ enc (groups ds).length ++ headK (cs.map kC) ++ bodyC cs) <+: bs.drop 0 := by rw [hb']; simp
  rw [pre_app, pre_app, pre_app] at hp
  obtain ⟨⟨⟨p1, p2⟩, p3⟩, p4⟩ := hp
  have e1 := size_has (most := 16384) (by omega) (by omega) p1
  have e2 := size_has (most := (ds.length : Int)) (by omega) (by omega) p2
  have hkk : ∀ k ∈ cs.map kC, 0 < k.1 ∧ k.1 ≤ 16384 ∧ k.2 ≤ bs.length := by
    intro k hk
    obtain ⟨c, hc, rfl⟩ := List.mem_map.1 hk
    have hbl : (bodyC cs).length ≤ bs.length := by have := pre_le p4; omega
    have hcl := body_mem_le hc
    rw [← hcs] at hc
    obtain ⟨g, hg, rfl⟩ := List.mem_map.1 hc
    have h1 := flat_mem_le hg
    rw [gf] at h1
    have h2 : 0 < g.length := List.length_pos_iff.2 (gn g hg)
    exact ⟨h2, by show g.length ≤ 16384; omega, by show (kG g).1.length ≤ _; omega⟩
  have hsum : sumK (cs.map kC) = ds.length := by rw [← hcs, sumK_groups, gf]
  have hcl : (cs.map kC).length = (groups ds).length := by rw [List.length_map, ← hcs, List.length_map]
  rw [List.length_append] at p3
  have e3 := hdr_has (L := bs.length) (N := ds.length) hl hkk (by omega) (a := 0 + (enc ds.length).length + (enc (groups ds).length).length) (by rw [Nat.add_assoc]; exact p3) _ (Nat.le_refl _)
  rw [List.take_length, hsum, hcl] at e3
  have e4 := bod_has hck p4 cs.length (Nat.le_refl _)
  rw [List.take_length] at e4
  refine ⟨?_, ?_, ?_⟩
  · rw [e1]; dsimp only; rw [e2]
  · rw [e1]
    dsimp only
    rw [e2]
    refine ⟨_, e3, ?_⟩
    rw [List.length_map]
    refine Eq.trans ?_ (e4.trans ?_)
    · congr 1
      simp only [List.length_append, Nat.add_assoc, Nat.zero_add]
    · congr 2
      rw [← hb']
      simp only [List.length_append, Nat.add_assoc, Nat.zero_add]
  · rw [← hcs, docsC_groups, gf]; exact hb
theorem OpenOk.may {bs : List UInt8} {ks : List (Nat × Nat)} {cs : List ChV} (h : OpenOk bs ks cs) : mayB (docsC cs) ∧ DocsI (docsC cs) := by
  obtain ⟨a, h1, h2⟩ := h.tab
  have h0 := size_of h.head
  have h3 := size_of h0.1
  obtain ⟨i1, i2, i3, i4, i5⟩ := hdr_of _ _ _ _ h1
  obtain ⟨j1, j2, j3, j4⟩ := bod_of _ _ _ (Nat.le_refl _) h2
  have hlen : (docsC cs).length = sumK ks := by
    rw [← List.take_length (l := ks), ← j1]
    unfold docsC sumK
    rw [List.length_flatMap, List.map_map]
    rfl
  refine ⟨⟨by omega, ?_⟩, ?_⟩
  · intro d hd
    obtain ⟨c, hc, hd⟩ := List.mem_flatMap.1 hd
    exact (chunk_of (j2 c hc)).2.1 d hd
  · intro d hd
    obtain ⟨c, hc, hd⟩ := List.mem_flatMap.1 hd
    exact (chunk_of (j2 c hc)).2.2.1 d hd
theorem OpenOk.uniq {bs : List UInt8} {ks ks' : List (Nat × Nat)} {cs cs' : List ChV} (h : OpenOk bs ks cs) (h' : OpenOk bs ks' cs') : ks = ks' ∧ cs = cs' := by
  obtain ⟨a, h1, h2⟩ := h.tab
  obtain ⟨a', h1', h2'⟩ := h'.tab
  rw [h1] at h1'
  injection h1' with e
  injection e with e1 e2
  injection e2 with e2 _
  subst e1 e2
  rw [h2] at h2'
  injection h2' with e
  injection e with e _
  exact ⟨rfl, e⟩
/-- what is opened has just the chunks that would be cut. -/
theorem OpenOk.cuts {bs : List UInt8} {ks : List (Nat × Nat)} {cs : List ChV} (h : OpenOk bs ks cs) (hl : bs.length < 18446744073709551616) : cs = (groups (docsC cs)).map kG ∧ ks = cs.map kC := by
  obtain ⟨m1, m2⟩ := h.may
  obtain ⟨e1, e2⟩ := h.uniq (open_of_build m1 m2 h.form hl)
  refine ⟨e2, ?_⟩
  rw [e1]
  conv => rhs; rw [e2]
end Go.Proofs.Ytpnhnnhocekchaa
namespace Go.Proofs.Ytpnhnnhocekchaa
set_option linter.unusedVariables false
set_option linter.unusedSimpArgs false
open Go.RowKit

set_option maxRecDepth 100000 in
set_option maxHeartbeats 400000 in
theorem good_ok (g : Nat) (bs : List UInt8) (a : Nat) (w : World) (h : RD w g bs a 0) :
    Calls Try.prog 77 #[.pointer (some ⟨g, 0, none⟩), .bool true] w (fun en w' => (∃ r, en = .returned r) ∧ w' = w) := by
  have HE := hide (err_any g bs a 0 w h)
  clear h
  go_enter Try.func77, Try.ntmps77
  go_wp2_with (go_at_call 64; refine HE.out.mono ?_; rintro en w1 ⟨rfl, rfl⟩)
  go_end0
  exact ⟨⟨_, rfl⟩, rfl⟩
set_option maxRecDepth 100000 in
set_option maxHeartbeats 400000 in
theorem good_bad (g : Nat) (bs : List UInt8) (a : Nat) (e : Int) (b : Bool) (w : World) (h : RD w g bs a e) (hb : e ≠ 0 ∨ b = false) :
    Calls Try.prog 77 #[.pointer (some ⟨g, 0, none⟩), .bool b] w (fun en w' => en = .panicked [{ v := .iface 111 (.agg #[]), recovered := false }] ∧ w' = w) := by
  have HE := hide (err_any g bs a e w h)
  clear h
  by_cases he : e = 0
  · subst he
    obtain rfl : b = false := by rcases hb with h | h; exact absurd rfl h; exact h
    clear hb
    go_enter Try.func77, Try.ntmps77
    go_wp2_with (go_at_call 64; refine HE.out.mono ?_; rintro en w1 ⟨rfl, rfl⟩)
    first | exact ⟨rfl, rfl⟩ | (unfold bodyPost; exact ⟨rfl, rfl⟩) | (simp [bodyPost])
  · clear hb
    go_enter Try.func77, Try.ntmps77
    go_wp2_with (go_at_call 64; refine HE.out.mono ?_; rintro en w1 ⟨rfl, rfl⟩)
    first | exact ⟨rfl, rfl⟩ | (unfold bodyPost; exact ⟨rfl, rfl⟩) | (simp [bodyPost])
end Go.Proofs.Ytpnhnnhocekchaa
namespace Go.Proofs.Ytpnhnnhocekchaa
set_option linter.unusedVariables false
set_option linter.unusedSimpArgs false
open Go.RowKit

set_option maxRecDepth 100000 in
set_option maxHeartbeats 800000 in
theorem kbytes_any (A B : Option Addr) (n c m d b1 b2 : Nat) (xs ys : List UInt8) (w : World) (hx : xs.length = n) (hy : ys.length = m) (hn : n ≤ c) (hc : c ≤ maxLen) (hm : m ≤ d) (hd : d ≤ maxLen) (hr : Rd w b1 A (by8 xs)) (hs : Rd w b2 B (by8 ys)) :
    Calls Try.prog 23 #[.slice A n c, .slice B m d] w (RetQ (.bool (decide (xs = ys))) w) := by
  unfold maxLen at hc hd
  have HX := hide hx
  have HY := hide hy
  have HR := hide hr
  have HS := hide hs
  clear hx hy hr hs
  by_cases hnm : n = m
  · subst hnm
    have hb : ((n : Int) != n) = false := by simp
    go_enter Try.func23, Try.ntmps23
    go_wp2
    go_loopw [5] (fun i wr => ∃ k nq : Nat, k ≤ n ∧ i = .int .i64 k ∧ wr = w.drewN nq ∧ Hid (xs.take k = ys.take k)) (fun i _ => n - (intOf i).toNat)
    case atStart => exact ⟨0, 0, by omega, rfl, rfl, hide rfl⟩
    case round =>
      obtain ⟨k, nq, hk, rfl, rfl, HT⟩ := hrel
      by_cases hlt : k < n
      · have h1 : k < xs.length := by rw [HX.out]; exact hlt
        have h2 : k < ys.length := by rw [HY.out]; exact hlt
        obtain ⟨ad, rfl, _, hcell⟩ := HR.out.byte h1
        obtain ⟨bd, rfl, _, hcell2⟩ := HS.out.byte h2
        have HE := hide (fun he => take_succ_eq h1 h2 HT.out he)
        have HN := hide (show xs.getD k 0 ≠ ys.getD k 0 → xs ≠ ys from fun h e => h (by rw [e]))
        clear h1 h2
        generalize xs.getD k 0 = x at hcell HE HN
        generalize ys.getD k 0 = y at hcell2 HE HN
        by_cases he : x = y
        · subst he
          have HE' := hide (HE.out rfl)
          clear HE
          have hb2 : ((x.toNat : Int) != x.toNat) = false := by simp
          go_wp2
          go_quiet (fail)
          go_wp2
          go_round
          case rel => exact ⟨k + 1, _, by omega, by go_num, rfl, HE'⟩
          case measure => simp [intOf]; omega
        · have hb2 : ((x.toNat : Int) != y.toNat) = true := by
            simp
            intro h
            exact he (UInt8.toNat_inj.1 (by omega))
          go_wp2
          go_quiet (fail)
          go_wp2
          go_ret
          exact ⟨by simp [HN.out he], _, World.drewN_drewN _ _ _⟩
      · have HF := hide (show xs = ys by
          have h := HT.out
          rwa [List.take_of_length_le (by rw [HX.out]; omega), List.take_of_length_le (by rw [HY.out]; omega)] at h)
        go_wp2
        go_ret
        exact ⟨by simp [HF.out], _, rfl⟩
  · have hb : ((n : Int) != m) = true := by simp; omega
    have HF := hide (show xs ≠ ys from fun e => hnm (by rw [← HX.out, ← HY.out, e]))
    go_enter Try.func23, Try.ntmps23
    go_wp2
    go_ret
    exact ⟨by simp [HF.out], 0, rfl⟩

end Go.Proofs.Ytpnhnnhocekchaa
namespace Go.Proofs.Ytpnhnnhocekchaa
set_option linter.unusedVariables false
set_option linter.unusedSimpArgs false
open Go.RowKit

set_option maxRecDepth 100000 in
set_option maxHeartbeats 800000 in
theorem sameU64_any (A B : Option Addr) (n c m d b1 b2 : Nat) (xs ys : List Int) (w : World) (hx : xs.length = n) (hy : ys.length = m) (hn : n ≤ c) (hc : c ≤ maxLen) (hm : m ≤ d) (hd : d ≤ maxLen) (hr : Rd w b1 A (iz .u64 xs)) (hs : Rd w b2 B (iz .u64 ys)) :
    Calls Try.prog 24 #[.slice A n c, .slice B m d] w (RetQ (.bool (decide (xs = ys))) w) := by
  unfold maxLen at hc hd
  have HX := hide hx
  have HY := hide hy
  have HR := hide hr
  have HS := hide hs
  clear hx hy hr hs
  by_cases hnm : n = m
  · subst hnm
    have hb : ((n : Int) != n) = false := by simp
    go_enter Try.func24, Try.ntmps24
    go_wp2
    go_loopw [5] (fun i wr => ∃ k nq : Nat, k ≤ n ∧ i = .int .i64 k ∧ wr = w.drewN nq ∧ Hid (xs.take k = ys.take k)) (fun i _ => n - (intOf i).toNat)
    case atStart => exact ⟨0, 0, by omega, rfl, rfl, hide rfl⟩
    case round =>
      obtain ⟨k, nq, hk, rfl, rfl, HT⟩ := hrel
      by_cases hlt : k < n
      · have h1 : k < xs.length := by rw [HX.out]; exact hlt
        have h2 : k < ys.length := by rw [HY.out]; exact hlt
        obtain ⟨ad, rfl, _, hcell⟩ := HR.out.intAt h1
        obtain ⟨bd, rfl, _, hcell2⟩ := HS.out.intAt h2
        have HE := hide (fun he => take_succ_int h1 h2 HT.out he)
        have HN := hide (show xs.getD k 0 ≠ ys.getD k 0 → xs ≠ ys from fun h e => h (by rw [e]))
        clear h1 h2
        generalize xs.getD k 0 = x at hcell HE HN
        generalize ys.getD k 0 = y at hcell2 HE HN
        by_cases he : x = y
        · subst he
          have HE' := hide (HE.out rfl)
          clear HE
          have hb2 : (x != x) = false := by simp
          go_wp2
          go_quiet (fail)
          go_wp2
          go_round
          case rel => exact ⟨k + 1, _, by omega, by go_num, rfl, HE'⟩
          case measure => simp [intOf]; omega
        · have hb2 : (x != y) = true := by simpa using he
          have HF := hide (HN.out he)
          clear HN HE he
          go_wp2
          go_quiet (fail)
          go_wp2
          go_ret
          exact ⟨by simp [HF.out], _, World.drewN_drewN _ _ _⟩
      · have HF := hide (show xs = ys by
          have h := HT.out
          rwa [List.take_of_length_le (by rw [HX.out]; omega), List.take_of_length_le (by rw [HY.out]; omega)] at h)
        go_wp2
        go_ret
        exact ⟨by simp [HF.out], _, rfl⟩
  · have hb : ((n : Int) != m) = true := by simp; omega
    have HF := hide (show xs ≠ ys from fun e => hnm (by rw [← HX.out, ← HY.out, e]))
    go_enter Try.func24, Try.ntmps24
    go_wp2
    go_ret
    exact ⟨by simp [HF.out], 0, rfl⟩

theorem Try.infoKU64 : (Try.prog.info? 52).map (fun i => (i.zero, i.size, i.bytes)) = some (some (.int .u64 0), 1, 8) := by kernel_rfl
def GivesLentU64 (w : World) (xs : List Int) (en : Ending) (w' : World) : Prop :=
  ∃ A c, en = .returned (.slice A xs.length c) ∧ Own w' w.heap.size 52 1 (.slice A (xs.length + 1) c) (xs.length + 1) (iz .u64 (xs ++ [7171])) ∧ Fr No w w'

set_option maxRecDepth 100000 in
set_option maxHeartbeats 800000 in
theorem lentU64_any (A : Option Addr) (n c B : Nat) (xs : List Int) (w : World) (hl : xs.length = n) (hb : (n + 1) * 8 ≤ 140737488355328) (hr : Rd w B A (iz .u64 xs)) :
    Calls Try.prog 15 #[.slice A n c] w (GivesLentU64 w xs) := by
  obtain ⟨i0, hi, hz, hsz, hby⟩ := info_parts Try.infoKU64
  have HS := hide (Src.ofRd (P := Try.prog) (size := 1) w Try.underlying22 A n c (iz .u64 xs) (by rw [iz_len, hl]; omega) (by omega) hr (iz_one _ _))
  have HL := hide hl
  clear hr hl
  have b1 : (0 + n) * 8 ≤ 140737488355328 := by omega
  have b2 : 0 + n ≤ maxLen := by unfold maxLen; omega
  have c1 : (0 + n + 1) * 8 ≤ 140737488355328 := by omega
  have c2 : 0 + n + 1 ≤ maxLen := by unfold maxLen; omega
  have HO0 := hide (Own.nil w w.heap.size 52 1)
  go_enter Try.func15, Try.ntmps15
  go_wp2_with (first
    | (at_builtin; refine wpList_append_gen _ rfl (.tmp 4) (.tmp 5) 22 22 rfl w.heap.size 52 i0 (.int .u64 0) 1 8 Try.underlying22 hi hz hsz hby rfl (.slice none 0 0) 0 [] rfl HO0.out _ n (iz .u64 xs) rfl HS.out b1 b2 (Nat.le_refl _) ?_; intro v1 w1 hown hfr hat; have HO1 := hide hown; have HF1 : Hid (Fr No w w1) := hide ((Fr.refl No w).own hfr (fun g h => by cases h)); have hz1 := hfr.size; clear hown hfr hat)
    | (at_builtin; refine wpList_append_gen _ rfl (.tmp 7) (.tmp 8) 22 22 rfl w.heap.size 52 i0 (.int .u64 0) 1 8 Try.underlying22 hi hz hsz hby rfl v1 (0 + n) _ rfl (HO1.out.fr0 ((Fr.refl No w1).alloc (.cells #[.int .u64 (7171)] 52))) _ 1 [.int .u64 (7171)] rfl (Src.one (P := Try.prog) w1 (e := 52) Try.underlying22 (.int .u64 (7171)) rfl) c1 c2 (by simp; omega) ?_; intro v2 w2 hown hfr hat; obtain ⟨A2, k2, rfl, hc1, hc2, _⟩ := hown.form; unfold maxLen at hc2; have HO2 := hide hown; have HF2 : Hid (Fr No w w2) := hide ((HF1.out.alloc _).own hfr (fun g hg => .inl (HO1.out.lt g hg).1)); clear hown hfr hat))
  go_ret
  refine ⟨A2, k2, ?_, ?_, HF2.out⟩
  · rw [HL.out]; first | rfl | simp
  · have h := HO2.out
    rw [HL.out, iz_append]
    simpa [iz] using h

set_option maxRecDepth 100000 in
set_option maxHeartbeats 800000 in
theorem keptU64_any (A B : Option Addr) (n c m d b1 b2 : Nat) (xs : List Int) (w : World) (hx : xs.length = n) (hm : xs.length = m) (hn : n + 1 ≤ c) (hc : c ≤ maxLen) (hmd : m ≤ d) (hd : d ≤ maxLen) (hr : Rd w b1 A (iz .u64 (xs ++ [7171]))) (hs : Rd w b2 B (iz .u64 xs)) :
    Calls Try.prog 25 #[.slice A n c, .slice B m d] w (RetQ (.bool true) w) := by
  have hr1 : Rd w b1 A (iz .u64 xs) := by
    have h := hr.tk xs.length
    rw [← iz_take, List.take_left] at h
    exact h
  have HK := hide (sameU64_any A B n c m d b1 b2 xs xs w hx hm (by omega) hc hmd hd hr1 hs)
  rw [decide_eq_true rfl] at HK
  obtain ⟨ad, rfl, _, hcell⟩ := hr.intAt (j := n) (by simp; omega)
  have e1 : (xs ++ [7171]).getD n 0 = 7171 := by rw [← hx]; simp
  rw [e1] at hcell
  unfold maxLen at hc
  clear hr hs hr1 hx hm e1
  go_enter Try.func25, Try.ntmps25
  go_wp2_with (go_at_call 24; refine HK.out.mono ?_; rintro en w2 ⟨rfl, nq, rfl⟩)
  go_ret
  exact ⟨rfl, _, rfl⟩

end Go.Proofs.Ytpnhnnhocekchaa
namespace Go.Proofs.Ytpnhnnhocekchaa
set_option linter.unusedVariables false
set_option linter.unusedSimpArgs false
open Go.RowKit

set_option maxRecDepth 100000 in
set_option maxHeartbeats 800000 in
theorem sameI64_any (A B : Option Addr) (n c m d b1 b2 : Nat) (xs ys : List Int) (w : World) (hx : xs.length = n) (hy : ys.length = m) (hn : n ≤ c) (hc : c ≤ maxLen) (hm : m ≤ d) (hd : d ≤ maxLen) (hr : Rd w b1 A (iz .i64 xs)) (hs : Rd w b2 B (iz .i64 ys)) :
    Calls Try.prog 34 #[.slice A n c, .slice B m d] w (RetQ (.bool (decide (xs = ys))) w) := by
  unfold maxLen at hc hd
  have HX := hide hx
  have HY := hide hy
  have HR := hide hr
  have HS := hide hs
  clear hx hy hr hs
  by_cases hnm : n = m
  · subst hnm
    have hb : ((n : Int) != n) = false := by simp
    go_enter Try.func34, Try.ntmps34
    go_wp2
    go_loopw [5] (fun i wr => ∃ k nq : Nat, k ≤ n ∧ i = .int .i64 k ∧ wr = w.drewN nq ∧ Hid (xs.take k = ys.take k)) (fun i _ => n - (intOf i).toNat)
    case atStart => exact ⟨0, 0, by omega, rfl, rfl, hide rfl⟩
    case round =>
      obtain ⟨k, nq, hk, rfl, rfl, HT⟩ := hrel
      by_cases hlt : k < n
      · have h1 : k < xs.length := by rw [HX.out]; exact hlt
        have h2 : k < ys.length := by rw [HY.out]; exact hlt
        obtain ⟨ad, rfl, _, hcell⟩ := HR.out.intAt h1
        obtain ⟨bd, rfl, _, hcell2⟩ := HS.out.intAt h2
        have HE := hide (fun he => take_succ_int h1 h2 HT.out he)
        have HN := hide (show xs.getD k 0 ≠ ys.getD k 0 → xs ≠ ys from fun h e => h (by rw [e]))
        clear h1 h2
        generalize xs.getD k 0 = x at hcell HE HN
        generalize ys.getD k 0 = y at hcell2 HE HN
        by_cases he : x = y
        · subst he
          have HE' := hide (HE.out rfl)
          clear HE
          have hb2 : (x != x) = false := by simp
          go_wp2
          go_quiet (fail)
          go_wp2
          go_round
          case rel => exact ⟨k + 1, _, by omega, by go_num, rfl, HE'⟩
          case measure => simp [intOf]; omega
        · have hb2 : (x != y) = true := by simpa using he
          have HF := hide (HN.out he)
          clear HN HE he
          go_wp2
          go_quiet (fail)
          go_wp2
          go_ret
          exact ⟨by simp [HF.out], _, World.drewN_drewN _ _ _⟩
      · have HF := hide (show xs = ys by
          have h := HT.out
          rwa [List.take_of_length_le (by rw [HX.out]; omega), List.take_of_length_le (by rw [HY.out]; omega)] at h)
        go_wp2
        go_ret
        exact ⟨by simp [HF.out], _, rfl⟩
  · have hb : ((n : Int) != m) = true := by simp; omega
    have HF := hide (show xs ≠ ys from fun e => hnm (by rw [← HX.out, ← HY.out, e]))
    go_enter Try.func34, Try.ntmps34
    go_wp2
    go_ret
    exact ⟨by simp [HF.out], 0, rfl⟩

theorem Try.infoKI64 : (Try.prog.info? 2).map (fun i => (i.zero, i.size, i.bytes)) = some (some (.int .i64 0), 1, 8) := by kernel_rfl
def GivesLentI64 (w : World) (xs : List Int) (en : Ending) (w' : World) : Prop :=
  ∃ A c, en = .returned (.slice A xs.length c) ∧ Own w' w.heap.size 2 1 (.slice A (xs.length + 1) c) (xs.length + 1) (iz .i64 (xs ++ [-7171])) ∧ Fr No w w'

set_option maxRecDepth 100000 in
set_option maxHeartbeats 800000 in
theorem lentI64_any (A : Option Addr) (n c B : Nat) (xs : List Int) (w : World) (hl : xs.length = n) (hb : (n + 1) * 8 ≤ 140737488355328) (hr : Rd w B A (iz .i64 xs)) :
    Calls Try.prog 29 #[.slice A n c] w (GivesLentI64 w xs) := by
  obtain ⟨i0, hi, hz, hsz, hby⟩ := info_parts Try.infoKI64
  have HS := hide (Src.ofRd (P := Try.prog) (size := 1) w Try.underlying41 A n c (iz .i64 xs) (by rw [iz_len, hl]; omega) (by omega) hr (iz_one _ _))
  have HL := hide hl
  clear hr hl
  have b1 : (0 + n) * 8 ≤ 140737488355328 := by omega
  have b2 : 0 + n ≤ maxLen := by unfold maxLen; omega
  have c1 : (0 + n + 1) * 8 ≤ 140737488355328 := by omega
  have c2 : 0 + n + 1 ≤ maxLen := by unfold maxLen; omega
  have HO0 := hide (Own.nil w w.heap.size 2 1)
  go_enter Try.func29, Try.ntmps29
  go_wp2_with (first
    | (at_builtin; refine wpList_append_gen _ rfl (.tmp 4) (.tmp 5) 41 41 rfl w.heap.size 2 i0 (.int .i64 0) 1 8 Try.underlying41 hi hz hsz hby rfl (.slice none 0 0) 0 [] rfl HO0.out _ n (iz .i64 xs) rfl HS.out b1 b2 (Nat.le_refl _) ?_; intro v1 w1 hown hfr hat; have HO1 := hide hown; have HF1 : Hid (Fr No w w1) := hide ((Fr.refl No w).own hfr (fun g h => by cases h)); have hz1 := hfr.size; clear hown hfr hat)
    | (at_builtin; refine wpList_append_gen _ rfl (.tmp 7) (.tmp 8) 41 41 rfl w.heap.size 2 i0 (.int .i64 0) 1 8 Try.underlying41 hi hz hsz hby rfl v1 (0 + n) _ rfl (HO1.out.fr0 ((Fr.refl No w1).alloc (.cells #[.int .i64 (-7171)] 2))) _ 1 [.int .i64 (-7171)] rfl (Src.one (P := Try.prog) w1 (e := 2) Try.underlying41 (.int .i64 (-7171)) rfl) c1 c2 (by simp; omega) ?_; intro v2 w2 hown hfr hat; obtain ⟨A2, k2, rfl, hc1, hc2, _⟩ := hown.form; unfold maxLen at hc2; have HO2 := hide hown; have HF2 : Hid (Fr No w w2) := hide ((HF1.out.alloc _).own hfr (fun g hg => .inl (HO1.out.lt g hg).1)); clear hown hfr hat))
  go_ret
  refine ⟨A2, k2, ?_, ?_, HF2.out⟩
  · rw [HL.out]; first | rfl | simp
  · have h := HO2.out
    rw [HL.out, iz_append]
    simpa [iz] using h

set_option maxRecDepth 100000 in
set_option maxHeartbeats 800000 in
theorem keptI64_any (A B : Option Addr) (n c m d b1 b2 : Nat) (xs : List Int) (w : World) (hx : xs.length = n) (hm : xs.length = m) (hn : n + 1 ≤ c) (hc : c ≤ maxLen) (hmd : m ≤ d) (hd : d ≤ maxLen) (hr : Rd w b1 A (iz .i64 (xs ++ [-7171]))) (hs : Rd w b2 B (iz .i64 xs)) :
    Calls Try.prog 35 #[.slice A n c, .slice B m d] w (RetQ (.bool true) w) := by
  have hr1 : Rd w b1 A (iz .i64 xs) := by
    have h := hr.tk xs.length
    rw [← iz_take, List.take_left] at h
    exact h
  have HK := hide (sameI64_any A B n c m d b1 b2 xs xs w hx hm (by omega) hc hmd hd hr1 hs)
  rw [decide_eq_true rfl] at HK
  obtain ⟨ad, rfl, _, hcell⟩ := hr.intAt (j := n) (by simp; omega)
  have e1 : (xs ++ [-7171]).getD n 0 = -7171 := by rw [← hx]; simp
  rw [e1] at hcell
  unfold maxLen at hc
  clear hr hs hr1 hx hm e1
  go_enter Try.func35, Try.ntmps35
  go_wp2_with (go_at_call 34; refine HK.out.mono ?_; rintro en w2 ⟨rfl, nq, rfl⟩)
  go_ret
  exact ⟨rfl, _, rfl⟩

end Go.Proofs.Ytpnhnnhocekchaa
