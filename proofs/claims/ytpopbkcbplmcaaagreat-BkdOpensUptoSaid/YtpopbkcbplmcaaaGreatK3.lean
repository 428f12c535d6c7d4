/- Several texts in one: BkNd, BkRp, Ints, Mem4, BSl, Apart8. -/
import Derived.Test.YtpopbkcbplmcaaaGreatK2
import Derived.Deep.DeepAppendWide
import Derived.Lib.SlBytesConst
namespace Go.Proofs.YtpopbkcbplmcaaaGreat
set_option linter.unusedVariables false
set_option linter.unusedSimpArgs false
open Go.RowKit

/-- so many numbers. -/
def intsR (bs : List UInt8) : Nat → Nat → Int → List Int × Nat × Int
  | 0, a, e => ([], a, e)
  | k + 1, a, e => ((intsR bs k a e).1 ++ [unzz (uintR bs (intsR bs k a e).2.1 (intsR bs k a e).2.2).1], (uintR bs (intsR bs k a e).2.1 (intsR bs k a e).2.2).2)
theorem intsR_len (bs : List UInt8) : ∀ (k a : Nat) (e : Int), (intsR bs k a e).1.length = k
  | 0, a, e => rfl
  | k + 1, a, e => by rw [intsR]; simp [intsR_len bs k a e]
theorem intsR_in (bs : List UInt8) : ∀ (k a : Nat) (e : Int), ∀ x ∈ (intsR bs k a e).1, -9223372036854775808 ≤ x ∧ x ≤ 9223372036854775807
  | 0, a, e, x, hx => by cases hx
  | k + 1, a, e, x, hx => by
    rw [intsR] at hx
    rcases List.mem_append.1 hx with hx | hx
    · exact intsR_in bs k a e x hx
    · rw [List.mem_singleton.1 hx]; exact unzz_bd (uintR_lt _ _ _)
/-- a point. -/
def ptR (bs : List UInt8) (dims a : Nat) : Pt × Nat × Int := ((((sizeS bs a 0 16383).1 : Int), (intsR bs dims (sizeS bs a 0 16383).2.1 (sizeS bs a 0 16383).2.2).1), (intsR bs dims (sizeS bs a 0 16383).2.1 (sizeS bs a 0 16383).2.2).2)
/-- so many points. -/
def ptsR (bs : List UInt8) (dims : Nat) : Nat → Nat → Option (List Pt × Nat)
  | 0, a => some ([], a)
  | k + 1, a => match ptsR bs dims k a with
    | none => none
    | some (l, b) => if (ptR bs dims b).2.2 = 0 then some (l ++ [(ptR bs dims b).1], (ptR bs dims b).2.1) else none
def OkP (dims : Nat) (p : Pt) : Prop := p.2.length = dims ∧ (∀ x ∈ p.2, -9223372036854775808 ≤ x ∧ x ≤ 9223372036854775807) ∧ 0 ≤ p.1 ∧ p.1 < 16384
theorem ptR_ok (bs : List UInt8) (dims a : Nat) : OkP dims (ptR bs dims a).1 := by
  refine ⟨intsR_len _ _ _ _, intsR_in _ _ _ _, ?_, ?_⟩
  · show (0 : Int) ≤ ((sizeS bs a 0 16383).1 : Int); omega
  · have := sizeS_le (bs := bs) (a := a) (e := 0) (most := 16383) (by decide)
    show ((sizeS bs a 0 16383).1 : Int) < 16384
    omega
theorem ptsR_some {bs : List UInt8} {dims k a b : Nat} {l : List Pt} (h : ptsR bs dims k a = some (l, b)) : ptsR bs dims (k + 1) a = if (ptR bs dims b).2.2 = 0 then some (l ++ [(ptR bs dims b).1], (ptR bs dims b).2.1) else none := by
  rw [ptsR, h]
theorem ptsR_none {bs : List UInt8} {dims k a : Nat} (h : ptsR bs dims k a = none) : ∀ j, ptsR bs dims (k + j) a = none
  | 0 => h
  | j + 1 => by rw [← Nat.add_assoc, ptsR, ptsR_none h j]
theorem ptsR_is {bs : List UInt8} {dims : Nat} : ∀ {k a b : Nat} {l : List Pt}, ptsR bs dims k a = some (l, b) → l.length = k ∧ ∀ p ∈ l, OkP dims p
  | 0, a, b, l, h => by
    injection h with h
    injection h with h1 h2
    subst h1
    exact ⟨rfl, fun p hp => by cases hp⟩
  | k + 1, a, b, l, h => by
    cases hk : ptsR bs dims k a with
    | none => rw [ptsR, hk] at h; cases h
    | some x =>
      obtain ⟨l1, b1⟩ := x
      rw [ptsR_some hk] at h
      split at h
      · injection h with h
        injection h with h1 h2
        obtain ⟨q1, q2⟩ := ptsR_is hk
        subst h1
        refine ⟨by simp [q1], fun p hp => ?_⟩
        rcases List.mem_append.1 hp with hp | hp
        · exact q2 p hp
        · rw [List.mem_singleton.1 hp]; exact ptR_ok _ _ _
      · cases h
/-- a node of so many points. -/
def nodeR (bs : List UInt8) (dims n a : Nat) : Option (TreeT × Nat) :=
  if bs[a]? = some 0 then
    if (sizeS bs (a + 1) 0 8).2.2 = 0 ∧ (sizeS bs (a + 1) 0 8).1 = n then (ptsR bs dims n (sizeS bs (a + 1) 0 8).2.1).map (fun x => (TreeT.leaf x.1, x.2)) else none
  else if bs[a]? = some 1 then
    if h : 8 < n then
      let d := sizeS bs (a + 1) 0 ((dims : Int) - 1)
      let c := uintR bs d.2.1 d.2.2
      let z := sizeS bs c.2.1 c.2.2 ((bs.length - c.2.1 : Nat) : Int)
      if z.2.2 = 0 then
        match nodeR bs dims ((n + 1) / 2) z.2.1 with
        | none => none
        | some (l, b) => if b = z.2.1 + z.1 then (match nodeR bs dims (n / 2) b with
          | none => none
          | some (r, e) => some (.cut d.1 (unzz c.1) l r, e)) else none
      else none
    else none
  else none
termination_by n
theorem nodeR_no {bs : List UInt8} {dims n a : Nat} (h0 : bs[a]? ≠ some 0) (h1 : bs[a]? ≠ some 1) : nodeR bs dims n a = none := by
  rw [nodeR, if_neg h0, if_neg h1]
theorem nodeR_leafno {bs : List UInt8} {dims n a m b : Nat} {e : Int} (h0 : bs[a]? = some 0) (hs : sizeS bs (a + 1) 0 8 = (m, b, e)) (h : ¬ (e = 0 ∧ m = n)) : nodeR bs dims n a = none := by
  rw [nodeR, if_pos h0, hs]; exact if_neg h
theorem nodeR_leaf {bs : List UInt8} {dims n a b : Nat} (h0 : bs[a]? = some 0) (hs : sizeS bs (a + 1) 0 8 = (n, b, 0)) : nodeR bs dims n a = (ptsR bs dims n b).map (fun x => (TreeT.leaf x.1, x.2)) := by
  rw [nodeR, if_pos h0, hs]; exact if_pos ⟨rfl, rfl⟩
theorem nodeR_few {bs : List UInt8} {dims n a : Nat} (h1 : bs[a]? = some 1) (h : ¬ 8 < n) : nodeR bs dims n a = none := by
  rw [nodeR, if_neg (by rw [h1]; decide), if_pos h1, dif_neg h]
theorem nodeR_hdr {bs : List UInt8} {dims n a d b c b2 z b3 : Nat} {e e2 e3 : Int} (h1 : bs[a]? = some 1) (h : 8 < n) (hd : sizeS bs (a + 1) 0 ((dims : Int) - 1) = (d, b, e)) (hc : uintR bs b e = (c, b2, e2)) (hz : sizeS bs b2 e2 ((bs.length - b2 : Nat) : Int) = (z, b3, e3)) (he : e3 ≠ 0) : nodeR bs dims n a = none := by
  rw [nodeR, if_neg (by rw [h1]; decide), if_pos h1, dif_pos h]
  simp only [hd, hc, hz, if_neg he]
theorem nodeR_cut {bs : List UInt8} {dims n a d b c b2 z b3 : Nat} {e e2 : Int} (h1 : bs[a]? = some 1) (h : 8 < n) (hd : sizeS bs (a + 1) 0 ((dims : Int) - 1) = (d, b, e)) (hc : uintR bs b e = (c, b2, e2)) (hz : sizeS bs b2 e2 ((bs.length - b2 : Nat) : Int) = (z, b3, 0)) :
    nodeR bs dims n a = (match nodeR bs dims ((n + 1) / 2) b3 with
        | none => none
        | some (l, b4) => if b4 = b3 + z then (match nodeR bs dims (n / 2) b4 with
          | none => none
          | some (r, b5) => some (.cut d (unzz c) l r, b5)) else none) := by
  rw [nodeR, if_neg (by rw [h1]; decide), if_pos h1, dif_pos h]
  simp only [hd, hc, hz, if_pos]
/-- what a node holds that is read. -/
theorem nodeR_is {bs : List UInt8} {dims : Nat} : ∀ (n : Nat) {a b : Nat} {t : TreeT}, nodeR bs dims n a = some (t, b) → (flatT t).length = n ∧ ∀ p ∈ flatT t, OkP dims p := by
  intro n
  induction n using Nat.strongRecOn with
  | ind n ih =>
    intro a b t h
    by_cases h0 : bs[a]? = some 0
    · obtain ⟨⟨m, b1, e⟩, hs⟩ : ∃ x, x = sizeS bs (a + 1) 0 8 := ⟨_, rfl⟩
      by_cases hm : e = 0 ∧ m = n
      · obtain ⟨rfl, rfl⟩ := hm
        rw [nodeR_leaf h0 hs.symm] at h
        cases hp : ptsR bs dims m b1 with
        | none => rw [hp] at h; cases h
        | some x =>
          rw [hp] at h
          injection h with h
          injection h with h1 h2
          subst h1
          exact ptsR_is (l := x.1) (b := x.2) (by rw [hp])
      · rw [nodeR_leafno h0 hs.symm hm] at h; cases h
    · by_cases h1 : bs[a]? = some 1
      · by_cases h8 : 8 < n
        · obtain ⟨⟨d, b1, e1⟩, hd⟩ : ∃ x, x = sizeS bs (a + 1) 0 ((dims : Int) - 1) := ⟨_, rfl⟩
          obtain ⟨⟨c, b2, e2⟩, hc⟩ : ∃ x, x = uintR bs b1 e1 := ⟨_, rfl⟩
          obtain ⟨⟨z, b3, e3⟩, hz⟩ : ∃ x, x = sizeS bs b2 e2 ((bs.length - b2 : Nat) : Int) := ⟨_, rfl⟩
          by_cases he : e3 = 0
          · subst he
            rw [nodeR_cut h1 h8 hd.symm hc.symm hz.symm] at h
            cases hl : nodeR bs dims ((n + 1) / 2) b3 with
            | none => rw [hl] at h; cases h
            | some x =>
              obtain ⟨l, b4⟩ := x
              rw [hl] at h
              dsimp only at h
              split at h
              · cases hr : nodeR bs dims (n / 2) b4 with
                | none => rw [hr] at h; cases h
                | some y =>
                  obtain ⟨r, b5⟩ := y
                  rw [hr] at h
                  injection h with h
                  injection h with h2 h3
                  subst h2
                  obtain ⟨q1, q2⟩ := ih _ (by omega) hl
                  obtain ⟨q3, q4⟩ := ih _ (by omega) hr
                  refine ⟨by rw [flatT, List.length_append]; omega, fun p hp => ?_⟩
                  rcases List.mem_append.1 hp with hp | hp
                  · exact q2 p hp
                  · exact q4 p hp
              · cases h
          · rw [nodeR_hdr h1 h8 hd.symm hc.symm hz.symm he] at h; cases h
        · rw [nodeR_few h1 h8] at h; cases h
      · rw [nodeR_no h0 h1] at h; cases h
theorem takeP_1 {α : Type} {l : List α} {i : Nat} (h : i < l.length) : l.take (i + 1) = l.take i ++ [l[i]] := by
  rw [List.take_succ_eq_append_getElem h]
def zsB (l : List Int) : List UInt8 := (l.map (fun v => enc (zz v))).flatten
theorem zsB_snoc (l : List Int) (x : Int) : zsB (l ++ [x]) = zsB l ++ enc (zz x) := by simp [zsB]
theorem ptB_eq (p : Pt) : ptB p = enc p.1.toNat ++ zsB p.2 := rfl
theorem ptsB_one (l : List Pt) (p : Pt) : ptsB (l ++ [p]) = ptsB l ++ ptB p := by simp [ptsB]
theorem zzlt {n : Int} (h1 : -9223372036854775808 ≤ n) (h2 : n ≤ 9223372036854775807) : zz n < 18446744073709551616 := by
  unfold zz; split <;> omega
theorem intsR_has {bs : List UInt8} {a : Nat} {l : List Int} (hl : ∀ x ∈ l, -9223372036854775808 ≤ x ∧ x ≤ 9223372036854775807) (h : zsB l <+: bs.drop a) : ∀ k, k ≤ l.length → intsR bs k a 0 = (l.take k, a + (zsB (l.take k)).length, 0)
  | 0, _ => by simp [intsR, zsB]
  | k + 1, hk => by
    have hk' : k < l.length := by omega
    have e := takeP_1 hk'
    have ih := intsR_has hl h k (by omega)
    have hp : zsB (l.take (k + 1)) <+: bs.drop a := by
      refine List.IsPrefix.trans ?_ h
      obtain ⟨r, hr⟩ : ∃ r, l = l.take (k + 1) ++ r := ⟨l.drop (k + 1), (List.take_append_drop _ _).symm⟩
      refine ⟨zsB r, ?_⟩
      have : zsB l = zsB (l.take (k + 1) ++ r) := congrArg zsB hr
      rw [this]; simp [zsB]
    rw [e, zsB_snoc] at hp
    have hx := hl l[k] (List.getElem_mem hk')
    have hu := uint_has (zzlt hx.1 hx.2) (pre_app.1 hp).2
    rw [intsR, ih]
    dsimp only
    rw [hu, e, zsB_snoc]
    dsimp only
    rw [unzz_zz, List.length_append, Nat.add_assoc]
theorem ptR_has {bs : List UInt8} {dims a : Nat} {p : Pt} (hp : OkP dims p) (h : ptB p <+: bs.drop a) : ptR bs dims a = (p, a + (ptB p).length, 0) := by
  obtain ⟨p1, p2, p3, p4⟩ := hp
  rw [ptB_eq] at h
  obtain ⟨h1, h2⟩ := pre_app.1 h
  have hs := size_has (most := 16383) (by omega) (by omega) h1
  have hi := intsR_has p2 h2 dims (by omega)
  rw [List.take_of_length_le (by omega)] at hi
  unfold ptR
  rw [hs]
  dsimp only
  rw [hi, ptB_eq, List.length_append, Nat.add_assoc, Int.toNat_of_nonneg p3]
theorem ptsR_has {bs : List UInt8} {dims a : Nat} {l : List Pt} (hl : ∀ p ∈ l, OkP dims p) (h : ptsB l <+: bs.drop a) : ∀ k, k ≤ l.length → ptsR bs dims k a = some (l.take k, a + (ptsB (l.take k)).length)
  | 0, _ => by simp [ptsR, ptsB]
  | k + 1, hk => by
    have hk' : k < l.length := by omega
    have e := takeP_1 hk'
    have ih := ptsR_has hl h k (by omega)
    have hp : ptsB (l.take (k + 1)) <+: bs.drop a := by
      refine List.IsPrefix.trans ?_ h
      obtain ⟨r, hr⟩ : ∃ r, l = l.take (k + 1) ++ r := ⟨l.drop (k + 1), (List.take_append_drop _ _).symm⟩
      refine ⟨ptsB r, ?_⟩
      have : ptsB l = ptsB (l.take (k + 1) ++ r) := congrArg ptsB hr
      rw [this]; simp [ptsB]
    rw [e, ptsB_one] at hp
    have hu := ptR_has (hl l[k] (List.getElem_mem hk')) (pre_app.1 hp).2
    rw [ptsR_some ih, hu]
    dsimp only
    rw [if_pos rfl, e, ptsB_one, List.length_append, Nat.add_assoc]
theorem getD_mem {l : List Int} {d : Nat} (h : d < l.length) : l.getD d 0 ∈ l := by
  rw [List.getD, List.getElem?_eq_getElem h]; exact List.getElem_mem h
theorem pre_get {bs t : List UInt8} {a : Nat} {x : UInt8} (h : x :: t <+: bs.drop a) : bs[a]? = some x ∧ t <+: bs.drop (a + 1) := by
  obtain ⟨r, hr⟩ := h
  refine ⟨?_, r, ?_⟩
  · have : (bs.drop a)[0]? = some x := by rw [← hr]; rfl
    rw [List.getElem?_drop, Nat.add_zero] at this
    exact this
  · rw [← List.drop_drop, ← hr]; rfl
/-- a tree's form is read as the tree. -/
theorem nodeR_has {bs : List UInt8} {dims : Nat} (hdm : 1 ≤ dims ∧ dims ≤ 4) : ∀ (n a : Nat) (l : List Pt), l.length = n → n ≤ 1048576 → (∀ p ∈ l, OkP dims p) → treeP dims l <+: bs.drop a → nodeR bs dims n a = some (treeT dims l, a + (treeP dims l).length) := by
  intro n
  induction n using Nat.strongRecOn with
  | ind n ih =>
    intro a l hl hn hp h
    by_cases h8 : l.length ≤ 8
    · rw [treeP_leaf h8] at h ⊢
      rw [treeT_leaf h8]
      obtain ⟨h0, h1⟩ := pre_get h
      obtain ⟨h2, h3⟩ := pre_app.1 h1
      have hs := size_has (most := 8) (by omega) (by omega) h2
      rw [hl] at hs
      have hps := ptsR_has (l := sortP 0 l) (fun p q => hp p (sortP_mem.1 q)) h3 n (by rw [sortP_len]; omega)
      rw [List.take_of_length_le (by rw [sortP_len]; omega)] at hps
      rw [hl] at hps
      rw [nodeR_leaf h0 hs, hps]
      simp only [Option.map_some, List.length_cons, List.length_append, hl]
      congr 2
      omega
    · obtain ⟨d, hd⟩ : ∃ d, d = widF l dims := ⟨_, rfl⟩
      obtain ⟨s, hs⟩ : ∃ s, s = sortP d l := ⟨_, rfl⟩
      obtain ⟨k, hk⟩ : ∃ k, k = (l.length + 1) / 2 := ⟨_, rfl⟩
      have hsl : s.length = l.length := by rw [hs, sortP_len]
      have hsm : ∀ p ∈ s, OkP dims p := fun p q => hp p (sortP_mem.1 (by rw [← hs]; exact q))
      have hdd : d < dims := by rw [hd]; exact widF_lt l dims (by omega)
      have hks : k < s.length := by omega
      have hL := treeP_le dims k (s.take k) (by rw [List.length_take]; omega) (by omega) (fun p q => by have := (hsm p (List.mem_of_mem_take q)).1; omega)
      have il := ih k (by omega)
      have ir := ih (n - k) (by omega)
      have hpk := hsm _ (getPt_mem hks)
      have hc := hpk.2.1 ((s.getD k noPt).2.getD d 0) (by
        have h2 : d < (s.getD k noPt).2.length := by rw [hpk.1]; exact hdd
        exact getD_mem h2)
      rw [treeP_cut h8 hd hs hk] at h ⊢
      rw [treeT_cut h8 hd hs hk]
      obtain ⟨c, hce⟩ : ∃ c, c = (s.getD k noPt).2.getD d 0 := ⟨_, rfl⟩
      obtain ⟨L, hLe⟩ : ∃ L, L = treeP dims (s.take k) := ⟨_, rfl⟩
      obtain ⟨R, hRe⟩ : ∃ R, R = treeP dims (s.drop k) := ⟨_, rfl⟩
      rw [← hce, ← hLe, ← hRe] at h ⊢
      rw [← hce] at hc
      rw [← hLe] at hL
      obtain ⟨h0, h1⟩ := pre_get h
      obtain ⟨h2, hR⟩ := pre_app.1 h1
      obtain ⟨h3, hLp⟩ := pre_app.1 h2
      obtain ⟨h4, hz⟩ := pre_app.1 h3
      obtain ⟨h5, h6⟩ := pre_app.1 h4
      have e1 := size_has (most := (dims : Int) - 1) (by omega) (by omega) h5
      have e2 := uint_has (zzlt hc.1 hc.2) h6
      have hle := pre_le hLp
      have hpos : L ≠ [] := by rw [hLe]; intro e; have : (treeP dims (s.take k)).length = 0 := by rw [e]; rfl
                               rw [treeP] at this; split at this <;> simp at this
      have hlp : 0 < L.length := List.length_pos_iff.2 hpos
      simp only [List.length_append] at hz hLp hR hle
      have e3 := size_has (bs := bs) (a := a + 1 + (enc d).length + (enc (zz c)).length) (u := L.length) (most := ((bs.length - (a + 1 + (enc d).length + (enc (zz c)).length) : Nat) : Int)) (by omega) (by omega) (by rw [← Nat.add_assoc] at hz; exact hz)
      have g1 := il (a + 1 + (enc d).length + (enc (zz c)).length + (enc L.length).length) (s.take k) (by rw [List.length_take]; omega) (by omega) (fun p q => hsm p (List.mem_of_mem_take q)) (by rw [← hLe]; simpa [Nat.add_assoc] using hLp)
      have g2 := ir (a + 1 + (enc d).length + (enc (zz c)).length + (enc L.length).length + L.length) (s.drop k) (by rw [List.length_drop]; omega) (by omega) (fun p q => hsm p (List.mem_of_mem_drop q)) (by rw [← hRe]; simpa [Nat.add_assoc] using hR)
      rw [← hLe] at g1
      rw [← hRe] at g2
      rw [nodeR_cut h0 (by omega) e1 e2 e3, show (n + 1) / 2 = k by omega, g1]
      dsimp only
      rw [if_pos rfl, show n / 2 = n - k by omega, g2]
      dsimp only
      rw [unzz_zz]
      simp only [List.length_cons, List.length_append]
      congr 2
      omega
/-- the form of points that may be kept. -/
theorem ok_may {dims : Nat} {l : List Pt} (hm : mayP (dims : Int) l) (hi : ∀ p ∈ l, ∀ x ∈ p.2, -9223372036854775808 ≤ x ∧ x ≤ 9223372036854775807) : ∀ p ∈ l, OkP dims p :=
  fun p hp => ⟨by have := (hm.2.2.2 p hp).1; omega, hi p hp, (hm.2.2.2 p hp).2⟩
/-- what Open reads: dimensions, a number, a node. -/
def OpenI (bs : List UInt8) (dims n : Nat) (t : TreeT) (b : Nat) : Prop :=
  ∃ a1 a2 : Nat, ∃ e1 : Int, sizeS bs 0 0 4 = (dims, a1, e1) ∧ sizeS bs a1 e1 1048576 = (n, a2, 0) ∧ 0 < dims ∧ nodeR bs dims n a2 = some (t, b)
theorem openI_has {bs : List UInt8} {dims : Nat} {l : List Pt} (hm : mayP (dims : Int) l) (hi : ∀ p ∈ l, ∀ x ∈ p.2, -9223372036854775808 ≤ x ∧ x ≤ 9223372036854775807) (h : buildT dims l <+: bs) : OpenI bs dims l.length (treeT dims l) (buildT dims l).length := by
  obtain ⟨m1, m2, m3, m4⟩ := id hm
  have h' : buildT dims l <+: bs.drop 0 := h
  rw [buildT] at h'
  obtain ⟨h1, h2⟩ := pre_app.1 h'
  obtain ⟨h3, h4⟩ := pre_app.1 h1
  have e1 := size_has (most := 4) (by omega) (by omega) h3
  have e2 := size_has (most := 1048576) (by omega) (by omega) h4
  refine ⟨_, _, _, e1, e2, by omega, ?_⟩
  rw [nodeR_has ⟨by omega, by omega⟩ l.length _ l rfl m3 (ok_may hm hi) (by simpa [Nat.add_assoc] using h2)]
  simp [buildT, Nat.add_assoc]
theorem openI_uniq {bs : List UInt8} {dims n b dims' n' b' : Nat} {t t' : TreeT} (h : OpenI bs dims n t b) (h' : OpenI bs dims' n' t' b') : dims = dims' ∧ n = n' ∧ t = t' ∧ b = b' := by
  obtain ⟨a1, a2, e1, q1, q2, _, q3⟩ := h
  obtain ⟨a1', a2', e1', q1', q2', _, q3'⟩ := h'
  rw [q1] at q1'
  injection q1' with x1 x2
  injection x2 with x2 x3
  subst x1 x2 x3
  rw [q2] at q2'
  injection q2' with x1 x2
  injection x2 with x2 x3
  subst x1 x2
  rw [q3] at q3'
  injection q3' with q3'
  injection q3' with x1 x2
  exact ⟨rfl, rfl, x1, x2⟩
/-- bytes are the form of points. -/
def IsB (bs : List UInt8) (dims : Nat) (l : List Pt) : Prop := mayP (dims : Int) l ∧ (∀ p ∈ l, ∀ x ∈ p.2, -9223372036854775808 ≤ x ∧ x ≤ 9223372036854775807) ∧ bs = buildT dims l
theorem IsB.openI {bs : List UInt8} {dims : Nat} {l : List Pt} (h : IsB bs dims l) : OpenI bs dims l.length (treeT dims l) bs.length := by
  obtain ⟨h1, h2, h3⟩ := h
  have := openI_has (bs := bs) h1 h2 (by rw [h3]; exact List.prefix_refl _)
  rw [← h3] at this
  exact this
/-- no form begins another. -/
theorem isB_pre {bs cs : List UInt8} {dims dims' : Nat} {l l' : List Pt} (h : IsB bs dims l) (h' : IsB cs dims' l') (hp : bs <+: cs) : bs = cs := by
  have a1 := openI_has (bs := cs) h.1 h.2.1 (by rw [← h.2.2]; exact hp)
  rw [← h.2.2] at a1
  obtain ⟨_, _, _, hb⟩ := openI_uniq a1 h'.openI
  exact hp.eq_of_length hb
end Go.Proofs.YtpopbkcbplmcaaaGreat
namespace Go.Proofs.YtpopbkcbplmcaaaGreat
set_option linter.unusedVariables false
set_option linter.unusedSimpArgs false
open Go.RowKit

/-- so many points, while no error is there. -/
def ptsW (bs : List UInt8) (dims : Nat) : Nat → Nat → Int → List Pt × Nat × Int
  | 0, a, e => ([], a, e)
  | k + 1, a, e => if (ptsW bs dims k a e).2.2 = 0 then ((ptsW bs dims k a e).1 ++ [(ptR bs dims (ptsW bs dims k a e).2.1).1], (ptR bs dims (ptsW bs dims k a e).2.1).2) else ptsW bs dims k a e
def leafW (bs : List UInt8) (dims a : Nat) : List Pt × Nat × Int := ptsW bs dims (sizeS bs a 0 8).1 (sizeS bs a 0 8).2.1 (sizeS bs a 0 8).2.2
/-- a cut's numbers. -/
def hdrW (bs : List UInt8) (a : Nat) : Nat × Int :=
  (sizeS bs (uintR bs (sizeS bs a 0 4).2.1 (sizeS bs a 0 4).2.2).2.1 (uintR bs (sizeS bs a 0 4).2.1 (sizeS bs a 0 4).2.2).2.2 (bs.length : Nat)).2
def nodeW (bs : List UInt8) (dims : Nat) : Nat → Nat → Int → List Pt × Nat × Int
  | 0, a, e => ([], (sizeS bs a e 1).2.1, 20)
  | f + 1, a, e =>
    if (sizeS bs a e 1).2.2 ≠ 0 then ([], (sizeS bs a e 1).2.1, 20)
    else if (sizeS bs a e 1).1 = 1 then
      (if (nodeW bs dims f (hdrW bs (sizeS bs a e 1).2.1).1 (hdrW bs (sizeS bs a e 1).2.1).2).2.2 ≠ 0 then ([], (nodeW bs dims f (hdrW bs (sizeS bs a e 1).2.1).1 (hdrW bs (sizeS bs a e 1).2.1).2).2)
      else ((nodeW bs dims f (hdrW bs (sizeS bs a e 1).2.1).1 (hdrW bs (sizeS bs a e 1).2.1).2).1 ++ (nodeW bs dims f (nodeW bs dims f (hdrW bs (sizeS bs a e 1).2.1).1 (hdrW bs (sizeS bs a e 1).2.1).2).2.1 0).1,
        (nodeW bs dims f (nodeW bs dims f (hdrW bs (sizeS bs a e 1).2.1).1 (hdrW bs (sizeS bs a e 1).2.1).2).2.1 0).2))
    else leafW bs dims (sizeS bs a e 1).2.1
section
variable {bs : List UInt8} {dims : Nat}
theorem ptsW_ok : ∀ (k a : Nat) (e : Int), ∀ p ∈ (ptsW bs dims k a e).1, OkP dims p
  | 0, a, e, p, hp => by cases hp
  | k + 1, a, e, p, hp => by
    rw [ptsW] at hp
    split at hp
    · rcases List.mem_append.1 hp with hp | hp
      · exact ptsW_ok k a e p hp
      · rw [List.mem_singleton.1 hp]; exact ptR_ok _ _ _
    · exact ptsW_ok k a e p hp
theorem ptsW_len : ∀ (k a : Nat) (e : Int), (ptsW bs dims k a e).1.length ≤ k
  | 0, a, e => Nat.le_refl _
  | k + 1, a, e => by
    have := ptsW_len k a e
    rw [ptsW]
    split
    · simp; omega
    · omega
/-- the place never goes back, nor beyond the bytes. -/
theorem sizeS_go {a : Nat} {e most : Int} (h : a ≤ bs.length) : a ≤ (sizeS bs a e most).2.1 ∧ (sizeS bs a e most).2.1 ≤ bs.length ∧ ((sizeS bs a e most).2.2 = 0 → e = 0 ∧ a < (sizeS bs a e most).2.1) := by
  refine ⟨?_, ?_, fun h0 => ?_⟩
  · unfold sizeS
    split
    · split <;> simp
    · simp
  · by_cases h0 : (sizeS bs a e most).2.2 = 0
    · obtain ⟨_, _, _, h1, h2⟩ := size_of h0
      have := pre_le h1
      rw [h2]
      omega
    · unfold sizeS at h0 ⊢
      split
      · rename_i he
        rw [if_pos he] at h0
        split
        · exact h
        · rename_i hx
          rw [hx] at h0
          exact absurd rfl h0
      · exact h
  · obtain ⟨h1, _, _, _, h2⟩ := size_of h0
    have := (enc_len (sizeS bs a e most).1).1
    exact ⟨h1, by rw [h2]; omega⟩
theorem uintR_go {a : Nat} {e : Int} (h : a ≤ bs.length) : a ≤ (uintR bs a e).2.1 ∧ (uintR bs a e).2.1 ≤ bs.length := by
  by_cases h0 : (uintR bs a e).2.2 = 0
  · obtain ⟨_, _, h1, h2⟩ := uint_of h0
    have := pre_le h1
    rw [h2]
    omega
  · unfold uintR at h0 ⊢
    split
    · rename_i he
      rw [if_pos he] at h0
      split
      · exact ⟨Nat.le_refl _, h⟩
      · rename_i hx
        rw [hx] at h0
        exact absurd rfl h0
    · exact ⟨Nat.le_refl _, h⟩
theorem intsR_go : ∀ (k a : Nat) (e : Int), a ≤ bs.length → a ≤ (intsR bs k a e).2.1 ∧ (intsR bs k a e).2.1 ≤ bs.length
  | 0, a, e, h => ⟨Nat.le_refl _, h⟩
  | k + 1, a, e, h => by
    have h1 := intsR_go k a e h
    have h2 := uintR_go (bs := bs) (e := (intsR bs k a e).2.2) h1.2
    rw [intsR]
    exact ⟨Nat.le_trans h1.1 h2.1, h2.2⟩
theorem uintR_off {a : Nat} {e : Int} (h : (uintR bs a e).2.2 = 0) : e = 0 := (uint_of h).1
theorem intsR_off : ∀ (k a : Nat) (e : Int), (intsR bs k a e).2.2 = 0 → e = 0
  | 0, a, e, h => h
  | k + 1, a, e, h => intsR_off k a e (uintR_off h)
theorem ptR_go {a : Nat} (h : a ≤ bs.length) : a ≤ (ptR bs dims a).2.1 ∧ (ptR bs dims a).2.1 ≤ bs.length ∧ ((ptR bs dims a).2.2 = 0 → a < (ptR bs dims a).2.1) := by
  have h1 := sizeS_go (bs := bs) (e := 0) (most := 16383) h
  have h2 := intsR_go (bs := bs) dims (sizeS bs a 0 16383).2.1 (sizeS bs a 0 16383).2.2 h1.2.1
  exact ⟨Nat.le_trans h1.1 h2.1, h2.2, fun h0 => by
    have h3 := (h1.2.2 (intsR_off dims _ _ h0)).2
    exact Nat.lt_of_lt_of_le h3 h2.1⟩
theorem ptsW_go : ∀ (k a : Nat) (e : Int), a ≤ bs.length → a ≤ (ptsW bs dims k a e).2.1 ∧ (ptsW bs dims k a e).2.1 ≤ bs.length ∧ ((ptsW bs dims k a e).2.2 = 0 → a + (ptsW bs dims k a e).1.length ≤ (ptsW bs dims k a e).2.1)
  | 0, a, e, h => ⟨Nat.le_refl _, h, fun _ => Nat.le_refl _⟩
  | k + 1, a, e, h => by
    obtain ⟨h1, h2, h3⟩ := ptsW_go k a e h
    rw [ptsW]
    split
    · rename_i h0
      have h4 := ptR_go (bs := bs) (dims := dims) h2
      have h5 := h3 h0
      refine ⟨Nat.le_trans h1 h4.1, h4.2.1, fun h6 => ?_⟩
      have := h4.2.2 h6
      simp only [List.length_append, List.length_singleton]
      omega
    · exact ⟨h1, h2, h3⟩
theorem hdrW_go {a : Nat} (h : a ≤ bs.length) : a ≤ (hdrW bs a).1 ∧ (hdrW bs a).1 ≤ bs.length := by
  have h1 := sizeS_go (bs := bs) (e := 0) (most := 4) h
  have h2 := uintR_go (bs := bs) (e := (sizeS bs a 0 4).2.2) h1.2.1
  have h3 := sizeS_go (bs := bs) (e := (uintR bs (sizeS bs a 0 4).2.1 (sizeS bs a 0 4).2.2).2.2) (most := (bs.length : Nat)) h2.2
  exact ⟨Nat.le_trans h1.1 (Nat.le_trans h2.1 h3.1), h3.2.1⟩
/-- how many points are read at most. -/
theorem nodeW_go : ∀ (f a : Nat) (e : Int), a ≤ bs.length → a ≤ (nodeW bs dims f a e).2.1 ∧ (nodeW bs dims f a e).2.1 ≤ bs.length ∧ a + (nodeW bs dims f a e).1.length ≤ (nodeW bs dims f a e).2.1 + 8 ∧ ((nodeW bs dims f a e).2.2 = 0 → a + (nodeW bs dims f a e).1.length ≤ (nodeW bs dims f a e).2.1) ∧ (∀ p ∈ (nodeW bs dims f a e).1, OkP dims p)
  | 0, a, e, h => by
    have h1 := sizeS_go (bs := bs) (e := e) (most := 1) h
    rw [nodeW]
    exact ⟨h1.1, h1.2.1, by simp; omega, (fun h => by cases h), (fun p hp => by cases hp)⟩
  | f + 1, a, e, h => by
    have h1 := sizeS_go (bs := bs) (e := e) (most := 1) h
    rw [nodeW]
    obtain ⟨a1, ha1⟩ : ∃ x, x = (sizeS bs a e 1).2.1 := ⟨_, rfl⟩
    rw [← ha1] at h1 ⊢
    split
    · exact ⟨h1.1, h1.2.1, by simp; omega, (fun h => by cases h), (fun p hp => by cases hp)⟩
    · split
      · have h2 := hdrW_go h1.2.1
        obtain ⟨i1, i2, i3, i4, i5⟩ := nodeW_go f (hdrW bs a1).1 (hdrW bs a1).2 h2.2
        split
        · exact ⟨by dsimp only; omega, i2, by simp; omega, (fun h => by rename_i hx; exact absurd h hx), (fun p hp => by cases hp)⟩
        · rename_i hx
          have hx : (nodeW bs dims f (hdrW bs a1).1 (hdrW bs a1).2).2.2 = 0 := Classical.byContradiction hx
          have i4 := i4 hx
          obtain ⟨j1, j2, j3, j4, j5⟩ := nodeW_go f (nodeW bs dims f (hdrW bs a1).1 (hdrW bs a1).2).2.1 0 i2
          simp only [List.length_append]
          refine ⟨by omega, j2, by omega, fun h => ?_, fun p hp => ?_⟩
          · have := j4 h
            omega
          · rcases List.mem_append.1 hp with hp | hp
            · exact i5 p hp
            · exact j5 p hp
      · unfold leafW
        have h2 := sizeS_go (bs := bs) (e := 0) (most := 8) h1.2.1
        have h3 := ptsW_go (bs := bs) (dims := dims) (sizeS bs a1 0 8).1 (sizeS bs a1 0 8).2.1 (sizeS bs a1 0 8).2.2 h2.2.1
        have h4 := ptsW_len (bs := bs) (dims := dims) (sizeS bs a1 0 8).1 (sizeS bs a1 0 8).2.1 (sizeS bs a1 0 8).2.2
        have h5 := sizeS_le (bs := bs) (a := a1) (e := 0) (most := 8) (by decide)
        refine ⟨by omega, h3.2.1, by omega, fun h => ?_, ptsW_ok _ _ _⟩
        have := h3.2.2 h
        omega
/-- a row of points is read. -/
theorem ptsW_has {a : Nat} {l : List Pt} (hl : ∀ p ∈ l, OkP dims p) (h : ptsB l <+: bs.drop a) : ∀ k, k ≤ l.length → ptsW bs dims k a 0 = (l.take k, a + (ptsB (l.take k)).length, 0) := by
  intro k
  induction k with
  | zero => intro _; simp [ptsW, ptsB]
  | succ k ih =>
    intro hk
    have h1 := ih (by omega)
    have h2 := ptsR_has hl h k (by omega)
    have h3 := ptsR_has hl h (k + 1) hk
    rw [ptsR_some h2] at h3
    rw [ptsW, h1]
    dsimp only
    rw [if_pos rfl]
    split at h3
    · rename_i h0
      injection h3 with h3
      injection h3 with e1 e2
      exact Prod.ext e1 (Prod.ext e2 h0)
    · cases h3
theorem nodeW_leaf_has {f a : Nat} {l : List Pt} (h8 : l.length ≤ 8) (hp : ∀ p ∈ l, OkP dims p) (h : treeP dims l <+: bs.drop a) : nodeW bs dims (f + 1) a 0 = (flatT (treeT dims l), a + (treeP dims l).length, 0) := by
  rw [treeP_leaf h8] at h ⊢
  rw [treeT_leaf h8]
  have hk0 : enc 0 <+: bs.drop a := by
    have e : enc 0 = [0] := by decide
    rw [e]
    exact List.IsPrefix.trans ⟨_, rfl⟩ h
  have e0 := size_has (most := 1) (by omega) (by omega) hk0
  have el : (enc 0).length = 1 := by decide
  rw [el] at e0
  obtain ⟨h0, h1⟩ := pre_get h
  obtain ⟨h2, h3⟩ := pre_app.1 h1
  have hs := size_has (most := 8) (by omega) (by omega) h2
  have hps := ptsW_has (l := sortP 0 l) (fun p q => hp p (sortP_mem.1 q)) h3 l.length (by rw [sortP_len]; exact Nat.le_refl _)
  rw [List.take_of_length_le (by rw [sortP_len]; exact Nat.le_refl _)] at hps
  rw [nodeW, e0]
  dsimp only
  rw [if_neg (fun h => h rfl), if_neg (by decide)]
  unfold leafW
  rw [hs]
  dsimp only
  rw [hps, flatT]
  simp only [List.length_cons, List.length_append]
  congr 2
  omega
theorem nodeW_has (hdm : 1 ≤ dims ∧ dims ≤ 4) : ∀ (f n a : Nat) (l : List Pt), l.length = n → n ≤ 1048576 → n ≤ 8 * 2 ^ f → (∀ p ∈ l, OkP dims p) → treeP dims l <+: bs.drop a → nodeW bs dims (f + 1) a 0 = (flatT (treeT dims l), a + (treeP dims l).length, 0) := by
  intro f
  induction f with
  | zero =>
    intro n a l hl hn hf hp h
    have h8 : l.length ≤ 8 := by simpa [hl] using hf
    exact nodeW_leaf_has h8 hp h
  | succ f ih =>
    intro n a l hl hn hf hp h
    by_cases h8 : l.length ≤ 8
    · exact nodeW_leaf_has h8 hp h
    · obtain ⟨d, hd⟩ : ∃ d, d = widF l dims := ⟨_, rfl⟩
      obtain ⟨s, hs⟩ : ∃ s, s = sortP d l := ⟨_, rfl⟩
      obtain ⟨k, hk⟩ : ∃ k, k = (l.length + 1) / 2 := ⟨_, rfl⟩
      have hsl : s.length = l.length := by rw [hs, sortP_len]
      have hsm : ∀ p ∈ s, OkP dims p := fun p q => hp p (sortP_mem.1 (by rw [← hs]; exact q))
      have hdd : d < dims := by rw [hd]; exact widF_lt l dims (by omega)
      have hks : k < s.length := by omega
      have hL := treeP_le dims k (s.take k) (by rw [List.length_take]; omega) (by omega) (fun p q => by have := (hsm p (List.mem_of_mem_take q)).1; omega)
      have hf1 : k ≤ 8 * 2 ^ f := by rw [Nat.pow_succ] at hf; omega
      have hf2 : n - k ≤ 8 * 2 ^ f := by rw [Nat.pow_succ] at hf; omega
      have hpk := hsm _ (getPt_mem hks)
      have hc := hpk.2.1 ((s.getD k noPt).2.getD d 0) (by
        have h2 : d < (s.getD k noPt).2.length := by rw [hpk.1]; exact hdd
        exact getD_mem h2)
      rw [treeP_cut h8 hd hs hk] at h ⊢
      rw [treeT_cut h8 hd hs hk]
      obtain ⟨c, hce⟩ : ∃ c, c = (s.getD k noPt).2.getD d 0 := ⟨_, rfl⟩
      obtain ⟨L, hLe⟩ : ∃ L, L = treeP dims (s.take k) := ⟨_, rfl⟩
      obtain ⟨R, hRe⟩ : ∃ R, R = treeP dims (s.drop k) := ⟨_, rfl⟩
      rw [← hce, ← hLe, ← hRe] at h ⊢
      rw [← hce] at hc
      rw [← hLe] at hL
      have hk1 : enc 1 <+: bs.drop a := by
        have e : enc 1 = [1] := by decide
        rw [e]
        exact List.IsPrefix.trans ⟨_, rfl⟩ h
      have e0 := size_has (most := 1) (by omega) (by omega) hk1
      have el : (enc 1).length = 1 := by decide
      rw [el] at e0
      obtain ⟨h0, h1⟩ := pre_get h
      obtain ⟨h2, hR⟩ := pre_app.1 h1
      obtain ⟨h3, hLp⟩ := pre_app.1 h2
      obtain ⟨h4, hz⟩ := pre_app.1 h3
      obtain ⟨h5, h6⟩ := pre_app.1 h4
      have e1 := size_has (most := 4) (by omega) (by omega) h5
      have e2 := uint_has (zzlt hc.1 hc.2) h6
      have hle := pre_le hLp
      have hpos : L ≠ [] := by rw [hLe]; intro e; have : (treeP dims (s.take k)).length = 0 := by rw [e]; rfl
                               rw [treeP] at this; split at this <;> simp at this
      have hlp : 0 < L.length := List.length_pos_iff.2 hpos
      simp only [List.length_append] at hz hLp hR hle
      have e3 := size_has (bs := bs) (a := a + 1 + (enc d).length + (enc (zz c)).length) (u := L.length) (most := ((bs.length : Nat) : Int)) (by omega) (by omega) (by rw [← Nat.add_assoc] at hz; exact hz)
      have g1 := ih k (a + 1 + (enc d).length + (enc (zz c)).length + (enc L.length).length) (s.take k) (by rw [List.length_take]; omega) (by omega) hf1 (fun p q => hsm p (List.mem_of_mem_take q)) (by rw [← hLe]; simpa [Nat.add_assoc] using hLp)
      have g2 := ih (n - k) (a + 1 + (enc d).length + (enc (zz c)).length + (enc L.length).length + L.length) (s.drop k) (by rw [List.length_drop]; omega) (by omega) hf2 (fun p q => hsm p (List.mem_of_mem_drop q)) (by rw [← hRe]; simpa [Nat.add_assoc] using hR)
      rw [← hLe] at g1
      rw [← hRe] at g2
      have hh : hdrW bs (a + 1) = (a + 1 + (enc d).length + (enc (zz c)).length + (enc L.length).length, 0) := by
        unfold hdrW
        rw [e1]
        dsimp only
        rw [e2]
        dsimp only
        rw [e3]
      rw [nodeW, e0]
      dsimp only
      rw [if_neg (fun h => h rfl), if_pos rfl, hh, g1]
      dsimp only
      rw [if_neg (fun h => h rfl), g2]
      simp only [flatT, List.length_cons, List.length_append]
      congr 2
      omega
end
end Go.Proofs.YtpopbkcbplmcaaaGreat
namespace Go.Proofs.YtpopbkcbplmcaaaGreat
set_option linter.unusedVariables false
set_option linter.unusedSimpArgs false
open Go.RowKit

def iz (k : IntKind) (l : List Int) : List Value := l.map (Value.int k)
theorem iz_len (k : IntKind) (l : List Int) : (iz k l).length = l.length := by simp [iz]
theorem iz_append (k : IntKind) (l m : List Int) : iz k (l ++ m) = iz k l ++ iz k m := by simp [iz]
theorem iz_take (k : IntKind) (l : List Int) (n : Nat) : iz k (l.take n) = (iz k l).take n := by simp [iz, List.map_take]
theorem iz_drop (k : IntKind) (l : List Int) (n : Nat) : iz k (l.drop n) = (iz k l).drop n := by simp [iz, List.map_drop]
theorem iz_one (k : IntKind) (l : List Int) : ∀ u ∈ iz k l, u.oneCell' = true := by
  intro u hu
  obtain ⟨x, _, rfl⟩ := List.mem_map.1 hu
  rfl
theorem iz_at (k : IntKind) (l : List Int) {j : Nat} (h : j < l.length) : (iz k l)[j]? = some (.int k (l.getD j 0)) := by
  simp [iz, h]
theorem Rd.intAt {w : World} {B : Nat} {A : Option Addr} {k : IntKind} {l : List Int} (h : Rd w B A (iz k l)) {j : Nat} (hj : j < l.length) : ∃ ad, A = some ad ∧ ad.block < B ∧ w.cell? (ad.add j) = some (.int k (l.getD j 0)) :=
  h j _ (iz_at k l hj)
theorem take_succ_int {xs ys : List Int} {k : Nat} (h1 : k < xs.length) (h2 : k < ys.length) (h : xs.take k = ys.take k) (he : xs.getD k 0 = ys.getD k 0) : xs.take (k + 1) = ys.take (k + 1) := by
  rw [List.take_succ_eq_append_getElem h1, List.take_succ_eq_append_getElem h2, h]
  simp [List.getElem?_eq_getElem h1, List.getElem?_eq_getElem h2] at he
  rw [he]
theorem take_snoc_int {l : List Int} {k : Nat} (h : k < l.length) : l.take (k + 1) = l.take k ++ [l.getD k 0] := by
  rw [List.take_succ_eq_append_getElem h]
  simp [List.getElem?_eq_getElem h]
theorem Rd.iz_nil {w : World} {B : Nat} {k : IntKind} {l : List Int} (h : Rd w B none (iz k l)) : l = [] := by
  cases l with
  | nil => rfl
  | cons b r => obtain ⟨_, e, _⟩ := h 0 _ rfl; cases e
end Go.Proofs.YtpopbkcbplmcaaaGreat
namespace Go.Proofs.YtpopbkcbplmcaaaGreat
set_option linter.unusedVariables false
set_option linter.unusedSimpArgs false
open Go.RowKit

section
variable {P : Program} (w : World)
/-- append onto a slice of the call's own, from whatever source. -/
theorem run_append_wide (base : Nat) (t tx ty e : TypeId) (i : TypeInfo) (z : Value) (size bytes : Nat) (ht : P.underlying t = some (.slice e)) (hi : P.info? e = some i) (hz : i.zero = some z)
    (hsize : i.size = size) (hby : i.bytes = bytes) (hzs : z.cells.size = size)
    (v : Value) (n : Nat) (xs : List Value) (hown : Own w base e size v n xs) (x : Value) (m : Nat) (news : List Value) (hs : Src P size tx x m news w)
    (hbytes : ((n + m) + (n + m) / 4 + 192) * bytes ≤ 281474976710656) (h63 : n + m ≤ maxLen) (hbase : base ≤ w.heap.size) :
    ∃ v' w', (Builtin.append_ #[t, tx] ty #[v, x]).run P w = .ok v' w' ∧ Own w' base e size v' (n + m) (xs ++ news) ∧ Fr (fun k => v.ownBlock = some k) w w' ∧
      (v'.ownBlock = v.ownBlock ∨ v'.ownBlock = some w.heap.size) := by
  subst hsize
  subst hby
  have hlen : (xs ++ news).length = (n + m) * i.size := by rw [List.length_append, hown.1, hs.newsLen, Nat.add_mul]
  have h63' : n + m ≤ 9223372036854775807 := by simp only [maxLen] at h63; omega
  have hown' := hown
  obtain ⟨hl, A, c, rfl, hc, hm, hA⟩ := hown
  by_cases hroom : n + m ≤ c
  · rcases hA with ⟨rfl, rfl⟩ | ⟨g, cur, rfl, hb, hh, hcs, htk⟩
    · have hn0 : n = 0 := by omega
      have hm0 : m = 0 := by omega
      subst hn0; subst hm0
      have h1 : xs = [] := List.eq_nil_of_length_eq_zero (by simpa using hl)
      have h2 : news = [] := List.eq_nil_of_length_eq_zero (by simpa using hs.newsLen)
      subst h1; subst h2
      refine ⟨.slice none 0 0, w, ?_, Own.nil _ _ _ _, Fr.refl _ _, .inl rfl⟩
      rcases hs.kind with ⟨e', hk⟩ | hk <;> simp [Builtin.append_, run_underlying ht, run_underlying hk, sizeOf, typeInfo, hi, hs.len, hs.cells]
    · have hfit : n * i.size + news.length ≤ cur.size := by
        rw [hs.newsLen, ← Nat.add_mul]
        exact Nat.le_trans (Nat.mul_le_mul_right _ hroom) hcs
      have hst := run_storeCells_at P g (n * i.size) e news 0 cur w hh (by simpa using hfit) hs.one
      simp only [Nat.add_zero] at hst
      refine ⟨.slice (some ⟨g, 0, none⟩) (n + m) c, w.setRow g (cur.toList.take (n * i.size) ++ news ++ cur.toList.drop (n * i.size + news.length)).toArray, ?_, ⟨hlen, _, c, rfl, hroom, hm, .inr ⟨g, _, rfl, hb, setRow_heap w g cur _ e _ hh, ?_, ?_⟩⟩, ⟨rfl, rfl, rfl, by simp, fun k _ hk => setRow_other w g k _ (fun e => hk (by simp [Value.ownBlock, e]))⟩, .inl rfl⟩
      · rcases hs.kind with ⟨e', hk⟩ | hk <;> simp [Builtin.append_, run_underlying ht, run_underlying hk, sizeOf, typeInfo, hi, hs.len, hroom, hs.cells, Addr.add_lit, hst]
      · simp only [List.size_toArray, List.length_append, List.length_take, List.length_drop, Array.length_toList]
        omega
      · rw [htk, ← hlen]
        exact List.take_left
  · have hold : (Builtin.firstCells i.size n (.slice A n c)).run P w.drew = .ok xs.toArray w.drew := by
      rcases A with _ | ad
      · have hn0 : n = 0 := by
          rcases hA with ⟨_, h0⟩ | ⟨g, _, h, _⟩
          · omega
          · cases h
        subst hn0
        have h1 : xs = [] := List.eq_nil_of_length_eq_zero (by simpa using hl)
        subst h1
        simp [run_firstCells_none]
      · refine run_firstCells_some (P := P) w.drew i.size n ad n c xs hl (fun j u hu => ?_)
        obtain ⟨ad', e', _, hc'⟩ := hown'.rd j u hu
        injection e' with e'
        subst e'
        exact hc'
    have hr := run_append_grow_src (P := P) w t tx ty e i z ht hi hz A n c xs hold x m news hs (by omega) (by omega) (growslice_fits_wide (by omega) hbytes)
    have hge := grownCap_ge w (n + m) c e
    have hcm : grownCap w (n + m) c e ≤ maxLen := grownCap_le_maxLen w (n + m) c e h63
    refine ⟨_, _, hr, ⟨hlen, _, _, rfl, hge, hcm, .inr ⟨w.heap.size, _, rfl, hbase, heap_alloc_new w.drew _, ?_, ?_⟩⟩, ⟨rfl, rfl, rfl, by simp, fun k hk _ => Below.heap_alloc w.drew _ k hk⟩, .inr rfl⟩
    · rw [Array.size_append, List.size_toArray, size_zeroCells, hzs, hlen, ← Nat.add_mul]
      exact Nat.le_of_eq (by congr 1; omega)
    · rw [Array.toList_append, ← hlen]
      exact List.take_left

theorem wp_append_wide {o : Oper} {a : Act} {K : Act → World → Prop} {Q : Exit → Act → World → Prop} (s x : Operand) (t tx : TypeId)
    (ho : o.op = .call { callee := .builtin .append, args := #[s, x], argTypes := #[t, tx] })
    (base : Nat) (e : TypeId) (i : TypeInfo) (z : Value) (size bytes : Nat) (ht : P.underlying t = some (.slice e)) (hi : P.info? e = some i) (hz : i.zero = some z)
    (hsize : i.size = size) (hby : i.bytes = bytes) (hzs : z.cells.size = size)
    (v : Value) (n : Nat) (xs : List Value) (hs : a.eval s = v) (hown : Own w base e size v n xs)
    (y : Value) (m : Nat) (news : List Value) (hx : a.eval x = y) (hsrc : Src P size tx y m news w)
    (hbytes : ((n + m) + (n + m) / 4 + 192) * bytes ≤ 281474976710656) (h63 : n + m ≤ maxLen) (hbase : base ≤ w.heap.size)
    (h : ∀ v' w', Own w' base e size v' (n + m) (xs ++ news) → Fr (fun k => v.ownBlock = some k) w w' → (v'.ownBlock = v.ownBlock ∨ v'.ownBlock = some w.heap.size) → K (a.put o.dst v') w') : o.wp P a w K Q := by
  obtain ⟨v', w', hrun, h2, h3, h4⟩ := run_append_wide (P := P) w base t tx o.type e i z size bytes ht hi hz hsize hby hzs v n xs hown y m news hsrc hbytes h63 hbase
  unfold Oper.wp execOp
  simp only [ho, resolve, invoke, builtin, Sem.run_bind, Sem.run_pure, Result.andThen_ok, List.map_toArray, List.map_cons, List.map_nil, hs, hx, hrun]
  exact h v' w' h2 h3 h4

theorem wpList_append_wide {ops : Array Oper} {rest : List Oper} {o : Oper} {a : Act} {Q : Exit → Act → World → Prop} (hgd : o.guard = none) (s x : Operand) (t tx : TypeId)
    (ho : o.op = .call { callee := .builtin .append, args := #[s, x], argTypes := #[t, tx] })
    (base : Nat) (e : TypeId) (i : TypeInfo) (z : Value) (size bytes : Nat) (ht : P.underlying t = some (.slice e)) (hi : P.info? e = some i) (hz : i.zero = some z)
    (hsize : i.size = size) (hby : i.bytes = bytes) (hzs : z.cells.size = size)
    (v : Value) (n : Nat) (xs : List Value) (hs : a.eval s = v) (hown : Own w base e size v n xs)
    (y : Value) (m : Nat) (news : List Value) (hx : a.eval x = y) (hsrc : Src P size tx y m news w)
    (hbytes : ((n + m) + (n + m) / 4 + 192) * bytes ≤ 281474976710656) (h63 : n + m ≤ maxLen) (hbase : base ≤ w.heap.size)
    (h : ∀ v' w', Own w' base e size v' (n + m) (xs ++ news) → Fr (fun k => v.ownBlock = some k) w w' → (v'.ownBlock = v.ownBlock ∨ v'.ownBlock = some w.heap.size) → wpList P ops Q rest (a.put o.dst v') w') : wpList P ops Q (o :: rest) a w :=
  wpList_plain hgd fun _ hK => wp_append_wide w s x t tx ho base e i z size bytes ht hi hz hsize hby hzs v n xs hs hown y m news hx hsrc hbytes h63 hbase fun v' w' h2 h3 h4 => hK _ _ (h v' w' h2 h3 h4)


/-- append onto a slice that has no room: a new block, whatever the old one is. -/
theorem run_append_full (base : Nat) (t tx ty e : TypeId) (i : TypeInfo) (z : Value) (size bytes : Nat) (ht : P.underlying t = some (.slice e)) (hi : P.info? e = some i) (hz : i.zero = some z)
    (hsize : i.size = size) (hby : i.bytes = bytes) (hzs : z.cells.size = size)
    (A : Option Addr) (n c B : Nat) (xs : List Value) (hl : xs.length = n * size) (hsz : 0 < size) (hr : Rd w B A xs) (x : Value) (m : Nat) (news : List Value) (hs : Src P size tx x m news w) (hfull : c < n + m)
    (hbytes : ((n + m) + (n + m) / 4 + 192) * bytes ≤ 281474976710656) (h63 : n + m ≤ maxLen) (hbase : base ≤ w.heap.size) :
    ∃ v' w', (Builtin.append_ #[t, tx] ty #[.slice A n c, x]).run P w = .ok v' w' ∧ Own w' base e size v' (n + m) (xs ++ news) ∧ Fr No w w' := by
  subst hsize
  subst hby
  have hlen : (xs ++ news).length = (n + m) * i.size := by rw [List.length_append, hl, hs.newsLen, Nat.add_mul]
  have h63' : n + m ≤ 9223372036854775807 := by simp only [maxLen] at h63; omega
  have hold : (Builtin.firstCells i.size n (.slice A n c)).run P w.drew = .ok xs.toArray w.drew := by
    rcases A with _ | ad
    · have h1 : xs = [] := by
        cases xs with
        | nil => rfl
        | cons u us => obtain ⟨_, h, _⟩ := hr 0 u rfl; cases h
      subst h1
      have hn0 : n = 0 := by
        rcases Nat.mul_eq_zero.1 hl.symm with h | h
        · exact h
        · omega
      subst hn0
      simp [run_firstCells_none]
    · refine run_firstCells_some (P := P) w.drew i.size n ad n c xs hl (fun j u hu => ?_)
      obtain ⟨ad', e', _, hc'⟩ := hr j u hu
      injection e' with e'
      subst e'
      exact hc'
  have hr := run_append_grow_src (P := P) w t tx ty e i z ht hi hz A n c xs hold x m news hs (by omega) (by omega) (growslice_fits_wide (by omega) hbytes)
  have hge := grownCap_ge w (n + m) c e
  have hcm : grownCap w (n + m) c e ≤ maxLen := grownCap_le_maxLen w (n + m) c e h63
  refine ⟨_, _, hr, ⟨hlen, _, _, rfl, hge, hcm, .inr ⟨w.heap.size, _, rfl, hbase, heap_alloc_new w.drew _, ?_, ?_⟩⟩, ⟨rfl, rfl, rfl, by simp, fun k hk _ => Below.heap_alloc w.drew _ k hk⟩⟩
  · rw [Array.size_append, List.size_toArray, size_zeroCells, hzs, hlen, ← Nat.add_mul]
    exact Nat.le_of_eq (by congr 1; omega)
  · rw [Array.toList_append, ← hlen]
    exact List.take_left
theorem wpList_append_full {ops : Array Oper} {rest : List Oper} {o : Oper} {a : Act} {Q : Exit → Act → World → Prop} (hgd : o.guard = none) (s x : Operand) (t tx : TypeId)
    (ho : o.op = .call { callee := .builtin .append, args := #[s, x], argTypes := #[t, tx] })
    (base : Nat) (e : TypeId) (i : TypeInfo) (z : Value) (size bytes : Nat) (ht : P.underlying t = some (.slice e)) (hi : P.info? e = some i) (hz : i.zero = some z)
    (hsize : i.size = size) (hby : i.bytes = bytes) (hzs : z.cells.size = size)
    (A : Option Addr) (n c B : Nat) (xs : List Value) (hs : a.eval s = .slice A n c) (hl : xs.length = n * size) (hsz : 0 < size) (hr : Rd w B A xs)
    (y : Value) (m : Nat) (news : List Value) (hx : a.eval x = y) (hsrc : Src P size tx y m news w) (hfull : c < n + m)
    (hbytes : ((n + m) + (n + m) / 4 + 192) * bytes ≤ 281474976710656) (h63 : n + m ≤ maxLen) (hbase : base ≤ w.heap.size)
    (h : ∀ v' w', Own w' base e size v' (n + m) (xs ++ news) → Fr No w w' → wpList P ops Q rest (a.put o.dst v') w') : wpList P ops Q (o :: rest) a w :=
  wpList_plain hgd fun _ hK => by
    obtain ⟨v', w', hrun, h2, h3⟩ := run_append_full (P := P) w base t tx o.type e i z size bytes ht hi hz hsize hby hzs A n c B xs hl hsz hr y m news hsrc hfull hbytes h63 hbase
    unfold Oper.wp execOp
    simp only [ho, resolve, invoke, builtin, Sem.run_bind, Sem.run_pure, Result.andThen_ok, List.map_toArray, List.map_cons, List.map_nil, hs, hx, hrun]
    exact hK _ _ (h v' w' h2 h3)
end
/-- new bytes, as a literal lays them. -/
theorem own_new8 (w : World) (cs : Array Value) (n : Nat) (bs : List UInt8) (e : TypeId) (h : cs.toList = by8 bs) (hn : bs.length = n) (hm : n ≤ maxLen) :
    Own (w.alloc (.cells cs e)) w.heap.size e 1 (.slice (some ⟨w.heap.size, 0, none⟩) n n) n (by8 bs) := by
  subst hn
  have hl : cs.size = bs.length := by
    have := congrArg List.length h
    rw [by8_length] at this
    simpa using this
  exact ⟨by rw [by8_length, Nat.mul_one], _, _, rfl, Nat.le_refl _, hm, .inr ⟨w.heap.size, cs, rfl, Nat.le_refl _, heap_alloc_new w _, by omega, by rw [h, Nat.mul_one, List.take_of_length_le (by rw [by8_length]; exact Nat.le_refl _)]⟩⟩
/-- a block's cells, as they stand. -/
theorem Rd.block {w : World} {g : Nat} {cs : Array Value} {e : TypeId} {fz : Nat × Nat} (hg : w.heap[g]? = some (.cells cs e fz)) : Rd w (g + 1) (some ⟨g, 0, none⟩) cs.toList := fun j u hu => by
  refine ⟨_, rfl, by simp, ?_⟩
  rw [Addr.add_lit, Nat.zero_add, cell_of_row w g j cs e fz hg]
  simpa using hu
end Go.Proofs.YtpopbkcbplmcaaaGreat
namespace Go.Proofs.YtpopbkcbplmcaaaGreat
set_option linter.unusedVariables false
set_option linter.unusedSimpArgs false
open Go.RowKit

theorem Fr.setRow (w : World) (g : Nat) (cs : Array Value) : Fr (Is g) w (w.setRow g cs) :=
  ⟨rfl, rfl, rfl, by simp, fun k _ hk => setRow_other w g k _ hk⟩

/-- lists of bytes that are read. -/
def BSl (w : World) (B : Nat) (A : Option Addr) (bss : List (List UInt8)) : Prop :=
  ∀ j bs, bss[j]? = some bs → ∃ ad Aj cj, A = some ad ∧ ad.block < B ∧ w.cell? (ad.add j) = some (.slice Aj bs.length cj) ∧ bs.length ≤ cj ∧ cj ≤ maxLen ∧ Rd w B Aj (by8 bs)
theorem BSl.fr {S : Nat → Prop} {w w' : World} {B : Nat} {A : Option Addr} {bss : List (List UInt8)} (h : BSl w B A bss) (f : Fr S w w') (hS : ∀ k, k < B → ¬ S k) : BSl w' B A bss := fun j bs hj => by
  obtain ⟨ad, Aj, cj, e, hb, hc, h1, h2, hr⟩ := h j bs hj
  exact ⟨ad, Aj, cj, e, hb, f.cell hc (by rw [block_of_add]; exact hS _ hb), h1, h2, hr.fr f hS⟩
theorem BSl.fr0 {w w' : World} {B : Nat} {A : Option Addr} {bss : List (List UInt8)} (h : BSl w B A bss) (f : Fr No w w') : BSl w' B A bss := h.fr f (fun _ _ h => h)
theorem BSl.more {w : World} {B B' : Nat} {A : Option Addr} {bss : List (List UInt8)} (h : BSl w B A bss) (hB : B ≤ B') : BSl w B' A bss := fun j bs hj => by
  obtain ⟨ad, Aj, cj, e, hb, hc, h1, h2, hr⟩ := h j bs hj
  exact ⟨ad, Aj, cj, e, by omega, hc, h1, h2, hr.more hB⟩

theorem BSl.single {w : World} {B n c : Nat} {A : Option Addr} {bs : List UInt8} {e : TypeId} (hn : bs.length = n) (h1 : n ≤ c) (h2 : c ≤ maxLen) (hr : Rd w B A (by8 bs)) (hB : B ≤ w.heap.size) : BSl (w.alloc (.cells #[.slice A n c] e)) (w.heap.size + 1) (some ⟨w.heap.size, 0, none⟩) [bs] := by
  subst hn
  intro j bs' hj
  cases j with
  | zero =>
    injection hj with hj
    subst hj
    refine ⟨_, A, c, rfl, by simp, ?_, h1, h2, (hr.fr0 ((Fr.refl _ _).alloc _)).more (by omega)⟩
    rw [Addr.add_lit, cell_of_row _ w.heap.size (0 + 0) #[.slice A bs.length c] e (0, 0) (heap_alloc_new w _)]
    rfl
  | succ j => simp at hj

end Go.Proofs.YtpopbkcbplmcaaaGreat
namespace Go.Proofs.YtpopbkcbplmcaaaGreat
set_option linter.unusedVariables false
set_option linter.unusedSimpArgs false
open Go.RowKit


/-- rows of memory that are apart. -/
structure Apart (m : Nat) (A : Nat → Option Addr) (N C : Nat → Nat) : Prop where
  dis : ∀ i j, i < m → j < m → i ≠ j → ∀ k, (Value.slice (A i) (N i) (C i)).ownBlock = some k → (Value.slice (A j) (N j) (C j)).ownBlock ≠ some k
def Owns (w : World) (base e m : Nat) (A : Nat → Option Addr) (N C : Nat → Nat) (Z : Nat → List Value) : Prop := ∀ j, j < m → Own w base e 1 (.slice (A j) (N j) (C j)) (N j) (Z j)
/-- the blocks of rows. -/
def Blocks (m : Nat) (A : Nat → Option Addr) (N C : Nat → Nat) : Nat → Prop := fun k => ∃ j, j < m ∧ (Value.slice (A j) (N j) (C j)).ownBlock = some k
def upd (Z : Nat → List Value) (i : Nat) (z : List Value) : Nat → List Value := fun j => if j = i then z else Z j
theorem upd_same (Z : Nat → List Value) (i : Nat) (z : List Value) : upd Z i z i = z := if_pos rfl
theorem upd_other (Z : Nat → List Value) {i j : Nat} (z : List Value) (h : j ≠ i) : upd Z i z j = Z j := if_neg h

section
variable {w : World} {base e m : Nat} {A : Nat → Option Addr} {N C : Nat → Nat} {Z : Nat → List Value}
theorem Owns.store (h : Owns w base e m A N C Z) (ha : Apart m A N C) {i k : Nat} (hi : i < m) (hk : k < N i) :
    ∃ g, A i = some ⟨g, 0, none⟩ ∧ g < w.heap.size ∧ w.cell? ⟨g, k, none⟩ = (Z i)[k]? ∧ w.frozen? ⟨g, k, none⟩ = false ∧
      (∀ q cs t fz, w.heap[q]? = some (.cells cs t fz) → e ≠ t → g ≠ q) ∧
      ∀ v : Value, Owns (w.setCell ⟨g, k, none⟩ v) base e m A N C (upd Z i ((Z i).set k v)) ∧ Fr (Blocks m A N C) w (w.setCell ⟨g, k, none⟩ v) := by
  obtain ⟨g, hA, hb, hl, hc, hf, hs⟩ := (h i hi).store hk
  have hob : (Value.slice (A i) (N i) (C i)).ownBlock = some g := by rw [hA]; rfl
  refine ⟨g, hA, hl, hc, hf, ?_, ?_⟩
  · rintro q cs t fz hq hne rfl
    exact (h i hi).ne_blk hob hq hne
  · intro v
    refine ⟨?_, (Fr.refl _ _).setCell (p := ⟨g, k, none⟩) (fun _ => ⟨i, hi, hob⟩) v⟩
    intro j hj
    by_cases hij : j = i
    · subst hij
      rw [upd_same]
      exact hs v
    · rw [upd_other _ _ hij]
      refine (h j hj).fr ((Fr.refl (Is g) w).setCell (p := ⟨g, k, none⟩) (fun _ => rfl) v) ?_
      rintro g' hg' rfl
      exact ha.dis i j hi hj (fun e => hij e.symm) _ hob hg'
end

/-- what is written. -/
def mk1 (j n : Nat) : List Value := (List.range n).map fun k : Nat => .int .u8 ((37 * (j : Int) + (k : Int)) % 256)
def mk2 (j : Nat) : List Value := (List.range 70).map fun k : Nat => .int .u8 ((11 * (j : Int) + (k : Int)) % 256)
theorem mk1_at {j n k : Nat} (h : k < n) : (mk1 j n)[k]? = some (.int .u8 ((37 * (j : Int) + (k : Int)) % 256)) := by simp [mk1, List.getElem?_range h]
theorem mk2_at {j k : Nat} (h : k < 70) : (mk2 j)[k]? = some (.int .u8 ((11 * (j : Int) + (k : Int)) % 256)) := by simp [mk2, List.getElem?_range h]
theorem mk1_len (j n : Nat) : (mk1 j n).length = n := by simp [mk1]
theorem mk2_len (j : Nat) : (mk2 j).length = 70 := by simp [mk2]
theorem take_set_snoc {z y : List Value} {k : Nat} {v : Value} (h : z.take k = y.take k) (hy : y[k]? = some v) (hk : k < z.length) : (z.set k v).take (k + 1) = y.take (k + 1) := by
  obtain ⟨hl, rfl⟩ := List.getElem?_eq_some_iff.1 hy
  rw [List.take_succ_eq_append_getElem (by simpa using hk), List.take_succ_eq_append_getElem hl, List.take_set_of_le (by omega), h]
  simp

theorem Own.ne_own {w : World} {b1 e1 s1 n1 b2 e2 s2 n2 : Nat} {v1 v2 : Value} {x1 x2 : List Value} (h1 : Own w b1 e1 s1 v1 n1 x1) (h2 : Own w b2 e2 s2 v2 n2 x2) (hne : e1 ≠ e2) {k : Nat} (hk : v2.ownBlock = some k) : v1.ownBlock ≠ some k := by
  intro hk1
  obtain ⟨_, A, c, rfl, _, _, hA⟩ := h2
  rcases hA with ⟨rfl, _⟩ | ⟨g, cur, rfl, hb, hh, _⟩
  · simp [Value.ownBlock] at hk
  · have e : g = k := Option.some.inj hk
    subst e
    exact h1.ne_blk hk1 hh hne
theorem Rd.fr2 {w w' : World} {B : Nat} {A : Option Addr} {xs : List Value} {S : Nat → Prop} (h : Rd w B A xs) (f : Fr S w w') (hS : ∀ ad, A = some ad → ¬ S ad.block) : Rd w' B A xs := fun j u hu => by
  obtain ⟨ad, e, hb, hc⟩ := h j u hu
  exact ⟨ad, e, hb, f.cell hc (by rw [block_of_add]; exact hS ad e)⟩
theorem own_at {A : Option Addr} {n c : Nat} {ad : Addr} (h : A = some ad) (h0 : ad.spot = none ∧ ad.off = 0) : (Value.slice A n c).ownBlock = some ad.block := by subst h; rfl
theorem Own.rdAt {w : World} {base e n : Nat} {v : Value} {xs : List Value} {g : Nat} (h : Own w base e 1 v n xs) (hg : v.ownBlock = some g) : Rd w w.heap.size (some ⟨g, 0, none⟩) xs := by
  obtain ⟨A, c, rfl, _, _, _, hr, _⟩ := h.form
  rcases h.mem with ⟨rfl, _⟩ | ⟨g', rfl, e⟩
  · simp [Value.ownBlock] at hg
  · have : g' = g := Option.some.inj (e.symm.trans hg)
    subst this
    exact hr

theorem apart_step {wi wr w' : World} {o : Obj} {M e nn : Nat} {Ai : Option Addr} {V l v' : Value} {xs ys : List Value} (hM : M ≤ wi.heap.size)
    (LT : ∀ k, V.ownBlock = some k → k < M) (AI : Ai = none ∧ xs = [] ∨ ∃ g, Ai = some ⟨g, 0, none⟩ ∧ V.ownBlock = some g)
    (I2 : l.ownBlock = V.ownBlock ∨ ∀ g, l.ownBlock = some g → wi.heap.size ≤ g) (I3 : Rd wr M Ai xs) (I4 : Fr (fun k => V.ownBlock = some k) wi wr)
    (ho : Own w' 0 e 1 v' nn (xs ++ ys)) (hat : (v'.ownBlock = l.ownBlock ∧ Fr (fun k => l.ownBlock = some k) (wr.alloc o) w') ∨ (v'.ownBlock = some (wr.alloc o).heap.size ∧ Fr No (wr.alloc o) w')) :
    (v'.ownBlock = V.ownBlock ∨ ∀ g, v'.ownBlock = some g → wi.heap.size ≤ g) ∧ Rd w' M Ai xs ∧ Fr (fun k => V.ownBlock = some k) wi w' := by
  have h4 := I4.alloc o
  have h3 : Rd (wr.alloc o) M Ai xs := I3.fr0 ((Fr.refl No wr).alloc o)
  have hs := I4.size
  rcases hat with ⟨he, hf⟩ | ⟨he, hf⟩
  · refine ⟨by rw [he]; exact I2, ?_, ?_⟩
    · rcases AI with ⟨_, rfl⟩ | ⟨g, hA, hV⟩
      · exact Rd.nil _ _ _
      · rcases I2 with h2 | h2
        · have hr := (ho.rdAt (he.trans (h2.trans hV))).tk xs.length
          rw [List.take_left] at hr
          intro j u hu
          obtain ⟨ad, e1, hb, _⟩ := I3 j u hu
          obtain ⟨ad', e2, _, hc⟩ := hr j u hu
          rw [hA] at e1
          have e3 : ad' = ad := Option.some.inj (e2.symm.trans e1)
          subst e3
          exact ⟨ad', hA.trans e1, hb, hc⟩
        · refine h3.fr2 hf ?_
          intro ad had hl
          have := h2 _ hl
          rw [hA] at had
          have e3 := Option.some.inj had
          have := LT g hV
          rw [← e3] at hl
          have := h2 _ hl
          simp at this
          omega
    · refine h4.trans hf ?_
      intro i hi hl
      rcases I2 with h2 | h2
      · exact h2.symm.trans hl
      · have := h2 i hl
        omega
  · refine ⟨.inr ?_, h3.fr0 hf, h4.tr hf⟩
    intro g hg
    have := Option.some.inj (he.symm.trans hg)
    simp at this
    omega
def updV (L : Nat → Value) (i : Nat) (l : Value) : Nat → Value := fun j => if j = i then l else L j
theorem updV_same (L : Nat → Value) (i : Nat) (l : Value) : updV L i l i = l := if_pos rfl
theorem updV_other (L : Nat → Value) {i j : Nat} (l : Value) (h : j ≠ i) : updV L i l j = L j := if_neg h
theorem map_snoc {L : Nat → Value} {i : Nat} (l : Value) : (List.range i).map L ++ [l] = (List.range (i + 1)).map (updV L i l) := by
  rw [List.range_succ, List.map_append]
  congr 1
  · apply List.map_congr_left
    intro j hj
    have : j < i := by simpa using hj
    rw [updV_other _ _ (by omega)]
  · simp [updV_same]
theorem take_snoc_at {y : List Value} {k : Nat} {v : Value} (hy : y[k]? = some v) : y.take k ++ [v] = y.take (k + 1) := by
  obtain ⟨hl, rfl⟩ := List.getElem?_eq_some_iff.1 hy
  rw [List.take_succ_eq_append_getElem hl]

end Go.Proofs.YtpopbkcbplmcaaaGreat
