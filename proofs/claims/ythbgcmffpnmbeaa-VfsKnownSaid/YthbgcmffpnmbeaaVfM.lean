/- Directories in memory. -/
import Derived.Test.YthbgcmffpnmbeaaVfP
import Derived.Maps.OwnSet
import Derived.Sort.KeysCollected
namespace Go.Proofs.Ythbgcmffpnmbeaa
set_option linter.unusedVariables false
set_option linter.unusedSimpArgs false
open Go.RowKit Go.Maps

theorem Try.keyS : Maps.Keyed Try.prog 9 := string_keyed Try.underlying9
/-- a file's pointer. -/
def fpt (f : Nat) : Value := .pointer (some ⟨f, 0, none⟩)
def optV : Option Nat → Value
  | none => .pointer none
  | some f => fpt f
/-- how a pointer to a file reads. -/
def fileR : Value → Option (DataW Empty × List MemPlace)
  | .pointer none => some (.nil, [])
  | .pointer (some a) => if a.off = 0 ∧ a.spot = none then some (.lit (.int .i64 (a.block : Nat)), []) else none
  | _ => none
def entD : Option Nat → DataW Empty
  | none => .nil
  | some f => .lit (.int .i64 (f : Nat))
theorem fileR_opt (o : Option Nat) : fileR (optV o) = some (entD o, []) := by cases o <;> simp [optV, fpt, fileR, entD]
theorem fileR_inv {v : Value} {o : Option Nat} {ps : List MemPlace} (h : fileR v = some (entD o, ps)) : v = optV o := by
  cases v with
  | pointer a =>
    cases a with
    | none =>
      cases o with
      | none => rfl
      | some f => simp [fileR, entD] at h
    | some a =>
      obtain ⟨b, off, spot⟩ := a
      simp only [fileR] at h
      split at h
      · rename_i hh
        obtain ⟨rfl, rfl⟩ := hh
        cases o with
        | none => simp [entD] at h
        | some f =>
          simp [entD] at h
          obtain ⟨h, _⟩ := h
          obtain rfl : b = f := by omega
          rfl
      · cases h
  | _ => simp [fileR] at h
theorem keyT {k : Tx} (h : k.length ≤ maxLen) : keyOf Try.prog 9 (sv k) = some (.string k) := by
  have e := WideMaps.keyOf_string_mk (P := Try.prog) (k := 9) Try.underlying9 (s := ⟨k.toArray⟩) (by rw [tx_size]; exact h)
  simpa [sv] using e
theorem zeroF (w : World) : (zeroValue 79).run Try.prog w = .ok (.pointer none) w := Try.zeroValue79 w

/-- a map of names to files. -/
structure MapM (w : World) (b n : Nat) (m : Ents) (D : DataW Empty) : Prop where
  own : w.ownsMap Try.prog 9 fileR b n D
  at_ : ∀ k, D.atKey (.string k) .nil = entD (m k)
  has : ∀ k, Maps.has D (.string k) = (m k).isSome
section
variable {w w' : World} {b n : Nat} {m : Ents} {D : DataW Empty}
theorem ownsMap_fr {S : Nat → Prop} (h : w.ownsMap Try.prog 9 fileR b n D) (f : Fr S w w') (hS : ¬ S b) : w'.ownsMap Try.prog 9 fileR b n D := by
  obtain ⟨es, clock, hb, r⟩ := h
  exact ⟨es, clock, f.blk hb hS, r⟩
theorem MapM.fr {S : Nat → Prop} (h : MapM w b n m D) (f : Fr S w w') (hS : ¬ S b) : MapM w' b n m D := ⟨ownsMap_fr h.own f hS, h.at_, h.has⟩
theorem MapM.fr0 (h : MapM w b n m D) (f : Fr No w w') : MapM w' b n m D := h.fr f (fun h => h)
theorem MapM.lt (h : MapM w b n m D) : b < w.heap.size := h.own.lt
theorem MapM.isMap (h : MapM w b n m D) : ∃ es clock, w.heap[b]? = some (.map es clock) := by
  obtain ⟨es, clock, hb, _⟩ := h.own
  exact ⟨es, clock, hb⟩
theorem MapM.look (h : MapM w b n m D) {k : Tx} (hk : k.length ≤ maxLen) : (Instr.lookup 68 (.map (some b)) (sv k) false).run Try.prog w = .ok (optV (m k)) w := by
  obtain ⟨v, ps, hrun, hv⟩ := h.own.lookup Try.keyS Try.underlying68 (zeroF w) (fileR_opt none) (keyT hk)
  have e : D.atKey (.string k) (entD none) = entD (m k) := h.at_ k
  rw [e] at hv
  rw [fileR_inv hv] at hrun
  exact hrun
theorem Fr.turned (h : w.mapTurned w' b) : Fr (Is b) w w' := (Fr.of_grown h.grown).mono fun i _ e => (Option.some.inj e).symm
theorem MapM.put_of (h : MapM w b n m D) {k : Tx} {f : Nat} (ho : w'.ownsMap Try.prog 9 fileR b (n + 1) (D.put (.string k) (.lit (.int .i64 (f : Nat))))) :
    MapM w' b (n + 1) (m.put k f) (D.put (.string k) (.lit (.int .i64 (f : Nat)))) := by
  have hm := h.own.isMap
  refine ⟨ho, fun k' => ?_, fun k' => ?_⟩
  · unfold Ents.put
    by_cases e : k' = k
    · subst e
      rw [if_pos rfl, atKey_put_same hm (by simp [WideAt.IsKeyLit])]; rfl
    · rw [if_neg e, atKey_put_other (by intro hh; injection hh with hh; exact e hh)]; exact h.at_ k'
  · unfold Ents.put
    by_cases e : k' = k
    · subst e
      rw [if_pos rfl, has_put_same hm (by simp [WideAt.IsKeyLit])]; rfl
    · rw [if_neg e, has_put_other (by intro hh; injection hh with hh; exact e hh)]; exact h.has k'
theorem MapM.del_of (h : MapM w b n m D) {k : Tx} (ho : w'.ownsMap Try.prog 9 fileR b n (D.del (.string k))) : MapM w' b n (m.del k) (D.del (.string k)) := by
  refine ⟨ho, fun k' => ?_, fun k' => ?_⟩
  · unfold Ents.del
    by_cases e : k' = k
    · subst e
      rw [if_pos rfl, atKey_del_same]; rfl
    · rw [if_neg e, atKey_del_other (by intro hh; injection hh with hh; exact e hh)]; exact h.at_ k'
  · unfold Ents.del
    by_cases e : k' = k
    · subst e
      rw [if_pos rfl, has_del_same]; rfl
    · rw [if_neg e, has_del_other (by intro hh; injection hh with hh; exact e hh)]; exact h.has k'
theorem MapM.new (w : World) : MapM (w.alloc (.map #[] 0)) w.heap.size 0 (fun _ => none) (.map []) :=
  ⟨World.ownsMap_made w _ _ _, fun k => rfl, fun k => rfl⟩
theorem MapM.mono (h : MapM w b n m D) {n' : Nat} (hn : n ≤ n') : MapM w b n' m D := ⟨h.own.mono hn, h.at_, h.has⟩
theorem MapM.keys (h : MapM w b n m D) : (strKeys D).Nodup ∧ (∀ k, k ∈ strKeys D ↔ (m k).isSome = true) ∧ (strKeys D).length = Maps.size D ∧ ∀ k ∈ strKeys D, k.length ≤ maxLen := by
  obtain ⟨es, hD, hpw, _⟩ := h.own.entries Try.keyS
  obtain ⟨es', hD', hko⟩ := h.own.keysOf
  obtain rfl : es = es' := by rw [hD] at hD'; simpa using hD'
  have hk : ∀ p ∈ es, ∃ x, p.1 = .string x := fun p hp => by
    obtain ⟨v, hv⟩ := hko p hp
    obtain ⟨x, _, hx, _⟩ := Maps.keyOf_str Try.underlying9 hv
    exact ⟨x, hx⟩
  have hle := strKeys_le h.own Try.underlying9
  have hh := h.has
  subst hD
  refine ⟨?_, fun k => ?_, by simp [strKeys, Maps.size], hle⟩
  · refine List.pairwise_map.2 (hpw.imp_of_mem fun {p q} hp' hq' hne e => hne ?_)
    obtain ⟨a, ha⟩ := hk p hp'
    obtain ⟨c, hc⟩ := hk q hq'
    rw [ha, hc] at e ⊢
    exact congrArg _ e
  · rw [← hh k, has_eq, List.any_eq_true]
    show k ∈ es.map (fun p => strOf p.1) ↔ _
    rw [List.mem_map]
    constructor
    · rintro ⟨p, hp', rfl⟩
      obtain ⟨a, ha⟩ := hk p hp'
      exact ⟨p, hp', by rw [ha]; simp [Lit.sameKey, strOf]⟩
    · rintro ⟨p, hp', hs⟩
      obtain ⟨a, ha⟩ := hk p hp'
      rw [ha] at hs
      exact ⟨p, hp', by rw [ha]; simpa [Lit.sameKey, strOf] using hs⟩
theorem MapM.size (h : MapM w b n m D) : SizeM m (Maps.size D) := ⟨strKeys D, h.keys.1, h.keys.2.1, h.keys.2.2.1⟩
/-- the keys, sorted. -/
theorem MapM.sorted (h : MapM w b n m D) : KeysL m ((strKeys D).mergeSort leB) := by
  obtain ⟨h1, h2, _, _⟩ := h.keys
  have tr : ∀ a b c : List UInt8, leB a b = true → leB b c = true → leB a c = true := fun a b c h1 h2 => by simp only [leB, decide_eq_true_eq] at *; exact List.le_trans h1 h2
  have to : ∀ a b : List UInt8, (leB a b || leB b a) = true := fun a b => by simp only [leB, Bool.or_eq_true, decide_eq_true_eq]; exact List.le_total a b
  have hp := List.mergeSort_perm (strKeys D) leB
  refine ⟨?_, fun k => by rw [hp.mem_iff]; exact h2 k⟩
  have hs := List.pairwise_mergeSort tr to (strKeys D)
  have hn : ((strKeys D).mergeSort leB).Nodup := hp.nodup_iff.2 h1
  refine (hs.and hn).imp fun {x y} hxy => ?_
  obtain ⟨h1, h2⟩ := hxy
  simp only [leB, decide_eq_true_eq] at h1
  rcases tl_total x y with h | h | h
  · exact h
  · exact (h2 h).elim
  · exact (h1 h).elim
end
end Go.Proofs.Ythbgcmffpnmbeaa
