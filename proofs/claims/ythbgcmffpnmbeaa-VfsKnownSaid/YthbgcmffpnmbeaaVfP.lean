/- Directories, plain: files by numbers; which file a name has, as a function. -/
import Derived.Test.YthbgcmffpnmbeaaTxV
namespace Go.Proofs.Ythbgcmffpnmbeaa
set_option linter.unusedVariables false
set_option linter.unusedSimpArgs false
open Go.RowKit

/-- a file: bytes, how many are synced. -/
structure Fi where
  b : List UInt8
  s : Nat
abbrev Ents := Tx → Option Nat
/-- a change. -/
inductive Ch where
  | put (n : Tx) (f : Nat)
  | ren (a b : Tx) (f : Nat)
  | del (n : Tx)
def Ents.put (m : Ents) (n : Tx) (f : Nat) : Ents := fun k => if k = n then some f else m k
def Ents.del (m : Ents) (n : Tx) : Ents := fun k => if k = n then none else m k
def Ch.app : Ch → Ents → Ents
  | .put n f, m => m.put n f
  | .ren a b f, m => Ents.put (if m a = some f then m.del a else m) b f
  | .del n, m => m.del n
/-- the file that a change names. -/
def Ch.file : Ch → Option Nat
  | .put _ f => some f
  | .ren _ _ f => some f
  | .del _ => none
structure Di where
  fs : Nat → Option Fi
  now : Ents
  dur : Ents
  chs : List Ch
  calls : Nat
  halt : Int
  at_ : Int
  e : Int
  part : Int
def okC (c : UInt8) : Bool := (97 ≤ c.toNat && c.toNat ≤ 122) || (48 ≤ c.toNat && c.toNat ≤ 57) || c.toNat == 46 || c.toNat == 95
def goodP (k : Tx) : Bool := decide (1 ≤ k.length) && decide (k.length ≤ 24) && k.all okC
def Di.tick (S : Di) : Di := { S with calls := S.calls + 1 }
def Di.setF (S : Di) (f : Nat) (x : Fi) : Di := { S with fs := fun k => if k = f then some x else S.fs k }
def Di.made (S : Di) (c : Ch) : Di := { S with now := c.app S.now, chs := S.chs ++ [c] }
def Di.cut (S : Di) : Di := { S with at_ := 0 }
def Di.over (S : Di) : Bool := decide (0 ≤ S.halt) && decide (S.halt < (S.calls : Int))
def Di.off (S : Di) : Bool := decide (0 ≤ S.halt) && decide (S.halt ≤ (S.calls : Int))
/-- a call is counted. -/
def cal (S : Di) (names : List Tx) : Int × Bool × Di :=
  if S.tick.over = true then (14, false, S.tick)
  else if S.at_ = ((S.calls + 1 : Nat) : Int) then (S.e, true, S.tick.cut)
  else if names.all goodP = true then (0, false, S.tick) else (1, false, S.tick)
def creS (S : Di) (n : Tx) (f c : Nat) : Int × Di :=
  if (cal S [n]).1 ≠ 0 then ((cal S [n]).1, (cal S [n]).2.2)
  else if (S.now n).isSome = true then (11, (cal S [n]).2.2)
  else if 4096 ≤ c then (3, (cal S [n]).2.2)
  else (0, ((cal S [n]).2.2.setF f ⟨[], 0⟩).made (.put n f))
def appF (S : Di) (n : Tx) : Option (Nat × Fi) := match S.now n with
  | none => none
  | some f => match S.fs f with
    | none => none
    | some x => some (f, x)
def appS (S : Di) (n : Tx) (b : List UInt8) : Int × Di :=
  if (cal S [n]).1 ≠ 0 ∧ (cal S [n]).2.1 = false then ((cal S [n]).1, (cal S [n]).2.2)
  else match appF S n with
    | none => (if (cal S [n]).2.1 = true then (cal S [n]).1 else 10, (cal S [n]).2.2)
    | some (f, x) =>
      if 16777216 - x.b.length < b.length then (if (cal S [n]).2.1 = true then (cal S [n]).1 else 3, (cal S [n]).2.2)
      else ((cal S [n]).1, (cal S [n]).2.2.setF f ⟨x.b ++ (if (cal S [n]).2.1 = true then b.take (S.part.toNat % (b.length + 1)) else b), x.s⟩)
def synS (S : Di) (n : Tx) : Int × Di :=
  if (cal S [n]).1 ≠ 0 then ((cal S [n]).1, (cal S [n]).2.2)
  else match appF S n with
    | none => (10, (cal S [n]).2.2)
    | some (f, x) => (0, (cal S [n]).2.2.setF f ⟨x.b, x.b.length⟩)
def sydS (S : Di) : Int × Di :=
  if (cal S []).1 ≠ 0 then ((cal S []).1, (cal S []).2.2) else (0, { (cal S []).2.2 with dur := S.now, chs := [] })
def renS (S : Di) (a b : Tx) : Int × Di :=
  if (cal S [a, b]).1 ≠ 0 then ((cal S [a, b]).1, (cal S [a, b]).2.2)
  else match S.now a with
    | none => (10, (cal S [a, b]).2.2)
    | some f => if a = b then (0, (cal S [a, b]).2.2) else (0, (cal S [a, b]).2.2.made (.ren a b f))
def delS (S : Di) (n : Tx) : Int × Di :=
  if (cal S [n]).1 ≠ 0 then ((cal S [n]).1, (cal S [n]).2.2)
  else match S.now n with
    | none => (10, (cal S [n]).2.2)
    | some f => (0, (cal S [n]).2.2.made (.del n))
def reaS (S : Di) (n : Tx) : List UInt8 × Int :=
  if S.off = true then ([], 14) else if goodP n = false then ([], 1) else match appF S n with
    | none => ([], 10)
    | some (_, x) => (x.b, 0)
def newD : Di := ⟨fun _ => none, fun _ => none, fun _ => none, [], 0, -1, 0, 0, 0⟩
/-- the names that have a file, rising. -/
def KeysL (m : Ents) (l : List Tx) : Prop := l.Pairwise (· < ·) ∧ ∀ k, k ∈ l ↔ (m k).isSome = true
/-- how many names have a file. -/
def SizeM (m : Ents) (c : Nat) : Prop := ∃ l : List Tx, l.Nodup ∧ (∀ k, k ∈ l ↔ (m k).isSome = true) ∧ l.length = c
/-- the next choice. -/
def hdC : List Int → Nat
  | [] => 0
  | c :: _ => if c = -9223372036854775808 then 0 else c.natAbs
def leftS : List Ch → List Int → Ents → Ents
  | [], _, m => m
  | c :: r, l, m => leftS r l.tail (if hdC l % 2 = 1 then c.app m else m)
/-- what is left of a directory when power goes. -/
structure CrashR (S : Di) (l : List Int) (ks : List Tx) (C : Di) : Prop where
  keys : KeysL (leftS S.chs l S.dur) ks
  some : ∀ (i : Nat) (k : Tx), ks[i]? = some k → ∃ f x g, leftS S.chs l S.dur k = Option.some f ∧ S.fs f = Option.some x ∧ C.now k = Option.some g ∧
    C.fs g = Option.some ⟨x.b.take (x.s + hdC (l.drop (S.chs.length + i)) % (x.b.length - x.s + 1)), x.s + hdC (l.drop (S.chs.length + i)) % (x.b.length - x.s + 1)⟩
  none : ∀ k, k ∉ ks → C.now k = Option.none
  dur : C.dur = C.now
  chs : C.chs = []
  calls : C.calls = 0
  halt : C.halt = -1
  at_ : C.at_ = 0
  e : C.e = 0
  part : C.part = 0

theorem KeysL.uniq {m : Ents} {l l' : List Tx} (h : KeysL m l) (h' : KeysL m l') : l = l' := by
  have nd : ∀ {l : List Tx}, l.Pairwise (· < ·) → l.Nodup := fun h => h.imp (fun {a b} hab e => by subst e; exact List.lt_irrefl a hab)
  refine List.Perm.eq_of_pairwise (le := fun a b => a < b) (fun a b _ _ h1 h2 => (List.lt_asymm h1 h2).elim) h.1 h'.1 ?_
  exact (List.perm_ext_iff_of_nodup (nd h.1) (nd h'.1)).2 fun k => by rw [h.2 k, h'.2 k]
theorem KeysL.size {m : Ents} {l : List Tx} (h : KeysL m l) : SizeM m l.length := ⟨l, h.1.imp (fun {a b} hab e => by subst e; exact List.lt_irrefl a hab), h.2, rfl⟩
theorem SizeM.uniq {m : Ents} {c c' : Nat} (h : SizeM m c) (h' : SizeM m c') : c = c' := by
  obtain ⟨l, h1, h2, rfl⟩ := h
  obtain ⟨l', h3, h4, rfl⟩ := h'
  exact ((List.perm_ext_iff_of_nodup h1 h3).2 fun k => by rw [h2 k, h4 k]).length_eq
end Go.Proofs.Ythbgcmffpnmbeaa
