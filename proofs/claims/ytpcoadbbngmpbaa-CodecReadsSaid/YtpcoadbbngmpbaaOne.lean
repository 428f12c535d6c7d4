/- one call of both readers: the program's and the document's answer alike. -/
import Derived.Test.YtpcoadbbngmpbaaMem2
import Derived.Test.YtpcoadbbngmpbaaRefF
import Derived.Test.YtpcoadbbngmpbaaLent
import Derived.Deep.RegionWith
namespace Go.Proofs.Ytpcoadbbngmpbaa
open Go.RowKit

structure Pair (w : World) (B g h : Nat) (bs : List UInt8) (a : Nat) (e : Int) : Prop where
  rd : RD w g bs a e
  rs : RS w B h bs a e
  hg : B ≤ g
def Two (g h : Nat) : Nat → Prop := fun k => k = g ∨ k = h
section
variable {w w1 w2 : World} {B g h : Nat} {bs : List UInt8} {a a' : Nat} {e e' : Int}
theorem Pair.ne (p : Pair w B g h bs a e) : g ≠ h := by
  rintro rfl
  obtain ⟨_, _, hh, _⟩ := p.rd
  obtain ⟨_, _, hk, _⟩ := p.rs
  rw [hh] at hk
  injection hk with hk
  injection hk with _ hk
  exact absurd hk (by decide)
theorem RD.other2 {w' : World} {bs2 : List UInt8} {a2 : Nat} {e2 : Int} (r : RD w g bs a e) (s : RS w B h bs2 a2 e2) (f : Fr (Is h) w w') (hne : g ≠ h) : RD w' g bs a e := by
  obtain ⟨A, c, hh, h1, h2', h3, h4, ho⟩ := r
  obtain ⟨A2, c2, hh2, _⟩ := s
  refine ⟨A, c, f.blk hh hne, h1, h2', h3, h4, ho.fr f ?_⟩
  rintro g' hg' rfl
  exact ho.ne_blk hg' hh2 (by decide)
theorem Pair.first (p : Pair w B g h bs a e) (f : Fr (Is g) w w1) : RS w1 B h bs a e :=
  p.rs.fr f (fun e => p.ne e.symm) (fun k hk e => by have := p.hg; have : k = g := e; omega)
theorem Pair.next (p : Pair w B g h bs a e) (r1 : RD w1 g bs a' e') (f1 : Fr (Is g) w w1) (s2 : RS w2 B h bs a' e') (f2 : Fr (Is h) w1 w2) : Pair w2 B g h bs a' e' ∧ Fr (Two g h) w w2 :=
  ⟨⟨r1.other2 (p.first f1) f2 p.ne, s2, p.hg⟩, (f1.mono fun _ _ e => .inl e).ts (f2.mono fun _ _ e => .inr e)⟩
theorem Pair.drew (p : Pair w B g h bs a e) : Pair w.drew B g h bs a e := ⟨p.rd, p.rs, p.hg⟩
theorem Pair.fr0 (p : Pair w B g h bs a e) (f : Fr No w w1) : Pair w1 B g h bs a e := ⟨p.rd.fr0 f, p.rs.fr0 f, p.hg⟩
end
/-- both have answered alike. -/
def OneRet (w : World) (B g h : Nat) (bs : List UInt8) (e : Int) (en : Ending) (w' : World) : Prop :=
  en = .returned (.bool true) ∧ ∃ a' e', (Pair w' B g h bs a' e' ∧ Fr (Two g h) w w') ∧ (e ≠ 0 → e' = e)

theorem uintR_off (bs : List UInt8) (a : Nat) (e : Int) : e ≠ 0 → (uintR bs a e).2.2 = e := fun h => by unfold uintR; rw [if_neg h]
theorem sizeS_off (bs : List UInt8) (a : Nat) (e m : Int) : e ≠ 0 → (sizeS bs a e m).2.2 = e := fun h => by unfold sizeS; rw [if_neg h]
theorem textS_off (bs : List UInt8) (a : Nat) (e m : Int) : e ≠ 0 → (textS bs a e m).2.2 = e := fun h => by unfold textS; rw [if_neg h]
theorem bytesS_off (bs : List UInt8) (a : Nat) (e m : Int) : e ≠ 0 → (bytesS bs a e m).2.2 = e := fun h => by unfold bytesS; rw [if_neg h]
theorem endE_off (bs : List UInt8) (a : Nat) (e : Int) : e ≠ 0 → endE bs a e = e := fun h => by unfold endE; rw [if_neg (fun x => h x.1)]

theorem box_kept {w w1 : World} {g : Nat} {x y : Value} {t : TypeId} (f : Fr (Is g) (w.alloc (.cells #[x, y] t)) w1) (hg : g < w.heap.size) : w1.cell? ⟨w.heap.size, 1, none⟩ = some y :=
  f.cell (p := ⟨w.heap.size, 1, none⟩) (cell_of_row _ w.heap.size 1 #[x, y] t (0, 0) (heap_alloc_new w _)) (fun e => by have : w.heap.size = g := e; omega)
theorem Fr.of_drew {S : Nat → Prop} {a b : World} (f : Fr S a.drew b) : Fr S a b := ⟨f.os, f.tape, f.output, f.size, f.block⟩

section
variable (w : World) (B g h : Nat) (bs : List UInt8) (a : Nat) (e : Int) (n : Int) (p : Pair w B g h bs a e)
include p
set_option maxRecDepth 100000 in
set_option maxHeartbeats 800000 in
theorem one0 : Calls Try.prog 26 #[.pointer (some ⟨g, 0, none⟩), .pointer (some ⟨h, 0, none⟩), .agg #[.int .i64 0, .int .i64 n]] w (OneRet w B g h bs e) := by
  have P0 : Hid (∀ t, Pair (w.alloc (.cells #[.int .i64 0, .int .i64 n] t)) B g h bs a e) := fun t => p.fr0 ((Fr.refl _ _).alloc _)
  have HO := hide (uintR_off bs a e)
  have HU := hide (fun W => uint_any g bs a e W)
  have HV := hide (fun W => refU_any B h bs a e W)
  clear p
  generalize uintR bs a e = x at HO HU HV
  have hb : ((x.1 : Int) == (x.1 : Int)) = true := by first | simp | exact beq_self_eq_true _ | (show (x.1.toArray == x.1.toArray) = true; exact beq_self_eq_true _)
  go_enter Try.func26, Try.ntmps26
  go_wp2_with (first | (go_at_call 9; refine (HU.out _ (P0.out _).rd).mono ?_; rintro en w1 ⟨rfl, hrd, hfr⟩; have R1 := hide hrd; have F1 := hide hfr; clear hrd hfr) | (go_at_call 45; refine (HV.out _ ((P0.out _).first F1.out)).mono ?_; rintro en w2 ⟨rfl, hrs, hfr⟩; have S2 := hide hrs; have F2 := hide hfr; clear hrs hfr))
  go_ret
  have q := (P0.out _).next R1.out F1.out S2.out F2.out
  exact ⟨rfl, x.2.1, x.2.2, ⟨q.1, ((Fr.refl (Two g h) w).alloc _).ts q.2⟩, HO.out⟩

set_option maxRecDepth 100000 in
set_option maxHeartbeats 800000 in
theorem one1 : Calls Try.prog 26 #[.pointer (some ⟨g, 0, none⟩), .pointer (some ⟨h, 0, none⟩), .agg #[.int .i64 1, .int .i64 n]] w (OneRet w B g h bs e) := by
  have P0 : Hid (∀ t, Pair (w.alloc (.cells #[.int .i64 1, .int .i64 n] t)) B g h bs a e) := fun t => p.fr0 ((Fr.refl _ _).alloc _)
  have HO := hide (uintR_off bs a e)
  have HU := hide (fun W => int_any g bs a e W)
  have HV := hide (fun W => refI_any B h bs a e W)
  clear p
  generalize uintR bs a e = x at HO HU HV
  have hb : ((unzz x.1) == (unzz x.1)) = true := by first | simp | exact beq_self_eq_true _ | (show (x.1.toArray == x.1.toArray) = true; exact beq_self_eq_true _)
  go_enter Try.func26, Try.ntmps26
  go_wp2_with (first | (go_at_call 11; refine (HU.out _ (P0.out _).rd).mono ?_; rintro en w1 ⟨rfl, hrd, hfr⟩; have R1 := hide hrd; have F1 := hide hfr; clear hrd hfr) | (go_at_call 46; refine (HV.out _ ((P0.out _).first F1.out)).mono ?_; rintro en w2 ⟨rfl, hrs, hfr⟩; have S2 := hide hrs; have F2 := hide hfr; clear hrs hfr))
  go_ret
  have q := (P0.out _).next R1.out F1.out S2.out F2.out
  exact ⟨rfl, x.2.1, x.2.2, ⟨q.1, ((Fr.refl (Two g h) w).alloc _).ts q.2⟩, HO.out⟩

set_option maxRecDepth 100000 in
set_option maxHeartbeats 800000 in
theorem one5 : Calls Try.prog 26 #[.pointer (some ⟨g, 0, none⟩), .pointer (some ⟨h, 0, none⟩), .agg #[.int .i64 5, .int .i64 n]] w (OneRet w B g h bs e) := by
  have P0 : Hid (∀ t, Pair (w.alloc (.cells #[.int .i64 5, .int .i64 n] t)) B g h bs a e) := fun t => p.fr0 ((Fr.refl _ _).alloc _)
  have HO := hide (endE_off bs a e)
  have HU := hide (fun W => end_any g bs a e W)
  have HV := hide (fun W => refEnd_any B h bs a e W)
  clear p
  generalize endE bs a e = x at HO HU HV
  have hb : (x == x) = true := by first | simp | exact beq_self_eq_true _ | (show (x.1.toArray == x.1.toArray) = true; exact beq_self_eq_true _)
  go_enter Try.func26, Try.ntmps26
  go_wp2_with (first | (go_at_call 25; refine (HU.out _ (P0.out _).rd).mono ?_; rintro en w1 ⟨rfl, hrd, hfr⟩; have R1 := hide hrd; have F1 := hide hfr; clear hrd hfr) | (go_at_call 50; refine (HV.out _ ((P0.out _).first F1.out)).mono ?_; rintro en w2 ⟨rfl, hrs, hfr⟩; have S2 := hide hrs; have F2 := hide hfr; clear hrs hfr))
  go_ret
  have q := (P0.out _).next R1.out F1.out S2.out F2.out
  exact ⟨rfl, a, x, ⟨q.1, ((Fr.refl (Two g h) w).alloc _).ts q.2⟩, HO.out⟩

set_option maxRecDepth 100000 in
set_option maxHeartbeats 800000 in
theorem one2 (hm1 : -9223372036854775808 ≤ n) (hm2 : n ≤ 9223372036854775807) : Calls Try.prog 26 #[.pointer (some ⟨g, 0, none⟩), .pointer (some ⟨h, 0, none⟩), .agg #[.int .i64 2, .int .i64 n]] w (OneRet w B g h bs e) := by
  have P0 : Hid (∀ t, Pair (w.alloc (.cells #[.int .i64 2, .int .i64 n] t)) B g h bs a e) := fun t => p.fr0 ((Fr.refl _ _).alloc _)
  have HO := hide (sizeS_off bs a e n)
  have HU : Hid (∀ W, RD W g bs a e → _) := hide (fun W h => size_any g bs a e n W h hm1 hm2)
  have HV : Hid (∀ W, RS W B h bs a e → _) := hide (fun W h => refN_any B _ bs a e n W h hm2)
  have hgl := p.rd.lt
  clear p
  generalize sizeS bs a e n = x at HO HU HV
  have hb : ((x.1 : Int) == (x.1 : Int)) = true := by first | simp | exact beq_self_eq_true _ | (show (x.1.toArray == x.1.toArray) = true; exact beq_self_eq_true _)
  go_enter Try.func26, Try.ntmps26
  go_wp2_with (fail)
  go_region_with (first | (go_at_call 33; refine (HU.out _ (P0.out _).drew.rd).mono ?_; rintro en w1 ⟨rfl, hrd, hfr⟩; have R1 := hide hrd; have F1 := hide hfr.of_drew; clear hrd hfr; have hbx := box_kept F1.out hgl) | (go_at_call 47; refine (HV.out _ ?_).mono ?_; exact (P0.out _).first F1.out; rintro en w2 ⟨rfl, hrs, hfr⟩; have S2 := hide hrs; have F2 : Hid (Fr (Is h) w1 w2) := ⟨hfr.os, hfr.tape, hfr.output, hfr.size, hfr.block⟩; clear hrs hfr))
  all_goals (try go_wp2)
  all_goals go_ret
  all_goals
    have q := (P0.out _).next R1.out F1.out S2.out F2.out
    exact ⟨rfl, x.2.1, x.2.2, ⟨q.1, ((Fr.refl (Two g h) w).alloc _).ts q.2⟩, HO.out⟩

set_option maxRecDepth 100000 in
set_option maxHeartbeats 800000 in
theorem one3 (hm1 : -9223372036854775808 ≤ n) (hm2 : n ≤ 9223372036854775807) : Calls Try.prog 26 #[.pointer (some ⟨g, 0, none⟩), .pointer (some ⟨h, 0, none⟩), .agg #[.int .i64 3, .int .i64 n]] w (OneRet w B g h bs e) := by
  have P0 : Hid (∀ t, Pair (w.alloc (.cells #[.int .i64 3, .int .i64 n] t)) B g h bs a e) := fun t => p.fr0 ((Fr.refl _ _).alloc _)
  have HO := hide (textS_off bs a e n)
  have HU : Hid (∀ W, RD W g bs a e → _) := hide (fun W h => text_any g bs a e n W h hm1 hm2)
  have HV : Hid (∀ W, RS W B h bs a e → _) := hide (fun W h => refT_any B _ bs a e n W h hm2)
  have hgl := p.rd.lt
  clear p
  generalize textS bs a e n = x at HO HU HV
  have hb : ((⟨x.1.toArray⟩ : ByteArray) == ⟨x.1.toArray⟩) = true := by first | simp | exact beq_self_eq_true _ | (show (x.1.toArray == x.1.toArray) = true; exact beq_self_eq_true _)
  go_enter Try.func26, Try.ntmps26
  go_wp2_with (fail)
  go_region_with (first | (go_at_call 24; refine (HU.out _ (P0.out _).drew.rd).mono ?_; rintro en w1 ⟨rfl, hrd, hfr⟩; have R1 := hide hrd; have F1 := hide hfr.of_drew; clear hrd hfr; have hbx := box_kept F1.out hgl) | (go_at_call 48; refine (HV.out _ ?_).mono ?_; exact (P0.out _).first F1.out; rintro en w2 ⟨rfl, hrs, hfr⟩; have S2 := hide hrs; have F2 : Hid (Fr (Is h) w1 w2) := ⟨hfr.os, hfr.tape, hfr.output, hfr.size, hfr.block⟩; clear hrs hfr))
  all_goals (try go_wp2)
  all_goals go_ret
  all_goals
    have q := (P0.out _).next R1.out F1.out S2.out F2.out
    exact ⟨rfl, x.2.1, x.2.2, ⟨q.1, ((Fr.refl (Two g h) w).alloc _).ts q.2⟩, HO.out⟩

set_option maxRecDepth 100000 in
set_option maxHeartbeats 800000 in
theorem oneElse (k : Int) (h0 : (k == 0) = false) (h1 : (k == 1) = false) (h2 : (k == 2) = false) (h3 : (k == 3) = false) (h4 : (k == 4) = false) (h5 : (k == 5) = false) : Calls Try.prog 26 #[.pointer (some ⟨g, 0, none⟩), .pointer (some ⟨h, 0, none⟩), .agg #[.int .i64 k, .int .i64 n]] w (OneRet w B g h bs e) := by
  have P0 : Hid (∀ t, Pair (w.alloc (.cells #[.int .i64 k, .int .i64 n] t)) B g h bs a e) := fun t => p.fr0 ((Fr.refl _ _).alloc _)
  clear p
  go_enter Try.func26, Try.ntmps26
  go_wp2
  go_ret
  exact ⟨rfl, a, e, ⟨P0.out _, (Fr.refl (Two g h) w).alloc _⟩, fun _ => rfl⟩
end
end Go.Proofs.Ytpcoadbbngmpbaa
