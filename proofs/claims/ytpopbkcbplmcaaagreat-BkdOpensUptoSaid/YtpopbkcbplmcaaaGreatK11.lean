/- Several texts in one: BkOl, SlEq, BkCl. -/
import Derived.Test.YtpopbkcbplmcaaaGreatK10
import Derived.RangeFuncLeaves
import Derived.Shelf.Abstract
import Derived.RecoverIn
import Derived.TacticsInMore
import Derived.BigQuiet
namespace Go.Proofs.YtpopbkcbplmcaaaGreat
set_option linter.unusedVariables false
set_option linter.unusedSimpArgs false
open Go.RowKit

/-- the bounds of points. -/
def lowsB (dims : Nat) (l : List Pt) : List Int := if l = [] then [] else (List.range dims).map fun d => lowP d l ((l.getD 0 noPt).2.getD d 0)
def highsB (dims : Nat) (l : List Pt) : List Int := if l = [] then [] else (List.range dims).map fun d => highP d l ((l.getD 0 noPt).2.getD d 0)
theorem lowsB_perm {dims : Nat} {l m : List Pt} (h : l.Perm m) : lowsB dims l = lowsB dims m := by
  unfold lowsB
  by_cases h0 : l = []
  · subst h0; rw [List.nil_perm.1 h]
  · have h1 : m ≠ [] := fun e => h0 (by subst e; exact List.perm_nil.1 h)
    rw [if_neg h0, if_neg h1]
    exact List.map_congr_left fun d _ => lowP_perm h (List.length_pos_iff.2 h0)
theorem highsB_perm {dims : Nat} {l m : List Pt} (h : l.Perm m) : highsB dims l = highsB dims m := by
  unfold highsB
  by_cases h0 : l = []
  · subst h0; rw [List.nil_perm.1 h]
  · have h1 : m ≠ [] := fun e => h0 (by subst e; exact List.perm_nil.1 h)
    rw [if_neg h0, if_neg h1]
    exact List.map_congr_left fun d _ => highP_perm h (List.length_pos_iff.2 h0)
/-- a tree at hand. -/
structure TrM (w : World) (base gT dims : Nat) (l : List Pt) : Prop where
  ex : ∃ gn vlo vhi, w.heap[gT]? = some (.cells #[.int .i64 (dims : Nat), .int .i64 (l.length : Nat), .pointer (some ⟨gn, 0, none⟩), vlo, vhi] 43 (0, 0)) ∧ TreeM w (fun k => base ≤ k ∧ k < w.heap.size) (treeT dims l) gn ∧
    Own w base 2 1 vlo (lowsB dims l).length (iz .i64 (lowsB dims l)) ∧ Own w base 2 1 vhi (highsB dims l).length (iz .i64 (highsB dims l))
  lo : base ≤ gT
theorem TrM.fr {S : Nat → Prop} {w w' : World} {base gT dims : Nat} {l : List Pt} (h : TrM w base gT dims l) (f : Fr S w w') (hS : ∀ k, S k → k < base) : TrM w' base gT dims l := by
  obtain ⟨gn, vlo, vhi, q1, q2, q3, q4⟩ := h.ex
  have hS' : ∀ k, base ≤ k → ¬ S k := fun k h1 h2 => by have := hS k h2; omega
  exact ⟨⟨gn, vlo, vhi, f.blk q1 (hS' gT h.lo), (TreeM.fr f (fun k hk => hS' k hk.1) q2).mono fun k hk => ⟨hk.1, by have := f.size; omega⟩, q3.fr f (fun k hk => hS' k (q3.lt k hk).1), q4.fr f (fun k hk => hS' k (q4.lt k hk).1)⟩, h.lo⟩
theorem TrM.fr0 {w w' : World} {base gT dims : Nat} {l : List Pt} (h : TrM w base gT dims l) (f : Fr No w w') : TrM w' base gT dims l := h.fr f (fun _ h => h.elim)
/-- two rows of points of one form. -/
theorem isB_two {bs : List UInt8} {dims dims' : Nat} {l l' : List Pt} (h : IsB bs dims l) (h' : IsB bs dims' l') : dims = dims' ∧ l.Perm l' := by
  obtain ⟨h1, _, h2, _⟩ := openI_uniq h.openI h'.openI
  subst h1
  exact ⟨rfl, (flatT_perm dims _ l rfl).symm.trans (by rw [h2]; exact flatT_perm dims _ l' rfl)⟩
theorem TrM.perm {w : World} {base gT dims : Nat} {l l' : List Pt} (h : TrM w base gT dims l) (hp : l.Perm l') (ht : treeT dims l = treeT dims l') : TrM w base gT dims l' := by
  obtain ⟨gn, vlo, vhi, q1, q2, q3, q4⟩ := h.ex
  rw [hp.length_eq] at q1
  rw [ht] at q2
  rw [lowsB_perm hp] at q3
  rw [highsB_perm hp] at q4
  exact ⟨⟨gn, vlo, vhi, q1, q2, q3, q4⟩, h.lo⟩
def BOpP (w : World) (bs : List UInt8) (en : Ending) (w' : World) : Prop :=
  ∃ (p : Option Addr) (e : Int), en = .returned (.tuple #[.pointer p, .int .i64 e]) ∧ Fr No w w' ∧
    ((∃ dims l gT, IsB bs dims l ∧ p = some ⟨gT, 0, none⟩ ∧ e = 0 ∧ TrM w' w.heap.size gT dims l) ∨ ((∀ dims l, ¬ IsB bs dims l) ∧ p = none ∧ e = 20))
/-- what a form is opened as. -/
theorem BOpP.yes {w w' : World} {bs : List UInt8} {en : Ending} {dims : Nat} {l : List Pt} (h : BOpP w bs en w') (hb : IsB bs dims l) : ∃ gT, en = .returned (.tuple #[.pointer (some ⟨gT, 0, none⟩), .int .i64 0]) ∧ Fr No w w' ∧ TrM w' w.heap.size gT dims l := by
  obtain ⟨p, e, h1, h2, ⟨dims', l', gT, h3, rfl, rfl, h4⟩ | ⟨h3, _⟩⟩ := h
  · obtain ⟨q1, _, q2, _⟩ := openI_uniq h3.openI hb.openI
    obtain ⟨_, q3⟩ := isB_two h3 hb
    subst q1
    exact ⟨gT, h1, h2, h4.perm q3 q2⟩
  · exact absurd hb (h3 dims l)
theorem BOpP.no {w w' : World} {bs : List UInt8} {en : Ending} (h : BOpP w bs en w') (hb : ∀ dims l, ¬ IsB bs dims l) : en = .returned (.tuple #[.pointer none, .int .i64 20]) ∧ Fr No w w' := by
  obtain ⟨p, e, h1, h2, ⟨dims', l', gT, h3, rfl, rfl, h4⟩ | ⟨h3, rfl, rfl⟩⟩ := h
  · exact absurd h3 (hb dims' l')
  · exact ⟨h1, h2⟩

def chainBR : List PanicEntry := [{ v := .iface 51 (.agg #[]), recovered := true }]
set_option maxRecDepth 100000 in
theorem brec_bad (n b1 b2 : Nat) (v1 v2 : Value) (w : World) (hne : b1 ≠ b2) (h1 : w.cell? ⟨b1, 0, none⟩ = some v1) (h2 : w.cell? ⟨b2, 0, none⟩ = some v2) (z1 : w.frozen? ⟨b1, 0, none⟩ = false) (z2 : w.frozen? ⟨b2, 0, none⟩ = false) :
    CallsDIn Fence.wide n Tryz.prog 19 #[.pointer (some ⟨b1, 0, none⟩), .pointer (some ⟨b2, 0, none⟩)] (.panicking chainB) w fun e u' w' =>
      e = .returned (.tuple #[]) ∧ u' = .panicking chainBR ∧ w' = ((w.alloc (.cells #[] 51)).setCell ⟨b1, 0, none⟩ (.pointer none)).setCell ⟨b2, 0, none⟩ (.int .i64 20) := by
  refine callsDIn_of_wpSIn Tryz.func19 rfl trivial fun c₀ cs hu => ?_
  simp only [Tryz.ntmps19, List.size_toArray, List.length_cons, List.length_nil, Nat.reduceAdd, Nat.reduceSub, Array.replicate_succ, Array.replicate_zero, List.push_toArray, List.append_toArray, List.nil_append, List.cons_append]
  apply wpSIn_seq
  apply wpSIn_region
  simp [wpOpsSIn, go_sem, recoverD, hu, chainB, Exit.thenS]
  refine wpSIn_of_wpIn rfl ?_
  have a1 : (w.alloc (.cells #[] 51)).cell? ⟨b1, 0, none⟩ = some v1 := ((Fr.refl No w).alloc _).cell h1 (fun h => h)
  have a2 : (w.alloc (.cells #[] 51)).cell? ⟨b2, 0, none⟩ = some v2 := ((Fr.refl No w).alloc _).cell h2 (fun h => h)
  have y1 : (w.alloc (.cells #[] 51)).frozen? ⟨b1, 0, none⟩ = false := by
    unfold World.cell? at h1
    simp only [World.frozen?] at z1 ⊢
    cases hb : w.heap[b1]? with
    | none => rw [hb] at h1; simp at h1
    | some o => rw [((Fr.refl No w).alloc (.cells #[] 51)).blk hb (fun h => h)]; rw [hb] at z1; exact z1
  have y2 : (w.alloc (.cells #[] 51)).frozen? ⟨b2, 0, none⟩ = false := by
    unfold World.cell? at h2
    simp only [World.frozen?] at z2 ⊢
    cases hb : w.heap[b2]? with
    | none => rw [hb] at h2; simp at h2
    | some o => rw [((Fr.refl No w).alloc (.cells #[] 51)).blk hb (fun h => h)]; rw [hb] at z2; exact z2
  have hta : ∀ W : World, (Instr.typeAssert (.iface 51 (.agg #[])) 20 51 true).run Tryz.prog W = .ok (.tuple #[.agg #[], .bool true]) W := fun W => by kernel_rfl
  have a3 : ((w.alloc (.cells #[] 51)).setCell ⟨b1, 0, none⟩ (.pointer none)).cell? ⟨b2, 0, none⟩ = some v2 := (World.cell?_setCell_other _ ⟨b1, 0, none⟩ ⟨b2, 0, none⟩ _ (by intro h; injection h; exact hne (by assumption))).trans a2
  clear h1 h2 z1 z2
  gi_wp2
  exact ⟨rfl, _, rfl, _, results_none rfl _ _ _, rfl, rfl, rfl⟩
set_option maxRecDepth 100000 in
theorem brec_ok (n b1 b2 : Nat) (w : World) :
    CallsDIn Fence.wide n Tryz.prog 19 #[.pointer (some ⟨b1, 0, none⟩), .pointer (some ⟨b2, 0, none⟩)] .returning w fun e u' w' =>
      e = .returned (.tuple #[]) ∧ u' = .returning ∧ w' = w.alloc (.cells #[] 51) := by
  refine callsDIn_of_wpSIn Tryz.func19 rfl trivial fun c₀ cs hu => ?_
  simp only [Tryz.ntmps19, List.size_toArray, List.length_cons, List.length_nil, Nat.reduceAdd, Nat.reduceSub, Array.replicate_succ, Array.replicate_zero, List.push_toArray, List.append_toArray, List.nil_append, List.cons_append]
  apply wpSIn_seq
  apply wpSIn_region
  simp [wpOpsSIn, go_sem, recoverD, hu, Exit.thenS]
  refine wpSIn_of_wpIn rfl ?_
  have hta : ∀ W : World, (Instr.typeAssert .nilIface 20 51 true).run Tryz.prog W = .ok (.tuple #[.agg #[], .bool false]) W := fun W => by kernel_rfl
  gi_wp2
  cases c₀
  simp only at hu
  subst hu
  exact ⟨rfl, _, rfl, _, results_none rfl _ _ _, rfl, rfl, rfl⟩
def clB (b1 b2 : Nat) : Deferred := { target := .fn (.func 19) #[.pointer (some ⟨b1, 0, none⟩), .pointer (some ⟨b2, 0, none⟩)], args := #[] }
theorem bleave_bad {n : Nat} {tmps : Array Value} {w W : World} {bs : List UInt8} {b1 b2 : Nat} {v1 v2 : Value} (ht2 : tmps[2]? = some (.pointer (some ⟨b1, 0, none⟩))) (ht3 : tmps[3]? = some (.pointer (some ⟨b2, 0, none⟩))) (hne : b1 ≠ b2) (hb1 : w.heap.size ≤ b1) (hb2 : w.heap.size ≤ b2)
    (h1 : W.heap[b1]? = some (.cells #[v1] 23 (0, 0))) (h2 : W.heap[b2]? = some (.cells #[v2] 32 (0, 0))) (hF : Fr No w W) (hno : ∀ dims l, ¬ IsB bs dims l) :
    LeavesInM Fence.wide n Tryz.prog Tryz.f10 tmps (BOpP w bs) [clB b1 b2] (.panicking chainB) W := by
  have c1 : W.cell? ⟨b1, 0, none⟩ = some v1 := cell_of_row _ _ 0 _ _ _ h1
  have c2 : W.cell? ⟨b2, 0, none⟩ = some v2 := cell_of_row _ _ 0 _ _ _ h2
  have z1 : W.frozen? ⟨b1, 0, none⟩ = false := frozen_of_row _ _ _ _ _ h1
  have z2 : W.frozen? ⟨b2, 0, none⟩ = false := frozen_of_row _ _ _ _ _ h2
  have eg : ∀ args w, (callFunc 19 args).run Tryz.prog w = .ok (.enter 19 args) w := enters_of Tryz.func19 (by kernel_rfl) rfl
  refine ⟨by simp, .inr ⟨(by intro h; cases h), _, _, 19, #[.pointer (some ⟨b1, 0, none⟩), .pointer (some ⟨b2, 0, none⟩)], rfl, by simp [clB, invoke, go_sem, eg], (fun _ _ => trivial), ?_⟩⟩
  refine (brec_bad (n - 1) b1 b2 v1 v2 W hne c1 c2 z1 z2).mono ?_
  rintro e u' w'' ⟨rfl, rfl, rfl⟩
  show LeavesIn _ _ _ _ _ _ _ _ _
  have a1 : (((W.alloc (.cells #[] 51)).setCell ⟨b1, 0, none⟩ (.pointer none)).setCell ⟨b2, 0, none⟩ (.int .i64 20)).cell? ⟨b1, 0, none⟩ = some (.pointer none) :=
    (World.cell?_setCell_other _ ⟨b2, 0, none⟩ ⟨b1, 0, none⟩ _ (by intro h; injection h; exact hne (by rename_i h _ _; exact h.symm))).trans (World.cell?_setCell_same' _ ⟨b1, 0, none⟩ _ (by rw [((Fr.refl No W).alloc _).cell c1 (fun h => h)]; rfl))
  have a2 : (((W.alloc (.cells #[] 51)).setCell ⟨b1, 0, none⟩ (.pointer none)).setCell ⟨b2, 0, none⟩ (.int .i64 20)).cell? ⟨b2, 0, none⟩ = some (.int .i64 20) :=
    World.cell?_setCell_same' _ ⟨b2, 0, none⟩ _ (by rw [World.cell?_setCell_other _ ⟨b1, 0, none⟩ ⟨b2, 0, none⟩ _ (by intro h; injection h; exact hne (by assumption)), ((Fr.refl No W).alloc _).cell c2 (fun h => h)]; rfl)
  have hFe : Fr No w (((W.alloc (.cells #[] 51)).setCell ⟨b1, 0, none⟩ (.pointer none)).setCell ⟨b2, 0, none⟩ (.int .i64 20)) := ((hF.alloc _).setCell (p := ⟨b1, 0, none⟩) (fun h => by have h : b1 < w.heap.size := h; omega) _).setCell (p := ⟨b2, 0, none⟩) (fun h => by have h : b2 < w.heap.size := h; omega) _
  generalize ((W.alloc (.cells #[] 51)).setCell ⟨b1, 0, none⟩ (.pointer none)).setCell ⟨b2, 0, none⟩ (.int .i64 20) = Z at a1 a2 hFe
  refine ⟨.tuple #[.pointer none, .int .i64 20], ?_, none, 20, rfl, hFe, .inr ⟨hno, rfl, rfl⟩⟩
  simp [results, Tryz.f10, go_sem, ht2, ht3, a1, a2]
theorem bleave_ok {n : Nat} {tmps : Array Value} {w W : World} {bs : List UInt8} {b1 b2 gT dims : Nat} {l : List Pt} (ht2 : tmps[2]? = some (.pointer (some ⟨b1, 0, none⟩))) (ht3 : tmps[3]? = some (.pointer (some ⟨b2, 0, none⟩)))
    (h1 : W.heap[b1]? = some (.cells #[.pointer (some ⟨gT, 0, none⟩)] 23 (0, 0))) (h2 : W.heap[b2]? = some (.cells #[.int .i64 0] 32 (0, 0))) (hF : Fr No w W) (hok : IsB bs dims l) (hst : TrM W w.heap.size gT dims l) :
    LeavesInM Fence.wide n Tryz.prog Tryz.f10 tmps (BOpP w bs) [clB b1 b2] .returning W := by
  have eg : ∀ args w, (callFunc 19 args).run Tryz.prog w = .ok (.enter 19 args) w := enters_of Tryz.func19 (by kernel_rfl) rfl
  refine ⟨by simp, .inr ⟨(by intro h; cases h), _, _, 19, #[.pointer (some ⟨b1, 0, none⟩), .pointer (some ⟨b2, 0, none⟩)], rfl, by simp [clB, invoke, go_sem, eg], (fun _ _ => trivial), ?_⟩⟩
  refine (brec_ok (n - 1) b1 b2 W).mono ?_
  rintro e u' w'' ⟨rfl, rfl, rfl⟩
  show LeavesIn _ _ _ _ _ _ _ _ _
  have a1 : (W.alloc (.cells #[] 51)).cell? ⟨b1, 0, none⟩ = some (.pointer (some ⟨gT, 0, none⟩)) := ((Fr.refl No W).alloc _).cell (cell_of_row _ _ 0 _ _ _ h1) (fun h => h)
  have a2 : (W.alloc (.cells #[] 51)).cell? ⟨b2, 0, none⟩ = some (.int .i64 0) := ((Fr.refl No W).alloc _).cell (cell_of_row _ _ 0 _ _ _ h2) (fun h => h)
  have hFe : Fr No w (W.alloc (.cells #[] 51)) := hF.alloc _
  have hSe := hst.fr0 ((Fr.refl No W).alloc (.cells #[] 51))
  generalize W.alloc (.cells #[] 51) = Z at a1 a2 hFe hSe
  refine ⟨.tuple #[.pointer (some ⟨gT, 0, none⟩), .int .i64 0], ?_, some ⟨gT, 0, none⟩, 0, rfl, hFe, .inl ⟨dims, l, gT, hok, rfl, rfl, hSe⟩⟩
  simp [results, Tryz.f10, go_sem, ht2, ht3, a1, a2]
end Go.Proofs.YtpopbkcbplmcaaaGreat
namespace Go.Proofs.YtpopbkcbplmcaaaGreat
set_option linter.unusedVariables false
set_option linter.unusedSimpArgs false
open Go.RowKit

set_option maxRecDepth 100000 in
set_option maxHeartbeats 800000 in
theorem sleq_any (A B : Option Addr) (n c m d b1 b2 : Nat) (xs ys : List UInt8) (w : World) (hx : xs.length = n) (hy : ys.length = m) (hn : n ≤ c) (hc : c ≤ maxLen) (hm : m ≤ d) (hd : d ≤ maxLen) (hr : Rd w b1 A (by8 xs)) (hs : Rd w b2 B (by8 ys)) :
    Calls Tryz.prog 25 #[.slice A n c, .slice B m d] w (RetQ (.bool (decide (xs = ys))) w) := by
  unfold maxLen at hc hd
  have HX := hide hx
  have HY := hide hy
  have HR := hide hr
  have HS := hide hs
  clear hx hy hr hs
  by_cases hnm : n = m
  · subst hnm
    have hb : ((n : Int) != n) = false := by simp
    go_enter Tryz.func25, Tryz.ntmps25
    go_wp2
    go_loopw [13] (fun i wr => ∃ k nq : Nat, k ≤ n ∧ i = .int .i64 k ∧ wr = w.drewN nq ∧ Hid (xs.take k = ys.take k)) (fun i _ => n - (intOf i).toNat)
    case atStart => exact ⟨0, 0, by omega, rfl, rfl, hide rfl⟩
    case round =>
      obtain ⟨k, nq, hk, rfl, rfl, HT⟩ := hrel
      by_cases hlt : k < n
      · have h1 : k < xs.length := by rw [HX.out]; exact hlt
        have h2 : k < ys.length := by rw [HY.out]; exact hlt
        obtain ⟨ad, rfl, _, hcell⟩ := HR.out.byte h1
        obtain ⟨bd, rfl, _, hcell2⟩ := HS.out.byte h2
        have HE := hide (fun he => take_succ_eq h1 h2 HT.out he)
        have HN := hide (show xs.getD k 0 ≠ ys.getD k 0 → xs ≠ ys from fun h e => h (by rw [e]))
        clear h1 h2
        generalize xs.getD k 0 = x at hcell HE HN
        generalize ys.getD k 0 = y at hcell2 HE HN
        by_cases he : x = y
        · subst he
          have HE' := hide (HE.out rfl)
          clear HE
          have hb2 : ((x.toNat : Int) != x.toNat) = false := by simp
          go_wp2
          go_quiet (fail)
          go_wp2
          go_round
          case rel => exact ⟨k + 1, _, by omega, by go_num, rfl, HE'⟩
          case measure => simp [intOf]; omega
        · have hb2 : ((x.toNat : Int) != y.toNat) = true := by
            simp
            intro h
            exact he (UInt8.toNat_inj.1 (by omega))
          go_wp2
          go_quiet (fail)
          go_wp2
          go_ret
          exact ⟨by simp [HN.out he], _, World.drewN_drewN _ _ _⟩
      · have HF := hide (show xs = ys by
          have h := HT.out
          rwa [List.take_of_length_le (by rw [HX.out]; omega), List.take_of_length_le (by rw [HY.out]; omega)] at h)
        go_wp2
        go_ret
        exact ⟨by simp [HF.out], _, rfl⟩
  · have hb : ((n : Int) != m) = true := by simp; omega
    have HF := hide (show xs ≠ ys from fun e => hnm (by rw [← HX.out, ← HY.out, e]))
    go_enter Tryz.func25, Tryz.ntmps25
    go_wp2
    go_ret
    exact ⟨by simp [HF.out], 0, rfl⟩
end Go.Proofs.YtpopbkcbplmcaaaGreat
namespace Go.Proofs.YtpopbkcbplmcaaaGreat
set_option linter.unusedVariables false
set_option linter.unusedSimpArgs false
open Go.RowKit

def GivesI (w : World) (xs : List Int) (en : Ending) (w' : World) : Prop := ∃ v, en = .returned v ∧ Own w' w.heap.size 2 1 v xs.length (iz .i64 xs) ∧ Fr No w w'
theorem rd_iz_nil {w : World} {B : Nat} {xs : List Int} (h : Rd w B none (iz .i64 xs)) : xs = [] := by
  cases xs with
  | nil => rfl
  | cons x r => obtain ⟨_, h, _⟩ := h 0 (.int .i64 x) rfl; cases h
theorem iz_onec (xs : List Int) : ∀ u ∈ iz .i64 xs, u.oneCell' = true := by
  intro u hu
  obtain ⟨x, _, rfl⟩ := List.mem_map.1 hu
  rfl
set_option maxRecDepth 100000 in
set_option maxHeartbeats 400000 in
theorem cloneI_any (A : Option Addr) (n c B : Nat) (xs : List Int) (w : World) (hl : xs.length = n) (hn : n ≤ c) (hc : c ≤ maxLen) (hb : n ≤ 17592186044416) (hr : Rd w B A (iz .i64 xs)) :
    Calls Tryz.prog 13 #[.slice A n c] w (GivesI w xs) := by
  have HR := hide hr; clear hr
  have HL := hide hl; clear hl
  obtain ⟨i0, hi, hz, hsz, hby⟩ := info_parts Tryz.infoKI64
  cases A with
  | none =>
    have he := fun W => Lib.run_eql_slice_nil (P := Tryz.prog) W 24 2 none n c 0 0 Tryz.underlying24
    go_enter Tryz.func13, Tryz.ntmps13
    go_wp2
    go_ret
    have h0 := rd_iz_nil HR.out
    subst h0
    exact ⟨_, rfl, Own.nil _ _ _ _, Fr.refl _ _⟩
  | some ad =>
    have he := fun W => Lib.run_eql_slice_nil (P := Tryz.prog) W 24 2 (some ad) n c 0 0 Tryz.underlying24
    have HS := hide (Src.ofRd (P := Tryz.prog) (size := 1) (w.alloc (.cells #[] 2)) Tryz.underlying24 (some ad) n c (iz .i64 xs) (by simp [iz, HL.out]) (by omega) (HR.out.fr0 ((Fr.refl _ _).alloc _)) (iz_onec _))
    go_enter Tryz.func13, Tryz.ntmps13
    have b1 : (0 + n) * 8 ≤ 140737488355328 := by omega
    have b2 : 0 + n ≤ maxLen := by unfold maxLen at *; omega
    have b3 : w.heap.size ≤ (w.alloc (.cells #[] 2)).heap.size := by simp
    go_wp2_with (at_builtin; (refine wpList_append_gen _ rfl (.tmp 5) (.tmp 6) 24 24 rfl w.heap.size 2 i0 (.int .i64 0) 1 8 Tryz.underlying24 hi hz hsz hby rfl _ 0 [] rfl (own_empty w 2) _ n (iz .i64 xs) rfl HS.out b1 b2 b3 ?_); intro v' w' hown hfr hat)
    go_ret
    refine ⟨v', rfl, by simpa [HL.out] using hown, ?_⟩
    exact ((Fr.refl No w).alloc _).own hfr (fun g h => .inl (Nat.le_of_eq (Option.some.inj h)))
end Go.Proofs.YtpopbkcbplmcaaaGreat
