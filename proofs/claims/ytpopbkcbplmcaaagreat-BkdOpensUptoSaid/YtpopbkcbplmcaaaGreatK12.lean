/- Several texts in one: BkOt. -/
import Derived.Test.YtpopbkcbplmcaaaGreatK11
import Derived.Deep.RegionHeld3
import Derived.BigRegion
import Derived.RegionTactic
import Derived.Deep.RegionLaw
import Derived.Deep.DeepCutAuto
namespace Go.Proofs.YtpopbkcbplmcaaaGreat
set_option linter.unusedVariables false
set_option linter.unusedSimpArgs false
open Go.RowKit
attribute [local go_sem] Oper.semAt_some

/-- a statement that goes on, and in no other way ends. -/
theorem wp_calm {P : Program} {s : Code} {Q : Exit → Act → World → Prop} {a : Act} {w : World} (h : ∀ K : Act → World → Prop, (∀ a' w', Q .normal a' w' → K a' w') → s.wp P (Exit.then K (fun _ _ _ => False)) a w) : s.wp P Q a w := by
  refine wp_mono (h (Q .normal) (fun _ _ h => h)) ?_
  intro e a' w' hq
  cases e with
  | normal => exact hq
  | _ => exact hq.elim
/-- a statement that goes on, or panics with the frame's two result cells as they were. -/
def QP (K : Act → World → Prop) (B : List PanicEntry → World → Prop) (p1 p2 : Value) (ds : List Deferred) : Exit → Act → World → Prop
  | .normal, a, w => K a w
  | .panic ch, a, w => a.tmps[2]? = some p1 ∧ a.tmps[3]? = some p2 ∧ a.defers = ds ∧ B ch w
  | _, _, _ => False
theorem QP.put {K : Act → World → Prop} {B : List PanicEntry → World → Prop} {p1 p2 : Value} {ds : List Deferred} {c : List PanicEntry} {a : Act} {w : World} {d : Option Tmp} {v : Value} (h2 : d ≠ some 2) (h3 : d ≠ some 3) (h : QP K B p1 p2 ds (.panic c) (a.put d v) w) : QP K B p1 p2 ds (.panic c) a w := by
  cases d with
  | none => exact h
  | some i =>
    obtain ⟨q1, q2, q3, q4⟩ := h
    have e2 : i ≠ 2 := fun e => h2 (by rw [e])
    have e3 : i ≠ 3 := fun e => h3 (by rw [e])
    refine ⟨?_, ?_, q3, q4⟩
    · rw [← q1]
      show a.tmps[2]? = (a.tmps.setIfInBounds i v)[2]?
      rw [Array.getElem?_setIfInBounds_ne (by omega)]
    · rw [← q2]
      show a.tmps[3]? = (a.tmps.setIfInBounds i v)[3]?
      rw [Array.getElem?_setIfInBounds_ne (by omega)]
theorem keptP_perm {dims : Int} {l m : List Pt} (h : l.Perm m) : keptP dims l = keptP dims m := by
  by_cases hm : mayP dims l
  · have hm' := (mayP_perm h).1 hm
    unfold keptP
    rw [if_pos hm, if_pos hm', buildT_perm h]
  · rw [keptP_no hm, keptP_no (fun h2 => hm ((mayP_perm h).2 h2))]
theorem no_open {bs : List UInt8} {dims a1 n a2 : Nat} {e1 e2 : Int} (h1 : sizeS bs 0 0 4 = (dims, a1, e1)) (h2 : sizeS bs a1 e1 1048576 = (n, a2, e2)) (h : ¬ (e2 = 0 ∧ 0 < dims ∧ ∃ t b, nodeR bs dims n a2 = some (t, b) ∧ keptP (dims : Nat) (flatT t) = bs)) : ∀ dims' l, ¬ IsB bs dims' l := by
  intro dims' l hb
  obtain ⟨x1, x2, y1, q1, q2, q3, q4⟩ := hb.openI
  rw [h1] at q1
  injection q1 with z1 z2
  injection z2 with z2 z3
  subst z1 z2 z3
  rw [h2] at q2
  injection q2 with z1 z2
  injection z2 with z2 z3
  subst z1 z2
  refine h ⟨z3, q3, _, _, q4, ?_⟩
  rw [keptP_perm (flatT_perm dims _ l rfl), keptP_yes hb.1]
  exact hb.2.2.symm
theorem yes_open {bs : List UInt8} {dims a1 n a2 b : Nat} {e1 : Int} {t : TreeT} (h1 : sizeS bs 0 0 4 = (dims, a1, e1)) (h2 : sizeS bs a1 e1 1048576 = (n, a2, 0)) (hd : 0 < dims) (hn : nodeR bs dims n a2 = some (t, b)) (hk : keptP (dims : Nat) (flatT t) = bs) : IsB bs dims (flatT t) ∧ treeT dims (flatT t) = t ∧ n = (flatT t).length := by
  have hne : 0 < bs.length := by
    have := size_of (bs := bs) (a := a1) (e := e1) (most := 1048576) (by rw [h2])
    obtain ⟨he, _⟩ := this
    have h3 := size_of (bs := bs) (a := 0) (e := 0) (most := 4) (by rw [h1]; exact he)
    have h4 := pre_le h3.2.2.2.1
    have h5 := (enc_len (sizeS bs 0 0 4).1).1
    omega
  have hm : mayP ((dims : Nat) : Int) (flatT t) := by
    by_cases hm : mayP ((dims : Nat) : Int) (flatT t)
    · exact hm
    · rw [keptP_no hm] at hk
      rw [← hk] at hne
      cases hne
  rw [keptP_yes hm] at hk
  have hb : IsB bs dims (flatT t) := ⟨hm, fun p hp => ((nodeR_is n hn).2 p hp).2.1, hk.symm⟩
  obtain ⟨x1, x2, y1, q1, q2, q3, q4⟩ := hb.openI
  rw [h1] at q1
  injection q1 with z1 z2
  injection z2 with z2 z3
  subst z2 z3
  rw [h2] at q2
  injection q2 with z1 z2
  injection z2 with z2 z3
  subst z2
  rw [← z1, hn] at q4
  injection q4 with q4
  injection q4 with q4 _
  exact ⟨hb, q4.symm, z1⟩
theorem set_getD_self {l : List Int} {q : Nat} {x : Int} (h : q < l.length) : (l.set q x).getD q 0 = x := by simp [List.getD, h]
theorem set_getD_ne {l : List Int} {q d : Nat} {x : Int} (h : d ≠ q) : (l.set q x).getD d 0 = l.getD d 0 := by simp [List.getD, List.getElem?_set, Ne.symm h]
theorem getD_range {dims d : Nat} {f : Nat → Int} (h : d < dims) : ((List.range dims).map f).getD d 0 = f d := by
  simp [List.getD, h]
/-- a point more: the bounds. -/
theorem lows_step {dims k : Nat} {l : List Pt} {L0 P : List Int} (hk : k < l.length) (hP : (l.getD k noPt).2 = P) (hL : L0 = if k = 0 then P else lowsB dims (l.take k)) : ((List.range dims).map fun d => min (L0.getD d 0) (P.getD d 0)) = lowsB dims (l.take (k + 1)) := by
  have hne : l.take (k + 1) ≠ [] := by intro e; have := congrArg List.length e; rw [List.length_take, List.length_nil] at this; omega
  have htk : l.take (k + 1) = l.take k ++ [l.getD k noPt] := by rw [takeP_1 hk]; congr 2; simp [hk]
  unfold lowsB
  rw [if_neg hne]
  refine List.map_congr_left fun d hd => ?_
  rw [List.mem_range] at hd
  have hf : (l.take (k + 1)).getD 0 noPt = l.getD 0 noPt := by
    match l, hk with
    | p :: r, _ => simp
  rw [hf, htk, lowP_snoc, hP]
  by_cases h0 : k = 0
  · subst h0
    rw [if_pos rfl] at hL
    rw [hL, List.take_zero, lowP, hP]
    simp
  · rw [if_neg h0] at hL
    have hne2 : l.take k ≠ [] := by intro e; have := congrArg List.length e; rw [List.length_take, List.length_nil] at this; omega
    have hf2 : (l.take k).getD 0 noPt = l.getD 0 noPt := by
      match l, hk with
      | p :: r, _ => obtain ⟨j, rfl⟩ : ∃ j, k = j + 1 := ⟨k - 1, by omega⟩; simp
    unfold lowsB at hL
    rw [if_neg hne2] at hL
    rw [hL, getD_range hd, hf2]
    split <;> omega
theorem highs_step {dims k : Nat} {l : List Pt} {L0 P : List Int} (hk : k < l.length) (hP : (l.getD k noPt).2 = P) (hL : L0 = if k = 0 then P else highsB dims (l.take k)) : ((List.range dims).map fun d => max (L0.getD d 0) (P.getD d 0)) = highsB dims (l.take (k + 1)) := by
  have hne : l.take (k + 1) ≠ [] := by intro e; have := congrArg List.length e; rw [List.length_take, List.length_nil] at this; omega
  have htk : l.take (k + 1) = l.take k ++ [l.getD k noPt] := by rw [takeP_1 hk]; congr 2; simp [hk]
  unfold highsB
  rw [if_neg hne]
  refine List.map_congr_left fun d hd => ?_
  rw [List.mem_range] at hd
  have hf : (l.take (k + 1)).getD 0 noPt = l.getD 0 noPt := by
    match l, hk with
    | p :: r, _ => simp
  rw [hf, htk, highP_snoc, hP]
  by_cases h0 : k = 0
  · subst h0
    rw [if_pos rfl] at hL
    rw [hL, List.take_zero, highP, hP]
    simp
  · rw [if_neg h0] at hL
    have hne2 : l.take k ≠ [] := by intro e; have := congrArg List.length e; rw [List.length_take, List.length_nil] at this; omega
    have hf2 : (l.take k).getD 0 noPt = l.getD 0 noPt := by
      match l, hk with
      | p :: r, _ => obtain ⟨j, rfl⟩ : ∃ j, k = j + 1 := ⟨k - 1, by omega⟩; simp
    unfold highsB at hL
    rw [if_neg hne2] at hL
    rw [hL, getD_range hd, hf2]
    split <;> omega
theorem lowsB_len {dims : Nat} {l : List Pt} (h : l ≠ []) : (lowsB dims l).length = dims := by unfold lowsB; rw [if_neg h]; simp
theorem highsB_len {dims : Nat} {l : List Pt} (h : l ≠ []) : (highsB dims l).length = dims := by unfold highsB; rw [if_neg h]; simp
theorem take_ne {l : List Pt} {k : Nat} (hk : k < l.length) (h0 : k ≠ 0) : l.take k ≠ [] := by intro e; have := congrArg List.length e; rw [List.length_take, List.length_nil] at this; omega
/-- what Open holds while it reads. -/
structure BO (w W : World) (g gr dims : Nat) (bs : List UInt8) (a : Nat) (e : Int) (v : Value) (ps : List PoL) : Prop where
  fr : Fr No w W
  b1 : W.heap[w.heap.size]? = some (.cells #[.pointer none] 23 (0, 0))
  b2 : W.heap[w.heap.size + 1]? = some (.cells #[.int .i64 0] 32 (0, 0))
  nd : ND W w.heap.size g gr dims bs a e v ps
  hg : w.heap.size + 2 ≤ g
  hgr : w.heap.size + 2 ≤ gr
section
variable {w W W' : World} {g gr dims a : Nat} {e : Int} {bs : List UInt8} {v : Value} {ps : List PoL}
theorem BO.fr0 (h : BO w W g gr dims bs a e v ps) (f : Fr No W W') : BO w W' g gr dims bs a e v ps := ⟨h.fr.tr f, f.blk h.b1 (fun h => h), f.blk h.b2 (fun h => h), h.nd.fr0 f, h.hg, h.hgr⟩
theorem BO.read {a' : Nat} {e' : Int} (h : BO w W g gr dims bs a e v ps) (f : Fr (Is g) W W') (hr : RD W' g bs a' e') : BO w W' g gr dims bs a' e' v ps := by
  have hg := h.hg
  exact ⟨h.fr.trans f (fun i hi e => by have e : i = g := e; omega), f.blk h.b1 (fun e => by have e : w.heap.size = g := e; omega), f.blk h.b2 (fun e => by have e : w.heap.size + 1 = g := e; omega), h.nd.read f hr, hg, h.hgr⟩
theorem BO.bad {n : Nat} {tmps : Array Value} (h : BO w W g gr dims bs a e v ps) (ht2 : tmps[2]? = some (.pointer (some ⟨w.heap.size, 0, none⟩))) (ht3 : tmps[3]? = some (.pointer (some ⟨w.heap.size + 1, 0, none⟩))) (hno : ∀ dims l, ¬ IsB bs dims l) :
    LeavesInM Fence.wide n Tryz.prog Tryz.f10 tmps (BOpP w bs) [clB w.heap.size (w.heap.size + 1)] (.panicking chainB) W :=
  bleave_bad ht2 ht3 (by omega) (Nat.le_refl _) (by omega) h.b1 h.b2 h.fr hno
/-- the dimensions are laid. -/
theorem BO.dim {d : Nat} (h : BO w W g gr 0 bs a e (.slice none 0 0) []) : BO w (W.setCell ⟨gr, 1, none⟩ (.int .i64 (d : Nat))) g gr d bs a e (.slice none 0 0) [] := by
  have hgr := h.hgr
  have hrow := h.nd.row
  have f2 : Fr (Is gr) W (W.setCell ⟨gr, 1, none⟩ (.int .i64 (d : Nat))) := (Fr.refl (Is gr) W).setCell (p := ⟨gr, 1, none⟩) (fun _ => rfl) _
  have o2 : ∀ t, t ≠ 58 → Off (Is gr) W t := fun t ht => off_is hrow ht
  refine ⟨h.fr.trans f2 (fun i hi e => by have e : i = gr := e; omega), f2.blk h.b1 (o2 _ (by decide) _ _ _ h.b1), f2.blk h.b2 (o2 _ (by decide) _ _ _ h.b2), ⟨h.nd.rd.offT f2 (o2 _ (by decide)) (o2 _ (by decide)), ?_, Own.nil _ _ _ _, fun p hp => by cases hp⟩, h.hg, hgr⟩
  simp [World.setCell, Array.getElem?_modify, hrow, Array.set!]
end
/-- what Open holds once the nodes are read. -/
structure BT (w W : World) (g gr gT gx dims n cv : Nat) (Av : Option Addr) (l : List Pt) (t : TreeT) (vlo vhi : Value) (lo hi : List Int) : Prop where
  fr : Fr No w W
  b1 : W.heap[w.heap.size]? = some (.cells #[.pointer (some ⟨gT, 0, none⟩)] 23 (0, 0))
  b2 : W.heap[w.heap.size + 1]? = some (.cells #[.int .i64 0] 32 (0, 0))
  row : W.heap[gr]? = some (.cells #[.pointer (some ⟨g, 0, none⟩), .int .i64 (dims : Nat), .slice Av l.length cv] 58 (0, 0))
  tr : W.heap[gT]? = some (.cells #[.int .i64 (dims : Nat), .int .i64 (n : Nat), .pointer (some ⟨gx, 0, none⟩), vlo, vhi] 43 (0, 0))
  hT : w.heap.size + 2 ≤ gT
  hgr : gr < gT
  tm : TreeM W (fun k => w.heap.size + 2 ≤ k ∧ k < gT) t gx
  rd : RdPo W gT Av l
  lo : Own W gT 2 1 vlo lo.length (iz .i64 lo)
  hi : Own W gT 2 1 vhi hi.length (iz .i64 hi)
  ap : ∀ k, vlo.ownBlock = some k → vhi.ownBlock ≠ some k
  cv : l.length ≤ cv ∧ cv ≤ maxLen
section
variable {w W W' : World} {g gr gT gx dims n cv : Nat} {Av : Option Addr} {l : List Pt} {t : TreeT} {vlo vhi : Value} {lo hi : List Int}
theorem BT.fr0 (h : BT w W g gr gT gx dims n cv Av l t vlo vhi lo hi) (f : Fr No W W') : BT w W' g gr gT gx dims n cv Av l t vlo vhi lo hi :=
  ⟨h.fr.tr f, f.blk h.b1 (fun h => h), f.blk h.b2 (fun h => h), f.blk h.row (fun h => h), f.blk h.tr (fun h => h), h.hT, h.hgr, TreeM.fr f (fun _ _ h => h) h.tm, h.rd.fr0 f, h.lo.fr0 f, h.hi.fr0 f, h.ap, h.cv⟩
theorem BT.bad {fr : Nat} {bs : List UInt8} {tmps : Array Value} (h : BT w W g gr gT gx dims n cv Av l t vlo vhi lo hi) (ht2 : tmps[2]? = some (.pointer (some ⟨w.heap.size, 0, none⟩))) (ht3 : tmps[3]? = some (.pointer (some ⟨w.heap.size + 1, 0, none⟩))) (hno : ∀ dims l, ¬ IsB bs dims l) :
    LeavesInM Fence.wide fr Tryz.prog Tryz.f10 tmps (BOpP w bs) [clB w.heap.size (w.heap.size + 1)] (.panicking chainB) W :=
  bleave_bad ht2 ht3 (by omega) (Nat.le_refl _) (by omega) h.b1 h.b2 h.fr hno
end
section
variable {w W W' : World} {g gr gT gx dims n cv : Nat} {Av : Option Addr} {l : List Pt} {t : TreeT} {vlo vhi vlo' vhi' : Value} {lo hi lo' hi' : List Int}
/-- the bounds are written. -/
theorem BT.upd {S : Nat → Prop} (h : BT w W g gr gT gx dims n cv Av l t vlo vhi lo hi) (f : Fr S W W') (hS : ∀ k, S k → gT < k) (h1 : Own W' gT 2 1 vlo' lo'.length (iz .i64 lo')) (h2 : Own W' gT 2 1 vhi' hi'.length (iz .i64 hi')) (h3 : ∀ k, vlo'.ownBlock = some k → vhi'.ownBlock ≠ some k) (h4 : vlo' = vlo ∧ vhi' = vhi) :
    BT w W' g gr gT gx dims n cv Av l t vlo' vhi' lo' hi' := by
  obtain ⟨rfl, rfl⟩ := h4
  have hT := h.hT
  have hgr := h.hgr
  have hn : ∀ k, k ≤ gT → ¬ S k := fun k hk hs => by have := hS k hs; omega
  exact ⟨h.fr.trans f (fun i hi hs => hn i (by omega) hs), f.blk h.b1 (hn _ (by omega)), f.blk h.b2 (hn _ (by omega)), f.blk h.row (hn _ (by omega)), f.blk h.tr (hn _ (Nat.le_refl _)), hT, hgr, TreeM.fr f (fun k hk => hn k (by omega)) h.tm, h.rd.fr f (fun k hk => hn k (by omega)), h1, h2, h3, h.cv⟩
theorem BT.lot (h : BT w W g gr gT gx dims n cv Av l t vlo vhi lo hi) : (∀ k, vlo.ownBlock = some k → gT < k) ∧ (∀ k, vhi.ownBlock = some k → gT < k) := by
  refine ⟨fun k hk => ?_, fun k hk => ?_⟩
  · have h1 := (h.lo.lt k hk).1
    have h2 : k ≠ gT := fun e => h.lo.ne_blk (by rw [← e]; exact hk) h.tr (by decide)
    omega
  · have h1 := (h.hi.lt k hk).1
    have h2 : k ≠ gT := fun e => h.hi.ne_blk (by rw [← e]; exact hk) h.tr (by decide)
    omega
/-- the first point's numbers are taken. -/
theorem BT.clones {W2 W3 : World} {P : List Int} (h : BT w W g gr gT gx dims n cv Av l t vlo vhi lo hi) (f2 : Fr No W W2) (o1 : Own W2 W.heap.size 2 1 vlo' P.length (iz .i64 P)) (f3 : Fr No W2 W3) (o2 : Own W3 W2.heap.size 2 1 vhi' P.length (iz .i64 P)) :
    BT w ((W3.setCell ⟨gT, 3, none⟩ vlo').setCell ⟨gT, 4, none⟩ vhi') g gr gT gx dims n cv Av l t vlo' vhi' P P := by
  have hT := h.hT
  have hgr := h.hgr
  have h3 := (h.fr0 f2).fr0 f3
  have hlt : gT < W.heap.size := (Array.getElem?_eq_some_iff.1 h.tr).1
  have f : Fr (Is gT) W3 ((W3.setCell ⟨gT, 3, none⟩ vlo').setCell ⟨gT, 4, none⟩ vhi') := ((Fr.refl (Is gT) W3).setCell (p := ⟨gT, 3, none⟩) (fun _ => rfl) vlo').setCell (p := ⟨gT, 4, none⟩) (fun _ => rfl) vhi'
  have hn : ∀ k, k ≠ gT → ¬ Is gT k := fun k hk e => hk e
  refine ⟨h3.fr.trans f (fun i hi e => by have e : i = gT := e; omega), f.blk h3.b1 (hn _ (by omega)), f.blk h3.b2 (hn _ (by omega)), f.blk h3.row (hn _ (by omega)), ?_, hT, hgr, TreeM.fr f (fun k hk => hn k (by omega)) h3.tm, h3.rd.fr f (fun k hk => hn k (by omega)), ?_, ?_, ?_, h.cv⟩
  · have := h3.tr
    simp [World.setCell, Array.getElem?_modify, this, Array.set!]
  · exact ((o1.fr0 f3).lower (Nat.le_of_lt hlt)).fr f (fun k hk e => by have e : k = gT := e; have := (o1.lt k hk).1; omega)
  · exact (o2.lower (by have := f2.size; omega)).fr f (fun k hk e => by have e : k = gT := e; have := (o2.lt k hk).1; have := f2.size; omega)
  · intro k h1 h2
    have a1 := (o1.lt k h1).2
    have a2 := (o2.lt k h2).1
    omega
/-- a number of each is written. -/
theorem BT.put {q m m' c1 c2 ga gb : Nat} {x y : Int} (h : BT w W g gr gT gx dims n cv Av l t (.slice (some ⟨ga, 0, none⟩) m c1) (.slice (some ⟨gb, 0, none⟩) m' c2) lo hi) (h1 : lo.length = m) (h2 : hi.length = m') (hq : q < m) (hq' : q < m') :
    BT w ((W.setCell ⟨ga, q, none⟩ (.int .i64 x)).setCell ⟨gb, q, none⟩ (.int .i64 y)) g gr gT gx dims n cv Av l t (.slice (some ⟨ga, 0, none⟩) m c1) (.slice (some ⟨gb, 0, none⟩) m' c2) (lo.set q x) (hi.set q y) := by
  have hl := h.lo
  have hh := h.hi
  rw [h1] at hl
  rw [h2] at hh
  have hab : ga ≠ gb := fun e => h.ap ga rfl (by rw [e]; rfl)
  obtain ⟨ga', ea, _, _, _, _, p1⟩ := hl.store hq
  injection ea with ea
  injection ea with ea _ _
  subst ea
  obtain ⟨gb', eb, _, _, _, _, p2⟩ := hh.store hq'
  injection eb with eb
  injection eb with eb _ _
  subst eb
  have f1 : Fr (Is ga) W (W.setCell ⟨ga, q, none⟩ (.int .i64 x)) := (Fr.refl (Is ga) W).setCell (p := ⟨ga, q, none⟩) (fun _ => rfl) _
  have hh1 : Own (W.setCell ⟨ga, q, none⟩ (.int .i64 x)) gT 2 1 (.slice (some ⟨gb, 0, none⟩) m' c2) m' (iz .i64 hi) := hh.fr f1 (fun k hk e => by
    have e : k = ga := e
    have hk : gb = k := Option.some.inj hk
    exact hab (e ▸ hk.symm))
  obtain ⟨gb', eb, _, _, _, _, p3⟩ := hh1.store hq'
  injection eb with eb
  injection eb with eb _ _
  subst eb
  have f2 : Fr (Is gb) (W.setCell ⟨ga, q, none⟩ (.int .i64 x)) ((W.setCell ⟨ga, q, none⟩ (.int .i64 x)).setCell ⟨gb, q, none⟩ (.int .i64 y)) := (Fr.refl (Is gb) _).setCell (p := ⟨gb, q, none⟩) (fun _ => rfl) _
  have f : Fr (fun k => k = ga ∨ k = gb) W ((W.setCell ⟨ga, q, none⟩ (.int .i64 x)).setCell ⟨gb, q, none⟩ (.int .i64 y)) := (f1.mono (fun i _ e => .inl e)).trans f2 (fun i _ e => .inr e)
  obtain ⟨t1, t2⟩ := h.lot
  refine h.upd f (fun k hk => ?_) ?_ ?_ h.ap ⟨rfl, rfl⟩
  · rcases hk with rfl | rfl
    · exact t1 _ rfl
    · exact t2 _ rfl
  · have := (p1 (.int .i64 x)).fr f2 (fun k hk e => by
      have e : k = gb := e
      have hk : ga = k := Option.some.inj hk
      exact hab (hk.trans e))
    rw [List.length_set, h1]
    simpa [iz, List.map_set] using this
  · have := p3 (.int .i64 y)
    rw [List.length_set, h2]
    simpa [iz, List.map_set] using this
end
theorem BT.fin {w W : World} {g gr gT gx dims n cv : Nat} {Av : Option Addr} {l : List Pt} {t : TreeT} {vlo vhi : Value} {lo hi : List Int} (h : BT w W g gr gT gx dims n cv Av l t vlo vhi lo hi) (hn : l.length = n) (ht : treeT dims l = t) (h1 : lo = lowsB dims l) (h2 : hi = highsB dims l) :
    TrM ((W.setCell ⟨w.heap.size, 0, none⟩ (.pointer (some ⟨gT, 0, none⟩))).setCell ⟨w.heap.size + 1, 0, none⟩ (.int .i64 0)) w.heap.size gT dims l ∧
    ((W.setCell ⟨w.heap.size, 0, none⟩ (.pointer (some ⟨gT, 0, none⟩))).setCell ⟨w.heap.size + 1, 0, none⟩ (.int .i64 0)).heap[w.heap.size]? = some (.cells #[.pointer (some ⟨gT, 0, none⟩)] 23 (0, 0)) ∧
    ((W.setCell ⟨w.heap.size, 0, none⟩ (.pointer (some ⟨gT, 0, none⟩))).setCell ⟨w.heap.size + 1, 0, none⟩ (.int .i64 0)).heap[w.heap.size + 1]? = some (.cells #[.int .i64 0] 32 (0, 0)) ∧
    Fr No w ((W.setCell ⟨w.heap.size, 0, none⟩ (.pointer (some ⟨gT, 0, none⟩))).setCell ⟨w.heap.size + 1, 0, none⟩ (.int .i64 0)) := by
  subst hn ht h1 h2
  have hT := h.hT
  have f : Fr (fun k => k = w.heap.size ∨ k = w.heap.size + 1) W ((W.setCell ⟨w.heap.size, 0, none⟩ (.pointer (some ⟨gT, 0, none⟩))).setCell ⟨w.heap.size + 1, 0, none⟩ (.int .i64 0)) := ((Fr.refl _ W).setCell (p := ⟨w.heap.size, 0, none⟩) (fun _ => .inl rfl) _).setCell (p := ⟨w.heap.size + 1, 0, none⟩) (fun _ => .inr rfl) _
  have hn : ∀ k, w.heap.size + 2 ≤ k → ¬ (k = w.heap.size ∨ k = w.heap.size + 1) := fun k hk e => by omega
  have hlt := (Array.getElem?_eq_some_iff.1 h.tr).1
  obtain ⟨t1, t2⟩ := h.lot
  refine ⟨⟨⟨gx, vlo, vhi, f.blk h.tr (hn _ hT), (TreeM.fr f (fun k hk => hn k hk.1) h.tm).mono fun k hk => ⟨by omega, by have := f.size; omega⟩, (h.lo.lower (by omega)).fr f (fun k hk => hn k (by have := t1 k hk; omega)), (h.hi.lower (by omega)).fr f (fun k hk => hn k (by have := t2 k hk; omega))⟩, by omega⟩, ?_, ?_, h.fr.trans f (fun i hi e => by omega)⟩
  · simp [World.setCell, Array.getElem?_modify, h.b1, Array.set!]
  · simp [World.setCell, Array.getElem?_modify, h.b2, Array.set!]
/-- the tree is laid. -/
theorem BO.tree {w W W6 : World} {g gr gx dims n a b : Nat} {bs : List UInt8} {v : Value} {qs : List PoL} {t : TreeT} (h : BO w W g gr dims bs a 0 (.slice none 0 0) []) (f : Fr (S3 g gr (.slice none 0 0)) W W6) (hn : ND W6 w.heap.size g gr dims bs b 0 v qs) (ht : TreeM W6 (fun k => W.heap.size ≤ k ∧ Done W6 g gr v k) t gx) (hq : qs.map (·.1) = flatT t) :
    ∃ Av cv, v = .slice Av (flatT t).length cv ∧ BT w ((W6.alloc (.cells #[.int .i64 (dims : Nat), .int .i64 (n : Nat), .pointer (some ⟨gx, 0, none⟩), .slice none 0 0, .slice none 0 0] 43)).setCell ⟨w.heap.size, 0, none⟩ (.pointer (some ⟨W6.heap.size, 0, none⟩))) g gr W6.heap.size gx dims n cv Av (flatT t) t (.slice none 0 0) (.slice none 0 0) [] [] := by
  have hg := h.hg
  have hgr := h.hgr
  have hql : qs.length = (flatT t).length := by rw [← hq, List.length_map]
  obtain ⟨Av, cv, rfl, q1, q2, _, q3, _⟩ := hn.own.form
  rw [hql] at q1
  refine ⟨Av, cv, by rw [hql], ?_⟩
  have hno : ∀ k, k < w.heap.size + 2 → ¬ S3 g gr (.slice none 0 0) k := by
    rintro k hk (e | e | e)
    · omega
    · omega
    · cases e
  have hF6 : Fr No w W6 := h.fr.trans f (fun i hi e => hno i (by omega) e)
  have x1 := f.blk h.b1 (hno _ (by omega))
  have x2 := f.blk h.b2 (hno _ (by omega))
  have fA : Fr No W6 (W6.alloc (.cells #[.int .i64 (dims : Nat), .int .i64 (n : Nat), .pointer (some ⟨gx, 0, none⟩), .slice none 0 0, .slice none 0 0] 43)) := (Fr.refl No W6).alloc _
  have y0 := heap_alloc_new W6 (.cells #[.int .i64 (dims : Nat), .int .i64 (n : Nat), .pointer (some ⟨gx, 0, none⟩), .slice none 0 0, .slice none 0 0] 43)
  have y1 := fA.blk x1 (fun h => h)
  have y2 := fA.blk x2 (fun h => h)
  have y3 := fA.blk hn.row (fun h => h)
  have hz6 := hF6.size
  have h6 : w.heap.size + 2 ≤ W6.heap.size := by have := (Array.getElem?_eq_some_iff.1 x2).1; omega
  have hgr6 : gr < W6.heap.size := hn.lt.2
  generalize W6.alloc (.cells #[.int .i64 (dims : Nat), .int .i64 (n : Nat), .pointer (some ⟨gx, 0, none⟩), .slice none 0 0, .slice none 0 0] 43) = Wa at fA y0 y1 y2 y3 ⊢
  have f2 : Fr (Is w.heap.size) Wa (Wa.setCell ⟨w.heap.size, 0, none⟩ (.pointer (some ⟨W6.heap.size, 0, none⟩))) := (Fr.refl (Is w.heap.size) Wa).setCell (p := ⟨w.heap.size, 0, none⟩) (fun _ => rfl) _
  have o2 : ∀ t, t ≠ 23 → Off (Is w.heap.size) Wa t := fun t ht => off_is y1 ht
  have hrd : RdPo W6 W6.heap.size Av (flatT t) := ⟨qs, hq, q3, fun p hp => ⟨(hn.pts p hp).1, (hn.pts p hp).2.1, (hn.pts p hp).2.2.rd (fun k hk => hk.2.1)⟩⟩
  have hqt : ∀ p ∈ qs, PtN Wa (InT Wa 0 Wa.heap.size) p := fun p hp => ((hn.pts p hp).fr0 fA).up fA.size
  refine ⟨(hF6.tr fA).trans f2 (fun i hi e => by have e : i = w.heap.size := e; omega), ?_, f2.blk y2 (o2 _ (by decide) _ _ _ y2), ?_, f2.blk y0 (o2 _ (by decide) _ _ _ y0), h6, hgr6, ?_, ?_, Own.nil _ _ _ _, Own.nil _ _ _ _, (fun k hk => by cases hk), q1, q2⟩
  · simp [World.setCell, Array.getElem?_modify, y1, Array.set!]
  · have := f2.blk y3 (o2 _ (by decide) _ _ _ y3)
    rw [← hql]; exact this
  · have hWw := h.fr.size
    have hzW : w.heap.size + 1 < W.heap.size := (Array.getElem?_eq_some_iff.1 h.b2).1
    exact (TreeM.fr f2 (fun k hk e => by have e : k = w.heap.size := e; have := hk.1; omega) (TreeM.fr fA (fun _ _ h => h) ht)).mono fun k hk => ⟨by have := hk.1; omega, hk.2.1⟩
  · have hrd2 := hrd.fr0 fA
    refine ⟨qs, hq, fun j u hu => ?_, fun p hp => ⟨(hn.pts p hp).1, (hn.pts p hp).2.1, ?_⟩⟩
    · obtain ⟨ad, e, hb, hc⟩ := q3 j u hu
      subst e
      have hb2 := (hn.own.lt ad.block rfl).1
      have hne : ad.block ≠ w.heap.size := fun e => hn.own.ne_blk (by rw [← e]; rfl) x1 (by decide)
      exact ⟨ad, rfl, hb, f2.cell (fA.cell hc (fun h => h)) (by rw [block_of_add]; exact hne)⟩
    · intro j u hu
      obtain ⟨ad, e, hb, hc⟩ := (((hn.pts p hp).fr0 fA).off f2 (o2 _ (by decide))).2.2 j u hu
      exact ⟨ad, e, hb.2.1, hc⟩
set_option maxRecDepth 100000 in
set_option maxHeartbeats 16000000 in
theorem bopen_in (fr : Nat) (hfr : 6 ≤ fr) (m c : Nat) (A : Option Addr) (bs : List UInt8) (B : Nat) (w : World) (hl : bs.length = m) (hm : m ≤ c) (hc : c ≤ maxLen) (hb : m ≤ 140737488355328) (hB : B ≤ w.heap.size) (hr : Rd w B A (by8 bs)) :
    CallsIn Fence.wide fr Tryz.prog 10 #[.slice A m c] w (BOpP w bs) := by
  have hmf : ∀ (fn : Fn) (first cap : Array Value) (w : World), (Instr.makeFunc fn first cap).run Tryz.prog w = .ok (.func fn first cap) w := fun _ _ _ _ => rfl
  have HNew := hide (newReader_any A m c B bs ((w.alloc (.cells #[.pointer none] 23)).alloc (.cells #[.int .i64 0] 32)) hl hm hc hb (by simp; omega) (hr.fr0 (((Fr.refl No w).alloc _).alloc _)))
  have HL := hide hl
  have HR := hide hr
  have HB := hide hB
  have HC := hide (And.intro hm hc)
  unfold maxLen at hc
  clear hl hr hB
  refine callsIn_of_wp_marks Tryz.func10 rfl trivial ?_ rfl
  simp only [Tryz.ntmps10, List.size_toArray, List.length_cons, List.length_nil, Nat.reduceAdd, Nat.reduceSub, Array.replicate_succ, Array.replicate_zero, List.push_toArray, List.append_toArray, List.nil_append, List.cons_append]
  refine wpIn_wide.2 ?_
  obtain ⟨dims, a1, e1, hs1⟩ : ∃ N a e, sizeS bs 0 0 4 = (N, a, e) := ⟨_, _, _, rfl⟩
  obtain ⟨n, a2, e2, hs2⟩ : ∃ C a e, sizeS bs a1 e1 1048576 = (C, a, e) := ⟨_, _, _, rfl⟩
  have HS1 := hide hs1
  have HS2 := hide hs2
  have hdm4 : dims ≤ 4 := by have := sizeS_le (bs := bs) (a := 0) (e := 0) (most := 4) (by omega); rw [hs1] at this; omega
  have hn20 : n ≤ 1048576 := by have := sizeS_le (bs := bs) (a := a1) (e := e1) (most := 1048576) (by omega); rw [hs2] at this; omega
  clear hs1 hs2
  go_wp2_with (fail)
  refine HNew.out.mono ?_
  rintro en w1 ⟨g, rfl, hg, hrd, hfr1⟩
  have HSz1 := hide (fun W (h : RD W g bs 0 0) => sizeN_any g bs 0 0 4 W h (by omega) (by omega))
  rw [HS1.out] at HSz1
  have HO1 : Hid (BO w (w1.alloc (.cells #[.pointer (some ⟨g, 0, none⟩), .int .i64 0, .slice none 0 0] 58)) g w1.heap.size 0 bs 0 0 (.slice none 0 0) []) := hide (by
    have f0 : Fr No w w1 := (((Fr.refl No w).alloc _).alloc _).tr hfr1
    have x1 : w1.heap[w.heap.size]? = some (.cells #[.pointer none] 23 (0, 0)) := hfr1.blk (((Fr.refl No (w.alloc (.cells #[.pointer none] 23))).alloc _).blk (heap_alloc_new w _) (fun h => h)) (fun h => h)
    have x2 : w1.heap[w.heap.size + 1]? = some (.cells #[.int .i64 0] 32 (0, 0)) := hfr1.blk (by have := heap_alloc_new (w.alloc (.cells #[.pointer none] 23)) (.cells #[.int .i64 0] 32); simpa using this) (fun h => h)
    have fA : Fr No w1 (w1.alloc (.cells #[.pointer (some ⟨g, 0, none⟩), .int .i64 0, .slice none 0 0] 58)) := (Fr.refl No w1).alloc _
    have hz := (Array.getElem?_eq_some_iff.1 x2).1
    exact ⟨f0.tr fA, fA.blk x1 (fun h => h), fA.blk x2 (fun h => h), ⟨hrd.fr0 fA, heap_alloc_new w1 _, Own.nil _ _ _ _, fun p hp => by cases hp⟩, by simp at hg; omega, by omega⟩)
  obtain ⟨gr, hgr⟩ : ∃ x, x = w1.heap.size := ⟨_, rfl⟩
  obtain ⟨w2, hw2⟩ : ∃ x, x = w1.alloc (.cells #[.pointer (some ⟨g, 0, none⟩), .int .i64 0, .slice none 0 0] 58) := ⟨_, rfl⟩
  rw [← hgr, ← hw2] at HO1
  have HW2 := hide hw2
  have HGr := hide hgr
  clear hrd hfr1 hg hgr hw2 HNew
  go_upto_region 3 with (fail)
  rw [← HW2.out, ← HGr.out]
  have k2 : w2.cell? ⟨gr, 0, none⟩ = some (.pointer (some ⟨g, 0, none⟩)) := cell_of_row _ _ 0 _ _ _ HO1.out.nd.row
  have HSa := hide (HSz1.out w2 HO1.out.nd.rd)
  clear HW2 HGr HSz1
  go_wp2_with (fail)
  refine HSa.out.mono ?_
  rintro en w3 ⟨rfl, hrd, hf⟩
  have HO3 := hide (HO1.out.read hf hrd)
  have HO4 := hide (HO3.out.dim (d := dims))
  have k3 : w3.cell? ⟨gr, 1, none⟩ = some (.int .i64 0) := cell_of_row _ _ 1 _ _ _ HO3.out.nd.row
  have fz3 : w3.frozen? ⟨gr, 1, none⟩ = false := frozen_of_row _ _ _ _ _ HO3.out.nd.row
  clear hrd hf k2 HSa HO1
  go_upto_region 4 with (fail)
  obtain ⟨w4, hw4⟩ : ∃ x, x = w3.setCell ⟨gr, 1, none⟩ (.int .i64 (dims : Nat)) := ⟨_, rfl⟩
  rw [← hw4] at HO4 ⊢
  clear hw4 k3 fz3 HO3
  have k4 : w4.cell? ⟨gr, 0, none⟩ = some (.pointer (some ⟨g, 0, none⟩)) := cell_of_row _ _ 0 _ _ _ HO4.out.nd.row
  have HSb := hide (sizeN_any g bs a1 e1 1048576 w4 HO4.out.nd.rd (by omega) (by omega))
  rw [HS2.out] at HSb
  go_wp2_with (fail)
  refine HSb.out.mono ?_
  rintro en w5 ⟨rfl, hrd, hf⟩
  have HO5 := hide (HO4.out.read hf hrd)
  have k5 : w5.cell? ⟨gr, 0, none⟩ = some (.pointer (some ⟨g, 0, none⟩)) := cell_of_row _ _ 0 _ _ _ HO5.out.nd.row
  have k5d : w5.cell? ⟨gr, 1, none⟩ = some (.int .i64 (dims : Nat)) := cell_of_row _ _ 1 _ _ _ HO5.out.nd.row
  have HE5 := hide (err_any g bs a2 e2 w5 HO5.out.nd.rd)
  clear hrd hf k4 HSb HO4
  by_cases he : e2 = 0
  case neg =>
    have d2 : (e2 == 0) = false := by simpa using he
    have HNo := hide (no_open HS1.out HS2.out (fun h => he h.1))
    clear he
    go_wp2_with (first
      | (go_at_call 23; refine HE5.out.mono ?_; rintro en w' ⟨rfl, rfl⟩)
      | (go_at_call 22; refine (bgood_bad _).mono ?_; rintro en w' ⟨rfl, rfl⟩))
    exact HO5.out.bad rfl rfl HNo.out
  subst he
  have d2 : ((0 : Int) == 0) = true := by decide
  by_cases hd0 : 0 < dims
  case neg =>
    have d3 : decide (0 < dims) = false := decide_eq_false hd0
    have d4 : decide ((0 : Int) < (dims : Int)) = false := decide_eq_false (by omega)
    have HNo := hide (no_open HS1.out HS2.out (fun h => hd0 h.2.1))
    clear hd0
    go_wp2_with (first
      | (go_at_call 23; refine HE5.out.mono ?_; rintro en w' ⟨rfl, rfl⟩)
      | (go_at_call 22; refine (bgood_bad _).mono ?_; rintro en w' ⟨rfl, rfl⟩))
    exact HO5.out.bad rfl rfl HNo.out
  have d3 : decide (0 < dims) = true := decide_eq_true hd0
  have d4 : decide ((0 : Int) < (dims : Int)) = true := decide_eq_true (by omega)
  go_upto_region 6 with (first
    | (go_at_call 23; refine HE5.out.mono ?_; rintro en w' ⟨rfl, rfl⟩)
    | (go_at_call 22; refine (bgood_ok _).mono ?_; rintro en w' ⟨⟨r, rfl⟩, rfl⟩))
  clear d2 d3 d4 k5 k5d HE5
  have HO6 := hide (HO5.out.fr0 (Fr.refl No w5).drew)
  have HNode := hide (node_any w.heap.size g gr dims bs ⟨by omega, hdm4⟩ n a2 (.slice none 0 0) [] w5.drew (by simp; omega) HO6.out.nd HO6.out.fr.size)
  have k6 : w5.drew.cell? ⟨gr, 1, none⟩ = some (.int .i64 (dims : Nat)) := cell_of_row _ _ 1 _ _ _ HO6.out.nd.row
  cases hnr : nodeR bs dims n a2 with
  | none =>
    have HNo := hide (no_open HS1.out HS2.out (fun h => by obtain ⟨t, b, h3, _⟩ := h.2.2; rw [hnr] at h3; cases h3))
    have HNr := hide hnr
    have HK6 := hide k6
    clear hnr k6
    refine wp_mono (Q := (QP (fun _ _ => False) (fun ch W => ∀ tmps : Array Value, tmps[2]? = some (.pointer (some ⟨w.heap.size, 0, none⟩)) → tmps[3]? = some (.pointer (some ⟨w.heap.size + 1, 0, none⟩)) → LeavesInM Fence.wide fr Tryz.prog Tryz.f10 tmps (BOpP w bs) [clB w.heap.size (w.heap.size + 1)] (.panicking ch) W) (.pointer (some ⟨w.heap.size, 0, none⟩)) (.pointer (some ⟨w.heap.size + 1, 0, none⟩)) [clB w.heap.size (w.heap.size + 1)])) ?_ ?_
    · refine wp_region_held_drew (S := fun W => W.cell? ⟨gr, 1, none⟩ = some (.int .i64 (dims : Nat))) (by kernel_rfl) HK6.out (fun hHeld => ?_)
      refine wpAnyH_take (i := 0) (v := ?_) rfl (by kernel_rfl) (by kernel_rfl) (by kernel_rfl) (fun _ _ _ h => QP.put (by decide) (by decide) h) (Or.inl ⟨by kernel_rfl, ?_⟩) (by assumption) ?_
      rotate_left 1
      · (intro w' hSw; (try dsimp only at hSw); go_simp; try with_reducible rfl)
      try simp only [Act.put, List.setIfInBounds_toArray, List.set_cons_zero, List.set_cons_succ]
      refine wpAnyH_take (i := 1) (v := ?_) rfl (by kernel_rfl) (by kernel_rfl) (by kernel_rfl) (fun _ _ _ h => QP.put (by decide) (by decide) h) (Or.inl ⟨by kernel_rfl, ?_⟩) (by assumption) ?_
      rotate_left 1
      · (intro w' hSw; (try dsimp only at hSw); go_simp; try with_reducible rfl)
      try simp only [Act.put, List.setIfInBounds_toArray, List.set_cons_zero, List.set_cons_succ]
      refine wpAnyH_take (i := 2) (v := ?_) rfl (by kernel_rfl) (by kernel_rfl) (by kernel_rfl) (fun _ _ _ h => QP.put (by decide) (by decide) h) (Or.inl ⟨by kernel_rfl, ?_⟩) (by assumption) ?_
      rotate_left 1
      · (intro w' hSw; (try dsimp only at hSw); go_simp; try with_reducible rfl)
      try simp only [Act.put, List.setIfInBounds_toArray, List.set_cons_zero, List.set_cons_succ]
      refine wpAnyH_take (i := 3) (v := ?_) rfl (by kernel_rfl) (by kernel_rfl) (by kernel_rfl) (fun _ _ _ h => QP.put (by decide) (by decide) h) (Or.inl ⟨by kernel_rfl, ?_⟩) (by assumption) ?_
      rotate_left 1
      · (intro w' hSw; (try dsimp only at hSw); go_simp; try with_reducible rfl)
      try simp only [Act.put, List.setIfInBounds_toArray, List.set_cons_zero, List.set_cons_succ]
      refine wpAnyH_take (i := 4) (v := ?_) rfl (by kernel_rfl) (by kernel_rfl) (by kernel_rfl) (fun _ _ _ h => QP.put (by decide) (by decide) h) (Or.inl ⟨by kernel_rfl, ?_⟩) (by assumption) ?_
      rotate_left 1
      · (intro w' hSw; (try dsimp only at hSw); go_simp; try with_reducible rfl)
      try simp only [Act.put, List.setIfInBounds_toArray, List.set_cons_zero, List.set_cons_succ]
      refine wpAnyH_take (i := 5) (v := ?_) rfl (by kernel_rfl) (by kernel_rfl) (by kernel_rfl) (fun _ _ _ h => QP.put (by decide) (by decide) h) (Or.inl ⟨by kernel_rfl, ?_⟩) (by assumption) ?_
      rotate_left 1
      · (intro w' hSw; (try dsimp only at hSw); go_simp; try with_reducible rfl)
      try simp only [Act.put, List.setIfInBounds_toArray, List.set_cons_zero, List.set_cons_succ]
      refine wpAnyH_take (i := 6) (v := ?_) rfl (by kernel_rfl) (by kernel_rfl) (by kernel_rfl) (fun _ _ _ h => QP.put (by decide) (by decide) h) (Or.inl ⟨by kernel_rfl, ?_⟩) (by assumption) ?_
      rotate_left 1
      · (intro w' hSw; (try dsimp only at hSw); go_simp; try with_reducible rfl)
      try simp only [Act.put, List.setIfInBounds_toArray, List.set_cons_zero, List.set_cons_succ]
      refine wpAnyH_ready (rs := [7]) (by kernel_rfl) (by simp) ?_
      refine AllReadyH.cons rfl (fun K1 hK1 => ?_) AllReadyH.nil
      go_simp
      refine HNode.out.mono ?_
      rintro en w11 hq
      rcases hq with ⟨t, b, gx, v', qs, _, h, _⟩ | ⟨_, rfl, hf⟩
      · rw [HNr.out] at h; cases h
      · have hno : ∀ k, k < w.heap.size + 2 → ¬ S3 g gr (.slice none 0 0) k := by
          rintro k hk (e | e | e)
          · have := HO6.out.hg; omega
          · have := HO6.out.hgr; omega
          · cases e
        exact ⟨rfl, rfl, rfl, fun tm h2 h3 => bleave_bad h2 h3 (by omega) (Nat.le_refl _) (by omega) (hf.blk HO6.out.b1 (hno _ (by omega))) (hf.blk HO6.out.b2 (hno _ (by omega))) (HO6.out.fr.trans hf (fun i hi e => hno i (by omega) e)) HNo.out⟩
    · intro e a' w' hq
      cases e with
      | normal => exact hq.elim
      | panic ch =>
        obtain ⟨q1, q2, q3, q4⟩ := hq
        obtain ⟨tm, df⟩ := a'
        dsimp only at q1 q2 q3
        subst q3
        have q5 := q4 tm q1 q2
        clear q4
        go_wp2
        exact q5
      | ret => exact hq.elim
      | exit id => exact hq.elim
      | goto l => exact hq.elim
      | outgrown => exact hq.elim
  | some x =>
    obtain ⟨t, b⟩ := x
    have HNr := hide hnr
    clear hnr
    refine wp_calm fun K hK => ?_
    go_cut [] from 42 to 51 (fun wz => ∃ gT gx Av cv, Hid (BT w wz g gr gT gx dims n cv Av (flatT t) t (.slice none 0 0) (.slice none 0 0) [] []))
    case first =>
      go_region_law (first
        | (go_simp; go_at_call 24; refine HNode.out.mono ?_; rintro en w7 hq; (rcases hq with ⟨t', b', gx, v', qs, rfl, h, hqm, hnd, htm, hmv, hf⟩ | ⟨h, _⟩); (case inr => rw [HNr.out] at h; cases h); rw [HNr.out] at h; injection h with h; injection h with h1 h2; subst h1; have k7 : w7.cell? ⟨gr, 1, none⟩ = some (.int .i64 (dims : Nat)) := cell_of_row _ _ 1 _ _ _ hnd.row; have HTr := hide (HO6.out.tree (n := n) hf hnd htm hqm); have hno1 : ¬ S3 g gr (.slice none 0 0) w.heap.size := (by rintro (e | e | e); (have := HO6.out.hg; omega); (have := HO6.out.hgr; omega); cases e); have hb7 := hf.blk HO6.out.b1 hno1; have hb8 := ((Fr.refl No w7).alloc (.cells #[.int .i64 (dims : Nat), .int .i64 (n : Nat), .pointer (some ⟨gx, 0, none⟩), .slice none 0 0, .slice none 0 0] 43)).blk hb7 (fun h => h); have kb8 := cell_of_row _ _ 0 _ _ _ hb8; have fz8 := frozen_of_row _ _ 0 _ _ hb8; clear hqm hnd htm hmv hf hno1 hb7 hb8))
      all_goals (go_wp2; go_meet)
      all_goals (obtain ⟨Av, cv, hv, hbt⟩ := HTr.out; exact ⟨_, gx, Av, cv, hide hbt⟩)
    case rest =>
      obtain ⟨gT, gx, Av, cv, HBt⟩ := hcut
      refine hK _ _ ?_
      obtain ⟨w8, rfl⟩ : ∃ W : World, W = wc := ⟨_, rfl⟩
      clear hK k6 HNode HO6 HO5
      have hnl : (flatT t).length = n := (nodeR_is n HNr.out).1
      have hok := (nodeR_is n HNr.out).2
      have hI2 : InI2 (flatT t) := fun p hp => ⟨(hok p hp).2.1, by have := (hok p hp).2.2.1; omega, by have := (hok p hp).2.2.2; omega⟩
      have HBd := hide (HBt.out.fr0 (Fr.refl No w8).drew)
      have hgT8 : gT ≤ w8.drew.heap.size := Nat.le_of_lt (Array.getElem?_eq_some_iff.1 HBd.out.tr).1
      have HBu := hide (bbuild_any Av (flatT t).length cv gT (dims : Nat) (flatT t) w8.drew rfl HBd.out.cv.1 HBd.out.cv.2 (by omega) hgT8 hI2 HBd.out.rd)
      have HOk := hide hok
      obtain ⟨l, hlt⟩ : ∃ l, l = flatT t := ⟨_, rfl⟩
      rw [← hlt] at HBt HBd HBu hnl HOk
      have hcv1 := HBd.out.cv.1
      have hcv2 := HBd.out.cv.2
      unfold maxLen at hcv2
      have HNl := hide hnl
      rw [hnl] at HBu hcv1
      have HLt := hide hlt
      have kg1 : w8.drew.cell? ⟨gr, 1, none⟩ = some (.int .i64 (dims : Nat)) := cell_of_row _ _ 1 _ _ _ HBd.out.row
      have kg2 : w8.drew.cell? ⟨gr, 2, none⟩ = some (.slice Av n cv) := by have := cell_of_row _ _ 2 _ _ _ HBd.out.row; rw [HNl.out] at this; exact this
      clear hok hI2 hgT8 hlt hnl
      go_upto_region 7 with (fail)
      by_cases hk : keptP (dims : Nat) l = bs
      case neg =>
        have HNo := hide (no_open HS1.out HS2.out (fun h => by
          obtain ⟨t', b', h3, h4⟩ := h.2.2
          rw [HNr.out] at h3
          injection h3 with h3
          injection h3 with h3 _
          subst h3
          rw [← HLt.out] at h4
          exact hk h4))
        have HKK : Hid (w8.drew.cell? ⟨gr, 1, none⟩ = some (.int .i64 (dims : Nat)) ∧ w8.drew.cell? ⟨gr, 2, none⟩ = some (.slice Av n cv)) := hide ⟨kg1, kg2⟩
        have hdec : decide (keptP (dims : Nat) l = bs) = false := decide_eq_false hk
        have HEq := hide (fun A' c' B' W (h1 : (keptP (dims : Nat) l).length ≤ c') (h2 : c' ≤ maxLen) (h3 : Rd W B' A' (by8 (keptP (dims : Nat) l))) (f : Fr No w W) => sleq_any A' A (keptP (dims : Nat) l).length c' m c B' B (keptP (dims : Nat) l) bs W rfl HL.out h1 h2 HC.out.1 HC.out.2 h3 (HR.out.fr0 f))
        rw [hdec] at HEq
        obtain ⟨K0, hK0⟩ : ∃ K, K = keptP (dims : Nat) l := ⟨_, rfl⟩
        rw [← hK0] at HBu HEq
        clear hk kg1 kg2 hdec hK0
        refine wp_mono (Q := (QP (fun _ _ => False) (fun ch W => ∀ tmps : Array Value, tmps[2]? = some (.pointer (some ⟨w.heap.size, 0, none⟩)) → tmps[3]? = some (.pointer (some ⟨w.heap.size + 1, 0, none⟩)) → LeavesInM Fence.wide fr Tryz.prog Tryz.f10 tmps (BOpP w bs) [clB w.heap.size (w.heap.size + 1)] (.panicking ch) W) (.pointer (some ⟨w.heap.size, 0, none⟩)) (.pointer (some ⟨w.heap.size + 1, 0, none⟩)) [clB w.heap.size (w.heap.size + 1)])) ?_ ?_
        · refine wp_region_held_drew (S := fun W => W.cell? ⟨gr, 1, none⟩ = some (.int .i64 (dims : Nat)) ∧ W.cell? ⟨gr, 2, none⟩ = some (.slice Av n cv)) (by kernel_rfl) HKK.out (fun hHeld => ?_)
          refine wpAnyH_take (i := 0) (v := ?_) rfl (by kernel_rfl) (by kernel_rfl) (by kernel_rfl) (fun _ _ _ h => QP.put (by decide) (by decide) h) (Or.inl ⟨by kernel_rfl, ?_⟩) (by assumption) ?_
          rotate_left 1
          · (intro w' hSw; (try dsimp only at hSw); go_simp; try with_reducible rfl)
          try simp only [Act.put, List.setIfInBounds_toArray, List.set_cons_zero, List.set_cons_succ]
          refine wpAnyH_take (i := 1) (v := ?_) rfl (by kernel_rfl) (by kernel_rfl) (by kernel_rfl) (fun _ _ _ h => QP.put (by decide) (by decide) h) (Or.inl ⟨by kernel_rfl, ?_⟩) (by assumption) ?_
          rotate_left 1
          · (intro w' hSw; (try dsimp only at hSw); go_simp; try with_reducible rfl)
          try simp only [Act.put, List.setIfInBounds_toArray, List.set_cons_zero, List.set_cons_succ]
          refine wpAnyH_take (i := 2) (v := ?_) rfl (by kernel_rfl) (by kernel_rfl) (by kernel_rfl) (fun _ _ _ h => QP.put (by decide) (by decide) h) (Or.inl ⟨by kernel_rfl, ?_⟩) (by assumption) ?_
          rotate_left 1
          · (intro w' hSw; (try dsimp only at hSw); go_simp; try with_reducible rfl)
          try simp only [Act.put, List.setIfInBounds_toArray, List.set_cons_zero, List.set_cons_succ]
          refine wpAnyH_take (i := 3) (v := ?_) rfl (by kernel_rfl) (by kernel_rfl) (by kernel_rfl) (fun _ _ _ h => QP.put (by decide) (by decide) h) (Or.inl ⟨by kernel_rfl, ?_⟩) (by assumption) ?_
          rotate_left 1
          · (intro w' hSw; (try dsimp only at hSw); go_simp; try with_reducible rfl)
          try simp only [Act.put, List.setIfInBounds_toArray, List.set_cons_zero, List.set_cons_succ]
          refine wpAnyH_take (i := 4) (v := ?_) rfl (by kernel_rfl) (by kernel_rfl) (by kernel_rfl) (fun _ _ _ h => QP.put (by decide) (by decide) h) (Or.inl ⟨by kernel_rfl, ?_⟩) (by assumption) ?_
          rotate_left 1
          · (intro w' hSw; (try dsimp only at hSw); go_simp; try with_reducible rfl)
          try simp only [Act.put, List.setIfInBounds_toArray, List.set_cons_zero, List.set_cons_succ]
          refine wpAnyH_take (i := 5) (v := ?_) rfl (by kernel_rfl) (by kernel_rfl) (by kernel_rfl) (fun _ _ _ h => QP.put (by decide) (by decide) h) (Or.inl ⟨by kernel_rfl, ?_⟩) (by assumption) ?_
          rotate_left 1
          · (intro w' hSw; (try dsimp only at hSw); go_simp; try with_reducible rfl)
          try simp only [Act.put, List.setIfInBounds_toArray, List.set_cons_zero, List.set_cons_succ]
          refine wpAnyH_take (i := 6) (v := ?_) rfl (by kernel_rfl) (by kernel_rfl) (by kernel_rfl) (fun _ _ _ h => QP.put (by decide) (by decide) h) (Or.inl ⟨by kernel_rfl, ?_⟩) (by assumption) ?_
          rotate_left 1
          · (intro w' hSw; (try dsimp only at hSw); go_simp; try with_reducible rfl)
          try simp only [Act.put, List.setIfInBounds_toArray, List.set_cons_zero, List.set_cons_succ]
          refine wpAnyH_take (i := 7) (v := ?_) rfl (by kernel_rfl) (by kernel_rfl) (by kernel_rfl) (fun _ _ _ h => QP.put (by decide) (by decide) h) (Or.inl ⟨by kernel_rfl, ?_⟩) (by assumption) ?_
          rotate_left 1
          · (intro w' hSw; (try dsimp only at hSw); go_simp; try with_reducible rfl)
          try simp only [Act.put, List.setIfInBounds_toArray, List.set_cons_zero, List.set_cons_succ]
          refine wpAnyH_take (i := 9) (v := ?_) rfl (by kernel_rfl) (by kernel_rfl) (by kernel_rfl) (fun _ _ _ h => QP.put (by decide) (by decide) h) (Or.inl ⟨by kernel_rfl, ?_⟩) (by assumption) ?_
          rotate_left 1
          · (intro w' hSw; (try dsimp only at hSw); go_simp; try with_reducible rfl)
          try simp only [Act.put, List.setIfInBounds_toArray, List.set_cons_zero, List.set_cons_succ]
          refine wpAnyH_ready (rs := [8]) (by kernel_rfl) (by simp) ?_
          refine AllReadyH.cons rfl (fun K1 hK1 => ?_) AllReadyH.nil
          go_simp
          refine HBu.out.mono ?_
          rintro en w9 ⟨vk, rfl, hown, hfr⟩
          obtain ⟨Ak, ck, rfl, y1, y2, _, y3, _⟩ := hown.form
          have HKK9 := hide (And.intro (hfr.cell HKK.out.1 (fun h => h)) (hfr.cell HKK.out.2 (fun h => h)))
          have HB9 := hide (HBd.out.fr0 hfr)
          have HEq9 := hide (HEq.out Ak ck _ w9 y1 y2 y3 HB9.out.fr)
          refine hK1.out _ _ HKK9.out (fun hHeld => ?_)
          clear hK1 K1 hown hfr y3
          try simp only [Act.put, List.setIfInBounds_toArray, List.set_cons_zero, List.set_cons_succ]
          refine wpAnyH_ready (rs := [10]) (by kernel_rfl) (by simp) ?_
          refine AllReadyH.cons rfl (fun K1 hK1 => ?_) AllReadyH.nil
          go_simp
          refine HEq9.out.mono ?_
          rintro en w10 ⟨rfl, nq, rfl⟩
          have HKK10 := hide (And.intro (((Fr.refl No w9).drewN nq).cell HKK9.out.1 (fun h => h)) (((Fr.refl No w9).drewN nq).cell HKK9.out.2 (fun h => h)))
          refine hK1.out _ _ HKK10.out (fun hHeld => ?_)
          clear hK1 K1
          try simp only [Act.put, List.setIfInBounds_toArray, List.set_cons_zero, List.set_cons_succ]
          refine wpAnyH_ready (rs := [11]) (by kernel_rfl) (by simp) ?_
          refine AllReadyH.cons rfl (fun K1 hK1 => ?_) AllReadyH.nil
          go_simp
          refine (bgood_bad _).mono ?_
          rintro en w11 ⟨rfl, rfl⟩
          exact ⟨rfl, rfl, rfl, fun tm h2 h3 => (HB9.out.fr0 ((Fr.refl No w9).drewN nq)).bad h2 h3 HNo.out⟩
        · intro e a' w' hq
          cases e with
          | normal => exact hq.elim
          | panic ch =>
            obtain ⟨q1, q2, q3, q4⟩ := hq
            obtain ⟨tm, df⟩ := a'
            dsimp only at q1 q2 q3
            subst q3
            have q5 := q4 tm q1 q2
            clear q4
            go_wp2
            exact q5
          | ret => exact hq.elim
          | exit id => exact hq.elim
          | goto l => exact hq.elim
          | outgrown => exact hq.elim
      obtain ⟨hyb, hyt, hyn⟩ := yes_open HS1.out HS2.out hd0 HNr.out (by rw [← HLt.out]; exact hk)
      rw [← HLt.out] at hyb hyt
      have HYb := hide hyb
      have HYt := hide hyt
      rw [hk] at HBu
      have HEq := hide (fun A' c' B' W (h1 : bs.length ≤ c') (h2 : c' ≤ maxLen) (h3 : Rd W B' A' (by8 bs)) (f : Fr No w W) => sleq_any A' A bs.length c' m c B' B bs bs W rfl HL.out h1 h2 HC.out.1 HC.out.2 h3 (HR.out.fr0 f))
      rw [decide_eq_true rfl] at HEq
      clear hyb hyt hyn hk
      refine wp_calm fun K hK => ?_
      go_cut [] from 52 to 63 (fun wz => Hid (BT w wz g gr gT gx dims n cv Av l t (.slice none 0 0) (.slice none 0 0) [] []))
      case first =>
        go_region_law (first
          | (go_simp; go_at_call 26; refine HBu.out.mono ?_; rintro en w9 ⟨vk, rfl, hown, hfr⟩; obtain ⟨Ak, ck, rfl, y1, y2, _, y3, _⟩ := hown.form; have HB9 := hide (HBd.out.fr0 hfr); have HEq9 := hide (HEq.out Ak ck _ w9 y1 y2 y3 HB9.out.fr); clear hown hfr y3)
          | (go_simp; go_at_call 25; refine HEq9.out.mono ?_; rintro en w10 ⟨rfl, nq, hw10⟩; have HB10 : Hid (BT w w10 g gr gT gx dims n cv Av l t (.slice none 0 0) (.slice none 0 0) [] []) := hide (by rw [hw10]; exact HB9.out.fr0 ((Fr.refl No w9).drewN nq)); clear hw10)
          | (go_simp; go_at_call 22; refine (bgood_ok _).mono ?_; rintro en w' ⟨⟨r7, rfl⟩, rfl⟩))
        all_goals (go_wp2; go_meet)
        all_goals exact HB10
      case rest =>
        refine hK _ _ ?_
        have HB := hcut
        obtain ⟨w9, rfl⟩ : ∃ W : World, W = wc := ⟨_, rfl⟩
        clear hcut hK kg1 kg2 HEq HBu HBd HBt
        have k0 : w9.cell? ⟨gr, 2, none⟩ = some (.slice Av n cv) := by have := cell_of_row _ _ 2 _ _ _ HB.out.row; rw [HNl.out] at this; exact this
        have hnl20 : n ≤ 1048576 := hn20
        go_upto_region 9 with (fail)
        clear k0
        go_loopw [6, 7, 8, 9, 69] (fun _ _ _ _ i wr => ∃ (k : Nat) (vlo vhi : Value) (lo hi : List Int), k ≤ n ∧ i = .int .i64 (k : Nat) ∧ Hid (lo = lowsB dims (l.take k)) ∧ Hid (hi = highsB dims (l.take k)) ∧ Hid (BT w wr g gr gT gx dims n cv Av l t vlo vhi lo hi)) (fun _ _ _ _ i _ => n - (intOf i).toNat)
        case atStart => exact ⟨0, _, _, [], [], by omega, by go_num, hide (by simp [lowsB]), hide (by simp [highsB]), HB⟩
        case round =>
          clear HB
          obtain ⟨wo, rfl⟩ : ∃ wo : World, wo = wr := ⟨_, rfl⟩
          obtain ⟨k, vlo, vhi, lo, hi, hk, rfl, HLo, HHi, HB⟩ := hrel
          by_cases hlk : k < n
          · have hk1 : k < l.length := by rw [HNl.out]; exact hlk
            obtain ⟨ad, Ap, cp, rfl, _, k0, k1, g1, g2, hrk⟩ := HB.out.rd.at hk1
            have hpk := HOk.out _ (getP_mem hk1)
            obtain ⟨pk, hpke⟩ : ∃ x, x = l.getD k noPo := ⟨_, rfl⟩
            rw [← hpke] at k0 k1 g1 hrk hpk
            rw [hpk.1] at k1 g1
            obtain ⟨pd, hpd⟩ : ∃ x, x = pk.1 := ⟨_, rfl⟩
            obtain ⟨P, hP⟩ : ∃ x, x = pk.2 := ⟨_, rfl⟩
            rw [← hpd] at k0
            rw [← hP] at hrk
            have hPl : P.length = dims := by rw [hP]; exact hpk.1
            have HPl := hide hPl
            have HPk := hide hpke
            have HPd := hide hP
            have HPi : Hid (InI P) := hide (by rw [hP]; exact hpk.2.1)
            have HRk := hide hrk
            unfold maxLen at g2
            clear hpk hpke hpd hP hPl hrk
            go_upto_if 75 with (fail)
            obtain ⟨gp, hgp⟩ : ∃ x, x = wo.heap.size := ⟨_, rfl⟩
            obtain ⟨wA, hwA⟩ : ∃ x, x = wo.alloc (.cells #[.int .i64 pd, .slice Ap dims cp] 46) := ⟨_, rfl⟩
            have fA : Fr No wo wA := by rw [hwA]; exact (Fr.refl No wo).alloc _
            have hpA : wA.heap[gp]? = some (.cells #[.int .i64 pd, .slice Ap dims cp] 46 (0, 0)) := by rw [hwA, hgp]; exact heap_alloc_new wo _
            have HBA := hide (HB.out.fr0 fA)
            have HRA := hide (HRk.out.fr0 fA)
            have HPA := hide hpA
            rw [← hgp, ← hwA]
            have HK1 := hide hk1
            clear hgp hwA fA hpA k0 k1 HB HRk hk1
            refine wp_calm fun K hK => ?_
            go_cut [] from 75 to 87 (fun wz => ∃ (vlo' vhi' : Value) (L0 H0 : List Int), Hid (L0.length = dims) ∧ Hid (H0.length = dims) ∧ Hid (((List.range dims).map fun d => min (L0.getD d 0) (P.getD d 0)) = lowsB dims (l.take (k + 1))) ∧ Hid (((List.range dims).map fun d => max (H0.getD d 0) (P.getD d 0)) = highsB dims (l.take (k + 1))) ∧ Hid (BT w wz g gr gT gx dims n cv (some ad) l t vlo' vhi' L0 H0) ∧ Hid (wz.heap[gp]? = some (.cells #[.int .i64 pd, .slice Ap dims cp] 46 (0, 0))) ∧ Hid (Rd wz gT Ap (iz .i64 P)))
            case first =>
              have hPk : (l.getD k noPt).2 = P := by rw [HPd.out, HPk.out]; rfl
              by_cases hk0 : k = 0
              · have d5 : ((k : Int) == 0) = true := by simpa using hk0
                have hls := lows_step (dims := dims) (L0 := P) HK1.out hPk (by rw [if_pos hk0])
                have hhs := highs_step (dims := dims) (L0 := P) HK1.out hPk (by rw [if_pos hk0])
                have HLs := hide hls
                have HHs := hide hhs
                have HBd := hide (HBA.out.fr0 (Fr.refl No wA).drew)
                have kb : wA.drew.cell? ⟨w.heap.size, 0, none⟩ = some (.pointer (some ⟨gT, 0, none⟩)) := cell_of_row _ _ 0 _ _ _ HBd.out.b1
                have kp : wA.drew.cell? ⟨gp, 1, none⟩ = some (.slice Ap dims cp) := cell_of_row wA _ 1 _ _ _ HPA.out
                have HClA := hide (cloneI_any Ap dims cp gT P wA.drew HPl.out g1 (by unfold maxLen; omega) (by omega) (HRA.out.fr0 (Fr.refl No wA).drew))
                have HClB := hide (fun W (f : Fr No wA.drew W) => cloneI_any Ap dims cp gT P W HPl.out g1 (by unfold maxLen; omega) (by omega) ((HRA.out.fr0 (Fr.refl No wA).drew).fr0 f))
                clear hPk hls hhs hk0
                go_upto_region 12 with (fail)
                have HKB := hide (And.intro kb kp)
                clear kb kp
                refine wp_region_held_drew (S := fun W => W.cell? ⟨w.heap.size, 0, none⟩ = some (.pointer (some ⟨gT, 0, none⟩)) ∧ W.cell? ⟨gp, 1, none⟩ = some (.slice Ap dims cp)) (by kernel_rfl) HKB.out (fun hHeld => ?_)
                refine wpAnyH_take (i := 0) (v := ?_) rfl (by kernel_rfl) (by kernel_rfl) (by kernel_rfl) (fun _ _ _ h => h) (Or.inl ⟨by kernel_rfl, ?_⟩) (by assumption) ?_
                rotate_left 1
                · (intro w' hSw; (try dsimp only at hSw); go_simp; try with_reducible rfl)
                try simp only [Act.put, List.setIfInBounds_toArray, List.set_cons_zero, List.set_cons_succ]
                refine wpAnyH_take (i := 1) (v := ?_) rfl (by kernel_rfl) (by kernel_rfl) (by kernel_rfl) (fun _ _ _ h => h) (Or.inl ⟨by kernel_rfl, ?_⟩) (by assumption) ?_
                rotate_left 1
                · (intro w' hSw; (try dsimp only at hSw); go_simp; try with_reducible rfl)
                try simp only [Act.put, List.setIfInBounds_toArray, List.set_cons_zero, List.set_cons_succ]
                refine wpAnyH_take (i := 2) (v := ?_) rfl (by kernel_rfl) (by kernel_rfl) (by kernel_rfl) (fun _ _ _ h => h) (Or.inl ⟨by kernel_rfl, ?_⟩) (by assumption) ?_
                rotate_left 1
                · (intro w' hSw; (try dsimp only at hSw); go_simp; try with_reducible rfl)
                try simp only [Act.put, List.setIfInBounds_toArray, List.set_cons_zero, List.set_cons_succ]
                refine wpAnyH_take (i := 3) (v := ?_) rfl (by kernel_rfl) (by kernel_rfl) (by kernel_rfl) (fun _ _ _ h => h) (Or.inl ⟨by kernel_rfl, ?_⟩) (by assumption) ?_
                rotate_left 1
                · (intro w' hSw; (try dsimp only at hSw); go_simp; try with_reducible rfl)
                try simp only [Act.put, List.setIfInBounds_toArray, List.set_cons_zero, List.set_cons_succ]
                refine wpAnyH_take (i := 5) (v := ?_) rfl (by kernel_rfl) (by kernel_rfl) (by kernel_rfl) (fun _ _ _ h => h) (Or.inl ⟨by kernel_rfl, ?_⟩) (by assumption) ?_
                rotate_left 1
                · (intro w' hSw; (try dsimp only at hSw); go_simp; try with_reducible rfl)
                try simp only [Act.put, List.setIfInBounds_toArray, List.set_cons_zero, List.set_cons_succ]
                refine wpAnyH_take (i := 6) (v := ?_) rfl (by kernel_rfl) (by kernel_rfl) (by kernel_rfl) (fun _ _ _ h => h) (Or.inl ⟨by kernel_rfl, ?_⟩) (by assumption) ?_
                rotate_left 1
                · (intro w' hSw; (try dsimp only at hSw); go_simp; try with_reducible rfl)
                try simp only [Act.put, List.setIfInBounds_toArray, List.set_cons_zero, List.set_cons_succ]
                refine wpAnyH_ready (rs := [4]) (by kernel_rfl) (by simp) ?_
                refine AllReadyH.cons rfl (fun K1 hK1 => ?_) AllReadyH.nil
                go_simp
                refine HClA.out.mono ?_
                rintro en w11 ⟨v1, rfl, hown, hfr⟩
                have HO1 := hide hown
                have HF1 := hide hfr
                have HKB11 := hide (And.intro (hfr.cell HKB.out.1 (fun h => h)) (hfr.cell HKB.out.2 (fun h => h)))
                have HClC := hide (HClB.out w11 hfr)
                obtain ⟨A1, c1, rfl, _⟩ := hown.form
                clear hown hfr
                refine hK1.out _ _ HKB11.out (fun hHeld => ?_)
                clear hK1 K1
                try simp only [Act.put, List.setIfInBounds_toArray, List.set_cons_zero, List.set_cons_succ]
                refine wpAnyH_ready (rs := [7]) (by kernel_rfl) (by simp) ?_
                refine AllReadyH.cons rfl (fun K1 hK1 => ?_) AllReadyH.nil
                go_simp
                refine HClC.out.mono ?_
                rintro en w12 ⟨v2, rfl, hown, hfr⟩
                have HO2 := hide hown
                have HF2 := hide hfr
                have HKB12 := hide (And.intro (hfr.cell HKB11.out.1 (fun h => h)) (hfr.cell HKB11.out.2 (fun h => h)))
                have HB12 := hide ((HBd.out.fr0 HF1.out).fr0 hfr)
                obtain ⟨A2, c2, rfl, _⟩ := hown.form
                have kt3 : w12.cell? ⟨gT, 3, none⟩ = some vlo := cell_of_row _ _ 3 _ _ _ HB12.out.tr
                have fz3 : w12.frozen? ⟨gT, 3, none⟩ = false := frozen_of_row _ _ _ _ _ HB12.out.tr
                have htr13 : (w12.setCell ⟨gT, 3, none⟩ (.slice A1 P.length c1)).heap[gT]? = some (.cells #[.int .i64 (dims : Nat), .int .i64 (n : Nat), .pointer (some ⟨gx, 0, none⟩), .slice A1 P.length c1, vhi] 43 (0, 0)) := by
                  have := HB12.out.tr
                  simp [World.setCell, Array.getElem?_modify, this, Array.set!]
                have kt4 : (w12.setCell ⟨gT, 3, none⟩ (.slice A1 P.length c1)).cell? ⟨gT, 4, none⟩ = some vhi := cell_of_row _ _ 4 _ _ _ htr13
                have fz4 : (w12.setCell ⟨gT, 3, none⟩ (.slice A1 P.length c1)).frozen? ⟨gT, 4, none⟩ = false := frozen_of_row _ _ _ _ _ htr13
                have fs1 : Fr (Is gT) w12 (w12.setCell ⟨gT, 3, none⟩ (.slice A1 P.length c1)) := (Fr.refl (Is gT) w12).setCell (p := ⟨gT, 3, none⟩) (fun _ => rfl) _
                have fs2 : Fr (Is gT) (w12.setCell ⟨gT, 3, none⟩ (.slice A1 P.length c1)) ((w12.setCell ⟨gT, 3, none⟩ (.slice A1 P.length c1)).setCell ⟨gT, 4, none⟩ (.slice A2 P.length c2)) := (Fr.refl (Is gT) _).setCell (p := ⟨gT, 4, none⟩) (fun _ => rfl) _
                have hnb : ¬ Is gT w.heap.size := fun e => by have e : w.heap.size = gT := e; have := HBd.out.hT; omega
                have hnp : ¬ Is gT gp := off_is (t' := 46) HBA.out.tr (by decide) _ _ _ HPA.out
                have HKB13 := hide (And.intro (fs1.cell HKB12.out.1 hnb) (fs1.cell HKB12.out.2 hnp))
                have HKB14 := hide (And.intro (fs2.cell HKB13.out.1 hnb) (fs2.cell HKB13.out.2 hnp))
                clear hown hfr htr13 fs1 fs2 hnb hnp
                refine hK1.out _ _ HKB12.out (fun hHeld => ?_)
                clear hK1 K1
                try simp only [Act.put, List.setIfInBounds_toArray, List.set_cons_zero, List.set_cons_succ]
                refine wpAnyH_take (i := 8) (v := ?_) rfl (by kernel_rfl) (by kernel_rfl) (by kernel_rfl) (fun _ _ _ h => h) (Or.inl ⟨by kernel_rfl, ?_⟩) (by assumption) ?_
                rotate_left 1
                · (intro w' hSw; (try dsimp only at hSw); go_simp; try with_reducible rfl)
                try simp only [Act.put, List.setIfInBounds_toArray, List.set_cons_zero, List.set_cons_succ]
                refine wpAnyH_take (i := 9) (v := ?_) rfl (by kernel_rfl) (by kernel_rfl) (by kernel_rfl) (fun _ _ _ h => h) (Or.inl ⟨by kernel_rfl, ?_⟩) (by assumption) ?_
                rotate_left 1
                · (intro w' hSw; (try dsimp only at hSw); go_simp; try with_reducible rfl)
                try simp only [Act.put, List.setIfInBounds_toArray, List.set_cons_zero, List.set_cons_succ]
                refine wpAnyH_ready (rs := [10]) (by kernel_rfl) (by simp) ?_
                refine AllReadyH.cons rfl (fun K1 hK1 => ?_) AllReadyH.nil
                go_simp
                refine hK1.out _ _ HKB13.out (fun hHeld => ?_)
                clear hK1 K1
                try simp only [Act.put, List.setIfInBounds_toArray, List.set_cons_zero, List.set_cons_succ]
                refine wpAnyH_take (i := 11) (v := ?_) rfl (by kernel_rfl) (by kernel_rfl) (by kernel_rfl) (fun _ _ _ h => h) (Or.inl ⟨by kernel_rfl, ?_⟩) (by assumption) ?_
                rotate_left 1
                · (intro w' hSw; (try dsimp only at hSw); go_simp; try with_reducible rfl)
                try simp only [Act.put, List.setIfInBounds_toArray, List.set_cons_zero, List.set_cons_succ]
                refine wpAnyH_take (i := 12) (v := ?_) rfl (by kernel_rfl) (by kernel_rfl) (by kernel_rfl) (fun _ _ _ h => h) (Or.inl ⟨by kernel_rfl, ?_⟩) (by assumption) ?_
                rotate_left 1
                · (intro w' hSw; (try dsimp only at hSw); go_simp; try with_reducible rfl)
                try simp only [Act.put, List.setIfInBounds_toArray, List.set_cons_zero, List.set_cons_succ]
                refine wpAnyH_ready (rs := [13]) (by kernel_rfl) (by simp) ?_
                refine AllReadyH.cons rfl (fun K1 hK1 => ?_) AllReadyH.nil
                go_simp
                refine hK1.out _ _ HKB14.out (fun hHeld => ?_)
                clear hK1 K1
                try simp only [Act.put, List.setIfInBounds_toArray, List.set_cons_zero, List.set_cons_succ]
                refine wpAnyH_done (by kernel_rfl) ?_ _
                go_wp2
                go_meet
                have hbt := HBd.out.clones HF1.out HO1.out HF2.out HO2.out
                have fp : Fr (Is gT) wA ((w12.setCell ⟨gT, 3, none⟩ (.slice A1 P.length c1)).setCell ⟨gT, 4, none⟩ (.slice A2 P.length c2)) := ((((Fr.refl (Is gT) wA).drew.trans HF1.out (fun _ _ h => h.elim)).trans HF2.out (fun _ _ h => h.elim)).setCell (p := ⟨gT, 3, none⟩) (fun _ => rfl) _).setCell (p := ⟨gT, 4, none⟩) (fun _ => rfl) _
                exact ⟨_, _, P, P, HPl, HPl, HLs, HHs, hide hbt, hide (fp.blk HPA.out (off_is (t' := 46) HBA.out.tr (by decide) _ _ _ HPA.out)), hide (HRA.out.fr fp (fun i hi e => by have e : i = gT := e; omega))⟩
              · have d5 : ((k : Int) == 0) = false := by simpa using hk0
                have hls := lows_step (dims := dims) HK1.out hPk (by rw [if_neg hk0])
                have hhs := highs_step (dims := dims) HK1.out hPk (by rw [if_neg hk0])
                have hl1 := lowsB_len (dims := dims) (take_ne HK1.out hk0)
                have hl2 := highsB_len (dims := dims) (take_ne HK1.out hk0)
                rw [← HLo.out] at hls hl1
                rw [← HHi.out] at hhs hl2
                have HLs := hide hls
                have HHs := hide hhs
                have HL1 := hide hl1
                have HL2 := hide hl2
                clear hPk hls hhs hk0 hl1 hl2
                go_wp2
                go_meet
                exact ⟨vlo, vhi, lo, hi, HL1, HL2, HLs, HHs, HBA, HPA, HRA⟩
            case rest =>
              obtain ⟨vl, vh, L0, H0, HLl, HHl, HLs, HHs, HBz, HPz, HRz⟩ := hcut
              refine hK _ _ ?_
              obtain ⟨wB, rfl⟩ : ∃ W : World, W = wc := ⟨_, rfl⟩
              clear hK HBA HPA HRA HLo HHi
              have kp : wB.cell? ⟨gp, 1, none⟩ = some (.slice Ap dims cp) := cell_of_row wB _ 1 _ _ _ HPz.out
              have hol := HBz.out.lo
              have hoh := HBz.out.hi
              rw [HLl.out] at hol
              rw [HHl.out] at hoh
              obtain ⟨Al, cl, rfl, q1, q2, _⟩ := hol.form
              obtain ⟨Ah, ch, rfl, q3, q4, _⟩ := hoh.form
              obtain ⟨ga, rfl, _⟩ := hol.store hd0
              obtain ⟨gb, rfl, _⟩ := hoh.store hd0
              unfold maxLen at q2 q4
              clear hol hoh
              go_upto_region 14 with (fail)
              clear kp HPz
              go_loopw [8, 9, 91] (fun _ _ i wr => ∃ (q : Nat) (lo' hi' : List Int), q ≤ dims ∧ i = .int .i64 (q : Nat) ∧ Hid (lo'.length = dims) ∧ Hid (hi'.length = dims) ∧ Hid (∀ d, d < dims → lo'.getD d 0 = if d < q then min (L0.getD d 0) (P.getD d 0) else L0.getD d 0) ∧ Hid (∀ d, d < dims → hi'.getD d 0 = if d < q then max (H0.getD d 0) (P.getD d 0) else H0.getD d 0) ∧ Hid (BT w wr g gr gT gx dims n cv (some ad) l t (.slice (some ⟨ga, 0, none⟩) dims cl) (.slice (some ⟨gb, 0, none⟩) dims ch) lo' hi') ∧ Hid (Rd wr gT Ap (iz .i64 P))) (fun _ _ i _ => dims - (intOf i).toNat)
              case atStart => exact ⟨0, L0, H0, by omega, by go_num, HLl, HHl, hide (fun d _ => by simp), hide (fun d _ => by simp), HBz, HRz⟩
              case round =>
                clear HBz HRz
                obtain ⟨wi, rfl⟩ : ∃ wo : World, wo = wr := ⟨_, rfl⟩
                obtain ⟨q, lo', hi', hq, rfl, HLl', HHl', HLe, HHe, HBi, HRi⟩ := hrel
                by_cases hlq : q < dims
                · obtain ⟨adp, rfl, _, hxp⟩ := cellInt HRi.out (k := q) (by rw [HPl.out]; exact hlq)
                  obtain ⟨x, hx⟩ : ∃ x, x = P.getD q 0 := ⟨_, rfl⟩
                  rw [← hx] at hxp
                  have HX := hide hx
                  clear hx
                  go_upto_region 16 with (fail)
                  have HBd := hide (HBi.out.fr0 (Fr.refl No wi).drew)
                  obtain ⟨y, hy⟩ : ∃ y, y = lo'.getD q 0 := ⟨_, rfl⟩
                  obtain ⟨z, hz⟩ : ∃ y, y = hi'.getD q 0 := ⟨_, rfl⟩
                  have kb : wi.drew.cell? ⟨w.heap.size, 0, none⟩ = some (.pointer (some ⟨gT, 0, none⟩)) := cell_of_row _ _ 0 _ _ _ HBd.out.b1
                  have kt3 : wi.drew.cell? ⟨gT, 3, none⟩ = some (.slice (some ⟨ga, 0, none⟩) dims cl) := cell_of_row _ _ 3 _ _ _ HBd.out.tr
                  have kt4 : wi.drew.cell? ⟨gT, 4, none⟩ = some (.slice (some ⟨gb, 0, none⟩) dims ch) := cell_of_row _ _ 4 _ _ _ HBd.out.tr
                  have hol := HBd.out.lo
                  have hoh := HBd.out.hi
                  rw [HLl'.out] at hol
                  rw [HHl'.out] at hoh
                  obtain ⟨g', e', _, _, ka, fa, _⟩ := hol.store hlq
                  cases e'
                  obtain ⟨g', e', _, _, kb', fb, _⟩ := hoh.store hlq
                  cases e'
                  rw [iz_get (by rw [HLl'.out]; exact hlq), ← hy] at ka
                  rw [iz_get (by rw [HHl'.out]; exact hlq), ← hz] at kb'
                  have hab : ga ≠ gb := fun e => HBd.out.ap ga rfl (by rw [e]; rfl)
                  have kb2 : ∀ v, (wi.drew.setCell ⟨ga, q, none⟩ v).cell? ⟨gb, q, none⟩ = some (.int .i64 z) := fun v => (World.cell?_setCell_other _ ⟨ga, q, none⟩ ⟨gb, q, none⟩ _ (by intro h; injection h; exact hab (by assumption))).trans kb'
                  have HY := hide hy
                  have HZ := hide hz
                  have fb3 : wi.frozen? ⟨gb, q, none⟩ = false := fb
                  have kb3 : (wi.setCell ⟨ga, q, none⟩ (.int .i64 (min y x))).cell? ⟨gb, q, none⟩ = some (.int .i64 z) := kb2 _
                  clear hy hz hol hoh hab hxp
                  refine wp_named fun K hK => ?_
                  go_cut [] from 96 to 125 (fun wz => wz = (wi.drew.setCell ⟨ga, q, none⟩ (.int .i64 (min y x))).setCell ⟨gb, q, none⟩ (.int .i64 (max z x)))
                  case first =>
                    have hbl := HBd.out.lot
                    have hbT := HBd.out.hT
                    have nga : ga ≠ w.heap.size ∧ ga ≠ gT := ⟨fun e => by have := hbl.1 ga rfl; omega, fun e => by have := hbl.1 ga rfl; omega⟩
                    have ngb : gb ≠ w.heap.size ∧ gb ≠ gT := ⟨fun e => by have := hbl.2 gb rfl; omega, fun e => by have := hbl.2 gb rfl; omega⟩
                    have oth : ∀ (W : World) (g k j : Nat) (v u : Value), g ≠ k → W.cell? ⟨k, j, none⟩ = some u → (W.setCell ⟨g, q, none⟩ v).cell? ⟨k, j, none⟩ = some u := fun W g k j v u hne h => (World.cell?_setCell_other _ ⟨g, q, none⟩ ⟨k, j, none⟩ _ (by intro h; injection h; exact hne (by assumption))).trans h
                    have HS1 := hide (And.intro (oth wi.drew ga _ _ (.int .i64 (min y x)) _ nga.1 kb) (And.intro (oth wi.drew ga _ _ (.int .i64 (min y x)) _ nga.2 kt3) (oth wi.drew ga _ _ (.int .i64 (min y x)) _ nga.2 kt4)))
                    have HS2 := hide (And.intro (oth _ gb _ _ (.int .i64 (max z x)) _ ngb.1 HS1.out.1) (And.intro (oth _ gb _ _ (.int .i64 (max z x)) _ ngb.2 HS1.out.2.1) (oth _ gb _ _ (.int .i64 (max z x)) _ ngb.2 HS1.out.2.2)))
                    clear hbl hbT nga ngb oth
                    have hmin : (if x < y then x else y) = min y x := by split <;> omega
                    have hmax : (if z < x then x else z) = max z x := by split <;> omega
                    have HS0 := hide (And.intro kb (And.intro kt3 kt4))
                    clear kb kt3 kt4
                    refine wp_calm fun Kc hKc => ?_
                    refine wp_region_held_drew (S := fun W => W.cell? ⟨w.heap.size, 0, none⟩ = some (.pointer (some ⟨gT, 0, none⟩)) ∧ W.cell? ⟨gT, 3, none⟩ = some (.slice (some ⟨ga, 0, none⟩) dims cl) ∧ W.cell? ⟨gT, 4, none⟩ = some (.slice (some ⟨gb, 0, none⟩) dims ch)) (by kernel_rfl) HS0.out (fun hHeld => ?_)
                    refine wpAnyH_take (i := 0) (v := ?_) rfl (by kernel_rfl) (by kernel_rfl) (by kernel_rfl) (fun _ _ _ h => h) (Or.inl ⟨by kernel_rfl, ?_⟩) (by assumption) ?_
                    rotate_left 1
                    · (intro w' hSw; (try dsimp only at hSw); go_simp; try with_reducible rfl)
                    try simp only [Act.put, List.setIfInBounds_toArray, List.set_cons_zero, List.set_cons_succ]
                    refine wpAnyH_take (i := 1) (v := ?_) rfl (by kernel_rfl) (by kernel_rfl) (by kernel_rfl) (fun _ _ _ h => h) (Or.inl ⟨by kernel_rfl, ?_⟩) (by assumption) ?_
                    rotate_left 1
                    · (intro w' hSw; (try dsimp only at hSw); go_simp; try with_reducible rfl)
                    try simp only [Act.put, List.setIfInBounds_toArray, List.set_cons_zero, List.set_cons_succ]
                    refine wpAnyH_take (i := 2) (v := ?_) rfl (by kernel_rfl) (by kernel_rfl) (by kernel_rfl) (fun _ _ _ h => h) (Or.inl ⟨by kernel_rfl, ?_⟩) (by assumption) ?_
                    rotate_left 1
                    · (intro w' hSw; (try dsimp only at hSw); go_simp; try with_reducible rfl)
                    try simp only [Act.put, List.setIfInBounds_toArray, List.set_cons_zero, List.set_cons_succ]
                    refine wpAnyH_take (i := 3) (v := ?_) rfl (by kernel_rfl) (by kernel_rfl) (by kernel_rfl) (fun _ _ _ h => h) (Or.inl ⟨by kernel_rfl, ?_⟩) (by assumption) ?_
                    rotate_left 1
                    · (intro w' hSw; (try dsimp only at hSw); go_simp; try with_reducible rfl)
                    try simp only [Act.put, List.setIfInBounds_toArray, List.set_cons_zero, List.set_cons_succ]
                    refine wpAnyH_take (i := 4) (v := ?_) rfl (by kernel_rfl) (by kernel_rfl) (by kernel_rfl) (fun _ _ _ h => h) (Or.inl ⟨by kernel_rfl, ?_⟩) (by assumption) ?_
                    rotate_left 1
                    · (intro w' hSw; (try dsimp only at hSw); go_simp; try with_reducible rfl)
                    try simp only [Act.put, List.setIfInBounds_toArray, List.set_cons_zero, List.set_cons_succ]
                    refine wpAnyH_take (i := 5) (v := ?_) rfl (by kernel_rfl) (by kernel_rfl) (by kernel_rfl) (fun _ _ _ h => h) (Or.inl ⟨by kernel_rfl, ?_⟩) (by assumption) ?_
                    rotate_left 1
                    · (intro w' hSw; (try dsimp only at hSw); go_simp; try with_reducible rfl)
                    try simp only [Act.put, List.setIfInBounds_toArray, List.set_cons_zero, List.set_cons_succ]
                    refine wpAnyH_take (i := 6) (v := ?_) rfl (by kernel_rfl) (by kernel_rfl) (by kernel_rfl) (fun _ _ _ h => h) (Or.inl ⟨by kernel_rfl, ?_⟩) (by assumption) ?_
                    rotate_left 1
                    · (intro w' hSw; (try dsimp only at hSw); go_simp; try with_reducible rfl)
                    try simp only [Act.put, List.setIfInBounds_toArray, List.set_cons_zero, List.set_cons_succ]
                    refine wpAnyH_take (i := 7) (v := ?_) rfl (by kernel_rfl) (by kernel_rfl) (by kernel_rfl) (fun _ _ _ h => h) (Or.inl ⟨by kernel_rfl, ?_⟩) (by assumption) ?_
                    rotate_left 1
                    · (intro w' hSw; (try dsimp only at hSw); go_simp; try with_reducible rfl)
                    try simp only [Act.put, List.setIfInBounds_toArray, List.set_cons_zero, List.set_cons_succ]
                    refine wpAnyH_take (i := 8) (v := ?_) rfl (by kernel_rfl) (by kernel_rfl) (by kernel_rfl) (fun _ _ _ h => h) (Or.inl ⟨by kernel_rfl, ?_⟩) (by assumption) ?_
                    rotate_left 1
                    · (intro w' hSw; (try dsimp only at hSw); go_simp; try with_reducible rfl)
                    try simp only [Act.put, List.setIfInBounds_toArray, List.set_cons_zero, List.set_cons_succ]
                    refine wpAnyH_take (i := 9) (v := ?_) rfl (by kernel_rfl) (by kernel_rfl) (by kernel_rfl) (fun _ _ _ h => h) (Or.inl ⟨by kernel_rfl, ?_⟩) (by assumption) ?_
                    rotate_left 1
                    · (intro w' hSw; (try dsimp only at hSw); go_simp; try with_reducible rfl)
                    try simp only [Act.put, List.setIfInBounds_toArray, List.set_cons_zero, List.set_cons_succ]
                    refine wpAnyH_take (i := 10) (v := ?_) rfl (by kernel_rfl) (by kernel_rfl) (by kernel_rfl) (fun _ _ _ h => h) (Or.inl ⟨by kernel_rfl, ?_⟩) (by assumption) ?_
                    rotate_left 1
                    · (intro w' hSw; (try dsimp only at hSw); go_simp; try with_reducible rfl)
                    try simp only [Act.put, List.setIfInBounds_toArray, List.set_cons_zero, List.set_cons_succ]
                    refine wpAnyH_take (i := 11) (v := ?_) rfl (by kernel_rfl) (by kernel_rfl) (by kernel_rfl) (fun _ _ _ h => h) (Or.inl ⟨by kernel_rfl, ?_⟩) (by assumption) ?_
                    rotate_left 1
                    · (intro w' hSw; (try dsimp only at hSw); go_simp; try with_reducible rfl)
                    try simp only [Act.put, List.setIfInBounds_toArray, List.set_cons_zero, List.set_cons_succ]
                    refine wpAnyH_take (i := 12) (v := ?_) rfl (by kernel_rfl) (by kernel_rfl) (by kernel_rfl) (fun _ _ _ h => h) (Or.inl ⟨by kernel_rfl, ?_⟩) (by assumption) ?_
                    rotate_left 1
                    · (intro w' hSw; (try dsimp only at hSw); go_simp; try with_reducible rfl)
                    try simp only [Act.put, List.setIfInBounds_toArray, List.set_cons_zero, List.set_cons_succ]
                    refine wpAnyH_take (i := 13) (v := ?_) rfl (by kernel_rfl) (by kernel_rfl) (by kernel_rfl) (fun _ _ _ h => h) (Or.inl ⟨by kernel_rfl, ?_⟩) (by assumption) ?_
                    rotate_left 1
                    · (intro w' hSw; (try dsimp only at hSw); go_simp; try with_reducible rfl)
                    try simp only [Act.put, List.setIfInBounds_toArray, List.set_cons_zero, List.set_cons_succ]
                    refine wpAnyH_take (i := 14) (v := ?_) rfl (by kernel_rfl) (by kernel_rfl) (by kernel_rfl) (fun _ _ _ h => h) (Or.inl ⟨by kernel_rfl, ?_⟩) (by assumption) ?_
                    rotate_left 1
                    · (intro w' hSw; (try dsimp only at hSw); go_simp; try with_reducible rfl)
                    try simp only [Act.put, List.setIfInBounds_toArray, List.set_cons_zero, List.set_cons_succ]
                    refine wpAnyH_take (i := 15) (v := ?_) rfl (by kernel_rfl) (by kernel_rfl) (by kernel_rfl) (fun _ _ _ h => h) (Or.inl ⟨by kernel_rfl, ?_⟩) (by assumption) ?_
                    rotate_left 1
                    · (intro w' hSw; (try dsimp only at hSw); go_simp; try with_reducible rfl)
                    try simp only [Act.put, List.setIfInBounds_toArray, List.set_cons_zero, List.set_cons_succ]
                    refine wpAnyH_take (i := 17) (v := ?_) rfl (by kernel_rfl) (by kernel_rfl) (by kernel_rfl) (fun _ _ _ h => h) (Or.inl ⟨by kernel_rfl, ?_⟩) (by assumption) ?_
                    rotate_left 1
                    · (intro w' hSw; (try dsimp only at hSw); go_simp; try with_reducible rfl)
                    try simp only [Act.put, List.setIfInBounds_toArray, List.set_cons_zero, List.set_cons_succ]
                    refine wpAnyH_take (i := 19) (v := ?_) rfl (by kernel_rfl) (by kernel_rfl) (by kernel_rfl) (fun _ _ _ h => h) (Or.inl ⟨by kernel_rfl, ?_⟩) (by assumption) ?_
                    rotate_left 1
                    · (intro w' hSw; (try dsimp only at hSw); go_simp; try with_reducible rfl)
                    try simp only [Act.put, List.setIfInBounds_toArray, List.set_cons_zero, List.set_cons_succ]
                    refine wpAnyH_take (i := 20) (v := ?_) rfl (by kernel_rfl) (by kernel_rfl) (by kernel_rfl) (fun _ _ _ h => h) (Or.inl ⟨by kernel_rfl, ?_⟩) (by assumption) ?_
                    rotate_left 1
                    · (intro w' hSw; (try dsimp only at hSw); go_simp; try with_reducible rfl)
                    try simp only [Act.put, List.setIfInBounds_toArray, List.set_cons_zero, List.set_cons_succ]
                    refine wpAnyH_take (i := 21) (v := ?_) rfl (by kernel_rfl) (by kernel_rfl) (by kernel_rfl) (fun _ _ _ h => h) (Or.inl ⟨by kernel_rfl, ?_⟩) (by assumption) ?_
                    rotate_left 1
                    · (intro w' hSw; (try dsimp only at hSw); go_simp; try with_reducible rfl)
                    try simp only [Act.put, List.setIfInBounds_toArray, List.set_cons_zero, List.set_cons_succ]
                    refine wpAnyH_take (i := 22) (v := ?_) rfl (by kernel_rfl) (by kernel_rfl) (by kernel_rfl) (fun _ _ _ h => h) (Or.inl ⟨by kernel_rfl, ?_⟩) (by assumption) ?_
                    rotate_left 1
                    · (intro w' hSw; (try dsimp only at hSw); go_simp; try with_reducible rfl)
                    try simp only [Act.put, List.setIfInBounds_toArray, List.set_cons_zero, List.set_cons_succ]
                    refine wpAnyH_take (i := 23) (v := ?_) rfl (by kernel_rfl) (by kernel_rfl) (by kernel_rfl) (fun _ _ _ h => h) (Or.inl ⟨by kernel_rfl, ?_⟩) (by assumption) ?_
                    rotate_left 1
                    · (intro w' hSw; (try dsimp only at hSw); go_simp; try with_reducible rfl)
                    try simp only [Act.put, List.setIfInBounds_toArray, List.set_cons_zero, List.set_cons_succ]
                    refine wpAnyH_take (i := 24) (v := ?_) rfl (by kernel_rfl) (by kernel_rfl) (by kernel_rfl) (fun _ _ _ h => h) (Or.inl ⟨by kernel_rfl, ?_⟩) (by assumption) ?_
                    rotate_left 1
                    · (intro w' hSw; (try dsimp only at hSw); go_simp; try with_reducible rfl)
                    try simp only [Act.put, List.setIfInBounds_toArray, List.set_cons_zero, List.set_cons_succ]
                    refine wpAnyH_take (i := 26) (v := ?_) rfl (by kernel_rfl) (by kernel_rfl) (by kernel_rfl) (fun _ _ _ h => h) (Or.inl ⟨by kernel_rfl, ?_⟩) (by assumption) ?_
                    rotate_left 1
                    · (intro w' hSw; (try dsimp only at hSw); go_simp; try with_reducible rfl)
                    try simp only [Act.put, List.setIfInBounds_toArray, List.set_cons_zero, List.set_cons_succ]
                    refine wpAnyH_ready (rs := [16, 25]) (by kernel_rfl) (by simp) ?_
                    refine AllReadyH.cons rfl (fun K1 hK1 => ?_) (AllReadyH.cons rfl (fun K1 hK1 => ?_) AllReadyH.nil)
                    · go_simp
                      refine hK1.out _ _ HS0.out (fun hHeld => ?_)
                      clear hK1 K1
                      try simp only [Act.put, List.setIfInBounds_toArray, List.set_cons_zero, List.set_cons_succ]
                      refine wpAnyH_take (i := 18) (v := .int .i64 (min y x)) rfl (by kernel_rfl) (by kernel_rfl) (by kernel_rfl) (fun _ _ _ h => h) (Or.inl ⟨by kernel_rfl, ?_⟩) (by assumption) ?_
                      · (intro w' hSw; (try dsimp only at hSw); go_simp)
                      try simp only [Act.put, List.setIfInBounds_toArray, List.set_cons_zero, List.set_cons_succ]
                      refine wpAnyH_ready (rs := [25]) (by kernel_rfl) (by simp) ?_
                      refine AllReadyH.cons rfl (fun K1 hK1 => ?_) AllReadyH.nil
                      go_simp
                      refine hK1.out _ _ HS0.out (fun hHeld => ?_)
                      clear hK1 K1
                      try simp only [Act.put, List.setIfInBounds_toArray, List.set_cons_zero, List.set_cons_succ]
                      refine wpAnyH_take (i := 27) (v := .int .i64 (max z x)) rfl (by kernel_rfl) (by kernel_rfl) (by kernel_rfl) (fun _ _ _ h => h) (Or.inl ⟨by kernel_rfl, ?_⟩) (by assumption) ?_
                      · (intro w' hSw; (try dsimp only at hSw); go_simp)
                      try simp only [Act.put, List.setIfInBounds_toArray, List.set_cons_zero, List.set_cons_succ]
                      refine wpAnyH_take (i := 28) (v := ?_) rfl (by kernel_rfl) (by kernel_rfl) (by kernel_rfl) (fun _ _ _ h => h) (Or.inl ⟨by kernel_rfl, ?_⟩) (by assumption) ?_
                      rotate_left 1
                      · (intro w' hSw; (try dsimp only at hSw); go_simp; try with_reducible rfl)
                      try simp only [Act.put, List.setIfInBounds_toArray, List.set_cons_zero, List.set_cons_succ]
                      refine wpAnyH_ready (rs := [29]) (by kernel_rfl) (by simp) ?_
                      refine AllReadyH.cons rfl (fun K1 hK1 => ?_) AllReadyH.nil
                      go_simp
                      refine hK1.out _ _ HS1.out (fun hHeld => ?_)
                      clear hK1 K1
                      try simp only [Act.put, List.setIfInBounds_toArray, List.set_cons_zero, List.set_cons_succ]
                      refine wpAnyH_take (i := 30) (v := ?_) rfl (by kernel_rfl) (by kernel_rfl) (by kernel_rfl) (fun _ _ _ h => h) (Or.inl ⟨by kernel_rfl, ?_⟩) (by assumption) ?_
                      rotate_left 1
                      · (intro w' hSw; (try dsimp only at hSw); go_simp; try with_reducible rfl)
                      try simp only [Act.put, List.setIfInBounds_toArray, List.set_cons_zero, List.set_cons_succ]
                      refine wpAnyH_ready (rs := [31]) (by kernel_rfl) (by simp) ?_
                      refine AllReadyH.cons rfl (fun K1 hK1 => ?_) AllReadyH.nil
                      go_simp
                      refine hK1.out _ _ HS2.out (fun hHeld => ?_)
                      clear hK1 K1
                      try simp only [Act.put, List.setIfInBounds_toArray, List.set_cons_zero, List.set_cons_succ]
                      refine wpAnyH_done (by kernel_rfl) ?_ _
                      go_simp
                      refine hKc _ _ ?_
                      go_wp2
                      go_meet
                      rfl
                    · go_simp
                      refine hK1.out _ _ HS0.out (fun hHeld => ?_)
                      clear hK1 K1
                      try simp only [Act.put, List.setIfInBounds_toArray, List.set_cons_zero, List.set_cons_succ]
                      refine wpAnyH_take (i := 27) (v := .int .i64 (max z x)) rfl (by kernel_rfl) (by kernel_rfl) (by kernel_rfl) (fun _ _ _ h => h) (Or.inl ⟨by kernel_rfl, ?_⟩) (by assumption) ?_
                      · (intro w' hSw; (try dsimp only at hSw); go_simp)
                      try simp only [Act.put, List.setIfInBounds_toArray, List.set_cons_zero, List.set_cons_succ]
                      refine wpAnyH_ready (rs := [16]) (by kernel_rfl) (by simp) ?_
                      refine AllReadyH.cons rfl (fun K1 hK1 => ?_) AllReadyH.nil
                      go_simp
                      refine hK1.out _ _ HS0.out (fun hHeld => ?_)
                      clear hK1 K1
                      try simp only [Act.put, List.setIfInBounds_toArray, List.set_cons_zero, List.set_cons_succ]
                      refine wpAnyH_take (i := 18) (v := .int .i64 (min y x)) rfl (by kernel_rfl) (by kernel_rfl) (by kernel_rfl) (fun _ _ _ h => h) (Or.inl ⟨by kernel_rfl, ?_⟩) (by assumption) ?_
                      · (intro w' hSw; (try dsimp only at hSw); go_simp)
                      try simp only [Act.put, List.setIfInBounds_toArray, List.set_cons_zero, List.set_cons_succ]
                      refine wpAnyH_take (i := 28) (v := ?_) rfl (by kernel_rfl) (by kernel_rfl) (by kernel_rfl) (fun _ _ _ h => h) (Or.inl ⟨by kernel_rfl, ?_⟩) (by assumption) ?_
                      rotate_left 1
                      · (intro w' hSw; (try dsimp only at hSw); go_simp; try with_reducible rfl)
                      try simp only [Act.put, List.setIfInBounds_toArray, List.set_cons_zero, List.set_cons_succ]
                      refine wpAnyH_ready (rs := [29]) (by kernel_rfl) (by simp) ?_
                      refine AllReadyH.cons rfl (fun K1 hK1 => ?_) AllReadyH.nil
                      go_simp
                      refine hK1.out _ _ HS1.out (fun hHeld => ?_)
                      clear hK1 K1
                      try simp only [Act.put, List.setIfInBounds_toArray, List.set_cons_zero, List.set_cons_succ]
                      refine wpAnyH_take (i := 30) (v := ?_) rfl (by kernel_rfl) (by kernel_rfl) (by kernel_rfl) (fun _ _ _ h => h) (Or.inl ⟨by kernel_rfl, ?_⟩) (by assumption) ?_
                      rotate_left 1
                      · (intro w' hSw; (try dsimp only at hSw); go_simp; try with_reducible rfl)
                      try simp only [Act.put, List.setIfInBounds_toArray, List.set_cons_zero, List.set_cons_succ]
                      refine wpAnyH_ready (rs := [31]) (by kernel_rfl) (by simp) ?_
                      refine AllReadyH.cons rfl (fun K1 hK1 => ?_) AllReadyH.nil
                      go_simp
                      refine hK1.out _ _ HS2.out (fun hHeld => ?_)
                      clear hK1 K1
                      try simp only [Act.put, List.setIfInBounds_toArray, List.set_cons_zero, List.set_cons_succ]
                      refine wpAnyH_done (by kernel_rfl) ?_ _
                      go_simp
                      refine hKc _ _ ?_
                      go_wp2
                      go_meet
                      rfl
                  case rest =>
                    have hw := hcut
                    refine hK _ _ ?_
                    obtain ⟨wC, rfl⟩ : ∃ W : World, W = wc := ⟨_, rfl⟩
                    clear hcut hK kb kt3 kt4 ka fa kb' fb fb3 kb2 kb3
                    have HBn : Hid (BT w wC g gr gT gx dims n cv (some ad) l t (.slice (some ⟨ga, 0, none⟩) dims cl) (.slice (some ⟨gb, 0, none⟩) dims ch) (lo'.set q (min y x)) (hi'.set q (max z x))) := hide (by rw [hw]; exact HBd.out.put HLl'.out HHl'.out hlq hlq)
                    have HRn : Hid (Rd wC gT (some adp) (iz .i64 P)) := hide (by
                      rw [hw]
                      obtain ⟨t1, t2⟩ := HBi.out.lot
                      have f : Fr (fun k => k = ga ∨ k = gb) wi ((wi.drew.setCell ⟨ga, q, none⟩ (.int .i64 (min y x))).setCell ⟨gb, q, none⟩ (.int .i64 (max z x))) := ((Fr.refl _ wi).drew.setCell (p := ⟨ga, q, none⟩) (fun _ => .inl rfl) _).setCell (p := ⟨gb, q, none⟩) (fun _ => .inr rfl) _
                      exact HRi.out.fr f (fun i hi e => by
                        rcases e with rfl | rfl
                        · have := t1 _ rfl; omega
                        · have := t2 _ rfl; omega))
                    have HL2 : Hid ((lo'.set q (min y x)).length = dims) := hide (by rw [List.length_set]; exact HLl'.out)
                    have HH2 : Hid ((hi'.set q (max z x)).length = dims) := hide (by rw [List.length_set]; exact HHl'.out)
                    have HLe2 : Hid (∀ d, d < dims → (lo'.set q (min y x)).getD d 0 = if d < q + 1 then min (L0.getD d 0) (P.getD d 0) else L0.getD d 0) := hide (fun d hd => by
                      have h1 := HLe.out d hd
                      by_cases hdq : d = q
                      · subst hdq
                        rw [if_neg (Nat.lt_irrefl _)] at h1
                        rw [set_getD_self (by rw [HLl'.out]; exact hd), if_pos (by omega), HY.out, HX.out, h1]
                      · rw [set_getD_ne hdq, h1]
                        by_cases h2 : d < q
                        · rw [if_pos h2, if_pos (by omega)]
                        · rw [if_neg h2, if_neg (by omega)])
                    have HHe2 : Hid (∀ d, d < dims → (hi'.set q (max z x)).getD d 0 = if d < q + 1 then max (H0.getD d 0) (P.getD d 0) else H0.getD d 0) := hide (fun d hd => by
                      have h1 := HHe.out d hd
                      by_cases hdq : d = q
                      · subst hdq
                        rw [if_neg (Nat.lt_irrefl _)] at h1
                        rw [set_getD_self (by rw [HHl'.out]; exact hd), if_pos (by omega), HZ.out, HX.out, h1]
                      · rw [set_getD_ne hdq, h1]
                        by_cases h2 : d < q
                        · rw [if_pos h2, if_pos (by omega)]
                        · rw [if_neg h2, if_neg (by omega)])
                    clear hw HBd HBi HRi HLe HHe HLl' HHl'
                    go_wp2_with (fail)
                    go_roundw
                    case rel => exact ⟨q + 1, _, _, by omega, by go_num, HL2, HH2, HLe2, HHe2, HBn, HRn⟩
                    case measure => simp [intOf]; omega
                · obtain rfl : q = dims := by omega
                  have hlo : lo' = lowsB q (l.take (k + 1)) := by
                    rw [← HLs.out]
                    refine List.ext_getElem (by rw [HLl'.out]; simp) fun d h1 h2 => ?_
                    have h3 := HLe.out d (by rw [HLl'.out] at h1; exact h1)
                    rw [HLl'.out] at h1
                    rw [if_pos h1] at h3
                    simp [List.getD, List.getElem?_eq_getElem (show d < lo'.length by rw [HLl'.out]; exact h1)] at h3
                    simp [h3, List.getD]
                  have hhi : hi' = highsB q (l.take (k + 1)) := by
                    rw [← HHs.out]
                    refine List.ext_getElem (by rw [HHl'.out]; simp) fun d h1 h2 => ?_
                    have h3 := HHe.out d (by rw [HHl'.out] at h1; exact h1)
                    rw [HHl'.out] at h1
                    rw [if_pos h1] at h3
                    simp [List.getD, List.getElem?_eq_getElem (show d < hi'.length by rw [HHl'.out]; exact h1)] at h3
                    simp [h3, List.getD]
                  have HLo' := hide hlo
                  have HHi' := hide hhi
                  clear hlo hhi hlq
                  go_wp2_with (fail)
                  go_roundw
                  case rel => exact ⟨k + 1, _, _, _, _, by omega, by go_num, HLo', HHi', HBi⟩
                  case measure => simp [intOf]; omega
          · obtain rfl : k = n := by omega
            have hall : l.take k = l := List.take_of_length_le (by rw [HNl.out]; exact Nat.le_refl _)
            rw [hall] at HLo HHi
            have kb : wo.cell? ⟨w.heap.size, 0, none⟩ = some (.pointer (some ⟨gT, 0, none⟩)) := cell_of_row _ _ 0 _ _ _ HB.out.b1
            have fb : wo.frozen? ⟨w.heap.size, 0, none⟩ = false := frozen_of_row _ _ _ _ _ HB.out.b1
            have hT := HB.out.hT
            have f1 : Fr (Is w.heap.size) wo (wo.setCell ⟨w.heap.size, 0, none⟩ (.pointer (some ⟨gT, 0, none⟩))) := (Fr.refl (Is w.heap.size) wo).setCell (p := ⟨w.heap.size, 0, none⟩) (fun _ => rfl) _
            have hb2 := f1.blk HB.out.b2 (fun e => by have e : w.heap.size + 1 = w.heap.size := e; omega)
            have ke := cell_of_row _ _ 0 _ _ _ hb2
            have fe := frozen_of_row _ _ 0 _ _ hb2
            clear hall hlk hT f1 hb2
            go_wp2_with (fail)
            obtain ⟨z1, z2, z3, z4⟩ := HB.out.fin HNl.out HYt.out HLo.out HHi.out
            exact bleave_ok rfl rfl z2 z3 z4 HYb.out z1
end Go.Proofs.YtpopbkcbplmcaaaGreat
