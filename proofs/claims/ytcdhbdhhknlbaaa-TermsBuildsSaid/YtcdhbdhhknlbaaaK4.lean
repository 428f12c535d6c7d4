/- Several texts in one: Vals, MemIn, TerS, TakeN, TakeS, TerN, Ints. -/
import Derived.Test.YtcdhbdhhknlbaaaK3
import Derived.Laws.MakeOwn
import Derived.RangeFuncNested
import Derived.RangeFuncBound
import Derived.RangeFuncCalls
import Derived.RangeFuncLeaves
import Derived.Shelf.Abstract
import Derived.Shelf.RegionOpen
import Derived.OwnWalkIn
import Derived.TacticsInMore
import Derived.LoopNIn
import Derived.LoopIn
import Derived.WalkLawsBesides
import Derived.Deep.RegionWith
import Derived.Deep.RegionHeld3
import Derived.Deep.DeepCutAuto
namespace Go.Proofs.Ytcdhbdhhknlbaaa
set_option linter.unusedVariables false
set_option linter.unusedSimpArgs false
open Go.RowKit

theorem Own.apart {w : World} {b1 b2 e1 e2 s1 s2 n1 n2 : Nat} {v1 v2 : Value} {xs1 xs2 : List Value} (h1 : Own w b1 e1 s1 v1 n1 xs1) (h2 : Own w b2 e2 s2 v2 n2 xs2) (hne : e1 ≠ e2) : ∀ k, v1.ownBlock = some k → v2.ownBlock ≠ some k := by
  intro k hk hk2
  obtain ⟨_, A, c, rfl, _, _, hA⟩ := h2
  rcases hA with ⟨rfl, _⟩ | ⟨g, cur, rfl, _, hh, _⟩
  · simp [Value.ownBlock] at hk2
  · have e : g = k := Option.some.inj hk2
    subst e
    exact h1.ne_blk hk hh hne
theorem Own.above {S : Nat → Prop} {w w' : World} {base e size n : Nat} {v : Value} {xs : List Value} (h : Own w base e size v n xs) (f : Fr S w w') (hS : ∀ k, S k → k < base) : Own w' base e size v n xs :=
  h.fr f (fun k hk e => by have := (h.lt k hk).1; have := hS k e; omega)
theorem made_own (w : World) (k : Nat) (e : TypeId) (v : Value) (z : Array Value) (hz : z = #[v]) (hk : k ≤ maxLen) : Own (w.alloc (.cells (madeCells z k) e)) w.heap.size e 1 (.slice (some ⟨w.heap.size, 0, none⟩) k k) k (List.replicate k v) := by
  subst hz
  refine ⟨by simp, _, _, rfl, Nat.le_refl _, hk, .inr ⟨w.heap.size, _, rfl, Nat.le_refl _, heap_alloc_new w _, by rw [size_madeCells]; omega, ?_⟩⟩
  rw [Nat.mul_one, List.take_of_length_le (by rw [Array.length_toList, size_madeCells]; omega)]
  apply List.ext_getElem
  · simp [madeCells]
  · intro i h1 h2
    simp [madeCells, Nat.mod_one]

theorem Fr.putO (w : World) (G j n c : Nat) (v : Value) : Fr (fun k => (Value.slice (some ⟨G, 0, none⟩) n c).ownBlock = some k) w (w.setCell ⟨G, j, none⟩ v) :=
  (Fr.refl (fun k => (Value.slice (some ⟨G, 0, none⟩) n c).ownBlock = some k) w).setCell (p := ⟨G, j, none⟩) (fun _ => (rfl : some G = some G)) v
theorem Own.some_at {w : World} {base e n : Nat} {v : Value} {xs : List Value} (h : Own w base e 1 v n xs) {k : Nat} (hk : k < n) : ∃ u, xs[k]? = some u :=
  ⟨_, List.getElem?_eq_getElem (by have := h.1; omega)⟩
/-- integers as cells. -/
def ints (l : List Nat) : List Value := l.map fun (n : Nat) => .int .i64 n

/-- slices of bytes that were handed out: each of its own memory. -/
structure Vals (w : World) (base : Nat) (vals : List Value) (bss : List (List UInt8)) : Prop where
  len : vals.length = bss.length
  own : ∀ (j : Nat) (v : Value) (bs : List UInt8), vals[j]? = some v → bss[j]? = some bs → Own w base 5 1 v bs.length (by8 bs)
  dis : ∀ (i j : Nat) (vi vj : Value), i < j → vals[i]? = some vi → vals[j]? = some vj → ∀ k, vi.ownBlock = some k → vj.ownBlock ≠ some k
section
variable {S : Nat → Prop} {w w' : World} {base : Nat} {vals : List Value} {bss : List (List UInt8)}
theorem Vals.nil (w : World) (base : Nat) : Vals w base [] [] := ⟨rfl, fun j v bs h => by simp at h, fun i j vi vj _ h => by simp at h⟩
theorem Vals.get (h : Vals w base vals bss) {j : Nat} {v : Value} (hv : vals[j]? = some v) : ∃ bs, bss[j]? = some bs ∧ Own w base 5 1 v bs.length (by8 bs) := by
  have hj := (List.getElem?_eq_some_iff.1 hv).1
  rw [h.len] at hj
  exact ⟨_, List.getElem?_eq_getElem hj, h.own j v _ hv (List.getElem?_eq_getElem hj)⟩
theorem Vals.fr (h : Vals w base vals bss) (f : Fr S w w') (hS : ∀ (j : Nat) v, vals[j]? = some v → ∀ k, v.ownBlock = some k → ¬ S k) : Vals w' base vals bss :=
  ⟨h.len, fun j v bs hv hb => (h.own j v bs hv hb).fr f (hS j v hv), h.dis⟩
theorem Vals.fr0 (h : Vals w base vals bss) (f : Fr No w w') : Vals w' base vals bss := h.fr f (fun _ _ _ _ _ h => h)
theorem Vals.above (h : Vals w base vals bss) (f : Fr S w w') (hS : ∀ k, S k → k < base) : Vals w' base vals bss := h.fr f (fun j v hv k hk e => by
  obtain ⟨bs, _, ho⟩ := h.get hv
  have := (ho.lt k hk).1
  have := hS k e
  omega)
theorem Vals.other {b2 e2 s2 n2 : Nat} {v2 : Value} {xs2 : List Value} (h : Vals w base vals bss) (o : Own w b2 e2 s2 v2 n2 xs2) (hne : 5 ≠ e2) (f : Fr (fun k => v2.ownBlock = some k) w w') : Vals w' base vals bss := h.fr f (fun j v hv k hk e => by
  obtain ⟨bs, _, ho⟩ := h.get hv
  exact ho.apart o hne k hk e)
theorem Vals.lower {b2 : Nat} (h : Vals w base vals bss) (hb : b2 ≤ base) : Vals w b2 vals bss := ⟨h.len, fun j v bs hv hb' => (h.own j v bs hv hb').lower hb, h.dis⟩
theorem Vals.snoc {w0 : World} {v : Value} {bs : List UInt8} (h0 : Vals w0 base vals bss) (h : Vals w base vals bss) (o : Own w w0.heap.size 5 1 v bs.length (by8 bs)) (hb : base ≤ w0.heap.size) : Vals w base (vals ++ [v]) (bss ++ [bs]) := by
  have hl := h.len
  refine ⟨by simp [hl], ?_, ?_⟩
  · intro j v' bs' hv hb'
    by_cases hj : j < vals.length
    · rw [List.getElem?_append_left hj] at hv
      rw [List.getElem?_append_left (by omega)] at hb'
      exact h.own j v' bs' hv hb'
    · have hj1 := (List.getElem?_eq_some_iff.1 hv).1
      have e1 : j = vals.length := by simp at hj1; omega
      subst e1
      rw [List.getElem?_append_right (Nat.le_refl _), Nat.sub_self] at hv
      rw [hl, List.getElem?_append_right (Nat.le_refl _), Nat.sub_self] at hb'
      simp at hv hb'
      subst hv; subst hb'
      exact o.lower hb
  · intro i j vi vj hij hi hj k hk
    have hj1 := (List.getElem?_eq_some_iff.1 hj).1
    by_cases hjl : j < vals.length
    · rw [List.getElem?_append_left (by omega)] at hi
      rw [List.getElem?_append_left hjl] at hj
      exact h.dis i j vi vj hij hi hj k hk
    · have e1 : j = vals.length := by simp at hj1; omega
      subst e1
      rw [List.getElem?_append_left hij] at hi
      rw [List.getElem?_append_right (Nat.le_refl _), Nat.sub_self] at hj
      simp at hj
      subst hj
      intro hk2
      obtain ⟨bs', _, ho⟩ := h0.get hi
      have h1 := (ho.lt k hk).2
      have h2 := (o.lt k hk2).1
      omega
/-- as lists that are read. -/
theorem Vals.bsl (h : Vals w base vals bss) {A : Option Addr} (hr : Rd w w.heap.size A vals) : BSl w w.heap.size A bss := fun j bs hj => by
  have hj1 := (List.getElem?_eq_some_iff.1 hj).1
  have hv : vals[j]? = some (vals[j]'(by rw [h.len]; exact hj1)) := List.getElem?_eq_getElem _
  obtain ⟨ad, e, hb, hc⟩ := hr j _ hv
  have ho := h.own j _ bs hv hj
  obtain ⟨A', c', hv', h1, h2, _, h3, _⟩ := ho.form
  rw [hv'] at hc
  exact ⟨ad, A', c', e, hb, hc, h1, h2, h3⟩
end
/-- one slice, laid in a new block ('append(s, x)'). -/
theorem src_slice (w : World) (A : Option Addr) (n c : Nat) : Src Try.prog 1 49 (.slice (some ⟨w.heap.size, 0, none⟩) 1 1) 1 [.slice A n c] (w.alloc (.cells #[.slice A n c] 24)) :=
  Src.one (P := Try.prog) w (e := 24) Try.underlying49 _ rfl
theorem Try.infoB : (Try.prog.info? 24).map (fun i => (i.zero, i.size, i.bytes)) = some (some (.slice none 0 0), 1, 24) := by kernel_rfl
end Go.Proofs.Ytcdhbdhhknlbaaa
namespace Go.Proofs.Ytcdhbdhhknlbaaa
set_option linter.unusedVariables false
set_option linter.unusedSimpArgs false
open Go.RowKit

theorem wpListIn_append_gen {F : Fence} {n' : Nat} {P : Program} (w : World) {ops : Array Oper} {rest : List Oper} {o : Oper} {a : Act} {Q : Exit → Act → World → Prop} (hgd : o.guard = none) (s x : Operand) (t tx : TypeId)
    (ho : o.op = .call { callee := .builtin .append, args := #[s, x], argTypes := #[t, tx] })
    (base : Nat) (e : TypeId) (i : TypeInfo) (z : Value) (size bytes : Nat) (ht : P.underlying t = some (.slice e)) (hi : P.info? e = some i) (hz : i.zero = some z)
    (hsize : i.size = size) (hby : i.bytes = bytes) (hzs : z.cells.size = size)
    (v : Value) (n : Nat) (xs : List Value) (hs : a.eval s = v) (hown : Own w base e size v n xs)
    (y : Value) (m : Nat) (news : List Value) (hx : a.eval x = y) (hsrc : Src P size tx y m news w)
    (hbytes : (n + m) * bytes ≤ 140737488355328) (h63 : n + m ≤ maxLen) (hbase : base ≤ w.heap.size)
    (h : ∀ v' w', Own w' base e size v' (n + m) (xs ++ news) → Fr (fun k => v.ownBlock = some k) w w' → (v'.ownBlock = v.ownBlock ∨ v'.ownBlock = some w.heap.size) → wpListIn F n' P ops Q rest (a.put o.dst v') w') : wpListIn F n' P ops Q (o :: rest) a w := by
  refine wpListIn_plain hgd fun K hK' => ?_
  obtain ⟨v', w', hrun, h2, h3, h4⟩ := run_append_gen (P := P) w base t tx o.type e i z size bytes ht hi hz hsize hby hzs v n xs hown y m news hsrc hbytes h63 hbase
  unfold Oper.wpIn
  refine ⟨?_, ?_⟩
  · simp [Oper.about, ho, resolve, Target.leads, Sem.run_pure]
  · rw [Oper.semAt_plain F _ _ (by rw [ho]; intro c hc'; cases hc')]
    simp [execOp, ho, resolve, invoke, builtin, hs, hx, hrun, Result.andThen]
    exact hK' _ _ (h v' w' h2 h3 h4)

/-- a block of cells is left as it was. -/
theorem blk_kept {W W' : World} {row : Option Nat} {k : Nat} {o : Obj} (hk : W.heap[k]? = some o) (hc : o.isCells = true) (hg : W.grownBy W' row) (hr : ∀ r, row = some r → ∃ o : Obj, W.heap[r]? = some o ∧ o.isCells = false) : W'.heap[k]? = some o := by
  refine (Fr.of_grown hg).blk hk (fun e => ?_)
  obtain ⟨o', h1, h2⟩ := hr k e
  rw [hk] at h1
  injection h1 with h1
  subst h1
  rw [hc] at h2
  cases h2
theorem own_kept {W W' : World} {row : Option Nat} {base e size n : Nat} {v : Value} {xs : List Value} (h : Own W base e size v n xs) (hg : W.grownBy W' row) (hr : ∀ r, row = some r → ∃ o : Obj, W.heap[r]? = some o ∧ o.isCells = false) : Own W' base e size v n xs := by
  obtain ⟨hl, A, c, rfl, hc, hm, hA⟩ := h
  refine ⟨hl, A, c, rfl, hc, hm, ?_⟩
  rcases hA with hA | ⟨g, cur, rfl, hb, hh, r⟩
  · exact .inl hA
  · exact .inr ⟨g, cur, rfl, hb, blk_kept hh rfl hg hr, r⟩
/-- a write to blocks of cells alone leaves all that is no cells. -/
theorem keeps_of_fr {S : Nat → Prop} {W W' : World} (f : Fr S W W') (hS : ∀ k o, S k → W.heap[k]? = some o → o.isCells = true) : KeepsOthers W W' :=
  ⟨f.size, fun k o hk ho => (f.blk hk (fun h => by have := hS k o h hk; rw [ho] at this; cases this))⟩
theorem own_cells {W : World} {base e size n : Nat} {v : Value} {xs : List Value} (h : Own W base e size v n xs) : ∀ k o, v.ownBlock = some k → W.heap[k]? = some o → o.isCells = true := by
  intro k o hk ho
  obtain ⟨hl, A, c, rfl, hc, hm, hA⟩ := h
  rcases hA with ⟨rfl, _⟩ | ⟨g, cur, rfl, hb, hh, r⟩
  · cases hk
  · have e : g = k := Option.some.inj hk
    subst e
    rw [hh] at ho
    injection ho with ho
    subst ho
    rfl

/-- a region that draws, inside a round: as outside of it. -/
theorem wpAnyIn_round {F : Fence} {n : Nat} {P : Program} {md : Region.Mode} {ops : Array Oper} {Q : Exit → Act → World → Prop} (l : Nat) (hd : ∀ (i : Nat) (o : Oper), ops[i]? = some o → ∀ c, o.op ≠ .defer c) (hro : F.round = none) :
    ∀ (fuel : Nat) (listed : Array Bool) (a : Act) (w : World), wpAnyIn F n P md ops Q fuel listed a w → wpAnyIn (F.inRound l) n P md ops Q fuel listed a w := by
  intro fuel
  induction fuel with
  | zero => exact fun listed a w h => h
  | succ fuel ih =>
    intro listed a w h
    refine ⟨h.1, fun i hi => ?_⟩
    have h2 := wpOpIn_mono (fun a w => ih (listed.setIfInBounds i true) a w) (h.2 i hi)
    unfold wpOpIn at h2 ⊢
    cases ho : ops[i]? with
    | none => rw [ho] at h2; exact h2
    | some o =>
      rw [ho] at h2
      dsimp only at h2 ⊢
      split
      · rename_i hw
        rw [if_pos hw] at h2
        unfold Oper.wpIn at h2 ⊢
        rw [hro, Oper.semAt_none] at h2
        rw [Fence.inRound_round, Oper.semAt_some l _ _ (hd i o ho)]
        exact h2
      · rename_i hw
        rw [if_neg hw] at h2
        exact h2
theorem wpIn_region_round {n : Nat} {P : Program} {ops : Array Oper} {Q : Exit → Act → World → Prop} {id : Nat} {a : Act} {w : World} (l : Nat) (hm : P.follows .mixedOrders = true) (hd : ops.toList.all (fun o => match o.op with | .defer _ => false | _ => true) = true)
    (h : wpAnyIn Fence.wide n P .any ops Q ops.size (Array.replicate ops.size false) a w.drew) : (Code.region id ops true).wpIn (Fence.wide.inRound l) n P Q a w :=
  wpIn_region_any hm (wpAnyIn_round l (fun i o ho c e => by
    have := List.all_eq_true.1 hd o (by rw [Array.mem_toList_iff]; exact Array.mem_of_getElem? ho)
    rw [e] at this
    cases this) rfl _ _ _ _ h)
end Go.Proofs.Ytcdhbdhhknlbaaa
namespace Go.Proofs.Ytcdhbdhhknlbaaa
set_option linter.unusedVariables false
set_option linter.unusedSimpArgs false
open Go.RowKit

theorem run_byte (w : World) (t : TypeId) (x : ByteArray) (k : Nat) (b : Nat) (ht : Try.prog.underlying t = some .string) (h : (x.data.toList[k]?).map (·.toNat) = some b) :
    (Instr.index t (.string x) (.int .i64 k)).run Try.prog w = .ok (.int .u8 b) w := by
  obtain ⟨c, hc, rfl⟩ := Option.map_eq_some_iff.1 h
  obtain ⟨h1, h2⟩ := List.getElem?_eq_some_iff.1 hc
  have h3 : k < x.size := by rw [Array.length_toList] at h1; exact h1
  rw [run_index_string w t x .i64 k ht, dif_pos ⟨by omega, by omega⟩]
  subst h2
  rfl

theorem sh_stop {x y : Tx} {k : Nat} (hx : k ≤ x.length) (hy : k ≤ y.length) (h : x.take k = y.take k) (hs : x.length ≤ k ∨ y.length ≤ k ∨ x.getD k 0 ≠ y.getD k 0) : shN x y = k :=
  shN_eq x y k hx hy h (fun h1 h2 e => by
    rcases hs with hs | hs | hs
    · omega
    · omega
    · exact hs (by simp [List.getD, List.getElem?_eq_getElem h1, List.getElem?_eq_getElem h2, e]))

set_option maxRecDepth 100000 in
set_option maxHeartbeats 800000 in
theorem shared_any (x y : ByteArray) (w : World) (h1 : x.size ≤ maxLen) (h2 : y.size ≤ maxLen) :
    Calls Try.prog 51 #[.string x, .string y] w (RetQ (.int .i64 (shN x.data.toList y.data.toList : Nat)) w) := by
  unfold maxLen at h1 h2
  obtain ⟨n, hn⟩ : ∃ n, x.size = n := ⟨_, rfl⟩
  obtain ⟨m, hm⟩ : ∃ m, y.size = m := ⟨_, rfl⟩
  have HX : Hid (x.data.toList.length = n) := hide (by rw [← hn, Array.length_toList]; rfl)
  have HY : Hid (y.data.toList.length = m) := hide (by rw [← hm, Array.length_toList]; rfl)
  rw [hn] at h1
  rw [hm] at h2
  go_enter Try.func51, Try.ntmps51
  go_wp2
  go_loopw [5] (fun i wr => ∃ k nq : Nat, k ≤ n ∧ k ≤ m ∧ i = .int .i64 k ∧ wr = w.drewN nq ∧ Hid (x.data.toList.take k = y.data.toList.take k)) (fun i _ => n - (intOf i).toNat)
  case atStart => exact ⟨0, 0, by omega, by omega, rfl, rfl, hide rfl⟩
  case round =>
    obtain ⟨k, nq, hk, hk2, rfl, rfl, HT⟩ := hrel
    have HS := hide (fun hs => sh_stop (by rw [HX.out]; exact hk) (by rw [HY.out]; exact hk2) HT.out hs)
    by_cases hlt : k < n
    · have e1 : decide ((k : Int) < n) = true := decide_eq_true (by omega)
      by_cases hlt2 : k < m
      · have e2 : decide ((k : Int) < m) = true := decide_eq_true (by omega)
        have l1 : k < x.data.toList.length := by rw [HX.out]; exact hlt
        have l2 : k < y.data.toList.length := by rw [HY.out]; exact hlt2
        have HE := hide (fun he => take_succ_eq l1 l2 HT.out he)
        have b1 : (x.data.toList[k]?).map (·.toNat) = some (x.data.toList.getD k 0).toNat := by rw [List.getElem?_eq_getElem l1, List.getD, List.getElem?_eq_getElem l1]; rfl
        have b2 : (y.data.toList[k]?).map (·.toNat) = some (y.data.toList.getD k 0).toNat := by rw [List.getElem?_eq_getElem l2, List.getD, List.getElem?_eq_getElem l2]; rfl
        have r1 := fun W => run_byte W 9 x k _ Try.underlying9 b1
        have r2 := fun W => run_byte W 9 y k _ Try.underlying9 b2
        clear l1 l2 b1 b2
        generalize x.data.toList.getD k 0 = p at HE r1 HS
        generalize y.data.toList.getD k 0 = q at HE r2 HS
        by_cases he : p = q
        · subst he
          have HE' := hide (HE.out rfl)
          clear HE HS
          have hb2 : ((p.toNat : Int) == p.toNat) = true := by simp
          go_wp2
          go_quiet (fail)
          go_wp2
          go_round
          case rel => exact ⟨k + 1, _, by omega, by omega, by go_num, rfl, HE'⟩
          case measure => simp [intOf]; omega
        · have hb2 : ((p.toNat : Int) == q.toNat) = false := by
            simp
            intro h
            exact he (UInt8.toNat_inj.1 (by omega))
          have HF := hide (HS.out (.inr (.inr he)))
          clear HE HS he
          go_wp2
          go_quiet (fail)
          go_wp2
          go_ret
          exact ⟨by rw [HF.out]; rfl, _, World.drewN_drewN _ _ _⟩
      · have e2 : decide ((k : Int) < m) = false := decide_eq_false (by omega)
        have HF := hide (HS.out (.inr (.inl (by rw [HY.out]; omega))))
        have e3 : decide (k < m) = false := decide_eq_false (by omega)
        clear HS hlt2
        go_wp2
        go_quiet (fail)
        go_wp2
        go_ret
        exact ⟨by rw [HF.out]; rfl, _, World.drewN_drewN _ _ _⟩
    · have e1 : decide ((k : Int) < n) = false := decide_eq_false (by omega)
      have HF := hide (HS.out (.inl (by rw [HX.out]; omega)))
      have e3 : decide (k < n) = false := decide_eq_false (by omega)
      clear HS hlt
      go_wp2
      go_quiet (fail)
      go_wp2
      go_ret
      exact ⟨by rw [HF.out]; rfl, _, World.drewN_drewN _ _ _⟩

set_option maxRecDepth 100000 in
set_option maxHeartbeats 800000 in
theorem refShared_any (x y : ByteArray) (w : World) (h1 : x.size ≤ maxLen) (h2 : y.size ≤ maxLen) :
    Calls Try.prog 38 #[.string x, .string y] w (RetQ (.int .i64 (shN x.data.toList y.data.toList : Nat)) w) := by
  unfold maxLen at h1 h2
  obtain ⟨n, hn⟩ : ∃ n, x.size = n := ⟨_, rfl⟩
  obtain ⟨m, hm⟩ : ∃ m, y.size = m := ⟨_, rfl⟩
  have HX : Hid (x.data.toList.length = n) := hide (by rw [← hn, Array.length_toList]; rfl)
  have HY : Hid (y.data.toList.length = m) := hide (by rw [← hm, Array.length_toList]; rfl)
  rw [hn] at h1
  rw [hm] at h2
  go_enter Try.func38, Try.ntmps38
  go_wp2
  go_loopw [5] (fun i wr => ∃ k nq : Nat, k ≤ n ∧ k ≤ m ∧ i = .int .i64 k ∧ wr = w.drewN nq ∧ Hid (x.data.toList.take k = y.data.toList.take k)) (fun i _ => n - (intOf i).toNat)
  case atStart => exact ⟨0, 0, by omega, by omega, rfl, rfl, hide rfl⟩
  case round =>
    obtain ⟨k, nq, hk, hk2, rfl, rfl, HT⟩ := hrel
    have HS := hide (fun hs => sh_stop (by rw [HX.out]; exact hk) (by rw [HY.out]; exact hk2) HT.out hs)
    by_cases hlt : k < n
    · have e1 : decide ((k : Int) < n) = true := decide_eq_true (by omega)
      by_cases hlt2 : k < m
      · have e2 : decide ((k : Int) < m) = true := decide_eq_true (by omega)
        have l1 : k < x.data.toList.length := by rw [HX.out]; exact hlt
        have l2 : k < y.data.toList.length := by rw [HY.out]; exact hlt2
        have HE := hide (fun he => take_succ_eq l1 l2 HT.out he)
        have b1 : (x.data.toList[k]?).map (·.toNat) = some (x.data.toList.getD k 0).toNat := by rw [List.getElem?_eq_getElem l1, List.getD, List.getElem?_eq_getElem l1]; rfl
        have b2 : (y.data.toList[k]?).map (·.toNat) = some (y.data.toList.getD k 0).toNat := by rw [List.getElem?_eq_getElem l2, List.getD, List.getElem?_eq_getElem l2]; rfl
        have r1 := fun W => run_byte W 9 x k _ Try.underlying9 b1
        have r2 := fun W => run_byte W 9 y k _ Try.underlying9 b2
        clear l1 l2 b1 b2
        generalize x.data.toList.getD k 0 = p at HE r1 HS
        generalize y.data.toList.getD k 0 = q at HE r2 HS
        by_cases he : p = q
        · subst he
          have HE' := hide (HE.out rfl)
          clear HE HS
          have hb2 : ((p.toNat : Int) == p.toNat) = true := by simp
          go_wp2
          go_quiet (fail)
          go_wp2
          go_round
          case rel => exact ⟨k + 1, _, by omega, by omega, by go_num, rfl, HE'⟩
          case measure => simp [intOf]; omega
        · have hb2 : ((p.toNat : Int) == q.toNat) = false := by
            simp
            intro h
            exact he (UInt8.toNat_inj.1 (by omega))
          have HF := hide (HS.out (.inr (.inr he)))
          clear HE HS he
          go_wp2
          go_quiet (fail)
          go_wp2
          go_ret
          exact ⟨by rw [HF.out]; rfl, _, World.drewN_drewN _ _ _⟩
      · have e2 : decide ((k : Int) < m) = false := decide_eq_false (by omega)
        have HF := hide (HS.out (.inr (.inl (by rw [HY.out]; omega))))
        have e3 : decide (k < m) = false := decide_eq_false (by omega)
        clear HS hlt2
        go_wp2
        go_quiet (fail)
        go_wp2
        go_ret
        exact ⟨by rw [HF.out]; rfl, _, World.drewN_drewN _ _ _⟩
    · have e1 : decide ((k : Int) < n) = false := decide_eq_false (by omega)
      have HF := hide (HS.out (.inl (by rw [HX.out]; omega)))
      have e3 : decide (k < n) = false := decide_eq_false (by omega)
      clear HS hlt
      go_wp2
      go_quiet (fail)
      go_wp2
      go_ret
      exact ⟨by rw [HF.out]; rfl, _, World.drewN_drewN _ _ _⟩
end Go.Proofs.Ytcdhbdhhknlbaaa
namespace Go.Proofs.Ytcdhbdhhknlbaaa
set_option linter.unusedVariables false
set_option linter.unusedSimpArgs false
open Go.RowKit

set_option maxRecDepth 100000 in
set_option maxHeartbeats 800000 in
theorem size1_any (r : Value) (b1 b2 : Nat) (most : Int) (A : Option Addr) (n c B : Nat) (bs : List UInt8) (W : World) (hl : bs.length = n) (hn : n ≤ c) (hc : c ≤ maxLen) (hm1 : -9223372036854775808 ≤ most) (hm2 : most ≤ 9223372036854775807) (hr : Rd W B A (by8 bs)) (c1 : W.cell? ⟨b1, 0, none⟩ = some r) (c2 : W.cell? ⟨b2, 0, none⟩ = some (.int .i64 most)) :
    Calls Try.prog 66 #[.slice A n c, .pointer (some ⟨b1, 0, none⟩), .pointer (some ⟨b2, 0, none⟩)] W (Ret (sizeV (sizeR bs most)) W) := by
  have HN := hide (number_any r A n c B bs W hl hn hc hr)
  cases hd : dec 0 0 bs with
  | none =>
    have HT := hide (sizeR_none (most := most) hd)
    rw [hd] at HN
    simp only [numV] at HN
    clear hr hl hd
    go_enter Try.func66, Try.ntmps66
    go_wp2_with (go_at_call 67; refine HN.out.mono ?_; rintro en w' ⟨rfl, rfl⟩)
    go_ret2
    exact ⟨by rw [HT.out]; rfl, rfl⟩
  | some x =>
    obtain ⟨u, k⟩ := x
    rw [hd] at HN
    simp only [numV] at HN
    have hk := dec_le _ _ _ _ _ hd
    have hu := dec_lt _ 0 0 u k (by decide) hd
    by_cases hneg : most < 0
    · have HT := hide (sizeR_no (most := most) hd (.inl hneg))
      clear hr hl hd hk
      go_enter Try.func66, Try.ntmps66
      go_wp2_with (go_at_call 67; refine HN.out.mono ?_; rintro en w' ⟨rfl, rfl⟩)
      go_ret2
      exact ⟨by rw [HT.out]; rfl, rfl⟩
    · obtain ⟨m, rfl⟩ := Int.eq_ofNat_of_zero_le (a := most) (by omega)
      clear hm1 hneg
      by_cases hum : m < u
      · have HT := hide (sizeR_no (most := m) hd (.inr (by omega)))
        clear hr hl hd hk
        go_enter Try.func66, Try.ntmps66
        go_wp2_with (go_at_call 67; refine HN.out.mono ?_; rintro en w' ⟨rfl, rfl⟩)
        go_ret2
        exact ⟨by rw [HT.out]; rfl, rfl⟩
      · have HT := hide (sizeR_ok (most := m) hd (by omega))
        have hu2 : u ≤ m := by omega
        clear hr hl hd hk hum hu
        go_enter Try.func66, Try.ntmps66
        go_wp2_with (go_at_call 67; refine HN.out.mono ?_; rintro en w' ⟨rfl, rfl⟩)
        go_ret2
        exact ⟨by rw [HT.out]; simp [sizeV], rfl⟩

theorem size_cut {w : World} {B : Nat} {A : Option Addr} {bs : List UInt8} {c at_ b1 b2 : Nat} {most : Int} (r : Value) (hm1 : -9223372036854775808 ≤ most) (hm2 : most ≤ 9223372036854775807) (hr : Rd w B A (by8 bs)) (h1 : bs.length ≤ c) (h2 : c ≤ maxLen) (h3 : at_ ≤ bs.length) (c1 : w.cell? ⟨b1, 0, none⟩ = some r) (c2 : w.cell? ⟨b2, 0, none⟩ = some (.int .i64 most)) (nq : Nat) :
    Calls Try.prog 66 #[.slice (if c = at_ then A else A.map (·.add at_)) (bs.length - at_) (c - at_), .pointer (some ⟨b1, 0, none⟩), .pointer (some ⟨b2, 0, none⟩)] (w.drewN nq) fun e w' => e = .returned (sizeV (sizeR (bs.drop at_) most)) ∧ w' = w.drewN nq :=
  (size1_any r b1 b2 most _ _ _ B (bs.drop at_) (w.drewN nq) (by simp) (by omega) (by omega) hm1 hm2 (by rw [by8_drop]; exact Rd.cut (w := w) hr (by rw [by8_length]; exact h1)) c1 c2).mono fun _ _ ⟨a, b⟩ => ⟨a, b.symm⟩

section
variable (g : Nat) (bs : List UInt8) (at_ : Nat) (w : World) (b1 b2 : Nat) (most : Int) (hm1 : -9223372036854775808 ≤ most) (hm2 : most ≤ 9223372036854775807) (c1 : w.cell? ⟨b1, 0, none⟩ = some (.pointer (some ⟨g, 0, none⟩))) (c2 : w.cell? ⟨b2, 0, none⟩ = some (.int .i64 most))
include hm1 hm2 c1 c2
set_option maxRecDepth 100000 in
set_option maxHeartbeats 400000 in
theorem takeN_bad (h : RD w g bs at_ 0) (hd : sizeR (bs.drop at_) most = none) :
    Calls Try.prog 65 #[.pointer (some ⟨g, 0, none⟩), .func (.func 66) #[] #[.pointer (some ⟨b1, 0, none⟩), .pointer (some ⟨b2, 0, none⟩)]] w (RDRet (.int .i64 0) w g bs at_ 20) := by
  obtain ⟨A, c, ⟨d0, d1, d2⟩, hf, h1, h2, h3, h4, hr⟩ := h.parts
  have HN := hide (size_cut (.pointer (some ⟨g, 0, none⟩)) hm1 hm2 hr h1 h2 h3 c1 c2)
  rw [hd] at HN
  simp only [sizeV] at HN
  have H := hide h
  clear h hr hd c1 c2
  go_enter Try.func65, Try.ntmps65
  go_wp2_with (fail)
  go_quiet ((go_at_call 66; exact Calls.quiet_of_same (HN.out _)))
  go_wp2
  all_goals
    go_ret
    exact ⟨rfl, (H.out.drewN _).set2 20, ((Fr.refl _ _).drewN _).put _ _⟩

set_option maxRecDepth 100000 in
set_option maxHeartbeats 400000 in
theorem takeN_ok (u k : Nat) (h : RD w g bs at_ 0) (hd : sizeR (bs.drop at_) most = some (u, k)) (hk1 : at_ + k ≤ bs.length) :
    Calls Try.prog 65 #[.pointer (some ⟨g, 0, none⟩), .func (.func 66) #[] #[.pointer (some ⟨b1, 0, none⟩), .pointer (some ⟨b2, 0, none⟩)]] w (RDRet (.int .i64 u) w g bs (at_ + k) 0) := by
  obtain ⟨A, c, ⟨d0, d1, d2⟩, hf, h1, h2, h3, h4, hr⟩ := h.parts
  have HN := hide (size_cut (.pointer (some ⟨g, 0, none⟩)) hm1 hm2 hr h1 h2 h3 c1 c2)
  rw [hd] at HN
  simp only [sizeV] at HN
  have H := hide h
  clear h hr hd c1 c2
  go_enter Try.func65, Try.ntmps65
  go_wp2_with (fail)
  go_quiet ((go_at_call 66; exact Calls.quiet_of_same (HN.out _)))
  go_wp2
  all_goals
    go_ret
    exact ⟨rfl, (H.out.drewN _).set1 _ hk1, ((Fr.refl _ _).drewN _).put _ _⟩
end

set_option maxRecDepth 100000 in
set_option maxHeartbeats 400000 in
theorem takeN_off (g : Nat) (bs : List UInt8) (at_ : Nat) (e : Int) (w : World) (f : Value) (h : RD w g bs at_ e) (he : e ≠ 0) :
    Calls Try.prog 65 #[.pointer (some ⟨g, 0, none⟩), f] w (RDRet (.int .i64 0) w g bs at_ e) := by
  obtain ⟨A, c, ⟨c0, c1, c2⟩, hf, h1, h2, h3, h4, hr⟩ := h.parts
  have hb : (e != 0) = true := by simpa using he
  have H := hide h
  clear h hr he
  go_enter Try.func65, Try.ntmps65
  go_wp2_with (fail)
  go_ret
  exact ⟨rfl, H.out, Fr.refl _ _⟩

set_option maxRecDepth 100000 in
set_option maxHeartbeats 400000 in
theorem takeN_nil (w : World) (f : Value) :
    Calls Try.prog 65 #[.pointer none, f] w (Ret (.int .i64 0) w) := by
  go_enter Try.func65, Try.ntmps65
  go_wp2_with (fail)
  go_ret
  exact ⟨rfl, rfl⟩

theorem takeN_all (g : Nat) (bs : List UInt8) (a : Nat) (e : Int) (w : World) (b1 b2 : Nat) (most : Int) (hm1 : -9223372036854775808 ≤ most) (hm2 : most ≤ 9223372036854775807) (c1 : w.cell? ⟨b1, 0, none⟩ = some (.pointer (some ⟨g, 0, none⟩))) (c2 : w.cell? ⟨b2, 0, none⟩ = some (.int .i64 most)) (h : RD w g bs a e) :
    Calls Try.prog 65 #[.pointer (some ⟨g, 0, none⟩), .func (.func 66) #[] #[.pointer (some ⟨b1, 0, none⟩), .pointer (some ⟨b2, 0, none⟩)]] w (RDRet (.int .i64 (sizeS bs a e most).1) w g bs (sizeS bs a e most).2.1 (sizeS bs a e most).2.2) := by
  unfold sizeS
  by_cases he : e = 0
  · subst he
    rw [if_pos rfl]
    cases hd : sizeR (bs.drop a) most with
    | none => exact takeN_bad g bs a w b1 b2 most hm1 hm2 c1 c2 h hd
    | some x => exact takeN_ok g bs a w b1 b2 most hm1 hm2 c1 c2 x.1 x.2 h hd (by
        have h1 := sizeR_le (u := x.1) (k := x.2) hd
        obtain ⟨_, _, _, _, _, h3, _⟩ := h
        simp at h1
        omega)
  · rw [if_neg he]
    exact takeN_off g bs a e w _ h he

set_option maxRecDepth 100000 in
set_option maxHeartbeats 400000 in
theorem sizeN_any (g : Nat) (bs : List UInt8) (a : Nat) (e most : Int) (w : World) (h : RD w g bs a e) (hm1 : -9223372036854775808 ≤ most) (hm2 : most ≤ 9223372036854775807) :
    Calls Try.prog 41 #[.pointer (some ⟨g, 0, none⟩), .int .i64 most] w (RDRet (.int .i64 (sizeS bs a e most).1) w g bs (sizeS bs a e most).2.1 (sizeS bs a e most).2.2) := by
  have H := hide (fun t1 t2 => takeN_all g bs a e _ w.heap.size (w.heap.size + 1) most hm1 hm2 (box1 w (.pointer (some ⟨g, 0, none⟩)) (.int .i64 most) t1 t2) (box2 w (.pointer (some ⟨g, 0, none⟩)) (.int .i64 most) t1 t2) (h.fr0 (((Fr.refl No w).alloc _).alloc _)))
  clear h
  generalize sizeS bs a e most = x at H
  go_enter Try.func41, Try.ntmps41
  go_wp2_with (go_at_call 65; refine (H.out _ _).mono ?_; rintro en w' ⟨rfl, hq⟩; have HQ := hide hq; clear hq)
  go_ret
  exact ⟨rfl, HQ.out.1, (((Fr.refl (Is g) w).alloc _).alloc _).ts HQ.out.2⟩

set_option maxRecDepth 100000 in
set_option maxHeartbeats 400000 in
theorem size_nil (most : Int) (w : World) :
    Calls Try.prog 41 #[.pointer none, .int .i64 most] w (fun en w' => en = .returned (.int .i64 0) ∧ Fr No w w') := by
  go_enter Try.func41, Try.ntmps41
  go_wp2_with (go_at_call 65; refine (takeN_nil _ _).mono ?_; rintro en w' ⟨rfl, rfl⟩)
  go_ret
  exact ⟨rfl, ((Fr.refl No w).alloc _).alloc _⟩

end Go.Proofs.Ytcdhbdhhknlbaaa
namespace Go.Proofs.Ytcdhbdhhknlbaaa
set_option linter.unusedVariables false
set_option linter.unusedSimpArgs false
open Go.RowKit

set_option maxRecDepth 100000 in
set_option maxHeartbeats 800000 in
theorem text1_ok (r : Value) (b1 b2 m : Nat) (A : Option Addr) (n c B : Nat) (bs : List UInt8) (u k : Nat) (W : World) (hl : bs.length = n) (hn : n ≤ c) (hc : c ≤ 9223372036854775807) (hm2 : (m : Int) ≤ 9223372036854775807) (hr : Rd W B A (by8 bs)) (c1 : W.cell? ⟨b1, 0, none⟩ = some r) (c2 : W.cell? ⟨b2, 0, none⟩ = some (.int .i64 m)) (hd : dec 0 0 bs = some (u, k))
    (HN0 : Calls Try.prog 67 #[r, .slice A n c] W (Ret (.tuple #[.int .u64 u, .int .i64 k]) W)) (hkn : k ≤ n) (hum : ¬ m < u) (hul : ¬ n - k < u) (hu : u < 18446744073709551616) :
    Calls Try.prog 81 #[.slice A n c, .pointer (some ⟨b1, 0, none⟩), .pointer (some ⟨b2, 0, none⟩)] W (Ret (textV (textR bs m)) W) := by
  have HN := hide HN0
  have HT := hide (textR_ok (most := m) hd (by rw [hl]; omega))
  have hcv := conv_rd W (B := B) (if c = k then A else A.map (·.add k)) u (c - k) ((bs.drop k).take u) (by simp; omega) (by
    rw [by8_take, by8_drop]
    exact (hr.cut (by rw [by8_length, hl]; exact hn)).tk u)
  generalize (bs.drop k).take u = s at HT hcv
  have hku : k + u ≤ n := by omega
  have hu2 : u ≤ m := by omega
  have HC := hide hcv
  clear hr hl hd hul HN0 hcv hum hu
  go_enter Try.func81, Try.ntmps81
  go_wp2_with (go_at_call 67; refine HN.out.mono ?_; rintro en w' ⟨rfl, rfl⟩)
  · rename_i h
    have hcv := HC.out
    rw [if_pos h, h, Nat.sub_self] at hcv
    rw [hcv]
    clear hcv HC
    go_wp2
    go_ret2
    exact ⟨by rw [HT.out]; simp [textV], rfl⟩
  · rename_i h
    have hcv := HC.out
    rw [if_neg h] at hcv
    rw [hcv]
    clear hcv HC
    go_wp2
    go_ret2
    exact ⟨by rw [HT.out]; simp [textV], rfl⟩

set_option maxRecDepth 100000 in
set_option maxHeartbeats 800000 in
theorem text1_any (r : Value) (b1 b2 : Nat) (most : Int) (A : Option Addr) (n c B : Nat) (bs : List UInt8) (W : World) (hl : bs.length = n) (hn : n ≤ c) (hc : c ≤ maxLen) (hm1 : -9223372036854775808 ≤ most) (hm2 : most ≤ 9223372036854775807) (hr : Rd W B A (by8 bs)) (c1 : W.cell? ⟨b1, 0, none⟩ = some r) (c2 : W.cell? ⟨b2, 0, none⟩ = some (.int .i64 most)) :
    Calls Try.prog 81 #[.slice A n c, .pointer (some ⟨b1, 0, none⟩), .pointer (some ⟨b2, 0, none⟩)] W (Ret (textV (textR bs most)) W) := by
  have HN := hide (number_any r A n c B bs W hl hn hc hr)
  unfold maxLen at hc
  cases hd : dec 0 0 bs with
  | none =>
    have HT := hide (textR_none (most := most) hd)
    rw [hd] at HN
    simp only [numV] at HN
    clear hr hl hd
    go_enter Try.func81, Try.ntmps81
    go_wp2_with (go_at_call 67; refine HN.out.mono ?_; rintro en w' ⟨rfl, rfl⟩)
    go_ret2
    exact ⟨by rw [HT.out]; rfl, rfl⟩
  | some x =>
    obtain ⟨u, k⟩ := x
    rw [hd] at HN
    simp only [numV] at HN
    have hk := dec_le _ _ _ _ _ hd
    have hu := dec_lt _ 0 0 u k (by decide) hd
    rw [hl] at hk
    obtain ⟨hk0, hkn⟩ := hk
    have hkn : k ≤ n := by omega
    have hku0 := hkn
    by_cases hneg : most < 0
    · have HT := hide (textR_no (most := most) hd (.inl hneg))
      clear hr hl hd
      go_enter Try.func81, Try.ntmps81
      go_wp2_with (go_at_call 67; refine HN.out.mono ?_; rintro en w' ⟨rfl, rfl⟩)
      go_ret2
      exact ⟨by rw [HT.out]; rfl, rfl⟩
    · obtain ⟨m, rfl⟩ := Int.eq_ofNat_of_zero_le (a := most) (by omega)
      clear hm1 hneg
      by_cases hum : m < u
      · have HT := hide (textR_no (most := m) hd (.inr (.inl (by omega))))
        clear hr hl hd
        go_enter Try.func81, Try.ntmps81
        go_wp2_with (go_at_call 67; refine HN.out.mono ?_; rintro en w' ⟨rfl, rfl⟩)
        go_ret2
        exact ⟨by rw [HT.out]; rfl, rfl⟩
      · by_cases hul : n - k < u
        · have HT := hide (textR_no (most := m) hd (.inr (.inr (by rw [hl]; exact hul))))
          clear hr hl hd
          go_enter Try.func81, Try.ntmps81
          go_wp2_with (go_at_call 67; refine HN.out.mono ?_; rintro en w' ⟨rfl, rfl⟩)
          go_ret2
          exact ⟨by rw [HT.out]; rfl, rfl⟩
        · exact text1_ok r b1 b2 m A n c B bs u k W hl hn hc hm2 hr c1 c2 hd HN.out hku0 hum hul hu

theorem text_cut {w : World} {B : Nat} {A : Option Addr} {bs : List UInt8} {c at_ b1 b2 : Nat} {most : Int} (r : Value) (hm1 : -9223372036854775808 ≤ most) (hm2 : most ≤ 9223372036854775807) (hr : Rd w B A (by8 bs)) (h1 : bs.length ≤ c) (h2 : c ≤ maxLen) (h3 : at_ ≤ bs.length) (c1 : w.cell? ⟨b1, 0, none⟩ = some r) (c2 : w.cell? ⟨b2, 0, none⟩ = some (.int .i64 most)) (nq : Nat) :
    Calls Try.prog 81 #[.slice (if c = at_ then A else A.map (·.add at_)) (bs.length - at_) (c - at_), .pointer (some ⟨b1, 0, none⟩), .pointer (some ⟨b2, 0, none⟩)] (w.drewN nq) fun e w' => e = .returned (textV (textR (bs.drop at_) most)) ∧ w' = w.drewN nq :=
  (text1_any r b1 b2 most _ _ _ B (bs.drop at_) (w.drewN nq) (by simp) (by omega) (by omega) hm1 hm2 (by rw [by8_drop]; exact Rd.cut (w := w) hr (by rw [by8_length]; exact h1)) c1 c2).mono fun _ _ ⟨a, b⟩ => ⟨a, b.symm⟩

section
variable (g : Nat) (bs : List UInt8) (at_ : Nat) (w : World) (b1 b2 : Nat) (most : Int) (hm1 : -9223372036854775808 ≤ most) (hm2 : most ≤ 9223372036854775807) (c1 : w.cell? ⟨b1, 0, none⟩ = some (.pointer (some ⟨g, 0, none⟩))) (c2 : w.cell? ⟨b2, 0, none⟩ = some (.int .i64 most))
include hm1 hm2 c1 c2
set_option maxRecDepth 100000 in
set_option maxHeartbeats 400000 in
theorem takeS_bad (h : RD w g bs at_ 0) (hd : textR (bs.drop at_) most = none) :
    Calls Try.prog 80 #[.pointer (some ⟨g, 0, none⟩), .func (.func 81) #[] #[.pointer (some ⟨b1, 0, none⟩), .pointer (some ⟨b2, 0, none⟩)]] w (RDRet (.string ⟨#[]⟩) w g bs at_ 20) := by
  obtain ⟨A, c, ⟨d0, d1, d2⟩, hf, h1, h2, h3, h4, hr⟩ := h.parts
  have HN := hide (text_cut (.pointer (some ⟨g, 0, none⟩)) hm1 hm2 hr h1 h2 h3 c1 c2)
  rw [hd] at HN
  simp only [textV] at HN
  have H := hide h
  clear h hr hd c1 c2
  go_enter Try.func80, Try.ntmps80
  go_wp2_with (fail)
  go_quiet ((go_at_call 81; exact Calls.quiet_of_same (HN.out _)))
  go_wp2
  all_goals
    go_ret
    exact ⟨rfl, (H.out.drewN _).set2 20, ((Fr.refl _ _).drewN _).put _ _⟩

set_option maxRecDepth 100000 in
set_option maxHeartbeats 400000 in
theorem takeS_ok (s : List UInt8) (k : Nat) (h : RD w g bs at_ 0) (hd : textR (bs.drop at_) most = some (s, k)) (hk1 : at_ + k ≤ bs.length) :
    Calls Try.prog 80 #[.pointer (some ⟨g, 0, none⟩), .func (.func 81) #[] #[.pointer (some ⟨b1, 0, none⟩), .pointer (some ⟨b2, 0, none⟩)]] w (RDRet (.string ⟨s.toArray⟩) w g bs (at_ + k) 0) := by
  obtain ⟨A, c, ⟨d0, d1, d2⟩, hf, h1, h2, h3, h4, hr⟩ := h.parts
  have HN := hide (text_cut (.pointer (some ⟨g, 0, none⟩)) hm1 hm2 hr h1 h2 h3 c1 c2)
  rw [hd] at HN
  simp only [textV] at HN
  have H := hide h
  clear h hr hd c1 c2
  go_enter Try.func80, Try.ntmps80
  go_wp2_with (fail)
  go_quiet ((go_at_call 81; exact Calls.quiet_of_same (HN.out _)))
  go_wp2
  all_goals
    go_ret
    exact ⟨rfl, (H.out.drewN _).set1 _ hk1, ((Fr.refl _ _).drewN _).put _ _⟩
end

set_option maxRecDepth 100000 in
set_option maxHeartbeats 400000 in
theorem takeS_off (g : Nat) (bs : List UInt8) (at_ : Nat) (e : Int) (w : World) (f : Value) (h : RD w g bs at_ e) (he : e ≠ 0) :
    Calls Try.prog 80 #[.pointer (some ⟨g, 0, none⟩), f] w (RDRet (.string ⟨#[]⟩) w g bs at_ e) := by
  obtain ⟨A, c, ⟨c0, c1, c2⟩, hf, h1, h2, h3, h4, hr⟩ := h.parts
  have hb : (e != 0) = true := by simpa using he
  have H := hide h
  clear h hr he
  go_enter Try.func80, Try.ntmps80
  go_wp2_with (fail)
  go_ret
  exact ⟨rfl, H.out, Fr.refl _ _⟩

set_option maxRecDepth 100000 in
set_option maxHeartbeats 400000 in
theorem takeS_nil (w : World) (f : Value) :
    Calls Try.prog 80 #[.pointer none, f] w (Ret (.string ⟨#[]⟩) w) := by
  go_enter Try.func80, Try.ntmps80
  go_wp2_with (fail)
  go_ret
  exact ⟨rfl, rfl⟩

theorem takeS_all (g : Nat) (bs : List UInt8) (a : Nat) (e : Int) (w : World) (b1 b2 : Nat) (most : Int) (hm1 : -9223372036854775808 ≤ most) (hm2 : most ≤ 9223372036854775807) (c1 : w.cell? ⟨b1, 0, none⟩ = some (.pointer (some ⟨g, 0, none⟩))) (c2 : w.cell? ⟨b2, 0, none⟩ = some (.int .i64 most)) (h : RD w g bs a e) :
    Calls Try.prog 80 #[.pointer (some ⟨g, 0, none⟩), .func (.func 81) #[] #[.pointer (some ⟨b1, 0, none⟩), .pointer (some ⟨b2, 0, none⟩)]] w (RDRet (.string ⟨(textS bs a e most).1.toArray⟩) w g bs (textS bs a e most).2.1 (textS bs a e most).2.2) := by
  unfold textS
  by_cases he : e = 0
  · subst he
    rw [if_pos rfl]
    cases hd : textR (bs.drop a) most with
    | none => exact takeS_bad g bs a w b1 b2 most hm1 hm2 c1 c2 h hd
    | some x => exact takeS_ok g bs a w b1 b2 most hm1 hm2 c1 c2 x.1 x.2 h hd (by
        have h1 := textR_le (s := x.1) (k := x.2) hd
        obtain ⟨_, _, _, _, _, h3, _⟩ := h
        simp at h1
        omega)
  · rw [if_neg he]
    exact takeS_off g bs a e w _ h he

set_option maxRecDepth 100000 in
set_option maxHeartbeats 400000 in
theorem text_any (g : Nat) (bs : List UInt8) (a : Nat) (e most : Int) (w : World) (h : RD w g bs a e) (hm1 : -9223372036854775808 ≤ most) (hm2 : most ≤ 9223372036854775807) :
    Calls Try.prog 69 #[.pointer (some ⟨g, 0, none⟩), .int .i64 most] w (RDRet (.string ⟨(textS bs a e most).1.toArray⟩) w g bs (textS bs a e most).2.1 (textS bs a e most).2.2) := by
  have H := hide (fun t1 t2 => takeS_all g bs a e _ w.heap.size (w.heap.size + 1) most hm1 hm2 (box1 w (.pointer (some ⟨g, 0, none⟩)) (.int .i64 most) t1 t2) (box2 w (.pointer (some ⟨g, 0, none⟩)) (.int .i64 most) t1 t2) (h.fr0 (((Fr.refl No w).alloc _).alloc _)))
  clear h
  generalize textS bs a e most = x at H
  go_enter Try.func69, Try.ntmps69
  go_wp2_with (go_at_call 80; refine (H.out _ _).mono ?_; rintro en w' ⟨rfl, hq⟩; have HQ := hide hq; clear hq)
  go_ret
  exact ⟨rfl, HQ.out.1, (((Fr.refl (Is g) w).alloc _).alloc _).ts HQ.out.2⟩

set_option maxRecDepth 100000 in
set_option maxHeartbeats 400000 in
theorem text_nil (most : Int) (w : World) :
    Calls Try.prog 69 #[.pointer none, .int .i64 most] w (fun en w' => en = .returned (.string ⟨#[]⟩) ∧ Fr No w w') := by
  go_enter Try.func69, Try.ntmps69
  go_wp2_with (go_at_call 80; refine (takeS_nil _ _).mono ?_; rintro en w' ⟨rfl, rfl⟩)
  go_ret
  exact ⟨rfl, ((Fr.refl No w).alloc _).alloc _⟩

end Go.Proofs.Ytcdhbdhhknlbaaa
namespace Go.Proofs.Ytcdhbdhhknlbaaa
set_option linter.unusedVariables false
set_option linter.unusedSimpArgs false
open Go.RowKit

/-- the closure's boxes: the reader's, the row's. -/
structure BoxT (w : World) (br bl g L n : Nat) : Prop where
  r : w.heap[br]? = some (.cells #[.pointer (some ⟨g, 0, none⟩)] 71 (0, 0))
  l : w.heap[bl]? = some (.cells #[.slice (some ⟨L, 0, none⟩) n n] 22 (0, 0))
theorem BoxT.fr {S : Nat → Prop} {w w' : World} {br bl g L n : Nat} (h : BoxT w br bl g L n) (f : Fr S w w') (h1 : ¬ S br) (h2 : ¬ S bl) : BoxT w' br bl g L n := ⟨f.blk h.r h1, f.blk h.l h2⟩

set_option maxRecDepth 100000 in
set_option maxHeartbeats 800000 in
theorem next_zero (g : Nat) (bs : List UInt8) (a : Nat) (e : Int) (w : World) (br bl L n : Nat) (h : RD w g bs a e) (hb : BoxT w br bl g L n) :
    Calls Try.prog 68 #[.int .i64 0, .pointer (some ⟨br, 0, none⟩), .pointer (some ⟨bl, 0, none⟩)] w (RDRet (sv (textS bs a e 4096).1) w g bs (textS bs a e 4096).2.1 (textS bs a e 4096).2.2) := by
  have HT := hide (text_any g bs a e 4096 w h (by decide) (by decide))
  have k1 : w.cell? ⟨br, 0, none⟩ = some (.pointer (some ⟨g, 0, none⟩)) := cell_of_row w _ 0 _ _ _ hb.r
  clear h hb
  generalize textS bs a e 4096 = x at HT
  go_enter Try.func68, Try.ntmps68
  go_wp2_with (go_at_call 69; refine HT.out.mono ?_; rintro en w2 ⟨rfl, hq⟩; have HQ := hide hq; clear hq)
  go_ret
  exact ⟨rfl, HQ.out⟩

/-- what follows, under a name: for 'go_cut' where the statement is the last of its sequence. -/
theorem wp_named {P : Program} {s : Code} {Q : Exit → Act → World → Prop} {a : Act} {w : World} (h : ∀ K : Act → World → Prop, (∀ a' w', Q .normal a' w' → K a' w') → s.wp P (Exit.then K Q) a w) : s.wp P Q a w := by
  refine wp_mono (h (Q .normal) (fun _ _ h => h)) ?_
  intro e a' w' hq
  cases e <;> exact hq
theorem text_zero {bs : List UInt8} {a : Nat} {e most : Int} (h : (textS bs a e most).2.2 ≠ 0) : (textS bs a e most).1 = [] := by
  unfold textS at h ⊢
  split
  · rename_i he
    rw [if_pos he] at h
    cases hs : textR (bs.drop a) most with
    | none => rfl
    | some x =>
      rw [hs] at h
      exact absurd rfl h
  · rfl
set_option maxRecDepth 100000 in
set_option maxHeartbeats 1600000 in
theorem next_any (g : Nat) (bs : List UInt8) (a : Nat) (e : Int) (p : Tx) (w : World) (br bl L n j : Nat) (h : RD w g bs a e) (hb : BoxT w br bl g L n) (hj : j + 1 < n) (hn : n ≤ 16) (hp : p.length ≤ 4096)
    (hc : w.cell? ⟨L, j, none⟩ = some (sv p)) (n1 : br ≠ g) (n2 : bl ≠ g) (n3 : L ≠ g) :
    Calls Try.prog 68 #[.int .i64 (j + 1 : Nat), .pointer (some ⟨br, 0, none⟩), .pointer (some ⟨bl, 0, none⟩)] w (RDRet (sv (nextT bs p a e).1) w g bs (nextT bs p a e).2.1 (nextT bs p a e).2.2) := by
  obtain ⟨P, hP⟩ : ∃ P : ByteArray, (⟨p.toArray⟩ : ByteArray) = P := ⟨_, rfl⟩
  have hPs : P.size = p.length := by rw [← hP]; exact tx_size p
  have hPl : P.data.toList = p := by rw [← hP]
  have HPL := hide hPl
  have hc : w.cell? ⟨L, j, none⟩ = some (.string P) := by rw [hc, sv, hP]
  have HSz := hide (sizeN_any g bs a e (p.length : Nat) w.drew (h.drewN 1) (by omega) (by omega))
  have hkle : (sizeS bs a e (p.length : Nat)).1 ≤ p.length := by have := sizeS_le (bs := bs) (a := a) (e := e) (most := (p.length : Nat)) (by omega); omega
  have HB := hide hb
  have HNE := hide (And.intro n1 (And.intro n2 n3))
  have k1 : w.drew.cell? ⟨br, 0, none⟩ = some (.pointer (some ⟨g, 0, none⟩)) := cell_of_row w _ 0 _ _ _ hb.r
  have k2 : w.drew.cell? ⟨bl, 0, none⟩ = some (.slice (some ⟨L, 0, none⟩) n n) := cell_of_row w _ 0 _ _ _ hb.l
  have k3 : w.drew.cell? ⟨L, j, none⟩ = some (.string P) := hc
  have HK : Hid (w.drew.cell? ⟨br, 0, none⟩ = some (.pointer (some ⟨g, 0, none⟩)) ∧ w.drew.cell? ⟨bl, 0, none⟩ = some (.slice (some ⟨L, 0, none⟩) n n) ∧ w.drew.cell? ⟨L, j, none⟩ = some (.string P)) := hide ⟨k1, k2, k3⟩
  have HGo : Hid (nextT bs p a e = (let k := sizeS bs a e (p.length : Nat)
    let t := textS bs k.2.1 k.2.2 4096
    if t.2.2 ≠ 0 ∨ ¬ p < p.take k.1 ++ t.1 ∨ shN p (p.take k.1 ++ t.1) ≠ k.1 ∨ 4096 < (p.take k.1 ++ t.1).length then ([], t.2.1, t.2.2) else (p.take k.1 ++ t.1, t.2.1, t.2.2))) := hide rfl
  obtain ⟨m, hm⟩ : ∃ m, p.length = m := ⟨_, rfl⟩
  have HM := hide hm
  rw [hm] at hPs HSz hkle HGo hp
  generalize nextT bs p a e = R at HGo ⊢
  generalize sizeS bs a e (m : Nat) = x at HSz hkle HGo
  obtain ⟨k, a1, e1⟩ := x
  dsimp only at HSz hkle HGo
  clear h hb hP hPl hm n1 n2 n3 hc
  have i1 : IntKind.i64.wrap (((j + 1 : Nat) : Int) - 1) = (j : Int) := by rw [show (((j + 1 : Nat) : Int) - 1) = (j : Int) by omega]; exact IntWalk.i64_in _ (by omega)
  have i2 : (0 : Int) ≤ (j : Int) := by omega
  have i3 : (j : Int) < (n : Int) := by omega
  obtain ⟨i, hi⟩ : ∃ i : Int, ((j + 1 : Nat) : Int) = i := ⟨_, rfl⟩
  have i4 : (i == 0) = false := by rw [← hi]; simp; omega
  rw [hi] at i1 ⊢
  go_enter Try.func68, Try.ntmps68
  clear hi
  go_wp2_with (fail)
  go_region_held3 (fun W => W.cell? ⟨br, 0, none⟩ = some (.pointer (some ⟨g, 0, none⟩)) ∧ W.cell? ⟨bl, 0, none⟩ = some (.slice (some ⟨L, 0, none⟩) n n) ∧ W.cell? ⟨L, j, none⟩ = some (.string P)) (first | exact HK2.out | exact HK.out) (first
    | (go_at_call 41; refine HSz.out.mono ?_; rintro en w2 ⟨rfl, hrd, hfr⟩; have HR2 := hide hrd; have HF2 : Hid (Fr (Is g) w w2) := hide (Fr.of_drewN (n := 1) hfr); have HK2 : Hid (w2.cell? ⟨br, 0, none⟩ = some (.pointer (some ⟨g, 0, none⟩)) ∧ w2.cell? ⟨bl, 0, none⟩ = some (.slice (some ⟨L, 0, none⟩) n n) ∧ w2.cell? ⟨L, j, none⟩ = some (.string P)) := hide ⟨hfr.cell HK.out.1 HNE.out.1, hfr.cell HK.out.2.1 HNE.out.2.1, hfr.cell HK.out.2.2 HNE.out.2.2⟩; clear hrd hfr))
  clear k1 k2 k3 HK HSz
  have HTx := hide (text_any g bs a1 e1 4096 w2.drew (HR2.out.drewN 1) (by decide) (by decide))
  have k1 : w2.drew.cell? ⟨br, 0, none⟩ = some (.pointer (some ⟨g, 0, none⟩)) := HK2.out.1
  have k2 : w2.drew.cell? ⟨bl, 0, none⟩ = some (.slice (some ⟨L, 0, none⟩) n n) := HK2.out.2.1
  have k3 : w2.drew.cell? ⟨L, j, none⟩ = some (.string P) := HK2.out.2.2
  have HK : Hid (w2.drew.cell? ⟨br, 0, none⟩ = some (.pointer (some ⟨g, 0, none⟩)) ∧ w2.drew.cell? ⟨bl, 0, none⟩ = some (.slice (some ⟨L, 0, none⟩) n n) ∧ w2.drew.cell? ⟨L, j, none⟩ = some (.string P)) := hide ⟨k1, k2, k3⟩
  have htl : (textS bs a1 e1 4096).1.length ≤ 4096 := by
    by_cases h : (textS bs a1 e1 4096).2.2 = 0
    · have := (text_of h).2.1; omega
    · rw [text_zero h]; simp
  generalize textS bs a1 e1 4096 = x at HTx HGo htl
  obtain ⟨t, a2, e2⟩ := x
  dsimp only at HTx HGo htl
  obtain ⟨T, hT⟩ : ∃ T : ByteArray, (⟨t.toArray⟩ : ByteArray) = T := ⟨_, rfl⟩
  have hTs : T.size = t.length := by rw [← hT]; exact tx_size t
  have HTL : Hid (T.data.toList = t) := hide (by rw [← hT])
  rw [hT] at HTx
  have b0 : (0 : Int) ≤ (k : Int) := by omega
  have b1 : (k : Int) ≤ (P.size : Int) := by omega
  have b2 : (P.extract 0 k).size ≤ 4096 := by rw [ByteArray.size_extract]; omega
  have b3 : T.size ≤ 4096 := by omega
  have b4 : ¬ 9223372036854775807 < k + t.length := by omega
  clear hT
  go_wp2_with (fail)
  go_region_held3 (fun W => W.cell? ⟨br, 0, none⟩ = some (.pointer (some ⟨g, 0, none⟩)) ∧ W.cell? ⟨bl, 0, none⟩ = some (.slice (some ⟨L, 0, none⟩) n n) ∧ W.cell? ⟨L, j, none⟩ = some (.string P)) (first | exact HK3.out | exact HK.out) (first
    | (go_at_call 69; refine HTx.out.mono ?_; rintro en w3 ⟨rfl, hrd, hfr⟩; have HR3 := hide hrd; have HF3 : Hid (Fr (Is g) w2 w3) := hide (Fr.of_drewN (n := 1) hfr); have HK3 : Hid (w3.cell? ⟨br, 0, none⟩ = some (.pointer (some ⟨g, 0, none⟩)) ∧ w3.cell? ⟨bl, 0, none⟩ = some (.slice (some ⟨L, 0, none⟩) n n) ∧ w3.cell? ⟨L, j, none⟩ = some (.string P)) := hide ⟨hfr.cell HK.out.1 HNE.out.1, hfr.cell HK.out.2.1 HNE.out.2.1, hfr.cell HK.out.2.2 HNE.out.2.2⟩; clear hrd hfr))
  obtain ⟨Z, hZ⟩ : ∃ Z : ByteArray, P.extract 0 k ++ T = Z := ⟨_, rfl⟩
  have hZl : Z.data.toList = p.take k ++ t := by
    rw [← hZ, ByteArray.data_append, Array.toList_append, ← ByteArray.toList_eq, Lib.extract_toList, HPL.out, HTL.out]
    simp
  have hZs : Z.size ≤ 8192 := by rw [← hZ, ByteArray.size_append]; omega
  rw [hZ]
  obtain ⟨s, hs⟩ : ∃ s, p.take k ++ t = s := ⟨_, rfl⟩
  rw [hs] at hZl HGo
  have HZL := hide hZl
  have HZ2 : Hid (Value.string Z = sv s) := hide (by rw [sv, ← hZl])
  have hsl : Z.size = s.length := by rw [← hZl, Array.length_toList]; rfl
  have HSh := hide (fun W => shared_any P Z W (by unfold maxLen; omega) (by unfold maxLen; omega))
  rw [HPL.out, hZl] at HSh
  have HKe := hide (shN_le p s)
  have k1 : w3.cell? ⟨br, 0, none⟩ = some (.pointer (some ⟨g, 0, none⟩)) := HK3.out.1
  have k2 : w3.cell? ⟨bl, 0, none⟩ = some (.slice (some ⟨L, 0, none⟩) n n) := HK3.out.2.1
  have k3 : w3.cell? ⟨L, j, none⟩ = some (.string P) := HK3.out.2.2
  have HE3 := hide (err_any g bs a2 e2 w3 HR3.out)
  have HLt : Hid (Op.bytesLess Z.toList P.toList = decide (s < p)) := hide (by rw [bytesLess_eq, ByteArray.toList_eq, ByteArray.toList_eq, hZl, HPL.out])
  have HEq : Hid ((Z.toList == P.toList) = decide (s = p)) := hide (by
    rw [ByteArray.toList_eq, ByteArray.toList_eq, hZl, HPL.out]
    by_cases h : s = p <;> simp [h])
  obtain ⟨gb, hgb⟩ : ∃ gb : Bool, gb = decide (e2 ≠ 0 ∨ ¬ p < s ∨ shN p s ≠ k ∨ 4096 < s.length) := ⟨_, rfl⟩
  have HGB := hide hgb
  clear hZ hZl hs HTx HK hTs b0 b1 b2 b3 b4 htl hgb
  go_upto_region 5 with (fail)
  go_cut [56] from 29 to 56 (fun v wx => v = .bool gb ∧ ∃ q, wx = w3.drewN q)
  case first =>
    by_cases c1 : e2 ≠ 0
    · have d1 : (e2 != 0) = true := by simpa using c1
      have hg : gb = true := by rw [HGB.out]; simp [c1]
      go_wp2_with (go_at_call 70; refine HE3.out.mono ?_; rintro en w4 ⟨rfl, rfl⟩)
      go_meet
      exact ⟨by rw [hg], 0, rfl⟩
    · obtain rfl : e2 = 0 := Classical.not_not.1 c1
      by_cases c2 : p < s
      · have hns : ¬ s < p := fun h => tl_irrefl _ (tl_trans h c2)
        have hne : s ≠ p := fun h => by rw [h] at c2; exact tl_irrefl _ c2
        have d2 : Op.bytesLess Z.toList P.toList = false := by rw [HLt.out]; exact decide_eq_false hns
        have d3 : (Z.toList == P.toList) = false := by rw [HEq.out]; exact decide_eq_false hne
        by_cases c3 : shN p s = k
        · rw [c3] at HSh
          have d4 : ((k : Int) != k) = false := by simp
          by_cases c4 : 4096 < s.length
          · have hg : gb = true := by rw [HGB.out]; simp [c4]
            have d5 : decide ((4096 : Int) < (s.length : Nat)) = true := decide_eq_true (by omega)
            clear hns hne c1
            go_wp2_with (first
              | (go_at_call 70; refine HE3.out.mono ?_; rintro en w4 ⟨rfl, rfl⟩)
              | (go_at_call 51; refine (HSh.out _).mono ?_; rintro en w4 ⟨rfl, q, rfl⟩))
            go_meet
            exact ⟨by rw [hg], q, rfl⟩
          · have hg : gb = false := by rw [HGB.out]; simp [c2, c3]; omega
            have d5 : decide ((4096 : Int) < (s.length : Nat)) = false := decide_eq_false (by omega)
            clear hns hne c1
            go_wp2_with (first
              | (go_at_call 70; refine HE3.out.mono ?_; rintro en w4 ⟨rfl, rfl⟩)
              | (go_at_call 51; refine (HSh.out _).mono ?_; rintro en w4 ⟨rfl, q, rfl⟩))
            go_meet
            exact ⟨by rw [hg], q, rfl⟩
        · have hg : gb = true := by rw [HGB.out]; simp [c3]
          have d4 : (((shN p s : Nat) : Int) != k) = true := by simp; omega
          clear hns hne c1
          generalize shN p s = k2 at HSh d4
          go_wp2_with (first
            | (go_at_call 70; refine HE3.out.mono ?_; rintro en w4 ⟨rfl, rfl⟩)
            | (go_at_call 51; refine (HSh.out _).mono ?_; rintro en w4 ⟨rfl, q, rfl⟩))
          go_meet
          exact ⟨by rw [hg], q, rfl⟩
      · have hg : gb = true := by rw [HGB.out]; simp [c2]
        rcases tl_total s p with h | h | h
        · have d2 : Op.bytesLess Z.toList P.toList = true := by rw [HLt.out]; exact decide_eq_true h
          clear h c2 c1
          go_wp2_with (go_at_call 70; refine HE3.out.mono ?_; rintro en w4 ⟨rfl, rfl⟩)
          go_meet
          exact ⟨by rw [hg], 0, rfl⟩
        · have d2 : Op.bytesLess Z.toList P.toList = false := by rw [HLt.out]; exact decide_eq_false (by rw [h]; exact tl_irrefl _)
          have d3 : (Z.toList == P.toList) = true := by rw [HEq.out]; exact decide_eq_true h
          clear h c2 c1
          go_wp2_with (go_at_call 70; refine HE3.out.mono ?_; rintro en w4 ⟨rfl, rfl⟩)
          go_meet
          exact ⟨by rw [hg], 0, rfl⟩
        · exact absurd h c2
  case rest =>
    obtain ⟨rfl, q, rfl⟩ := hcut
    have HR4 := hide (HR3.out.drewN q)
    have HF4 : Hid (Fr (Is g) w (w3.drewN q)) := hide ((HF2.out.ts HF3.out).drewN q)
    clear HSh HE3 HLt HEq
    cases hgb : gb with
    | true =>
      have hR : R = ([], a2, e2) := by
        have h := HGB.out
        rw [hgb] at h
        rw [HGo.out]
        exact if_pos (of_decide_eq_true h.symm)
      subst hgb
      clear HGo HGB
      go_wp2
      go_ret
      rw [hR]
      exact ⟨rfl, HR4.out, HF4.out⟩
    | false =>
      have hR : R = (s, a2, e2) := by
        have h := HGB.out
        rw [hgb] at h
        rw [HGo.out]
        exact if_neg (of_decide_eq_false h.symm)
      subst hgb
      clear HGo HGB
      go_wp2
      go_ret
      rw [hR]
      exact ⟨by rw [← HZ2.out]; rfl, HR4.out, HF4.out⟩
end Go.Proofs.Ytcdhbdhhknlbaaa
namespace Go.Proofs.Ytcdhbdhhknlbaaa
set_option linter.unusedVariables false
set_option linter.unusedSimpArgs false
open Go.RowKit

def iz (k : IntKind) (l : List Int) : List Value := l.map (Value.int k)
theorem iz_len (k : IntKind) (l : List Int) : (iz k l).length = l.length := by simp [iz]
theorem iz_append (k : IntKind) (l m : List Int) : iz k (l ++ m) = iz k l ++ iz k m := by simp [iz]
theorem iz_take (k : IntKind) (l : List Int) (n : Nat) : iz k (l.take n) = (iz k l).take n := by simp [iz, List.map_take]
theorem iz_drop (k : IntKind) (l : List Int) (n : Nat) : iz k (l.drop n) = (iz k l).drop n := by simp [iz, List.map_drop]
theorem iz_one (k : IntKind) (l : List Int) : ∀ u ∈ iz k l, u.oneCell' = true := by
  intro u hu
  obtain ⟨x, _, rfl⟩ := List.mem_map.1 hu
  rfl
theorem iz_at (k : IntKind) (l : List Int) {j : Nat} (h : j < l.length) : (iz k l)[j]? = some (.int k (l.getD j 0)) := by
  simp [iz, h]
theorem Rd.intAt {w : World} {B : Nat} {A : Option Addr} {k : IntKind} {l : List Int} (h : Rd w B A (iz k l)) {j : Nat} (hj : j < l.length) : ∃ ad, A = some ad ∧ ad.block < B ∧ w.cell? (ad.add j) = some (.int k (l.getD j 0)) :=
  h j _ (iz_at k l hj)
theorem take_succ_int {xs ys : List Int} {k : Nat} (h1 : k < xs.length) (h2 : k < ys.length) (h : xs.take k = ys.take k) (he : xs.getD k 0 = ys.getD k 0) : xs.take (k + 1) = ys.take (k + 1) := by
  rw [List.take_succ_eq_append_getElem h1, List.take_succ_eq_append_getElem h2, h]
  simp [List.getElem?_eq_getElem h1, List.getElem?_eq_getElem h2] at he
  rw [he]
theorem take_snoc_int {l : List Int} {k : Nat} (h : k < l.length) : l.take (k + 1) = l.take k ++ [l.getD k 0] := by
  rw [List.take_succ_eq_append_getElem h]
  simp [List.getElem?_eq_getElem h]
theorem Rd.iz_nil {w : World} {B : Nat} {k : IntKind} {l : List Int} (h : Rd w B none (iz k l)) : l = [] := by
  cases l with
  | nil => rfl
  | cons b r => obtain ⟨_, e, _⟩ := h 0 _ rfl; cases e
end Go.Proofs.Ytcdhbdhhknlbaaa
