/- A set's bytes: Bytes. Condition: the library's table lies as laid. -/
import Derived.Test.YtapfbjaopbcgjaaDoorEachL
import Derived.Test.YtapfbjaopbcgjaaDoorPutU
import Derived.Test.YtapfbjaopbcgjaaDoorSlices8
import Derived.Test.YtapfbjaopbcgjaaDoorRefA
import Derived.Deep.RegionLaw
namespace Go.Proofs.YtapfbjaopbcgjaaDoor
set_option linter.unusedVariables false
set_option linter.unusedSimpArgs false
open Go.RowKit Go.Shelf
attribute [local go_sem] Oper.semAt_some

/-- bits as bytes. -/
def byf (f : Nat → Bool) (m : Nat) : List UInt8 := (List.range m).map fun i => UInt8.ofNat (wN (fun j => f (8 * i + j)) 8)
theorem byf_len (f : Nat → Bool) (m : Nat) : (byf f m).length = m := by simp [byf]
theorem byf_congr {f g : Nat → Bool} {m : Nat} (h : ∀ j, j < 8 * m → f j = g j) : byf f m = byf g m := by
  unfold byf
  apply List.map_congr_left
  intro i hi
  rw [List.mem_range] at hi
  rw [wN_congr (fun j hj => h (8 * i + j) (by omega))]
theorem ofNat_toNat8 {x : Nat} (h : x < 256) : (UInt8.ofNat x).toNat = x := by
  rw [UInt8.toNat_ofNat']
  exact Nat.mod_eq_of_lt h
theorem byf_at {f : Nat → Bool} {m i : Nat} (h : i < m) : ((byf f m).getD i 0).toNat = wN (fun j => f (8 * i + j)) 8 := by
  have hl := wN_lt (fun j => f (8 * i + j)) 8
  simp [byf, h]
  omega
theorem byf_zero (m : Nat) : byf (fun _ => false) m = List.replicate m 0 := by
  have : wN (fun _ => false) 8 = 0 := by decide
  apply List.ext_getElem
  · simp [byf]
  · intro i h1 h2
    simp [byf, this]
/-- number x is put in. -/
def orf (f : Nat → Bool) (x : Nat) : Nat → Bool := fun j => f j || decide (j = x)
theorem byf_or {f : Nat → Bool} {m x : Nat} (hx : x / 8 < m) : (by8 (byf f m)).set (x / 8) (.int .u8 ((wN (fun j => f (8 * (x / 8) + j)) 8 ||| 2 ^ (x % 8) : Nat) : Int)) = by8 (byf (orf f x) m) := by
  apply List.ext_getElem
  · simp [by8, byf]
  · intro i h1 h2
    have him : i < m := by simpa [by8, byf] using h1
    have hl := wN_lt (fun j => orf f x (8 * i + j)) 8
    have e2 : (by8 (byf (orf f x) m))[i] = .int .u8 ((wN (fun j => orf f x (8 * i + j)) 8 : Nat) : Int) := by
      simp [by8, byf]
      omega
    rw [e2]
    by_cases e : x / 8 = i
    · subst e
      rw [List.getElem_set_self]
      congr 2
      refine wN_ext (Nat.or_lt_two_pow (wN_lt _ _) (Nat.pow_lt_pow_right (by omega) (by omega))) ?_
      intro j hj
      rw [Nat.testBit_or, wN_bit, Nat.testBit_two_pow, decide_eq_true hj]
      unfold orf
      by_cases h : x % 8 = j
      · rw [decide_eq_true h, decide_eq_true (by omega)]; simp
      · rw [decide_eq_false h, decide_eq_false (by omega)]; simp
    · rw [List.getElem_set_ne e]
      have e3 : wN (fun j => orf f x (8 * i + j)) 8 = wN (fun j => f (8 * i + j)) 8 := by
        apply wN_congr
        intro j hj
        unfold orf
        rw [decide_eq_false (by omega)]
        simp
      rw [e3]
      have hl2 := wN_lt (fun j => f (8 * i + j)) 8
      simp [by8, byf]
      omega
def inL (pre : List Nat) : Nat → Bool := fun j => decide (j ∈ pre)
theorem inL_snoc (pre : List Nat) (x : Nat) : orf (inL pre) x = inL (pre ++ [x]) := by
  funext j
  unfold orf inL
  by_cases h : j ∈ pre <;> by_cases h2 : j = x <;> simp [h, h2]
theorem inL_held (l : List Bool) (j : Nat) : inL (held l) j = hasN l j := by
  unfold inL held uptoN
  by_cases h : j < l.length
  · cases hb : hasN l j <;> simp [h, hb]
  · rw [hasN_big (by omega)]
    simp [h]
def byteN (n : Nat) : Nat := (n + 7) / 8
/-- a set's bytes, behind its size. -/
def setB (l : List Bool) : List UInt8 := byf (hasN l) (byteN l.length)
theorem setB_held (l : List Bool) : byf (inL (held l)) (byteN l.length) = setB l := byf_congr fun j _ => inL_held l j
theorem shl_one8 (k : Nat) : IntKind.u8.wrap (2 ^ (k % 8)) = ((2 ^ (k % 8) : Nat) : Int) := by
  have h : 2 ^ (k % 8) < 256 := Nat.pow_lt_pow_right (a := 2) (n := 8) (by omega) (by omega)
  have e : ((2 : Int) ^ (k % 8)) = ((2 ^ (k % 8) : Nat) : Int) := by simp
  rw [e]
  generalize 2 ^ (k % 8) = p at h ⊢
  rw [IntKind.wrap_u8']
  omega
theorem on_val8 (x k : Nat) (hx : x < 256) : bits .or .u8 (x : Int) (IntKind.u8.wrap (2 ^ (k % 8))) = ((x ||| 2 ^ (k % 8) : Nat) : Int) := by
  rw [shl_one8]
  exact u8_or_nat _ _ hx (Nat.pow_lt_pow_right (a := 2) (n := 8) (by omega) (by omega))

/-- what a round of Bytes keeps. -/
structure BI (w : World) (m : Nat) (pre : List Nat) (W : World) : Prop where
  fr : Fr No w W
  sz : w.heap.size + 3 ≤ W.heap.size
  box : W.heap[w.heap.size + 1]? = some (.cells #[.slice (some ⟨w.heap.size, 0, none⟩) m m] 50 (0, 0))
  own : Own W w.heap.size 5 1 (.slice (some ⟨w.heap.size, 0, none⟩) m m) m (by8 (byf (inL pre) m))
theorem BI.from (w : World) (m B : Nat) (hB : w.heap.size ≤ B) : OwnFrom B (fun pre W => BI w m pre W) := by
  rintro pre W W' row h hg hr
  have hr2 : ∀ r, row = some r → ∃ o : Obj, W.heap[r]? = some o ∧ o.isCells = false := fun r e => (hr r e).2
  exact ⟨h.fr.trans (Fr.of_grown hg) (fun i hi e => by have := (hr i e).1; omega), Nat.le_trans h.sz (Fr.of_grown hg).size, blk_kept h.box rfl hg hr2, own_kept h.own hg hr2⟩
theorem make_bytesI (k : Nat) (hk : k ≤ 16384) (W : World) : (Instr.makeSlice 50 (.int .i64 (((k : Nat) + 7 : Int) / 8)) (.int .i64 (((k : Nat) + 7 : Int) / 8))).run Tryd.prog W = .ok (.slice (some ⟨W.heap.size, 0, none⟩) (byteN k) (byteN k)) (W.alloc (.cells (madeCells #[.int .u8 0] (byteN k)) 5)) := by
  obtain ⟨i0, hi, hz, hsz, hby⟩ := info_parts Tryd.info5
  have e : (((k : Nat) + 7 : Int) / 8) = ((byteN k : Nat) : Int) := by unfold byteN; omega
  have hw : byteN k ≤ 2049 := by unfold byteN; omega
  rw [e]
  have h := run_make (P := Tryd.prog) W 50 5 i0 (.int .u8 0) Tryd.underlying50 hi hz .i64 .i64 (byteN k : Int) (byteN k : Int) (by omega) (by omega) (by rw [hby]; omega) (by omega)
  rw [Int.toNat_natCast, hsz, Nat.mul_one] at h
  exact h
theorem by8_zeros (m : Nat) : by8 (List.replicate m 0) = List.replicate m (.int .u8 0) := by simp [by8]

/-- append inside a region that draws its order. -/
theorem step_append_gen {P : Program} {ops : Array Oper} {o : Oper} {a : Act} {w : World} {K : Act → World → Prop} {Q : Exit → Act → World → Prop} {E : Prop} (hgd : o.guard = none) (s x : Operand) (t tx : TypeId)
    (ho : o.op = .call { callee := .builtin .append, args := #[s, x], argTypes := #[t, tx] })
    (base : Nat) (e : TypeId) (i : TypeInfo) (z : Value) (size bytes : Nat) (ht : P.underlying t = some (.slice e)) (hi : P.info? e = some i) (hz : i.zero = some z)
    (hsize : i.size = size) (hby : i.bytes = bytes) (hzs : z.cells.size = size)
    (v : Value) (n : Nat) (xs : List Value) (hs : a.eval s = v) (hown : Own w base e size v n xs)
    (y : Value) (m : Nat) (news : List Value) (hx : a.eval x = y) (hsrc : Src P size tx y m news w)
    (hbytes : (n + m) * bytes ≤ 140737488355328) (h63 : n + m ≤ maxLen) (hbase : base ≤ w.heap.size)
    (h : ∀ v' w', Own w' base e size v' (n + m) (xs ++ news) → Fr (fun k => v.ownBlock = some k) w w' → K (a.put o.dst v') w') :
    if Region.wanted o (yielded ops a.tmps) = true then Oper.wp P o a w K Q else E := by
  have hw : Region.wanted o (yielded ops a.tmps) = true := by simp [Region.wanted, hgd]
  rw [if_pos hw]
  exact wp_append_gen w s x t tx ho base e i z size bytes ht hi hz hsize hby hzs v n xs hs hown y m news hx hsrc hbytes h63 hbase fun v' w' h2 h3 _ => h v' w' h2 h3
def RB (fr : Value → Option Addr → Nat → Act) (W : World) (q : Nat) (bs : List Value) : Exit → Act → World → Prop
  | .normal, a, w => ∃ v A c, a = fr v A c ∧ Own w W.heap.size 5 1 (.slice A q c) q bs ∧ Fr No W w
  | _, _, _ => False
def RQ (A : Act) (W : World) : Exit → Act → World → Prop
  | .normal, a, w => a = A ∧ w = W
  | _, _, _ => False

set_option maxRecDepth 100000 in
set_option maxHeartbeats 2000000 in
theorem bytesL_in (B : Nat) (v : Value) (L : List Bool) (w : World) (h : BV w B v L) (hT : Tab w) (hL : L.length ≤ 16384) :
    CallsIn Fence.wide 4 Tryd.prog 37 #[v] w (GivesB w (enc L.length ++ setB L)) := by
  have HL1 := hide (fun W (f : Fr No w W) => len_any B v L W (by
    rcases h with h | ⟨g, gw, rfl, h⟩
    · exact .inl h
    · exact .inr ⟨g, gw, rfl, h.fr0 f⟩))
  obtain ⟨p, rfl⟩ := h.ptr
  obtain ⟨i0, hi, hz, hsz, hby⟩ := info_parts Tryd.info5
  have H := hide h
  have HT := hide hT
  have hN : (held L).length ≤ L.length := upto_len L _
  have HHl : Hid (∀ x ∈ held L, x < L.length) := hide (fun x hx => by
    unfold held uptoN at hx
    have := (List.mem_filter.1 hx).1
    rwa [List.mem_range] at this)
  clear h hT hN
  obtain ⟨n, hn⟩ : ∃ n, n = L.length := ⟨_, rfl⟩
  have HN := hide hn
  rw [← hn] at HL1 hL
  have hmk := make_bytesI n hL
  have hm : byteN n ≤ 2049 := by unfold byteN; omega
  have HO := hide (made_own w (byteN n) 5 (.int .u8 0) _ rfl (by unfold maxLen; omega))
  rw [← by8_zeros, ← byf_zero] at HO
  clear hn
  generalize madeCells #[Value.int .u8 0] (byteN n) = z at hmk HO
  obtain ⟨m, hmm⟩ : ∃ m, m = byteN n := ⟨_, rfl⟩
  rw [← hmm] at hmk HO hm
  have HM := hide hmm
  clear hmm
  refine callsIn_of_wp_marks Tryd.func37 rfl trivial ?_ rfl
  simp only [Tryd.ntmps37, List.size_toArray, List.length_cons, List.length_nil, Nat.reduceAdd, Nat.reduceSub, Array.replicate_succ, Array.replicate_zero, List.push_toArray, List.append_toArray, List.nil_append, List.cons_append]
  gi_wp2_with (first
    | (refine ⟨trivial, ?_⟩; gi_at_call 16; refine (callsIn_wide.2 (HL1.out w (Fr.refl _ _))).mono ?_; rintro e w' ⟨rfl, rfl⟩)
    | (refine ⟨trivial, ?_⟩; gi_at_call 61; refine (callsIn_wide.2 (eachF_any p _)).mono ?_; rintro e w' ⟨rfl, rfl⟩))
  obtain ⟨W0, hW0⟩ : ∃ W0, W0 = ((w.alloc (.cells z 5)).alloc (.cells #[.slice (some ⟨w.heap.size, 0, none⟩) m m] 50)).alloc (.cells #[.pointer p] 26) := ⟨_, rfl⟩
  rw [← hW0]
  have hF0 : Fr No w W0 := by rw [hW0]; exact (((Fr.refl No w).alloc _).alloc _).alloc _
  have hs0 : W0.heap.size = w.heap.size + 3 := by rw [hW0]; simp
  have hb0 : W0.heap[w.heap.size + 1]? = some (.cells #[.slice (some ⟨w.heap.size, 0, none⟩) m m] 50 (0, 0)) := by
    rw [hW0]
    have := box_heap (w.alloc (.cells z 5)) (.slice (some ⟨w.heap.size, 0, none⟩) m m) 50
    rw [show (w.alloc (.cells z 5)).heap.size = w.heap.size + 1 by simp] at this
    exact ((Fr.refl No _).alloc _).blk this (fun h => h)
  have hp0 : W0.heap[w.heap.size + 1 + 1]? = some (.cells #[.pointer p] 26 (0, 0)) := by
    rw [hW0]
    have := box_heap ((w.alloc (.cells z 5)).alloc (.cells #[.slice (some ⟨w.heap.size, 0, none⟩) m m] 50)) (.pointer p) 26
    simpa using this
  have hE0 : BI w m [] W0 := ⟨hF0, by omega, hb0, by rw [hW0]; exact HO.out.fr0 (((Fr.refl No _).alloc _).alloc _)⟩
  clear hW0 HO hmk
  refine wpIn_rangeFunc_ownF rfl (by omega) (gf := 75) (lb := #[.pointer (some ⟨w.heap.size + 1 + 1, 0, none⟩)]) rfl trivial (enters_of Tryd.func75 (by kernel_rfl) rfl)
    (each_stopsS 3 (by omega) (w.heap.size + 1 + 1) B (.pointer p) L w W0 26 (by rw [← HN.out]; exact hL) H.out HT.out hF0 hp0) KpB.t (KpB.b (by omega) (by omega)) (Below.refl _ _) (fun _ => rfl)
    (fun pre W => BI w m (val' pre) W)
    (fun _ _ _ => False)
    (fun s W W' row h hg hr => BI.from w m _ (by omega) _ W W' row h hg hr) (fun _ _ _ _ _ hs _ _ => hs) hE0
    (fun x => { tmps := #[.pointer p, undef, .slice none 0 0, .pointer (some ⟨w.heap.size + 1, 0, none⟩), .int .i64 (x.1 : Nat), .pointer p, .int .i64 (n : Nat), .int .i64 ((n : Int) + 7), .int .i64 (((n : Int) + 7) / 8), .slice (some ⟨w.heap.size, 0, none⟩) m m, .pointer p, .func (.func 75) #[] #[.pointer (some ⟨w.heap.size + 1 + 1, 0, none⟩)], .int .i64 (x.1 : Nat), undef, undef, undef, undef, undef, undef, undef, undef, undef, undef, undef, undef, undef, undef, undef, undef, undef], defers := [] }) ?assign ?body ?done ?stop
  case assign =>
    intro l x W K hK
    gi_wp2
    exact hK
  case body =>
    rintro l pre ⟨x, hx⟩ W E _
    have hxm : x / 8 < m := by rw [HM.out]; unfold byteN; rw [HN.out]; omega
    have hxc : ((x : Int) / 8) < (m : Int) := by omega
    have c3 : W.cell? ⟨w.heap.size + 1, 0, none⟩ = some (.slice (some ⟨w.heap.size, 0, none⟩) m m) := cell_of_row _ _ 0 _ _ _ E.box
    obtain ⟨g', eg, _, _, hcell, hfz, hst⟩ := E.own.store hxm
    have e1 : w.heap.size = g' := by injection eg with eg; injection eg
    subst e1
    have hb8 : (by8 (byf (inL (val' pre)) m))[x / 8]? = some (.int .u8 ((wN (fun j => inL (val' pre) (8 * (x / 8) + j)) 8 : Nat) : Int)) := by
      have hl := wN_lt (fun j => inL (val' pre) (8 * (x / 8) + j)) 8
      simp [by8, byf, hxm]
      omega
    rw [hb8] at hcell
    have HV := hide (on_val8 _ x (wN_lt (fun j => inL (val' pre) (8 * (x / 8) + j)) 8))
    have hblt := wN_lt (fun j => inL (val' pre) (8 * (x / 8) + j)) 8
    have HS := hide (byf_or (f := inL (val' pre)) hxm)
    have HE := hide E
    have HSt := hide hst
    clear E hst hb8 eg H HT hF0 hb0 hp0 hE0
    generalize wN (fun j => inL (val' pre) (8 * (x / 8) + j)) 8 = b at hcell HV hblt HS
    have hx16 : x < 16384 := by rw [← HN.out] at hx; omega
    have hmo : Tryd.prog.follows .mixedOrders = true := by kernel_rfl
    have hx0 : (0 : Int) ≤ (x : Int) := by omega
    have hx1 : (0 : Int) ≤ (x : Int) / 8 := by omega
    have hx2 : ((x : Int) / 8).toNat = x / 8 := by omega
    have hx4 : IntKind.i64.wrap ((x : Int) / 8) = (x : Int) / 8 := IntWalk.i64_in _ (by omega)
    have hx5 : (x : Int).tmod 8 = ((x % 8 : Nat) : Int) := by rw [Int.tmod_eq_emod_of_nonneg (by omega)]; omega
    have hx6 : x % 8 < 8 := Nat.mod_lt _ (by omega)
    have hx7 : ((x % 8 : Nat) : Int) < 8 := by omega
    have hx8 : (0 : Int) ≤ ((x % 8 : Nat) : Int) := by omega
    gi_wp2
    refine Code.wpIn_mono (Q := RQ { tmps := #[.pointer p, undef, .slice none 0 0, .pointer (some ⟨w.heap.size + 1, 0, none⟩), .int .i64 (x : Nat), .pointer p, .int .i64 (n : Nat), .int .i64 ((n : Int) + 7), .int .i64 (((n : Int) + 7) / 8), .slice (some ⟨w.heap.size, 0, none⟩) m m, .pointer p, .func (.func 75) #[] #[.pointer (some ⟨w.heap.size + 1 + 1, 0, none⟩)], .int .i64 (x : Nat), .slice (some ⟨w.heap.size, 0, none⟩) m m, .int .i64 (x : Nat), .int .i64 ((x : Int) / 8), .pointer (some ⟨w.heap.size, x / 8, none⟩), .int .u8 (b : Nat), .int .i64 (x : Nat), .int .i64 ((x : Int) % 8), .int .u8 (IntKind.u8.wrap (2 ^ ((x : Int) % 8).toNat)), .int .u8 (bits .or .u8 (b : Nat) (IntKind.u8.wrap (2 ^ ((x : Int) % 8).toNat))), .pointer (some ⟨w.heap.size, x / 8, none⟩), undef, undef, undef, undef, undef, undef, undef], defers := [] } (W.setCell ⟨w.heap.size, x / 8, none⟩ (.int .u8 (bits .or .u8 (b : Nat) (IntKind.u8.wrap (2 ^ ((x : Int) % 8).toNat))))).drew) ?_ ?_
    rotate_left
    · refine wpIn_region_round l hmo (by kernel_rfl) ?_
      refine wpAnyIn_take (i := 1) (v := (.int .i64 (x : Nat))) rfl rfl (by kernel_rfl) (by kernel_rfl) (by kernel_rfl) (fun _ _ _ h => h) ⟨.inl ⟨by kernel_rfl, fun w => by go_simp⟩, fun w => rfl⟩ ?_
      refine wpAnyIn_take (i := 5) (v := (.int .i64 (x : Nat))) rfl rfl (by kernel_rfl) (by kernel_rfl) (by kernel_rfl) (fun _ _ _ h => h) ⟨.inl ⟨by kernel_rfl, fun w => by go_simp⟩, fun w => rfl⟩ ?_
      refine wpAnyIn_take (i := 2) (v := (.int .i64 ((x : Int) / 8))) rfl rfl (by kernel_rfl) (by kernel_rfl) (by kernel_rfl) (fun _ _ _ h => h) ⟨.inl ⟨by kernel_rfl, fun w => by go_simp⟩, fun w => rfl⟩ ?_
      refine wpAnyIn_take (i := 6) (v := (.int .i64 ((x : Int) % 8))) rfl rfl (by kernel_rfl) (by kernel_rfl) (by kernel_rfl) (fun _ _ _ h => h) ⟨.inl ⟨by kernel_rfl, fun w => by go_simp⟩, fun w => rfl⟩ ?_
      refine wpAnyIn_take (i := 7) (v := (.int .u8 (IntKind.u8.wrap (2 ^ ((x : Int) % 8).toNat)))) rfl rfl (by kernel_rfl) (by kernel_rfl) (by kernel_rfl) (fun _ _ _ h => h) ⟨.inl ⟨by kernel_rfl, fun w => by go_simp⟩, fun w => rfl⟩ ?_
      refine wpAnyIn_ready (rs := [0]) (by kernel_rfl) (by simp) ?_
      refine AllReadyIn.cons rfl (fun K hK => ?_) AllReadyIn.nil
      go_simp
      refine hK _ _ ?_
      clear hK K
      refine wpAnyIn_ready (rs := [3]) (by kernel_rfl) (by simp) ?_
      refine AllReadyIn.cons rfl (fun K hK => ?_) AllReadyIn.nil
      go_simp
      refine hK _ _ ?_
      clear hK K
      refine wpAnyIn_ready (rs := [4]) (by kernel_rfl) (by simp) ?_
      refine AllReadyIn.cons rfl (fun K hK => ?_) AllReadyIn.nil
      go_simp
      refine hK _ _ ?_
      clear hK K
      refine wpAnyIn_ready (rs := [8]) (by kernel_rfl) (by simp) ?_
      refine AllReadyIn.cons rfl (fun K hK => ?_) AllReadyIn.nil
      go_simp
      refine hK _ _ ?_
      clear hK K
      refine wpAnyIn_ready (rs := [9]) (by kernel_rfl) (by simp) ?_
      refine AllReadyIn.cons rfl (fun K hK => ?_) AllReadyIn.nil
      go_simp
      refine hK _ _ ?_
      clear hK K
      refine wpAnyIn_ready (rs := [10]) (by kernel_rfl) (by simp) ?_
      refine AllReadyIn.cons rfl (fun K hK => ?_) AllReadyIn.nil
      go_simp
      refine hK _ _ ?_
      clear hK K
      refine wpAnyIn_done (by kernel_rfl) ?_ _
      exact ⟨rfl, rfl⟩
    rintro (_ | _) a' w' hRQ <;> try exact hRQ.elim
    obtain ⟨rfl, rfl⟩ := hRQ
    clear hx4 hx5
    have hx9 : ((x : Int) % 8).toNat = x % 8 := by omega
    rw [hx9, HV.out]
    have h2 := HSt.out (.int .u8 ((b ||| 2 ^ (x % 8) : Nat) : Int))
    rw [HS.out, inL_snoc] at h2
    have fs : Fr (Is w.heap.size) W (W.setCell ⟨w.heap.size, x / 8, none⟩ (.int .u8 ((b ||| 2 ^ (x % 8) : Nat) : Int))).drew := ((Fr.refl (Is w.heap.size) W).setCell (p := ⟨w.heap.size, x / 8, none⟩) (fun _ => rfl) _).drew
    refine ⟨keeps_of_fr fs ?_, ⟨fs.belowN HE.out.fr.size (fun k hk e => by have e : k = w.heap.size := e; omega), fun e => fs.blk e (fun e => by have e : w.heap.size + 1 + 1 = w.heap.size := e; omega)⟩, ⟨HE.out.fr.trans fs (fun i hi e => by have e : i = w.heap.size := e; omega), Nat.le_trans HE.out.sz fs.size, fs.blk HE.out.box (fun e => by have e : w.heap.size + 1 = w.heap.size := e; omega), ?_⟩⟩
    · intro k o e hk
      have e : k = w.heap.size := e
      subst e
      exact own_cells HE.out.own _ o rfl hk
    · rw [val_snoc]
      exact h2.fr0 ((Fr.refl No _).drew)
  case done =>
    rintro D ys W hD hys E hK
    have c3 : W.cell? ⟨w.heap.size + 1, 0, none⟩ = some (.slice (some ⟨w.heap.size, 0, none⟩) m m) := cell_of_row _ _ 0 _ _ _ E.box
    have HE := hide E
    have HK := hide hK
    have HY := hide hys
    have hmo : Tryd.prog.follows .mixedOrders = true := by kernel_rfl
    clear E hys hK H HT hF0 hb0 hp0 hE0
    have HPu := hide (fun W' => putU_any none 0 0 0 [] n W' rfl (Nat.le_refl _) (by unfold maxLen; omega) (by omega) (by omega) (Rd.nil _ _ _) (by omega))
    rw [List.nil_append] at HPu
    have hen := (enc_len n).2
    have HOut : Hid (Own W w.heap.size 5 1 (.slice (some ⟨w.heap.size, 0, none⟩) m m) m (by8 (setB L))) := hide (by
      have h := HE.out.own
      rw [HY.out, HM.out, HN.out, setB_held] at h
      rw [HM.out, HN.out]
      exact h)
    have HSL : Hid ((setB L).length = m) := hide (by unfold setB; rw [byf_len, HM.out, HN.out])
    have HFW := hide HE.out.fr
    have HN2 : Hid (enc L.length = enc n) := hide (by rw [HN.out])
    have hsz3 := HE.out.sz
    clear HE HY
    obtain ⟨q, hq⟩ : ∃ q, q = (enc n).length := ⟨_, rfl⟩
    rw [← hq] at hen
    have HQ := hide hq
    clear hq
    have b1 : (q + m) * 1 ≤ 140737488355328 := by omega
    have b2 : q + m ≤ maxLen := by unfold maxLen; omega
    gi_wp2
    have hwn : IntKind.u64.wrap (n : Int) = (n : Int) := by rw [IntKind.wrap_u64]; omega
    refine wpIn_wide.2 (Code.wp_mono (Q := RB (fun v A c => { tmps := #[.pointer p, undef, .slice A (q + m) (q + m), .pointer (some ⟨w.heap.size + 1, 0, none⟩), undef, .pointer p, .int .i64 (n : Nat), .int .i64 ((n : Int) + 7), .int .i64 (((n : Int) + 7) / 8), .slice (some ⟨w.heap.size, 0, none⟩) m m, .pointer p, .func (.func 75) #[] #[.pointer (some ⟨w.heap.size + 1 + 1, 0, none⟩)], undef, undef, undef, undef, undef, undef, undef, undef, undef, undef, undef, .pointer p, .int .i64 (n : Nat), .int .u64 (n : Nat), v, .slice (some ⟨w.heap.size, 0, none⟩) m m, .slice A (q + m) c, .slice A (q + m) (q + m)], defers := [{ target := .collected D, args := #[] }] }) W (q + m) (by8 (enc n) ++ by8 (setB L))) ?_ ?_)
    rotate_left
    · go_region_law (first
        | (refine step_append_gen rfl (.tmp 26) (.tmp 27) 50 50 rfl W.heap.size 5 i0 (.int .u8 0) 1 1 Tryd.underlying50 hi hz hsz hby rfl v2 q _ rfl O2.out _ m (by8 (setB L)) rfl (Src.ofRd (P := Tryd.prog) (size := 1) w2 Tryd.underlying50 _ m m (by8 (setB L)) (by rw [by8_length, HSL.out]; omega) (by omega) (HOut.out.fr0 F2.out).rd (by8_one _)) b1 b2 F2.out.size ?_; intro v3 w3 hown hfr; obtain ⟨A3, c3', rfl, q1, q2, _⟩ := hown.form; have O3 := hide hown; have F3 := hide (F2.out.own hfr (fun g hg => .inl (O2.out.lt g hg).1)); clear hown hfr)
        | (go_simp; go_at_call 16; refine (HL1.out _ ((HFW.out).drew)).mono ?_; rintro en w1 ⟨rfl, rfl⟩)
        | (go_simp; go_at_call 63; refine (HPu.out W.drew).mono ?_; rintro en w2 ⟨v2, rfl, hown, hfr⟩; have O2 : Hid (Own w2 W.heap.size 5 1 v2 q (by8 (enc n))) := hide (by rw [HQ.out]; exact hown); have F2 : Hid (Fr No W w2) := hide ⟨hfr.os, hfr.tape, hfr.output, hfr.size, hfr.block⟩; have c32 := F2.out.cell c3 (fun h => h); clear hown hfr)
        | (go_simp; go_at_call 62; refine (clip_any A3 (q + m) c3' w3 q1 q2).mono ?_; rintro en w4 ⟨rfl, rfl⟩))
      all_goals exact ⟨_, _, _, rfl, O3.out, F3.out⟩
    rintro (_ | _) a' w' hRB <;> try exact hRB.elim
    obtain ⟨v, A3, c3', rfl, O3, F3⟩ := hRB
    have HO3 := hide O3
    have HF3 := hide F3
    clear O3 F3 hwn
    have HZ := hide HFW.out.size
    show Exit.then _ _ _ _ _
    dsimp only
    gi_wp2
    have hK2 : w'.heap[D]? = some (.deferred (some [])) := HF3.out.blk HK.out (fun h => h)
    refine ⟨by simp, .inl ⟨_, _, rfl, run_takeDeferred hK2, ?_⟩⟩
    refine ⟨_, results_tmp rfl _ _ _, ?_⟩
    have f1 : Fr (fun k => k = D) w' (w'.putObj D (.deferred none)) := (Fr.of_grown (grownBy_putObj' w' D (.deferred none))).mono (fun i _ e => (Option.some.inj e).symm)
    have hz := HZ.out
    refine ⟨_, rfl, ?_, (HFW.out.tr HF3.out).trans f1 (fun i hi e => by have e : i = D := e; omega)⟩
    have hlen : (enc L.length ++ setB L).length = q + m := by rw [List.length_append, HN2.out, HSL.out, HQ.out]
    rw [hlen, by8_append, HN2.out]
    exact (HO3.out.clip.lower hz).fr f1 (fun k hk e => by
      have e : k = D := e
      subst e
      obtain ⟨_, A', c', hv, _, _, hA⟩ := HO3.out
      injection hv with hv _ _
      subst hv
      rcases hA with ⟨rfl, _⟩ | ⟨g', cur, rfl, _, hh, _⟩
      · cases hk
      · have e : g' = k := Option.some.inj hk
        subst e
        rw [hK2] at hh
        cases hh)
  case stop =>
    rintro D c pre W _ _ h _
    exact h.elim
end Go.Proofs.YtapfbjaopbcgjaaDoor
