/- Several texts in one: BkLw, RefUint, RefNum, RefRd, RefCut. -/
import Derived.Test.YtpopbkcbplmcaaaGreatK4
namespace Go.Proofs.YtpopbkcbplmcaaaGreat
set_option linter.unusedVariables false
set_option linter.unusedSimpArgs false
open Go.RowKit

section
variable {w0 W W' : World} {base g gr dims gx gp a0 b : Nat} {bs : List UInt8} {e d : Int} {v vx : Value} {ps qs : List PoL} {xs : List Int}
theorem PuS.push {A : Option Addr} {n c : Nat} {v' : Value} (h : PuS w0 W base g gr dims gx gp bs a0 b e v ps vx qs d (.slice A n c) xs) (hn : xs.length = n) (f : Fr (fun k => vx.ownBlock = some k) W W') (o : Own W' w0.heap.size 46 2 v' (qs.length + 1) (pFlat qs ++ [.int .i64 d, .slice A n c])) :
    LfS w0 (W'.setCell ⟨gx, 0, none⟩ v') base g gr dims gx bs a0 b e v ps v' (qs ++ [((d, xs), A, c)]) := by
  have ov : ∀ t, t ≠ 46 → Off (fun k => vx.ownBlock = some k) W t := fun t ht => off_own h.lf.own ht
  have hx' : W'.heap[gx]? = some (.cells #[vx, .int .i64 0, .int .i64 0, .pointer none, .pointer none] 71 (0, 0)) := f.blk h.lf.x (fun e => ov _ (by decide) _ _ _ h.lf.x e)
  have f2 : Fr (Is gx) W' (W'.setCell ⟨gx, 0, none⟩ v') := (Fr.refl (Is gx) W').setCell (p := ⟨gx, 0, none⟩) (fun _ => rfl) v'
  have o2 : ∀ t, t ≠ 71 → Off (Is gx) W' t := fun t ht => off_is hx' ht
  have f01 : Fr (Is g) w0 W' := h.lf.fr.own f (fun k hk => .inl (h.lf.own.lt k hk).1)
  have hq : PtN W (InT W w0.heap.size W.heap.size) ((d, xs), A, c) := by
    have h1 := h.own
    rw [hn] at h1
    exact PtN.own (p := (d, xs)) h1 h.hp
  refine ⟨h.lf.nd0, (h.lf.rd.offT f (ov _ (by decide)) (ov _ (by decide))).offT f2 (o2 _ (by decide)) (o2 _ (by decide)), f01.trans f2 (fun i hi e => by have e : i = gx := e; have := h.lf.hx; omega), ?_, h.lf.hx, ?_, ?_⟩
  · simp [World.setCell, Array.getElem?_modify, hx', Array.set!]
  · have := o.off f2 (o2 _ (by decide))
    rw [List.length_append, List.length_singleton, pFlat_snoc]
    unfold pRow
    dsimp only
    rw [hn]
    exact this
  · intro q hq'
    have hz : W.heap.size ≤ (W'.setCell ⟨gx, 0, none⟩ v').heap.size := Nat.le_trans f.size f2.size
    rcases List.mem_append.1 hq' with hq' | hq'
    · exact ((((h.lf.pts q hq').off f (ov _ (by decide))).off f2 (o2 _ (by decide)))).up hz
    · rw [List.mem_singleton.1 hq']
      exact ((hq.off f (ov _ (by decide))).off f2 (o2 _ (by decide))).up hz
end
theorem pFlat_two (a b : List PoL) : pFlat (a ++ b) = pFlat a ++ pFlat b := by simp [pFlat, List.flatMap_append]
section
variable {w0 W W8 : World} {base g gr dims gx a0 b : Nat} {bs : List UInt8} {e : Int} {v vx v8 : Value} {ps qs : List PoL}
/-- blocks of numbers are left alone. -/
theorem InT.done {w1 : World} {lo hi k n : Nat} {xs : List Value} (h : InT w1 lo hi k) (hh : hi ≤ w1.heap.size) (h1 : g < lo) (h2 : gr < lo) (o : Own w1 base 46 2 v n xs) : lo ≤ k ∧ Done w1 g gr v k := by
  obtain ⟨q1, q2, cs, fz, q3⟩ := h
  exact ⟨q1, by omega, by omega, by omega, fun hk => o.ne_blk hk q3 (by decide)⟩
theorem LfS.fin (h : LfS w0 W base g gr dims gx bs a0 b e v ps vx qs) (f : Fr (fun k => v.ownBlock = some k) W W8) (o : Own W8 base 46 2 v8 (ps.length + qs.length) (pFlat ps ++ pFlat qs)) (mv : v8.ownBlock = v.ownBlock ∨ v8.ownBlock = some W.heap.size) :
    ND (W8.setCell ⟨gr, 2, none⟩ v8) base g gr dims bs b e v8 (ps ++ qs) ∧ TreeM (W8.setCell ⟨gr, 2, none⟩ v8) (fun k => w0.heap.size ≤ k ∧ Done (W8.setCell ⟨gr, 2, none⟩ v8) g gr v8 k) (.leaf (qs.map (·.1))) gx ∧ (∀ j, v8.ownBlock = some j → v.ownBlock = some j ∨ w0.heap.size ≤ j) ∧ Fr (S3 g gr v) w0 (W8.setCell ⟨gr, 2, none⟩ v8) := by
  have nd := h.nd
  have hlt0 := h.nd0.lt
  have hv0 : ∀ j, v.ownBlock = some j → j < w0.heap.size := fun j hj => (h.nd0.own.lt j hj).2
  have hgr8 : W8.heap[gr]? = some (.cells #[.pointer (some ⟨g, 0, none⟩), .int .i64 (dims : Nat), v] 58 (0, 0)) := f.blk nd.row (fun hk => nd.vgr hk)
  have f2 : Fr (Is gr) W8 (W8.setCell ⟨gr, 2, none⟩ v8) := (Fr.refl (Is gr) W8).setCell (p := ⟨gr, 2, none⟩) (fun _ => rfl) v8
  have ov : ∀ t, t ≠ 46 → Off (fun k => v.ownBlock = some k) W t := fun t ht => off_own nd.own ht
  have o2 : ∀ t, t ≠ 58 → Off (Is gr) W8 t := fun t ht => off_is hgr8 ht
  have hx8 := f.blk h.x (fun e => ov _ (by decide) _ _ _ h.x e)
  have hx2 := f2.blk hx8 (fun e => o2 _ (by decide) _ _ _ hx8 e)
  have hrow : (W8.setCell ⟨gr, 2, none⟩ v8).heap[gr]? = some (.cells #[.pointer (some ⟨g, 0, none⟩), .int .i64 (dims : Nat), v8] 58 (0, 0)) := by
    simp [World.setCell, Array.getElem?_modify, hgr8, Array.set!]
  have hown := o.off f2 (o2 _ (by decide))
  have hrd := (nd.rd.offT f (ov _ (by decide)) (ov _ (by decide))).offT f2 (o2 _ (by decide)) (o2 _ (by decide))
  have hq : ∀ q ∈ qs, PtN (W8.setCell ⟨gr, 2, none⟩ v8) (InT (W8.setCell ⟨gr, 2, none⟩ v8) w0.heap.size (W8.setCell ⟨gr, 2, none⟩ v8).heap.size) q := fun q hq =>
    (((h.pts q hq).off f (ov _ (by decide))).off f2 (o2 _ (by decide))).up (Nat.le_trans f.size f2.size)
  have hp : ∀ p ∈ ps, PtN (W8.setCell ⟨gr, 2, none⟩ v8) (InT (W8.setCell ⟨gr, 2, none⟩ v8) 0 (W8.setCell ⟨gr, 2, none⟩ v8).heap.size) p := fun p hp =>
    (((nd.pts p hp).off f (ov _ (by decide))).off f2 (o2 _ (by decide))).up (Nat.le_trans f.size f2.size)
  have hW0 := h.fr.size
  have hW8 := f.size
  have hW2 := f2.size
  generalize hW : W8.setCell ⟨gr, 2, none⟩ v8 = W2 at f2 hrow hown hrd hq hp hx2 hW2 ⊢
  refine ⟨⟨hrd, hrow, ?_, ?_⟩, ⟨?_, ?_⟩, ?_, ?_⟩
  · rw [List.length_append, pFlat_two]; exact hown
  · intro p hp'
    rcases List.mem_append.1 hp' with hp' | hp'
    · exact hp p hp'
    · exact (hq p hp').mono fun k hk => ⟨Nat.zero_le _, hk.2.1, hk.2.2⟩
  · have hxl := (Array.getElem?_eq_some_iff.1 hx2).1
    have hx := h.hx
    exact ⟨hx, hxl, by omega, by omega, fun hk => o.ne_blk hk hx8 (by decide)⟩
  · obtain ⟨Ax, cx, rfl, q1, q2, _⟩ := h.own.form
    refine ⟨Ax, cx, qs, by rw [hx2, List.length_map], by rw [List.length_map]; exact q1, q2, rfl, fun j u hu => ?_, fun q hq' => (hq q hq').mono fun k hk => hk.done (Nat.le_refl _) hlt0.1 hlt0.2 hown⟩
    obtain ⟨ad, rfl, q3, q4⟩ := h.own.rd j u hu
    have q5 := (h.own.lt ad.block rfl).1
    have c8 := f.cell q4 (by rw [block_of_add]; intro e; have := hv0 _ e; omega)
    have c2 := f2.cell c8 (by rw [block_of_add]; intro e; have e : ad.block = gr := e; omega)
    refine ⟨ad, rfl, ⟨q5, by omega, by omega, by omega, fun e => ?_⟩, c2⟩
    rcases mv with e2 | e2
    · rw [e2] at e; have := hv0 _ e; omega
    · rw [e] at e2; injection e2 with e2; omega
  · intro j hj
    rcases mv with e | e
    · exact .inl (e ▸ hj)
    · rw [hj] at e; injection e with e; exact .inr (by omega)
  · have f01 : Fr (S3 g gr v) w0 W := h.fr.mono (fun i _ e => .inl e)
    exact (f01.trans f (fun i _ e => .inr (.inr e))).trans f2 (fun i _ e => .inr (.inl e))
end
/-- append inside a region that draws its order; where the slice lies. -/
theorem step_append_mv {P : Program} {ops : Array Oper} {o : Oper} {a : Act} {w : World} {K : Act → World → Prop} {Q : Exit → Act → World → Prop} {E : Prop} (hgd : o.guard = none) (s x : Operand) (t tx : TypeId)
    (ho : o.op = .call { callee := .builtin .append, args := #[s, x], argTypes := #[t, tx] })
    (base : Nat) (e : TypeId) (i : TypeInfo) (z : Value) (size bytes : Nat) (ht : P.underlying t = some (.slice e)) (hi : P.info? e = some i) (hz : i.zero = some z)
    (hsize : i.size = size) (hby : i.bytes = bytes) (hzs : z.cells.size = size)
    (v : Value) (n : Nat) (xs : List Value) (hs : a.eval s = v) (hown : Own w base e size v n xs)
    (y : Value) (m : Nat) (news : List Value) (hx : a.eval x = y) (hsrc : Src P size tx y m news w)
    (hbytes : (n + m) * bytes ≤ 140737488355328) (h63 : n + m ≤ maxLen) (hbase : base ≤ w.heap.size)
    (h : ∀ v' w', Own w' base e size v' (n + m) (xs ++ news) → Fr (fun k => v.ownBlock = some k) w w' → (v'.ownBlock = v.ownBlock ∨ v'.ownBlock = some w.heap.size) → K (a.put o.dst v') w') :
    if Region.wanted o (yielded ops a.tmps) = true then Oper.wp P o a w K Q else E := by
  have hw : Region.wanted o (yielded ops a.tmps) = true := by simp [Region.wanted, hgd]
  rw [if_pos hw]
  exact wp_append_gen w s x t tx ho base e i z size bytes ht hi hz hsize hby hzs v n xs hs hown y m news hx hsrc hbytes h63 hbase h
theorem unzz_add {bs : List UInt8} {k a : Nat} {e : Int} {l : List Int} {b : Nat} {e2 : Int} (h : intsR bs k a e = (l, b, e2)) : intsR bs (k + 1) a e = (l ++ [unzz (uintR bs b e2).1], (uintR bs b e2).2) := by
  rw [intsR, h]
theorem Tryz.infoI8 : (Tryz.prog.info? 2).map (fun i => (i.zero, i.size, i.bytes)) = some (some (.int .i64 0), 1, 8) := by kernel_rfl
set_option maxRecDepth 100000 in
set_option maxHeartbeats 4000000 in
theorem node_leaf (base g gr dims n a : Nat) (bs : List UInt8) (v : Value) (ps : List PoL) (w : World) (hdm : 1 ≤ dims ∧ dims ≤ 4) (hps : ps.length + n ≤ 1048576) (h : ND w base g gr dims bs a 0 v ps) (hbase : base ≤ w.heap.size) (h0 : bs[a]? = some 0) :
    Calls Tryz.prog 24 #[.pointer (some ⟨gr, 0, none⟩), .int .i64 (n : Nat)] w (NodeQ w base g gr dims bs n a v ps) := by
  have hby := bytes_one h0
  obtain ⟨⟨m, a2, e2⟩, hs⟩ : ∃ x, x = sizeS bs (a + 1) 0 8 := ⟨_, rfl⟩
  have HBy0 := bytes_any g bs a 0 1 w h.rd
  rw [hby] at HBy0
  dsimp only at HBy0
  have HBy := hide HBy0
  have HSz := hide (fun W (h : RD W g bs (a + 1) 0) => sizeN_any g bs (a + 1) 0 8 W h (by decide) (by decide))
  rw [← hs] at HSz
  dsimp only at HSz
  have HS := hide hs
  have H0 := hide h0
  have HN := hide h
  have HBase := hide hbase
  have k0 : w.cell? ⟨gr, 0, none⟩ = some (.pointer (some ⟨g, 0, none⟩)) := cell_of_row _ _ 0 _ _ _ h.row
  have hdm1 := hdm.1
  have hdm4 := hdm.2
  clear hby hs h0 h hbase HBy0 hdm
  go_enter Tryz.func24, Tryz.ntmps24
  go_upto_region 4 with (first
    | (go_at_call 39; refine HBy.out.mono ?_; rintro en w1 ⟨vk, rfl, hown, hrd, hf⟩; obtain ⟨Ak, ck, rfl, y1, y2, _, y3, _⟩ := hown.form; obtain ⟨adk, rfl, _, hck⟩ := y3.byte (k := 0) (by decide); have e0 : (([0] : List UInt8).getD 0 0).toNat = 0 := rfl; rw [e0, Addr.add_zero'] at hck; have HN1 := hide (HN.out.read hf hrd); have HF1 := hide hf; have k1 : w1.cell? ⟨gr, 0, none⟩ = some (.pointer (some ⟨g, 0, none⟩)) := cell_of_row _ _ 0 _ _ _ HN1.out.row; have HE1 := hide (err_any g bs (a + 1) 0 w1 HN1.out.rd); unfold maxLen at y2; clear hown hrd hf y3 e0)
    | (go_at_call 23; refine HE1.out.mono ?_; rintro en w' ⟨rfl, rfl⟩)
    | (go_at_call 22; refine (bgood_ok _).mono ?_; rintro en w' ⟨⟨r, rfl⟩, rfl⟩))
  clear k0 k1 HBy
  have k1 : w1.cell? ⟨gr, 0, none⟩ = some (.pointer (some ⟨g, 0, none⟩)) := cell_of_row _ _ 0 _ _ _ HN1.out.row
  have HSz1 := hide (HSz.out w1 HN1.out.rd)
  have HErr := hide (fun W (h : RD W g bs a2 e2) => err_any g bs a2 e2 W h)
  have hf13 : ∀ W, Fr (Is g) w W → Fr (S3 g gr v) w W := fun W f => f.mono (fun i _ e => .inl e)
  have HF13 := hide hf13
  clear hf13 HSz
  by_cases hm : m = n
  · subst hm
    have d1 : ((m : Int) == (m : Int)) = true := by simp
    by_cases he : e2 = 0
    · subst he
      have d2 : ((0 : Int) == 0) = true := by decide
      have HNd := hide (nodeR_leaf (dims := dims) H0.out HS.out.symm)
      have hm8 : m ≤ 8 := by
        have := sizeS_le (bs := bs) (a := a + 1) (e := 0) (most := 8) (by decide)
        rw [← HS.out] at this
        omega
      go_upto_region 5 with (first
        | (go_at_call 21; refine HSz1.out.mono ?_; rintro en w2 ⟨rfl, hrd, hf⟩; have HN2 := hide (HN1.out.read hf hrd); have HF2 : Hid (Fr (Is g) w w2) := hide (HF1.out.trans hf (fun _ _ h => h)); have k2 : w2.cell? ⟨gr, 0, none⟩ = some (.pointer (some ⟨g, 0, none⟩)) := cell_of_row _ _ 0 _ _ _ HN2.out.row; have HE2 := hide (HErr.out w2 hrd); clear hrd hf)
        | (go_at_call 23; refine HE2.out.mono ?_; rintro en w' ⟨rfl, rfl⟩)
        | (go_at_call 22; refine (bgood_ok _).mono ?_; rintro en w' ⟨⟨r, rfl⟩, rfl⟩))
      clear hck k1 k2 d1 d2 HSz1 HErr HE1 HE2 HN1 HF1
      have HL0 : Hid (LfS w (w2.alloc (.cells #[.slice none 0 0, .int .i64 0, .int .i64 0, .pointer none, .pointer none] 71)) base g gr dims w2.heap.size bs a a2 0 v ps (.slice none 0 0) []) := by
        have fA := (Fr.refl No w2).alloc (.cells #[.slice none 0 0, .int .i64 0, .int .i64 0, .pointer none, .pointer none] 71)
        exact hide ⟨HN.out, HN2.out.rd.fr0 fA, HF2.out.trans fA (fun _ _ h => h.elim), heap_alloc_new w2 _, HF2.out.size, Own.nil _ _ _ _, fun q hq => by cases hq⟩
      obtain ⟨gx, hgx⟩ : ∃ gx, gx = w2.heap.size := ⟨_, rfl⟩
      obtain ⟨w3, hw3⟩ : ∃ w3, w3 = w2.alloc (.cells #[.slice none 0 0, .int .i64 0, .int .i64 0, .pointer none, .pointer none] 71) := ⟨_, rfl⟩
      rw [← hw3, ← hgx] at HL0
      have HGx := hide hgx
      have HW3 := hide hw3
      clear hgx hw3 HF2 HN2
      go_upto_region 6 with (fail)
      rw [← HW3.out, ← HGx.out]
      go_wp2_with (fail)
      go_loopw [7, 52] (fun _ i wr => ∃ (k b : Nat) (vx : Value) (qs : List PoL), k ≤ m ∧ i = .int .i64 (k : Nat) ∧ Hid (qs.length = k) ∧ Hid (ptsR bs dims k a2 = some (qs.map (·.1), b)) ∧ Hid (LfS w wr base g gr dims gx bs a b 0 v ps vx qs)) (fun _ i _ => m - (intOf i).toNat)
      case atStart => exact ⟨0, a2, .slice none 0 0, [], by omega, by go_num, hide rfl, hide rfl, HL0⟩
      case round =>
        clear HL0
        obtain ⟨wo, rfl⟩ : ∃ wo : World, wo = wr := ⟨_, rfl⟩
        obtain ⟨k, b, vx, qs, hk, rfl, HQl, HPs, HLf⟩ := hrel
        by_cases hlk : k < m
        · obtain ⟨⟨d, b1, e1⟩, hd⟩ : ∃ x, x = sizeS bs b 0 16383 := ⟨_, rfl⟩
          have HSd0 := sizeN_any g bs b 0 16383 wo HLf.out.rd (by decide) (by decide)
          rw [← hd] at HSd0
          dsimp only at HSd0
          have HSd := hide HSd0
          have HD := hide hd
          have k1 : wo.cell? ⟨gr, 0, none⟩ = some (.pointer (some ⟨g, 0, none⟩)) := cell_of_row _ _ 0 _ _ _ HLf.out.nd.row
          clear hd HSd0
          go_upto_region 9 with (first
            | (go_at_call 21; refine HSd.out.mono ?_; rintro en w4 ⟨rfl, hrd, hf⟩; have HL4 := hide (HLf.out.read hf hrd); clear hrd hf))
          obtain ⟨gp, hgp⟩ : ∃ gp, gp = w4.heap.size := ⟨_, rfl⟩
          obtain ⟨w5, hw5⟩ : ∃ w5, w5 = w4.alloc (.cells #[.int .i64 (d : Nat), .slice none 0 0] 46) := ⟨_, rfl⟩
          rw [← hw5, ← hgp]
          have HPu0 : Hid (PuS w w5 base g gr dims gx gp bs a b1 e1 v ps vx qs (d : Nat) (.slice none 0 0) []) := by
            have fA : Fr No w4 w5 := by rw [hw5]; exact (Fr.refl No w4).alloc _
            refine hide ⟨HL4.out.fr0 fA, by rw [hw5, hgp]; exact heap_alloc_new w4 _, ?_, ?_, Own.nil _ _ _ _, fun q hq => ?_⟩
            · rw [hgp]; exact HL4.out.fr.size
            · intro e; have := (HL4.out.own.lt gp e).2; omega
            · rw [hgp]; exact (HL4.out.pts q hq).fr0 fA
          clear hgp hw5 HL4 k1
          have k1 : w5.cell? ⟨gr, 0, none⟩ = some (.pointer (some ⟨g, 0, none⟩)) := cell_of_row _ _ 0 _ _ _ HPu0.out.lf.nd.row
          have k2 : w5.cell? ⟨gr, 1, none⟩ = some (.int .i64 (dims : Nat)) := cell_of_row _ _ 1 _ _ _ HPu0.out.lf.nd.row
          go_wp2_with (fail)
          clear k1 k2
          go_loopw [64] (fun i wr => ∃ (j b' : Nat) (e' : Int) (xs : List Int) (va : Value), j ≤ dims ∧ i = .int .i64 (j : Nat) ∧ Hid (xs.length = j) ∧ Hid (intsR bs j b1 e1 = (xs, b', e')) ∧ Hid (PuS w wr base g gr dims gx gp bs a b' e' v ps vx qs (d : Nat) va xs)) (fun i _ => dims - (intOf i).toNat)
          case atStart => exact ⟨0, b1, e1, [], .slice none 0 0, by omega, by go_num, hide rfl, hide rfl, HPu0⟩
          case round =>
            clear HPu0
            obtain ⟨wi, rfl⟩ : ∃ wo : World, wo = wr := ⟨_, rfl⟩
            obtain ⟨j, b', e', xs, va, hj, rfl, HXl, HIs, HPu⟩ := hrel
            have kr : wi.cell? ⟨gr, 0, none⟩ = some (.pointer (some ⟨g, 0, none⟩)) := cell_of_row _ _ 0 _ _ _ HPu.out.lf.nd.row
            by_cases hlj : j < dims
            · obtain ⟨⟨uu, b2, e3⟩, hu⟩ : ∃ x, x = uintR bs b' e' := ⟨_, rfl⟩
              have HInt := hide (fun W (h : RD W g bs b' e') => int_any g bs b' e' W h)
              rw [← hu] at HInt
              dsimp only at HInt
              have HU := hide hu
              obtain ⟨i8, hi, hz, hsz, hby⟩ := info_parts Tryz.infoI8
              have b1' : (j + 1) * 8 ≤ 140737488355328 := by omega
              have b2' : j + 1 ≤ maxLen := by unfold maxLen; omega
              have HPd := hide (HPu.out.fr0 (Fr.refl No wi).drew)
              have krd : wi.drew.cell? ⟨gr, 0, none⟩ = some (.pointer (some ⟨g, 0, none⟩)) := kr
              have kp : wi.drew.cell? ⟨gp, 1, none⟩ = some va := cell_of_row _ _ 1 _ _ _ HPd.out.p
              have HIn := hide (HInt.out wi.drew HPd.out.lf.rd)
              clear hu kr
              go_upto_region 11 with (fail)
              refine wp_named fun K hK => ?_
              go_cut [] from 66 to 75 (fun wz => ∃ va', Hid (PuS w wz base g gr dims gx gp bs a b2 e3 v ps vx qs (d : Nat) va' (xs ++ [unzz uu])))
              case first =>
                go_region_law (first
                  | (go_simp; go_at_call 40; refine HIn.out.mono ?_; rintro en w6 ⟨rfl, hrd, hf⟩; have HP6 := hide (HPd.out.read hf hrd); have k6 : w6.cell? ⟨gp, 1, none⟩ = some va := cell_of_row _ _ 1 _ _ _ HP6.out.p; have HP7 := hide (HP6.out.fr0 ((Fr.refl No w6).alloc (.cells #[.int .i64 (unzz uu)] 2))); have k7 : (w6.alloc (.cells #[.int .i64 (unzz uu)] 2)).cell? ⟨gp, 1, none⟩ = some va := cell_of_row _ _ 1 _ _ _ HP7.out.p; have HO7 : Hid (Own (w6.alloc (.cells #[.int .i64 (unzz uu)] 2)) gp 2 1 va j (iz .i64 xs)) := hide (by have := HP7.out.own; rw [HXl.out] at this; exact this); have HS7 := hide (Src.one (P := Tryz.prog) w6 (e := 2) Tryz.underlying24 (.int .i64 (unzz uu)) rfl); have b3 : gp ≤ (w6.alloc (.cells #[.int .i64 (unzz uu)] 2)).heap.size := Nat.le_of_lt (Array.getElem?_eq_some_iff.1 HP7.out.p).1; clear hrd hf)
                  | (refine step_append_any rfl (.tmp 67) (.tmp 73) 24 24 rfl gp 2 i8 (.int .i64 0) 1 8 Tryz.underlying24 hi hz hsz hby rfl va j (iz .i64 xs) rfl HO7.out _ 1 [.int .i64 (unzz uu)] rfl HS7.out b1' b2' b3 ?_; intro v8 w8 hown hfr; have HP8 : Hid (PuS w (w8.setCell ⟨gp, 1, none⟩ v8) base g gr dims gx gp bs a b2 e3 v ps vx qs (d : Nat) v8 (xs ++ [unzz uu])) := hide (HP7.out.add hfr (by rw [HXl.out]; exact hown)); obtain ⟨A8, c8, rfl, _⟩ := hown.form; have hb8 := hfr.blk HP7.out.p (fun e => HO7.out.ne_blk e HP7.out.p (by decide)); have k8 : w8.cell? ⟨gp, 1, none⟩ = some va := cell_of_row _ _ 1 _ _ _ hb8; have fz8 : w8.frozen? ⟨gp, 1, none⟩ = false := frozen_of_row _ _ _ _ _ hb8; clear hown hfr hb8))
                all_goals (go_wp2; go_meet)
                all_goals exact ⟨_, HP8⟩
              case rest =>
                obtain ⟨va', HPz⟩ := hcut
                refine hK _ _ ?_
                clear hK
                go_wp2_with (fail)
                go_roundw
                case rel => exact ⟨j + 1, b2, e3, xs ++ [unzz uu], va', by omega, by go_num, hide (by rw [List.length_append, HXl.out]; rfl), hide (by rw [unzz_add HIs.out, ← HU.out]), HPz⟩
                case measure => simp [intOf]; omega
            · obtain rfl : j = dims := by omega
              have hpt : ptR bs j b = (((d : Int), xs), b', e') := by unfold ptR; rw [← HD.out]; dsimp only; rw [HIs.out]
              have HPt := hide hpt
              have HEi := hide (err_any g bs b' e' wi HPu.out.lf.rd)
              have hFw : Fr (S3 g gr v) w wi := HPu.out.lf.fr.mono (fun i _ e => .inl e)
              have HFw := hide hFw
              clear hpt hFw hlj
              by_cases he : e' = 0
              · subst he
                have d2 : ((0 : Int) == 0) = true := by decide
                have ho := HPu.out.own
                rw [HXl.out] at ho
                obtain ⟨Aa, ca, rfl, q1, q2, _⟩ := ho.form
                have HPs' : Hid (ptsR bs j (k + 1) a2 = some ((qs ++ [(((d : Int), xs), Aa, ca)]).map (·.1), b')) := hide (by
                  rw [ptsR_some HPs.out, HPt.out]; simp)
                unfold maxLen at q2
                clear ho
                go_upto_region 14 with (first
                  | (go_at_call 23; refine HEi.out.mono ?_; rintro en w' ⟨rfl, rfl⟩)
                  | (go_at_call 22; refine (bgood_ok _).mono ?_; rintro en w' ⟨⟨r, rfl⟩, rfl⟩))
                clear d2 kr HEi
                obtain ⟨ip, hi, hz, hsz, hby⟩ := info_parts Tryz.infoBP
                have b1' : (k + 1) * 32 ≤ 140737488355328 := by omega
                have b2' : k + 1 ≤ maxLen := by unfold maxLen; omega
                have HPd := hide (HPu.out.fr0 (Fr.refl No wi).drew)
                have HPa := hide (HPd.out.fr0 ((Fr.refl No wi.drew).alloc (.cells #[.int .i64 (d : Nat), .slice Aa j ca] 46)))
                have kx : wi.drew.cell? ⟨gx, 0, none⟩ = some vx := cell_of_row _ _ 0 _ _ _ HPd.out.lf.x
                have kx2 : (wi.drew.alloc (.cells #[.int .i64 (d : Nat), .slice Aa j ca] 46)).cell? ⟨gx, 0, none⟩ = some vx := cell_of_row _ _ 0 _ _ _ HPa.out.lf.x
                have kx3 : (wi.alloc (.cells #[.int .i64 (d : Nat), .slice Aa j ca] 46)).cell? ⟨gx, 0, none⟩ = some vx := kx2
                have kp0 : wi.drew.cell? ⟨gp, 0, none⟩ = some (.int .i64 (d : Nat)) := cell_of_row _ _ 0 _ _ _ HPd.out.p
                have kp1 : wi.drew.cell? ⟨gp, 1, none⟩ = some (.slice Aa j ca) := cell_of_row _ _ 1 _ _ _ HPd.out.p
                have HOa : Hid (Own (wi.drew.alloc (.cells #[.int .i64 (d : Nat), .slice Aa j ca] 46)) w.heap.size 46 2 vx k (pFlat qs)) := hide (by have := HPa.out.lf.own; rw [HQl.out] at this; exact this)
                have HSa := hide (src_bp wi.drew d Aa j ca)
                have b3 : w.heap.size ≤ (wi.drew.alloc (.cells #[.int .i64 (d : Nat), .slice Aa j ca] 46)).heap.size := HPa.out.lf.fr.size
                refine wp_named fun K hK => ?_
                go_cut [] from 84 to 93 (fun wz => ∃ vx', Hid (LfS w wz base g gr j gx bs a b' 0 v ps vx' (qs ++ [(((d : Int), xs), Aa, ca)])))
                case first =>
                  go_region_law (first
                    | (refine step_append_any rfl (.tmp 88) (.tmp 90) 56 56 rfl w.heap.size 46 ip (.agg #[.int .i64 0, .slice none 0 0]) 2 32 Tryz.underlying56 hi hz hsz hby rfl vx k (pFlat qs) rfl HOa.out _ 1 [.int .i64 (d : Nat), .slice Aa j ca] rfl HSa.out b1' b2' b3 ?_; intro v8 w8 hown hfr; have HL8 : Hid (LfS w (w8.setCell ⟨gx, 0, none⟩ v8) base g gr j gx bs a b' 0 v ps v8 (qs ++ [(((d : Int), xs), Aa, ca)])) := hide (HPa.out.push HXl.out hfr (by rw [HQl.out]; exact hown)); obtain ⟨A8, c8, rfl, _⟩ := hown.form; have hb8 := hfr.blk HPa.out.lf.x (fun e => HOa.out.ne_blk e HPa.out.lf.x (by decide)); have k8 : w8.cell? ⟨gx, 0, none⟩ = some vx := cell_of_row _ _ 0 _ _ _ hb8; have fz8 : w8.frozen? ⟨gx, 0, none⟩ = false := frozen_of_row _ _ _ _ _ hb8; clear hown hfr hb8))
                  all_goals (go_wp2; go_meet)
                  all_goals exact ⟨_, HL8⟩
                case rest =>
                  obtain ⟨vx', HLz⟩ := hcut
                  refine hK _ _ ?_
                  clear hK
                  go_wp2_with (fail)
                  go_roundw
                  case rel => exact ⟨k + 1, b', vx', _, by omega, by go_num, hide (by rw [List.length_append, HQl.out]; rfl), HPs', HLz⟩
                  case measure => simp [intOf]; omega
              · have d2 : (e' == 0) = false := by simpa using he
                have hno : nodeR bs j m a = none := by
                  have h1 : ptsR bs j (k + 1) a2 = none := by rw [ptsR_some HPs.out, HPt.out]; exact if_neg he
                  have h2 := ptsR_none h1 (m - (k + 1))
                  rw [show k + 1 + (m - (k + 1)) = m by omega] at h2
                  rw [HNd.out, h2]; rfl
                have HNo := hide hno
                clear hno he
                go_wp2_with (first
                  | (go_at_call 23; refine HEi.out.mono ?_; rintro en w' ⟨rfl, rfl⟩)
                  | (go_at_call 22; refine (bgood_bad _).mono ?_; rintro en w' ⟨rfl, rfl⟩))
                exact ⟨rfl, .inr ⟨HNo.out, rfl, HFw.out⟩⟩
        · obtain rfl : k = m := by omega
          have HNs : Hid (nodeR bs dims k a = some (.leaf (qs.map (·.1)), b)) := hide (by rw [HNd.out, HPs.out]; rfl)
          obtain ⟨ip, hi, hz, hsz, hby⟩ := info_parts Tryz.infoBP
          have HLd := hide (HLf.out.fr0 (Fr.refl No wo).drew)
          have kg : wo.drew.cell? ⟨gr, 2, none⟩ = some v := cell_of_row _ _ 2 _ _ _ HLd.out.nd.row
          obtain ⟨Ax, cx, rfl, q1, q2, _, q3, _⟩ := HLd.out.own.form
          have kx : wo.drew.cell? ⟨gx, 0, none⟩ = some (.slice Ax qs.length cx) := cell_of_row _ _ 0 _ _ _ HLd.out.x
          rw [HQl.out] at kx q1 HLd HLf
          have HOw := hide HLd.out.nd.own
          have HSr := hide (Src.ofRd (P := Tryz.prog) (size := 2) wo.drew Tryz.underlying56 Ax k cx (pFlat qs) (by rw [pFlat_len, HQl.out]) (by omega) q3 (pFlat_one qs))
          have b1' : (ps.length + k) * 32 ≤ 140737488355328 := by omega
          have b2' : ps.length + k ≤ maxLen := by unfold maxLen; omega
          have b3 : base ≤ wo.drew.heap.size := by have h1 := HBase.out; have h2 := HLd.out.fr.size; omega
          unfold maxLen at q2
          clear q3 hlk
          go_upto_region 16 with (fail)
          refine wp_named fun K hK => ?_
          go_cut [] from 95 to 106 (fun wz => ∃ v', Hid (ND wz base g gr dims bs b 0 v' (ps ++ qs)) ∧ Hid (TreeM wz (fun k => w.heap.size ≤ k ∧ Done wz g gr v' k) (.leaf (qs.map (·.1))) gx) ∧ Hid (∀ j, v'.ownBlock = some j → v.ownBlock = some j ∨ w.heap.size ≤ j) ∧ Hid (Fr (S3 g gr v) w wz))
          case first =>
            go_region_law (first
              | (refine step_append_mv rfl (.tmp 99) (.tmp 103) 56 56 rfl base 46 ip (.agg #[.int .i64 0, .slice none 0 0]) 2 32 Tryz.underlying56 hi hz hsz hby rfl v ps.length (pFlat ps) rfl HOw.out _ k (pFlat qs) rfl HSr.out b1' b2' b3 ?_; intro v8 w8 hown hfr hmv; have HFin := hide (HLd.out.fin hfr (by rw [HQl.out]; exact hown) hmv); obtain ⟨A8, c8, rfl, _⟩ := hown.form; have hb8 := hfr.blk HLd.out.nd.row (fun e => HLd.out.nd.vgr e); have k8 : w8.cell? ⟨gr, 2, none⟩ = some v := cell_of_row _ _ 2 _ _ _ hb8; have fz8 : w8.frozen? ⟨gr, 2, none⟩ = false := frozen_of_row _ _ _ _ _ hb8; clear hown hfr hmv hb8))
            all_goals (go_wp2; go_meet)
            all_goals exact ⟨_, hide HFin.out.1, hide HFin.out.2.1, hide HFin.out.2.2.1, hide HFin.out.2.2.2⟩
          case rest =>
            obtain ⟨v', HN', HT', HV', HF'⟩ := hcut
            refine hK _ _ ?_
            clear hK
            go_wp2_with (fail)
            go_ret
            exact .inl ⟨_, b, gx, v', qs, rfl, HNs.out, rfl, HN'.out, HT'.out, HV'.out, HF'.out⟩
    · have d2 : (e2 == 0) = false := by simpa using he
      have HNo := hide (nodeR_leafno (dims := dims) (n := m) H0.out HS.out.symm (fun h => he h.1))
      go_wp2_with (first
        | (go_at_call 21; refine HSz1.out.mono ?_; rintro en w2 ⟨rfl, hrd, hf⟩; have HN2 := hide (HN1.out.read hf hrd); have HF2 : Hid (Fr (Is g) w w2) := hide (HF1.out.trans hf (fun _ _ h => h)); have k2 : w2.cell? ⟨gr, 0, none⟩ = some (.pointer (some ⟨g, 0, none⟩)) := cell_of_row _ _ 0 _ _ _ HN2.out.row; have HE2 := hide (HErr.out w2 hrd); clear hrd hf)
        | (go_at_call 23; refine HE2.out.mono ?_; rintro en w' ⟨rfl, rfl⟩)
        | (go_at_call 22; refine (bgood_bad _).mono ?_; rintro en w' ⟨rfl, rfl⟩))
      exact ⟨rfl, .inr ⟨HNo.out, rfl, HF13.out _ HF2.out⟩⟩
  · have d1 : ((m : Int) == (n : Int)) = false := by simpa using (by omega : ¬ (m : Int) = (n : Int))
    have HNo := hide (nodeR_leafno (dims := dims) (n := n) H0.out HS.out.symm (fun h => hm h.2))
    go_wp2_with (first
      | (go_at_call 21; refine HSz1.out.mono ?_; rintro en w2 ⟨rfl, hrd, hf⟩; have HF2 : Hid (Fr (Is g) w w2) := hide (HF1.out.trans hf (fun _ _ h => h)); clear hrd hf)
      | (go_at_call 22; refine (bgood_bad _).mono ?_; rintro en w' ⟨rfl, rfl⟩))
    exact ⟨rfl, .inr ⟨HNo.out, rfl, HF13.out _ HF2.out⟩⟩
end Go.Proofs.YtpopbkcbplmcaaaGreat
namespace Go.Proofs.YtpopbkcbplmcaaaGreat
set_option linter.unusedVariables false
set_option linter.unusedSimpArgs false
open Go.RowKit

set_option maxRecDepth 100000 in
set_option maxHeartbeats 800000 in
theorem refUint_any (u : Nat) (w : World) (hu : u < 18446744073709551616) :
    Calls Tryz.prog 49 #[.int .u64 u] w (GivesB w (enc u)) := by
  have HM := hide (fun i => @enc_more u i)
  have HA := hide (fun i => @enc_at u i hu)
  have hl := enc_len u
  obtain ⟨i0, hi, hz, hsz, hby⟩ := info_parts Tryz.info5
  obtain ⟨L, HL⟩ : ∃ L, Hid ((enc u).length = L) := ⟨_, hide rfl⟩
  rw [HL.out] at hl HM HA
  obtain ⟨hl1, hl2⟩ := hl
  generalize enc u = E at HL HM HA
  go_enter Tryz.func49, Tryz.ntmps49
  go_wp2
  go_loop [3] (fun i => ∃ k : Nat, 1 ≤ k ∧ k ≤ L ∧ i = .int .i64 k) (fun i => 10 - (intOf i).toNat)
  case atStart => exact ⟨1, by omega, hl1, rfl⟩
  case round =>
    obtain ⟨k, hk1, hkL, rfl⟩ := hrel
    have hm := HM.out k hk1 hkL
    have hp : (0 : Int) < 2 ^ (7 * k) := Int.pow_pos (by omega)
    by_cases hlt : k < L
    · have h10 := (hm.1 hlt).1
      have hgt := (hm.1 hlt).2
      clear hm
      have hg2 : (0 : Int) < (u : Int) / 2 ^ (7 * k) := by
        have : ((u / 2 ^ (7 * k) : Nat) : Int) = (u : Int) / 2 ^ (7 * k) := by simp
        omega
      clear hgt
      go_wp2
      go_round
      case rel => exact ⟨k + 1, by omega, by omega, by go_num⟩
      case measure => simp [intOf]; omega
    · obtain rfl : k = L := by omega
      have hstop : (((k : Int) < 10 ∧ decide ((0 : Int) < (u : Int) / 2 ^ (7 * k)) = false) ∨ ¬ (k : Int) < 10) := by
        by_cases h10 : k < 10
        · refine .inl ⟨by omega, ?_⟩
          have : ¬ 0 < u / 2 ^ (7 * k) := fun h => hlt (hm.2 ⟨h10, h⟩)
          have e : ((u / 2 ^ (7 * k) : Nat) : Int) = (u : Int) / 2 ^ (7 * k) := by simp
          simp only [decide_eq_false_iff_not]
          omega
        · exact .inr (by omega)
      clear hm hlt
      rcases hstop with ⟨h10, hz0⟩ | h10
      all_goals
        go_wp2
        go_loopw [4, 5] (fun v i wr => ∃ j : Nat, j ≤ k ∧ i = .int .i64 j ∧ Hid (Own wr w.heap.size 5 1 v j (by8 (E.take j))) ∧ Hid (Fr No w wr)) (fun _ i _ => k - (intOf i).toNat)
        case atStart => exact ⟨0, by omega, rfl, hide (Own.nil _ _ _ _), hide (Fr.refl _ _)⟩
        case round =>
          obtain ⟨j, hj, rfl, HOw, HFr⟩ := hrel
          have hgw := HFr.out.size
          by_cases hlt : j < k
          · have hat := HA.out j hlt
            have hsn := take_snoc8 (l := E) (k := j) (by rw [HL.out]; exact hlt)
            have HSN := hide hsn
            clear hsn
            generalize E.getD j 0 = b at hat HSN
            by_cases hmore : j + 1 < k
            · rw [if_pos hmore] at hat
              have hb : (u : Int) / 2 ^ (7 * j) % 128 + 128 = (b.toNat : Int) := by rw [hat]; simp
              clear hat
              have HS := hide (Src.one (P := Tryz.prog) wr (e := 5) Tryz.underlying22 (.int .u8 b.toNat) rfl)
              have HOw' := hide (HOw.out.fr0 ((Fr.refl No wr).alloc (.cells #[.int .u8 b.toNat] 5)))
              have b1 : (j + 1) * 1 ≤ 140737488355328 := by omega
              have b2 : j + 1 ≤ maxLen := by unfold maxLen; omega
              have b3 : w.heap.size ≤ (wr.alloc (.cells #[.int .u8 b.toNat] 5)).heap.size := by simp; omega
              go_wp2_with (at_builtin; refine wpList_append_gen _ rfl (.tmp 37) (.tmp 39) 22 22 rfl w.heap.size 5 i0 (.int .u8 0) 1 1 Tryz.underlying22 hi hz hsz hby rfl u4 j (by8 (E.take j)) rfl HOw'.out _ 1 [.int .u8 b.toNat] rfl HS.out b1 b2 b3 ?_; intro v' w' hown hfr hat; have HOn := hide hown; have HFn := hide hfr; clear hown hfr hat)
              go_roundw
              case rel => exact ⟨j + 1, by omega, by go_num, hide (by rw [HSN.out, by8_append]; exact HOn.out), hide ((HFr.out.alloc _).own HFn.out (fun g hg => .inl (HOw.out.lt g hg).1))⟩
              case measure => simp [intOf]; omega
            · rw [if_neg hmore] at hat
              have hb : (u : Int) / 2 ^ (7 * j) % 128 = (b.toNat : Int) := by rw [hat]; simp
              clear hat
              have HS := hide (Src.one (P := Tryz.prog) wr (e := 5) Tryz.underlying22 (.int .u8 b.toNat) rfl)
              have HOw' := hide (HOw.out.fr0 ((Fr.refl No wr).alloc (.cells #[.int .u8 b.toNat] 5)))
              have b1 : (j + 1) * 1 ≤ 140737488355328 := by omega
              have b2 : j + 1 ≤ maxLen := by unfold maxLen; omega
              have b3 : w.heap.size ≤ (wr.alloc (.cells #[.int .u8 b.toNat] 5)).heap.size := by simp; omega
              go_wp2_with (at_builtin; refine wpList_append_gen _ rfl (.tmp 37) (.tmp 39) 22 22 rfl w.heap.size 5 i0 (.int .u8 0) 1 1 Tryz.underlying22 hi hz hsz hby rfl u4 j (by8 (E.take j)) rfl HOw'.out _ 1 [.int .u8 b.toNat] rfl HS.out b1 b2 b3 ?_; intro v' w' hown hfr hat; have HOn := hide hown; have HFn := hide hfr; clear hown hfr hat)
              go_roundw
              case rel => exact ⟨j + 1, by omega, by go_num, hide (by rw [HSN.out, by8_append]; exact HOn.out), hide ((HFr.out.alloc _).own HFn.out (fun g hg => .inl (HOw.out.lt g hg).1))⟩
              case measure => simp [intOf]; omega
          · go_wp2
            go_ret
            have hjk : j = k := by omega
            refine ⟨_, rfl, ?_, HFr.out⟩
            have h := HOw.out
            rw [hjk, List.take_of_length_le (by rw [HL.out]; omega)] at h
            rw [HL.out]
            exact h

end Go.Proofs.YtpopbkcbplmcaaaGreat
namespace Go.Proofs.YtpopbkcbplmcaaaGreat
set_option linter.unusedVariables false
set_option linter.unusedSimpArgs false
open Go.RowKit

def numW : Option (Nat × Nat) → Value
  | none => .tuple #[.int .u64 0, .int .i64 0]
  | some (u, k) => .tuple #[.int .u64 u, .int .i64 k]

theorem gv_lt (bs : List UInt8) (k j : Nat) : gv bs k j < 18446744073709551616 := Nat.mod_lt _ (by omega)

set_option maxRecDepth 100000 in
set_option maxHeartbeats 1600000 in
theorem refNumber_any (A : Option Addr) (n c B : Nat) (bs : List UInt8) (w : World) (hl : bs.length = n) (hn : n ≤ c) (hc : c ≤ maxLen) (hB : B ≤ w.heap.size) (hr : Rd w B A (by8 bs)) :
    Calls Tryz.prog 45 #[.slice A n c] w (RetF (numW (dec 0 0 bs)) w) := by
  unfold maxLen at hc
  have HR := hide hr
  have HB := hide hB
  have HL := hide hl
  clear hr hB hl
  go_enter Tryz.func45, Tryz.ntmps45
  go_wp2
  go_loop [4] (fun i => ∃ k : Nat, k ≤ n ∧ i = .int .i64 k ∧ Hid (lead bs = k + lead (bs.drop k))) (fun i => n - (intOf i).toNat)
  case atStart => exact ⟨0, by omega, rfl, hide (by simp)⟩
  case round =>
    obtain ⟨k, hk, rfl, HD⟩ := hrel
    have stopped : (k < n ∧ 127 < (bs.getD k 0).toNat) ∨ Hid (lead bs = k) ∧ ((k < n ∧ ¬ 127 < (bs.getD k 0).toNat) ∨ ¬ k < n) := by
      by_cases hlt : k < n
      · by_cases hb : 127 < (bs.getD k 0).toNat
        · exact .inl ⟨hlt, hb⟩
        · exact .inr ⟨hide (lead_stop (.inr hb) HD.out), .inl ⟨hlt, hb⟩⟩
      · exact .inr ⟨hide (lead_stop (.inl (by rw [HL.out]; omega)) HD.out), .inr hlt⟩
    rcases stopped with ⟨hlt, hb⟩ | ⟨HK, hst⟩
    · have hkl : k < bs.length := by rw [HL.out]; exact hlt
      obtain ⟨ad, rfl, _, hcell⟩ := HR.out.byte hkl
      have HD' := hide (lead_step hkl hb HD.out)
      clear hkl
      generalize bs.getD k 0 = b at hb hcell
      go_wp2
      go_round
      case rel => exact ⟨k + 1, by omega, by go_num, HD'⟩
      case measure => simp [intOf]; omega
    · clear HD
      by_cases hbad : n ≤ k ∨ 9 < k
      · have HZ := hide (ref_none1 (bs := bs) (by rw [HK.out, HL.out]; omega))
        have hb2 : decide ((n : Int) ≤ k) = true ∨ decide ((n : Int) ≤ k) = false ∧ 9 < k := by
          by_cases h : n ≤ k
          · exact .inl (by simp; omega)
          · exact .inr ⟨by simp; omega, by omega⟩
        rcases hst with ⟨hlt, hb⟩ | hge
        · have hkl : k < bs.length := by rw [HL.out]; exact hlt
          obtain ⟨ad, rfl, _, hcell⟩ := HR.out.byte hkl
          clear hkl
          generalize bs.getD k 0 = b at hb hcell
          have h9 : 9 < k := by omega
          go_wp2
          go_ret2
          exact ⟨by rw [HZ.out]; rfl, Fr.refl _ _⟩
        · go_wp2
          go_ret2
          exact ⟨by rw [HZ.out]; rfl, Fr.refl _ _⟩
      · have hkn : k < n := by omega
        have hk9 : k ≤ 9 := by omega
        have hkl : k < bs.length := by rw [HL.out]; exact hkn
        have hb : ¬ 127 < (bs.getD k 0).toNat := by rcases hst with h | h; exact h.2; omega
        obtain ⟨ad, rfl, _, hcell⟩ := HR.out.byte hkl
        have HKL := hide hkl
        clear hkl hbad hst
        generalize bs.getD k 0 = b at hb hcell
        go_wp2
        clear hcell hb
        go_loop [5, 6] (fun y i => ∃ j : Int, -1 ≤ j ∧ j ≤ k ∧ i = .int .i64 j ∧ y = .int .u64 (gv bs (k + 1) (j + 1).toNat : Nat)) (fun _ i => (intOf i + 1).toNat)
        case atStart => exact ⟨k, by omega, by omega, rfl, by
          have e : ((k : Int) + 1).toNat = k + 1 := by omega
          rw [e, gv_end]; rfl⟩
        case round =>
          obtain ⟨i, hi1, hi2, rfl, rfl⟩ := hrel
          by_cases hge : 0 ≤ i
          · obtain ⟨j, rfl⟩ := Int.eq_ofNat_of_zero_le hge
            have hjl : j < bs.length := by rw [HL.out]; omega
            obtain ⟨ad', had, _, hcell⟩ := HR.out.byte hjl
            obtain rfl : ad = ad' := Option.some.inj had
            have hs := gv_step (bs := bs) (k := k + 1) (j := j) (by omega) (by rw [HL.out]; omega)
            have e1 : ((j : Int) + 1).toNat = j + 1 := by omega
            rw [e1]
            generalize bs.getD j 0 = b at hcell hs
            have hlt := gv_lt bs (k + 1) (j + 1)
            generalize gv bs (k + 1) (j + 1) = y at hs hlt
            obtain ⟨z, HZ⟩ : ∃ z, Hid (gv bs (k + 1) j = z) := ⟨_, hide rfl⟩
            rw [HZ.out] at hs
            clear hjl had e1
            go_wp2
            go_round
            case rel => exact ⟨(j : Int) - 1, by omega, by omega, rfl, by
              have e2 : ((j : Int) - 1 + 1).toNat = j := by omega
              rw [e2, HZ.out]
              rw [← hs, Int.natCast_emod]; rfl⟩
            case measure => simp [intOf]
          · obtain rfl : i = -1 := by omega
            have e1 : ((-1 : Int) + 1).toNat = 0 := by omega
            rw [e1]
            have hlt := gv_lt bs (k + 1) 0
            have HG : Hid (gv bs (k + 1) 0 = gval (bs.take (lead bs + 1)) % 18446744073709551616) := by rw [HK.out]; rfl
            generalize gv bs (k + 1) 0 = u at HG hlt
            have HU := hide (fun W => refUint_any u W hlt)
            have HNo : Hid (enc u ≠ bs.take (k + 1) → dec 0 0 bs = none) := by
              intro h
              apply ref_none2
              rw [← HG.out, HK.out]
              exact h
            have HYes : Hid (enc u = bs.take (k + 1) → dec 0 0 bs = some (u, k + 1)) := fun h => ref_some hlt (by rw [HL.out]; omega) h
            have hel := enc_len u
            obtain ⟨L, HEL⟩ : ∃ L, Hid ((enc u).length = L) := ⟨_, hide rfl⟩
            rw [HEL.out] at hel
            unfold GivesB at HU
            generalize enc u = E at HU HNo HYes HEL
            rw [HEL.out] at HU
            clear e1 HG hi1 hi2 hge
            obtain ⟨he1, he2⟩ := hel
            have HTL : Hid ((bs.take (k + 1)).length = k + 1) := by
              have := HL.out
              show (bs.take (k + 1)).length = k + 1
              rw [List.length_take]; omega
            by_cases hLk : L = k + 1
            · subst hLk
              have hne : (((k + 1 : Nat) : Int) != (k : Int) + 1) = false := by simp
              go_wp2_with (go_at_call 49; refine (HU.out _).mono ?_; rintro en w1 ⟨v1, rfl, hown, hfr⟩; obtain ⟨A1, c1, rfl, hq1, hq2, _, hq3, _⟩ := hown.form; have HQ := hide hq3; have HF := hide hfr; clear hown hfr hq3)
              unfold maxLen at hq2
              go_loopw [8] (fun i wr => ∃ j nq : Nat, j ≤ k + 1 ∧ i = .int .i64 j ∧ wr = w1.drewN nq ∧ Hid (E.take j = bs.take j)) (fun i _ => k + 1 - (intOf i).toNat)
              case atStart => exact ⟨0, 0, by omega, rfl, rfl, hide rfl⟩
              case round =>
                obtain ⟨j, nq, hj, rfl, rfl, HT⟩ := hrel
                by_cases hlt : j < k + 1
                · have h1 : j < E.length := by rw [HEL.out]; exact hlt
                  have h2 : j < bs.length := by rw [HL.out]; omega
                  obtain ⟨a1, rfl, _, hcell⟩ := HQ.out.byte h1
                  obtain ⟨bd, hbd, _, hcell2⟩ := (HR.out.fr0 HF.out).byte h2
                  obtain rfl : ad = bd := Option.some.inj hbd
                  have HE := hide (fun he => take_succ_eq h1 h2 HT.out he)
                  have HN := hide (show E.getD j 0 ≠ bs.getD j 0 → E ≠ bs.take (k + 1) from fun h e => h (by
                    rw [e]
                    have h3 : j < (bs.take (k + 1)).length := by rw [HTL.out]; exact hlt
                    simp only [List.getD_eq_getElem?_getD, List.getElem?_eq_getElem h3, List.getElem?_eq_getElem h2]
                    simp))
                  clear h1 h2 hbd
                  generalize E.getD j 0 = x at hcell HE HN
                  generalize bs.getD j 0 = y at hcell2 HE HN
                  by_cases he : x = y
                  · subst he
                    have HE' := hide (HE.out rfl)
                    clear HE
                    have hb2 : ((x.toNat : Int) != x.toNat) = false := by simp
                    go_wp2
                    go_quiet (fail)
                    go_wp2
                    go_round
                    case rel => exact ⟨j + 1, _, by omega, by go_num, rfl, HE'⟩
                    case measure => simp [intOf]; omega
                  · have hb2 : ((x.toNat : Int) != y.toNat) = true := by
                      simp
                      intro h
                      exact he (UInt8.toNat_inj.1 (by omega))
                    go_wp2
                    go_quiet (fail)
                    go_wp2
                    go_ret2
                    exact ⟨by rw [HNo.out (HN.out he)]; rfl, (HF.out.drewN _).drewN _⟩
                · have HF2 := hide (show E = bs.take (k + 1) by
                    have h := HT.out
                    have ej : j = k + 1 := by omega
                    rw [ej] at h
                    rwa [List.take_of_length_le (by rw [HEL.out]; omega)] at h)
                  go_wp2
                  go_ret2
                  exact ⟨by rw [HYes.out HF2.out]; simp [numW], HF.out.drewN _⟩
            · have hne : ((L : Int) != (k : Int) + 1) = true := by simp; omega
              have HZ := hide (HNo.out (fun e => hLk (by rw [← HEL.out, e, HTL.out])))
              go_wp2_with (go_at_call 49; refine (HU.out _).mono ?_; rintro en w1 ⟨v1, rfl, hown, hfr⟩; obtain ⟨A1, c1, rfl, hq1, hq2, _, hq3, _⟩ := hown.form; have HF := hide hfr; clear hown hfr hq3)
              go_ret2
              exact ⟨by rw [HZ.out]; rfl, HF.out⟩

end Go.Proofs.YtpopbkcbplmcaaaGreat
namespace Go.Proofs.YtpopbkcbplmcaaaGreat
set_option linter.unusedVariables false
set_option linter.unusedSimpArgs false
open Go.RowKit

/-- the document's reader: bytes that came in, the place in them, the error. -/
def RS (w : World) (B g : Nat) (bs : List UInt8) (a : Nat) (e : Int) : Prop :=
  ∃ A c, w.heap[g]? = some (.cells #[.slice A bs.length c, .int .i64 a, .int .i64 e] 66 (0, 0)) ∧ bs.length ≤ c ∧ c ≤ maxLen ∧ a ≤ bs.length ∧ bs.length ≤ 140737488355328 ∧ Rd w B A (by8 bs) ∧ B ≤ g

section
variable {w w' : World} {B g : Nat} {bs : List UInt8} {a : Nat} {e : Int}
theorem RS.parts (h : RS w B g bs a e) :
    ∃ A c, (w.cell? ⟨g, 0, none⟩ = some (.slice A bs.length c) ∧ w.cell? ⟨g, 1, none⟩ = some (.int .i64 a) ∧ w.cell? ⟨g, 2, none⟩ = some (.int .i64 e)) ∧ (∀ i, w.frozen? ⟨g, i, none⟩ = false) ∧
      bs.length ≤ c ∧ c ≤ maxLen ∧ a ≤ bs.length ∧ bs.length ≤ 140737488355328 ∧ Rd w B A (by8 bs) ∧ B ≤ w.heap.size := by
  obtain ⟨A, c, hh, h1, h2, h3, h4, ho, hB⟩ := h
  exact ⟨A, c, ⟨cell_of_row w g 0 _ _ (0, 0) hh, cell_of_row w g 1 _ _ (0, 0) hh, cell_of_row w g 2 _ _ (0, 0) hh⟩, fun i => by simp [World.frozen?, hh], h1, h2, h3, h4, ho, by
    have := (Array.getElem?_eq_some_iff.1 hh).1
    omega⟩
theorem RS.fr {S : Nat → Prop} (h : RS w B g bs a e) (f : Fr S w w') (hg : ¬ S g) (hB : ∀ k, k < B → ¬ S k) : RS w' B g bs a e := by
  obtain ⟨A, c, hh, h1, h2, h3, h4, ho, h5⟩ := h
  exact ⟨A, c, f.blk hh hg, h1, h2, h3, h4, ho.fr f hB, h5⟩
theorem RS.fr0 (h : RS w B g bs a e) (f : Fr No w w') : RS w' B g bs a e := h.fr f (fun h => h) (fun _ _ h => h)
theorem RS.set1 (h : RS w B g bs a e) (k : Nat) (hk : k ≤ bs.length) : RS (w.setCell ⟨g, 1, none⟩ (.int .i64 k)) B g bs k e := by
  obtain ⟨A, c, hh, h1, h2, h3, h4, ho, h5⟩ := h
  refine ⟨A, c, by simp [World.setCell, Array.getElem?_modify, hh], h1, h2, hk, h4, ho.fr ((Fr.refl (Is g) w).setCell (p := ⟨g, 1, none⟩) (fun _ => rfl) _) ?_, h5⟩
  intro k hk e
  have : k = g := e
  omega
theorem RS.set2 (h : RS w B g bs a e) (k : Int) : RS (w.setCell ⟨g, 2, none⟩ (.int .i64 k)) B g bs a k := by
  obtain ⟨A, c, hh, h1, h2, h3, h4, ho, h5⟩ := h
  refine ⟨A, c, by simp [World.setCell, Array.getElem?_modify, hh], h1, h2, h3, h4, ho.fr ((Fr.refl (Is g) w).setCell (p := ⟨g, 2, none⟩) (fun _ => rfl) _) ?_, h5⟩
  intro k hk e
  have : k = g := e
  omega
theorem RS.drewN (h : RS w B g bs a e) (n : Nat) : RS (w.drewN n) B g bs a e := h
theorem RS.lt (h : RS w B g bs a e) : g < w.heap.size := by
  obtain ⟨A, c, hh, _⟩ := h
  exact (Array.getElem?_eq_some_iff.1 hh).1
end

def RSRet (v : Value) (w : World) (B g : Nat) (bs : List UInt8) (a : Nat) (e : Int) (en : Ending) (w' : World) : Prop := en = .returned v ∧ RS w' B g bs a e ∧ Fr (Is g) w w'

set_option maxRecDepth 100000 in
set_option maxHeartbeats 800000 in
theorem refErr_any (B g : Nat) (bs : List UInt8) (a : Nat) (e : Int) (w : World) (h : RS w B g bs a e) :
    Calls Tryz.prog 47 #[.pointer (some ⟨g, 0, none⟩)] w (Ret (.int .i64 e) w) := by
  obtain ⟨A, c, ⟨c0, c1, c2⟩, hf, h1, h2, h3, h4, hr, hB⟩ := h.parts
  clear h hr
  go_enter Tryz.func47, Tryz.ntmps47
  go_wp2
  go_ret
  exact ⟨rfl, rfl⟩

set_option maxRecDepth 100000 in
set_option maxHeartbeats 800000 in
theorem refErr_nil (w : World)  :
    Calls Tryz.prog 47 #[.pointer none] w (Ret (.int .i64 20) w) := by
  go_enter Tryz.func47, Tryz.ntmps47
  go_wp2_with (fail)
  go_ret
  exact ⟨rfl, rfl⟩

set_option maxRecDepth 100000 in
set_option maxHeartbeats 800000 in
theorem refEnd_any (B g : Nat) (bs : List UInt8) (a : Nat) (e : Int) (w : World) (h : RS w B g bs a e) :
    Calls Tryz.prog 29 #[.pointer (some ⟨g, 0, none⟩)] w (RSRet (.int .i64 (endE bs a e)) w B g bs a (endE bs a e)) := by
  obtain ⟨A, c, ⟨c0, c1, c2⟩, hf, h1, h2, h3, h4, hr, hB⟩ := h.parts
  have H := hide h
  clear h hr
  by_cases he : e = 0
  · subst he
    by_cases hlt : a < bs.length
    · have HE := hide (show endE bs a 0 = 20 from if_pos ⟨rfl, hlt⟩)
      have d1 : decide (a < bs.length) = true := by simpa using hlt
      go_enter Tryz.func29, Tryz.ntmps29
      go_wp2
      go_quiet (fail)
      go_wp2_with (go_at_call 47; refine (refErr_any B g bs a 20 _ ((H.out.drewN nq).set2 20)).mono ?_; rintro en w' ⟨rfl, rfl⟩)
      go_ret
      refine ⟨by rw [HE.out]; rfl, ?_, ((Fr.refl _ _).drewN _).put _ _⟩
      rw [HE.out]
      exact (H.out.drewN _).set2 20
    · have HE := hide (show endE bs a 0 = 0 from if_neg (fun h => hlt h.2))
      have d1 : decide (a < bs.length) = false := by simpa using hlt
      go_enter Tryz.func29, Tryz.ntmps29
      go_wp2
      go_quiet (fail)
      go_wp2_with (go_at_call 47; refine (refErr_any B g bs a 0 _ (H.out.drewN nq)).mono ?_; rintro en w' ⟨rfl, rfl⟩)
      go_ret
      refine ⟨by rw [HE.out]; rfl, ?_, (Fr.refl _ _).drewN _⟩
      rw [HE.out]
      exact H.out.drewN _
  · have HE := hide (show endE bs a e = e from if_neg (fun h => he h.1))
    have hb : (e == 0) = false := by simpa using he
    go_enter Tryz.func29, Tryz.ntmps29
    go_wp2
    go_quiet (fail)
    go_wp2_with (go_at_call 47; refine (refErr_any B g bs a e _ (H.out.drewN nq)).mono ?_; rintro en w' ⟨rfl, rfl⟩)
    go_ret
    refine ⟨by rw [HE.out]; rfl, ?_, (Fr.refl _ _).drewN _⟩
    rw [HE.out]
    exact H.out.drewN _

set_option maxRecDepth 100000 in
set_option maxHeartbeats 800000 in
theorem refEnd_nil (w : World) : Calls Tryz.prog 29 #[.pointer none] w (RetQ (.int .i64 20) w) := by
  go_enter Tryz.func29, Tryz.ntmps29
  go_wp2
  go_quiet (fail)
  go_wp2_with (go_at_call 47; refine (refErr_nil _).mono ?_; rintro en w' ⟨rfl, rfl⟩)
  go_ret
  exact ⟨rfl, _, rfl⟩

end Go.Proofs.YtpopbkcbplmcaaaGreat
namespace Go.Proofs.YtpopbkcbplmcaaaGreat
set_option linter.unusedVariables false
set_option linter.unusedSimpArgs false
open Go.RowKit

theorem refnum_cut {w : World} {B : Nat} {A : Option Addr} {bs : List UInt8} {c a : Nat} {x : Option (Nat × Nat)} (hr : Rd w B A (by8 bs)) (h1 : bs.length ≤ c) (h2 : c ≤ maxLen) (h3 : a ≤ bs.length) (hB : B ≤ w.heap.size) (hd : dec 0 0 (bs.drop a) = x) :
    ∀ w' : World, w'.heap = w.heap → Calls Tryz.prog 45 #[.slice (if c = a then A else A.map (·.add a)) (bs.length - a) (c - a)] w' (RetF (numW x) w') := by
  intro w' hw
  have hcell : ∀ p, w'.cell? p = w.cell? p := fun p => by simp [World.cell?, hw]
  subst hd
  refine refNumber_any _ _ _ B (bs.drop a) w' (by simp) (by omega) (by omega) (by rw [hw]; exact hB) ?_
  rw [by8_drop]
  refine Rd.cut ?_ (by rw [by8_length]; exact h1)
  intro j u hu
  obtain ⟨ad, e, hb, hcc⟩ := hr j u hu
  exact ⟨ad, e, hb, by rw [hcell]; exact hcc⟩

end Go.Proofs.YtpopbkcbplmcaaaGreat
