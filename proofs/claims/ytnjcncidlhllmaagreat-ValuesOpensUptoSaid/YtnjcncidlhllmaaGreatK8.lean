/- Several texts in one: PutW03, HasB, VaP, ISl. -/
import Derived.Test.YtnjcncidlhllmaaGreatK7
namespace Go.Proofs.YtnjcncidlhllmaaGreat
set_option linter.unusedVariables false
set_option linter.unusedSimpArgs false
open Go.RowKit Go.Shelf
attribute [local go_sem] Oper.semAt_some

/-- what a round keeps: what lay when the call began, and the two boxes. -/
def KpC (n₀ B1 B2 : Nat) (o1 o2 : Obj) (W W' : World) : Prop := Below n₀ W W' ∧ (W.heap[B1]? = some o1 → W'.heap[B1]? = some o1) ∧ (W.heap[B2]? = some o2 → W'.heap[B2]? = some o2)
theorem KpC.r (n₀ B1 B2 : Nat) (o1 o2 : Obj) (W : World) : KpC n₀ B1 B2 o1 o2 W W := ⟨Below.refl _ _, fun e => e, fun e => e⟩
theorem KpC.t {n₀ B1 B2 : Nat} {o1 o2 : Obj} {A B C : World} (h : KpC n₀ B1 B2 o1 o2 A B) (k : KpC n₀ B1 B2 o1 o2 B C) : KpC n₀ B1 B2 o1 o2 A C := ⟨h.1.trans k.1, fun e => k.2.1 (h.2.1 e), fun e => k.2.2 (h.2.2 e)⟩
theorem KpC.d (n₀ B1 B2 : Nat) (o1 o2 : Obj) (W : World) (nq : Nat) : KpC n₀ B1 B2 o1 o2 W (W.drewN nq) := ⟨⟨rfl, rfl, rfl, Nat.le_refl _, fun _ _ => rfl⟩, fun e => e, fun e => e⟩
theorem KpC.b {n₀ B1 B2 : Nat} {o1 o2 : Obj} {w : World} (hn : n₀ ≤ w.heap.size) (h1 : B1 < w.heap.size) (h2 : B2 < w.heap.size) (W : World) (l : Nat) (o o' : Obj) (hl : w.heap.size ≤ l) (h : W.heap[l]? = some o) (ho : o.isCells = false) (hw : o.isWalk = false) : KpC n₀ B1 B2 o1 o2 W (W.putObj l o') :=
  ⟨belowK_b hn W l o o' hl h ho hw, fun e => (Fr.of_grown (grownBy_putObj' W l o')).blk e (fun e => by have e : l = B1 := Option.some.inj e; omega), fun e => (Fr.of_grown (grownBy_putObj' W l o')).blk e (fun e => by have e : l = B2 := Option.some.inj e; omega)⟩
theorem KpC.fr {S : Nat → Prop} {n₀ B1 B2 : Nat} {o1 o2 : Obj} {W W' : World} (f : Fr S W W') (hn : n₀ ≤ W.heap.size) (h0 : ∀ k, k < n₀ → ¬ S k) (h1 : ¬ S B1) (h2 : ¬ S B2) : KpC n₀ B1 B2 o1 o2 W W' :=
  ⟨f.belowN hn h0, fun e => f.blk e h1, fun e => f.blk e h2⟩

abbrev Cn (n : Nat) := { x : Nat // x < chunks n }
def valC {n : Nat} (xs : List (Cn n)) : List Nat := xs.map (·.1)
theorem valC_snoc {n : Nat} (xs : List (Cn n)) (x : Cn n) : valC (xs ++ [x]) = valC xs ++ [x.1] := by simp [valC]

theorem chunk_stops (fr : Nat) (hn : 1 ≤ fr) (B1 B2 : Nat) (A : Option Addr) (n c : Nat) (n₀ : Nat) (w W0 : World) (t1 t2 : TypeId) (hA : 0 < n → ∃ ad, A = some ad) (hnc : n ≤ c) (hc : c ≤ maxLen) (hnb : n ≤ 1048576)
    (h1 : W0.heap[B1]? = some (.cells #[.slice A n c] t1 (0, 0))) (h2 : W0.heap[B2]? = some (.cells #[.int .i64 128] t2 (0, 0))) :
    SeqStopsK Fence.wide fr Tryz.prog 131 #[.pointer (some ⟨B1, 0, none⟩), .pointer (some ⟨B2, 0, none⟩)] (fun x : Cn n => #[chV A n x.1]) (KpC n₀ B1 B2 (.cells #[.slice A n c] t1 (0, 0)) (.cells #[.int .i64 128] t2 (0, 0))) (fun ys => valC ys = allC n) (fun pre => valC pre <+: allC n) (chunks n) W0 := fun l J Jx W hW hJ hJx hY h0 =>
  (chunk1_in fr hn l B1 B2 (KpC n₀ B1 B2 (.cells #[.slice A n c] t1 (0, 0)) (.cells #[.int .i64 128] t2 (0, 0))) (KpC.r _ _ _ _ _) KpC.t A n c hA hnc hc hnb (fun pre W => ∃ q : List (Cn n), valC q = pre ∧ J q W) (fun pre W => ∃ q : List (Cn n), valC q = pre ∧ Jx q W)
    (fun pre x W1 h1 h2 hx => by
      obtain ⟨q, rfl, hj⟩ := h1
      refine YieldAt.mono (hY q ⟨x, hx⟩ W1 hj (by simpa [valC] using h2)) ?_
      rintro e W' (⟨h1, h2, h3⟩ | ⟨h1, h2⟩)
      · exact .inl ⟨h1, ⟨_, valC_snoc q ⟨x, hx⟩, h2⟩, h3⟩
      · exact .inr ⟨h1, _, valC_snoc q ⟨x, hx⟩, h2⟩) W
    (fun W' hk => by
      have b1 : W.heap[B1]? = some (.cells #[.slice A n c] t1 (0, 0)) := (hW.block B1 (Array.getElem?_eq_some_iff.1 h1).1).trans h1
      have b2 : W.heap[B2]? = some (.cells #[.int .i64 128] t2 (0, 0)) := (hW.block B2 (Array.getElem?_eq_some_iff.1 h2).1).trans h2
      exact ⟨cell_of_row _ _ _ _ _ _ (hk.2.1 b1), cell_of_row _ _ _ _ _ _ (hk.2.2 b2)⟩) ⟨[], rfl, h0⟩
    (fun W nq => KpC.d _ _ _ _ _ W nq)
    (fun pre W1 nq ⟨q, hq, hj⟩ => ⟨q, hq, hJ q W1 (W1.drewN nq) none hj ⟨rfl, rfl, rfl, Nat.le_refl _, fun _ _ _ => rfl⟩ (fun r e => by cases e)⟩)).mono
    fun e W' ⟨h1, h2⟩ => ⟨h1, h2.elim (fun ⟨q, hq, h⟩ => .inl ⟨q, hq, h⟩) (fun ⟨pre, hp, q, hq, h⟩ => .inr ⟨q, (hq ▸ hp : valC q <+: allC n), h⟩)⟩

def catU (l : List Int) (pre : List Nat) : List UInt8 := pre.flatMap fun j => oneB (chunkL l j)
theorem catU_snoc (l : List Int) (pre : List Nat) (j : Nat) : catU l (pre ++ [j]) = catU l pre ++ oneB (chunkL l j) := by simp [catU, List.flatMap_append]
theorem catU_all (l : List Int) : catU l (allC l.length) = putR l := rfl
theorem catU_le {l : List Int} (h : InI l) : ∀ pre, (catU l pre).length ≤ 1036 * pre.length
  | [] => by simp [catU]
  | j :: pre => by
    have h1 := catU_le h pre
    have h2 := oneB_le (chunk_in h j)
    have h3 := chunk_len l j
    have e : catU l (j :: pre) = oneB (chunkL l j) ++ catU l pre := by simp [catU]
    rw [e, List.length_append, List.length_cons]
    omega

/-- what Put keeps between two rounds. -/
structure PutI (w : World) (l : List Int) (pre : List Nat) (W : World) : Prop where
  fr : Fr No w W
  sz : w.heap.size + 3 ≤ W.heap.size
  own : ∃ v, W.heap[w.heap.size]? = some (.cells #[v] 25 (0, 0)) ∧ Own W (w.heap.size + 3) 5 1 v (catU l pre).length (by8 (catU l pre))
theorem PutI.from (w : World) (l : List Int) (B : Nat) (hB : w.heap.size ≤ B) : OwnFrom B (fun pre W => PutI w l pre W) := by
  rintro pre W W' row ⟨h1, h2, v, h3, h4⟩ hg hr
  have hr2 : ∀ r, row = some r → ∃ o : Obj, W.heap[r]? = some o ∧ o.isCells = false := fun r e => (hr r e).2
  exact ⟨h1.trans (Fr.of_grown hg) (fun i hi e => by have := (hr i e).1; omega), Nat.le_trans h2 (Fr.of_grown hg).size, v, blk_kept h3 rfl hg hr2, own_kept h4 hg hr2⟩

/-- numbers above, so far. -/
def abTo (ch : List Int) (q : Nat) : List Nat := (aboveL ch).take q ++ List.replicate (ch.length - q) 0
theorem abTo_0 (ch : List Int) : abTo ch 0 = List.replicate ch.length 0 := by simp [abTo]
theorem abTo_all (ch : List Int) : abTo ch ch.length = aboveL ch := by
  unfold abTo
  rw [Nat.sub_self, List.take_of_length_le (by rw [aboveL_len]; exact Nat.le_refl _)]
  simp
theorem abTo_set {ch : List Int} {q : Nat} (h : q < ch.length) : (nz (abTo ch q)).set q (.int .u64 (((ch.getD q 0 - minL ch).toNat : Nat) : Int)) = nz (abTo ch (q + 1)) := by
  rw [nz_set]
  congr 1
  unfold abTo
  have hl : ((aboveL ch).take q).length = q := by rw [List.length_take, aboveL_len]; omega
  rw [List.set_append, if_neg (by omega), hl, Nat.sub_self, show ch.length - q = (ch.length - (q + 1)) + 1 by omega, List.replicate_succ, List.set_cons_zero, take_snocN (by rw [aboveL_len]; exact h), aboveL_at h]
  simp
theorem box_put {w : World} {B : Nat} {v u : Value} {t : TypeId} (h : w.heap[B]? = some (.cells #[v] t (0, 0))) : (w.setCell ⟨B, 0, none⟩ u).heap[B]? = some (.cells #[u] t (0, 0)) := by
  have := heap_setCell_same w B 0 #[v] t u h
  simpa using this

set_option maxRecDepth 100000 in
set_option maxHeartbeats 4000000 in
theorem put_in (A : Option Addr) (n c B : Nat) (l : List Int) (w : World) (hl : l.length = n) (hi : InI l) (hn : n ≤ c) (hc : c ≤ maxLen) (hb : n ≤ 1048576) (hB : B ≤ w.heap.size) (hr : Rd w B A (iz .i64 l)) :
    CallsIn Fence.wide 4 Tryz.prog 67 #[.slice A n c] w (GivesB w (putR l)) := by
  obtain ⟨i0, hi0, hz, hsz, hby⟩ := info_parts Tryz.info5
  have hA : 0 < n → ∃ ad, A = some ad := fun h => by
    obtain ⟨ad, e, _⟩ := hr.intAt (j := 0) (by omega)
    exact ⟨ad, e⟩
  have HC := hide hc
  have HR := hide hr
  have HL := hide hl
  have HI := hide hi
  have hq : ∀ (a b : Option Addr) (W : World), (binOp .eql 126 (.func (.func 131) #[] #[.pointer a, .pointer b]) .nilFunc).run Tryz.prog W = .ok (.bool false) W := fun _ _ _ => by kernel_rfl
  clear hr hl hi
  refine callsIn_of_wp_marks Tryz.func67 rfl trivial ?_ rfl
  simp only [Tryz.ntmps67, List.size_toArray, List.length_cons, List.length_nil, Nat.reduceAdd, Nat.reduceSub, Array.replicate_succ, Array.replicate_zero, List.push_toArray, List.append_toArray, List.nil_append, List.cons_append]
  gi_wp2_with (refine ⟨trivial, ?_⟩; gi_at_call 96; refine (callsIn_wide.2 (chunkF_any A n c _)).mono ?_; rintro e w' ⟨rfl, rfl⟩)
  obtain ⟨W0, hW0⟩ : ∃ W0, W0 = ((w.alloc (.cells #[.slice none 0 0] 25)).alloc (.cells #[.slice A n c] 41)).alloc (.cells #[.int .i64 128] 3) := ⟨_, rfl⟩
  rw [← hW0]
  have hF0 : Fr No w W0 := by rw [hW0]; exact (((Fr.refl No w).alloc _).alloc _).alloc _
  have hs0 : W0.heap.size = w.heap.size + 3 := by rw [hW0]; simp
  have hb0 : W0.heap[w.heap.size]? = some (.cells #[.slice none 0 0] 25 (0, 0)) := by
    rw [hW0]
    exact (((Fr.refl No _).alloc _).alloc _).blk (box_h w _ _) (fun h => h)
  have hb1 : W0.heap[w.heap.size + 1]? = some (.cells #[.slice A n c] 41 (0, 0)) := by
    rw [hW0]
    have := box_h (w.alloc (.cells #[.slice none 0 0] 25)) (.slice A n c) 41
    rw [show (w.alloc (.cells #[.slice none 0 0] 25)).heap.size = w.heap.size + 1 by simp] at this
    exact ((Fr.refl No _).alloc _).blk this (fun h => h)
  have hb2 : W0.heap[w.heap.size + 1 + 1]? = some (.cells #[.int .i64 128] 3 (0, 0)) := by
    rw [hW0]
    have := box_h ((w.alloc (.cells #[.slice none 0 0] 25)).alloc (.cells #[.slice A n c] 41)) (.int .i64 128) 3
    simpa using this
  have hE0 : PutI w l [] W0 := ⟨hF0, by omega, _, hb0, Own.nil _ _ _ _⟩
  clear hW0
  refine wpIn_rangeFunc_ownF rfl (by omega) (gf := 131) (lb := #[.pointer (some ⟨w.heap.size + 1, 0, none⟩), .pointer (some ⟨w.heap.size + 1 + 1, 0, none⟩)]) rfl trivial (enters_of Tryz.func131 (by kernel_rfl) rfl)
    (chunk_stops 3 (by omega) (w.heap.size + 1) (w.heap.size + 1 + 1) A n c w.heap.size w W0 41 3 hA hn hc hb hb1 hb2) KpC.t (KpC.b (by omega) (by omega) (by omega)) (Below.refl _ _) (fun _ => rfl)
    (fun pre W => PutI w l (valC pre) W)
    (fun _ _ _ => False)
    (fun s W W' row h hg hr => PutI.from w l _ (by omega) _ W W' row h hg hr) (fun _ _ _ _ _ hs _ _ => hs) hE0
    (fun x => { tmps := #[.slice A n c, undef, .slice none 0 0, .pointer (some ⟨w.heap.size, 0, none⟩), chV A n x.1, undef, undef, undef, undef, undef, .slice A n c, .func (.func 131) #[] #[.pointer (some ⟨w.heap.size + 1, 0, none⟩), .pointer (some ⟨w.heap.size + 1 + 1, 0, none⟩)], chV A n x.1, undef, undef, undef, undef, undef, undef, undef, undef, undef, undef, undef, undef, undef, undef, undef, undef, undef, undef, undef, undef, undef, undef, undef, undef, undef, undef, undef, undef, undef, undef, undef, undef, undef, undef, undef, undef, undef], defers := [] }) ?assign ?body ?done ?stop
  case assign =>
    intro l x W K hK
    gi_wp2
    exact hK
  case body =>
    rintro lr pre ⟨j, hj⟩ W E hpl
    obtain ⟨v, hb, ho⟩ := E.own
    have hsz1 : w.heap.size + 3 ≤ W.heap.size := E.sz
    obtain ⟨Ab, cb, rfl, q1, q2, _⟩ := ho.form
    have hn0 : 0 < n := by unfold chunks at hj; omega
    obtain ⟨ad, rfl⟩ := hA hn0
    have hhl : 128 * j < n := by unfold chunks at hj; omega
    obtain ⟨ch, hch⟩ : ∃ x, x = chunkL l j := ⟨_, rfl⟩
    have hck := chunk_len l j
    rw [← hch, HL.out] at hck
    obtain ⟨k, hk⟩ : ∃ x, x = min 128 (n - 128 * j) := ⟨_, rfl⟩
    rw [← hk] at hck
    have hk1 : 1 ≤ k ∧ k ≤ 128 := by omega
    have hRc := (HR.out.fr0 E.fr).chunk j
    rw [← hch] at hRc
    obtain ⟨bd, hbd⟩ : ∃ x, x = ad.add (128 * j) := ⟨_, rfl⟩
    rw [← hbd] at hRc
    have hv : chV (some ad) n j = .slice (some bd) k k := by
      unfold chV
      rw [← hk, hbd]
      rfl
    have hci : InI ch := by rw [hch]; exact chunk_in HI.out j
    have HRc := hide hRc
    have HCk := hide hck
    have HCi := hide hci
    have HMin := hide (minI_any (some bd) k k B ch W hck hk1.1 (Nat.le_refl _) (by unfold maxLen; omega) hRc)
    obtain ⟨le, hle⟩ : ∃ m, m = minL ch := ⟨_, rfl⟩
    have hle1 : -9223372036854775808 ≤ le ∧ le ≤ 9223372036854775807 := by rw [hle]; exact minL_in hci
    rw [← hle] at HMin
    have HLe := hide hle
    have hmk := make_u64 k (by omega)
    have HO0 := hide (made_own W k 79 (.int .u64 0) _ rfl (by unfold maxLen; omega))
    rw [← nz_rep, ← hck, ← abTo_0, hck] at HO0
    generalize madeCells #[Value.int .u64 0] k = z at hmk HO0
    have hpl2 : pre.length ≤ 8192 := by unfold chunks at hpl; omega
    have hcl := catU_le HI.out (valC pre)
    have hcl2 : (valC pre).length = pre.length := by simp [valC]
    rw [hcl2] at hcl
    obtain ⟨m, hm⟩ : ∃ x, x = (catU l (valC pre)).length := ⟨_, rfl⟩
    have HSn := hide (catU_snoc l (valC pre) j)
    rw [← hch] at HSn
    have HVs := hide (valC_snoc pre ⟨j, hj⟩)
    generalize catU l (valC pre) = cu at hm ho hcl HSn q1 hb
    rw [← hm] at ho hcl q1 hb
    have HM := hide hm
    have hmb : m ≤ 8486912 := by omega
    have HE := hide E
    have HO := hide ho
    have HBx := hide hb
    have hcb : cb ≤ 9223372036854775807 := by unfold maxLen at q2; exact q2
    have HQ2 := hide q2
    obtain ⟨wd, hwd⟩ : ∃ x, x = wid (aboveL ch) := ⟨_, rfl⟩
    have hwd64 : wd ≤ 64 := by rw [hwd]; exact wid_above hci
    have HWd := hide hwd
    have HE1 : Hid (oneB ch = enc (zz le) ++ [UInt8.ofNat wd] ++ packed wd (aboveL ch)) := hide (by unfold oneB; rw [← hle, ← hwd])
    have hel := (enc_len (zz le)).2
    have HEl := hide hel
    obtain ⟨en, hen⟩ : ∃ x, x = (enc (zz le)).length := ⟨_, rfl⟩
    rw [← hen] at hel
    have HEn := hide hen
    obtain ⟨EB, hEB⟩ : ∃ x, x = enc (zz le) := ⟨_, rfl⟩
    rw [← hEB] at HE1 hen HEn
    have HEQ := hide hEB.symm
    clear hEB
    have hpk : (packed wd (aboveL ch)).length ≤ 1025 := by rw [packed_len, aboveL_len, hck]; have := psz_le (n := k) hwd64; omega
    obtain ⟨pn, hpn⟩ : ∃ x, x = (packed wd (aboveL ch)).length := ⟨_, rfl⟩
    rw [← hpn] at hpk
    have HPn := hide hpn
    have H64 := hide (aboveL_64 hci)
    have HAl := hide ((aboveL_len ch).trans hck)
    dsimp only
    rw [hv]
    clear E ho hb hRc hck hk hbd hv hci hle q2 hm hwd hen hpn hch hcl2 hhl hpl hF0 hs0 hb0 hb1 hb2 hE0
    gi_wp2_with (refine ⟨trivial, ?_⟩; gi_at_call 97; refine (CallsIn.inRound lr (callsIn_wide.2 HMin.out)).mono ?_; rintro e w' ⟨rfl, rfl⟩)
    gi_loopw [7, 8, 20] (fun a b i wr => ∃ q : Nat, q ≤ k ∧ i = .int .i64 q ∧ Hid (Own wr W.heap.size 79 1 (.slice (some ⟨W.heap.size, 0, none⟩) k k) k (nz (abTo ch q))) ∧ Hid (Fr No W wr)) (fun _ _ i _ => k - (intOf i).toNat)
    case atStart => exact ⟨0, by omega, rfl, HO0, hide ((Fr.refl No W).alloc _)⟩
    case round =>
      obtain ⟨q, hq1, rfl, HOw, HFw⟩ := hrel
      by_cases hqk : q < k
      · have h1 : q < ch.length := by rw [HCk.out]; exact hqk
        obtain ⟨ad2, e2, _, hcx⟩ := (HRc.out.fr0 HFw.out).intAt h1
        injection e2 with e2
        subst e2
        have hx := HCi.out.at h1
        have hmx := minL_at h1
        rw [← HLe.out] at hmx
        have HS := hide (abTo_set h1)
        rw [← HLe.out] at HS
        obtain ⟨hco, hf1, hput⟩ := HOw.out.put (k := q) hqk
        have hsome : ∃ u0, (nz (abTo ch q))[q]? = some u0 := HOw.out.some_at hqk
        obtain ⟨u0, hu0⟩ := hsome
        rw [hu0] at hco
        have HPut := hide hput
        generalize ch.getD q 0 = x at hcx HS hx hmx
        have HV := above_val hx hle1 hmx
        obtain ⟨u, hu⟩ : ∃ u, u = (x - le).toNat := ⟨_, rfl⟩
        rw [← hu] at HV HS
        clear h1 hu hput hu0
        gi_wp2
        go_roundw
        case rel => exact ⟨q + 1, by omega, by go_num, hide (by rw [← HS.out]; exact HPut.out _), hide (Fr.putG _ _ _ _ _ HFw.out (Nat.le_refl _))⟩
        case measure => simp [intOf]; omega
      · obtain rfl : q = k := by omega
        have hab := HOw.out
        have hall : abTo ch q = aboveL ch := by rw [← HCk.out]; exact abTo_all ch
        rw [hall] at hab
        have HA2 := hide hab
        have HWc := hide (width_any (some ⟨W.heap.size, 0, none⟩) q q _ (aboveL ch) wr HAl.out H64.out (Nat.le_refl _) (by unfold maxLen; omega) hab.rd)
        rw [← HWd.out] at HWc
        have hgr := HFw.out.size
        have hbox := HFw.out.blk HBx.out (fun h => h)
        have cbx : wr.cell? ⟨w.heap.size, 0, none⟩ = some (.slice Ab m cb) := cell_of_row _ _ 0 _ _ _ hbox
        have HBox := hide hbox
        have HPu := hide (putI_any Ab m cb wr.heap.size cu le wr HM.out.symm q1 HQ2.out (by omega) (Nat.le_refl _) (HO.out.fr0 HFw.out).rd hle1.1 hle1.2)
        have b1 : (m + en + 1) * 1 ≤ 140737488355328 := by omega
        have b2 : m + en + 1 ≤ maxLen := by unfold maxLen; omega
        have c1 : (m + en + 1 + pn) * 1 ≤ 140737488355328 := by omega
        have c2 : m + en + 1 + pn ≤ maxLen := by unfold maxLen; omega
        have HW8 := hide (ofNat_toNat (x := wd) (by omega))
        have HML : Hid ((cu ++ EB).length = m + en) := hide (by rw [List.length_append, ← HM.out, ← HEn.out])
        have HZE : Hid (enc (zz le) = EB) := hide HEQ.out
        rw [HZE.out] at HPu
        clear hab hall hbox hqk
        gi_wp2_with (first
          | (refine ⟨trivial, ?_⟩; gi_at_call 98; refine (CallsIn.inRound lr (callsIn_wide.2 HWc.out)).mono ?_; rintro e w' ⟨rfl, rfl⟩)
          | (refine ⟨trivial, ?_⟩; gi_at_call 99; refine (CallsIn.inRound lr (callsIn_wide.2 HPu.out)).mono ?_; rintro e w2 ⟨v2, rfl, hown, hfr⟩; rw [HML.out] at hown; obtain ⟨A2, k2, rfl, x1, x2, _⟩ := hown.form; have hb2 := hfr.blk HBox.out (fun h => h); have cb2 : w2.cell? ⟨w.heap.size, 0, none⟩ = some (.slice Ab m cb) := cell_of_row _ _ 0 _ _ _ hb2; have fb2 : w2.frozen? ⟨w.heap.size, 0, none⟩ = false := frozen_of_row _ _ _ _ _ hb2; have HB3 := hide (box_put (u := .slice A2 (m + en) k2) hb2); have cb3 : (w2.setCell ⟨w.heap.size, 0, none⟩ (.slice A2 (m + en) k2)).cell? ⟨w.heap.size, 0, none⟩ = some (.slice A2 (m + en) k2) := cell_of_row _ _ 0 _ _ _ HB3.out; have HF2 := hide (HFw.out.tr hfr); have HZ2 := hide hfr.size; have HS3 := hide (Src.one (P := Tryz.prog) (w2.setCell ⟨w.heap.size, 0, none⟩ (.slice A2 (m + en) k2)) (e := 5) Tryz.underlying25 (.int .u8 (wd : Nat)) rfl); have HS3b : Hid (Src Tryz.prog 1 25 (.slice (some ⟨w2.heap.size, 0, none⟩) 1 1) 1 [.int .u8 (wd : Nat)] ((w2.setCell ⟨w.heap.size, 0, none⟩ (.slice A2 (m + en) k2)).alloc (.cells #[.int .u8 (wd : Nat)] 5))) := hide (by have h := HS3.out; rw [show (w2.setCell ⟨w.heap.size, 0, none⟩ (.slice A2 (m + en) k2)).heap.size = w2.heap.size by simp [World.setCell]] at h; exact h); have HF3 : Hid (Fr (Is w.heap.size) W (w2.setCell ⟨w.heap.size, 0, none⟩ (.slice A2 (m + en) k2))) := hide ((HF2.out.any (Is w.heap.size)).put _ _); have HO3 := hide (hown.fr ((Fr.refl (Is w.heap.size) w2).put 0 (.slice A2 (m + en) k2)) (fun g hg e => by have e : g = w.heap.size := e; have := (hown.lt g hg).1; omega)); have HA3 := hide ((HA2.out.fr0 hfr).fr ((Fr.refl (Is w.heap.size) w2).put 0 (.slice A2 (m + en) k2)) (fun g hg e => by have e : g = w.heap.size := e; have := (HA2.out.lt g hg).1; omega)); unfold maxLen at x2; clear hown hfr hb2)
          | (gi_at_builtin; refine wpListIn_append_gen _ rfl (.tmp 39) (.tmp 42) 25 25 rfl wr.heap.size 5 i0 (.int .u8 0) 1 1 Tryz.underlying25 hi0 hz hsz hby rfl (.slice A2 (m + en) k2) (m + en) (by8 (cu ++ EB)) rfl (HO3.out.fr0 ((Fr.refl No _).alloc (.cells #[.int .u8 (wd : Nat)] 5))) _ 1 [.int .u8 (wd : Nat)] rfl (by first | exact HS3.out | exact HS3b.out) b1 b2 (by have := HZ2.out; simp [World.setCell]; omega) ?_; intro v4 w4 hown hfr hat; have HO4 := hide hown; have HF4 : Hid (Fr (Is w.heap.size) W w4) := hide ((HF3.out.alloc _).own hfr (fun g hg => .inl (by have := (HO3.out.lt g hg).1; omega))); have HA4 := hide ((HA3.out.fr0 ((Fr.refl No _).alloc (.cells #[.int .u8 (wd : Nat)] 5))).fr hfr (fun g hg e => HO3.out.ne_own HA3.out (by decide) hg e)); have HB4 := hide (hfr.blk (((Fr.refl No _).alloc (.cells #[.int .u8 (wd : Nat)] 5)).blk HB3.out (fun h => h)) (fun e => by have h2 := (HO3.out.lt w.heap.size e).1; omega)); have HZ5 := hide (show wr.heap.size ≤ w4.heap.size by have h1 := hfr.size; have h2 := HF2.out.size; have h3 := HZ2.out; simp [World.setCell] at h1; omega); clear hown hfr hat)
          | (refine ⟨trivial, ?_⟩; gi_at_call 100; have HBi := bits_any (some ⟨W.heap.size, 0, none⟩) q q w4.heap.size wd (aboveL ch) w4 HAl.out H64.out (Nat.le_refl _) (by unfold maxLen; omega) (by omega) (Nat.le_refl _) (HA4.out.rd); rw [show bitsZ (aboveL ch) wd = packed wd (aboveL ch) by unfold bitsZ; rw [if_pos (by omega)]; rfl] at HBi; refine (CallsIn.inRound lr (callsIn_wide.2 HBi)).mono ?_; clear HBi; rintro e w5 ⟨v5, rfl, hown, hfr⟩; rw [← HPn.out] at hown; obtain ⟨A5, k5, rfl, _⟩ := hown.form; have HS5 := hide (Src.ofRd (P := Tryz.prog) (size := 1) w5 Tryz.underlying25 A5 pn k5 (by8 (packed wd (aboveL ch))) (by rw [by8_length, HPn.out]; omega) (by omega) hown.rd (by8_one _)); have HO5 := hide (HO4.out.fr0 hfr); have HF5 := hide (HF4.out.tr hfr); have HB5 := hide (hfr.blk HB4.out (fun h => h)); have HZ6 := hide hfr.size; clear hown hfr)
          | (gi_at_builtin; refine wpListIn_append_gen _ rfl (.tmp 43) (.tmp 46) 25 25 rfl wr.heap.size 5 i0 (.int .u8 0) 1 1 Tryz.underlying25 hi0 hz hsz hby rfl v4 (m + en + 1) _ rfl HO5.out _ pn (by8 (packed wd (aboveL ch))) rfl HS5.out c1 c2 (by have := HZ5.out; have := HZ6.out; omega) ?_; intro v6 w6 hown hfr hat; obtain ⟨A6, k6, rfl, _⟩ := hown.form; have hb6 := hfr.blk HB5.out (fun e => by have h2 := (HO5.out.lt w.heap.size e).1; omega); have cb6 : w6.cell? ⟨w.heap.size, 0, none⟩ = some (.slice A2 (m + en) k2) := cell_of_row _ _ 0 _ _ _ hb6; have fb6 : w6.frozen? ⟨w.heap.size, 0, none⟩ = false := frozen_of_row _ _ _ _ _ hb6; have HB7 := hide (box_put (u := .slice A6 (m + en + 1 + pn) k6) hb6); have HF6 : Hid (Fr (Is w.heap.size) W w6) := hide (HF5.out.own hfr (fun g hg => .inl (by have := (HO5.out.lt g hg).1; omega))); have HO6 := hide hown; clear hown hfr hat hb6))
        have HF7 := HF6.out.put 0 (.slice A6 (m + en + 1 + pn) k6)
        refine ⟨keeps_of_fr HF7 ?_, KpC.fr HF7 (by omega) ?_ ?_ ?_, HE.out.fr.trans HF7 (fun i hi e => by have e : i = w.heap.size := e; omega), Nat.le_trans hsz1 HF7.size, _, HB7.out, ?_⟩
        · intro g o e hg
          have e : g = w.heap.size := e
          subst e
          rw [HBx.out] at hg
          injection hg with hg
          subst hg
          rfl
        · intro g hg e
          have e : g = w.heap.size := e
          omega
        · intro e
          have e : w.heap.size + 1 = w.heap.size := e
          omega
        · intro e
          have e : w.heap.size + 1 + 1 = w.heap.size := e
          omega
        · have hlen : (catU l (valC (pre ++ [⟨j, hj⟩]))).length = m + en + 1 + pn := by
            rw [HVs.out, HSn.out, HE1.out]
            simp [← HM.out, ← HEn.out, ← HPn.out]
            omega
          have hby : by8 (catU l (valC (pre ++ [⟨j, hj⟩]))) = by8 (cu ++ EB) ++ [.int .u8 (wd : Nat)] ++ by8 (packed wd (aboveL ch)) := by
            rw [HVs.out, HSn.out, HE1.out]
            have e8 : by8 [UInt8.ofNat wd] = [.int .u8 (wd : Nat)] := by simp only [by8, List.map_cons, List.map_nil, HW8.out]
            rw [by8_append, by8_append, by8_append, by8_append, e8]
            simp
          rw [hlen, hby]
          exact (HO6.out.lower (by omega)).fr ((Fr.refl (Is w.heap.size) w6).put 0 _) (fun g hg e => by have e : g = w.heap.size := e; have := (HO6.out.lt g hg).1; omega)
  case done =>
    rintro D ys W hD hys E hK
    obtain ⟨v, hb, ho⟩ := E.own
    obtain ⟨Ab, cb, rfl, q1, q2, _⟩ := ho.form
    rw [hys, ← HL.out, catU_all] at ho hb q1
    obtain ⟨m, hm⟩ : ∃ x, x = (putR l).length := ⟨_, rfl⟩
    rw [← hm] at ho hb q1
    have HM := hide hm
    have c3 : W.cell? ⟨w.heap.size, 0, none⟩ = some (.slice Ab m cb) := cell_of_row _ _ 0 _ _ _ hb
    have HO := hide ho
    have HF := hide E.fr
    have HK := hide hK
    have HQ2 := hide q2
    have hD2 : w.heap.size + 3 ≤ D := by omega
    clear E ho hb hys hK hF0 hs0 hb0 hb1 hb2 hE0 hm q2 hA
    gi_wp2_with (refine ⟨trivial, ?_⟩; gi_at_call 74; refine (callsIn_wide.2 (clip_any Ab m cb W q1 HQ2.out)).mono ?_; rintro e w' ⟨rfl, rfl⟩)
    refine ⟨by simp, .inl ⟨_, _, rfl, run_takeDeferred HK.out, ?_⟩⟩
    refine ⟨_, results_tmp rfl _ _ _, ?_⟩
    have f1 : Fr (fun k => k = D) W (W.putObj D (.deferred none)) := (Fr.of_grown (grownBy_putObj' W D (.deferred none))).mono (fun i _ e => (Option.some.inj e).symm)
    refine ⟨_, rfl, ?_, HF.out.trans f1 (fun i hi e => by have e : i = D := e; omega)⟩
    rw [← HM.out]
    exact (HO.out.clip.lower (by omega)).fr f1 (fun k hk e => by
      have e : k = D := e
      subst e
      obtain ⟨_, A', c', hv, _, _, hA⟩ := HO.out
      injection hv with hv _ _
      subst hv
      rcases hA with ⟨rfl, _⟩ | ⟨g', cur, rfl, _, hh, _⟩
      · cases hk
      · have e : g' = k := Option.some.inj hk
        subst e
        rw [HK.out] at hh
        cases hh)
  case stop =>
    rintro D c pre W _ _ h _
    exact h.elim
theorem put_any (A : Option Addr) (n c B : Nat) (l : List Int) (w : World) (hl : l.length = n) (hi : InI l) (hn : n ≤ c) (hc : c ≤ maxLen) (hb : n ≤ 1048576) (hB : B ≤ w.heap.size) (hr : Rd w B A (iz .i64 l)) :
    Calls Tryz.prog 67 #[.slice A n c] w (GivesB w (putR l)) := callsIn_wide.1 (put_in A n c B l w hl hi hn hc hb hB hr)
end Go.Proofs.YtnjcncidlhllmaaGreat
namespace Go.Proofs.YtnjcncidlhllmaaGreat
set_option linter.unusedVariables false
set_option linter.unusedSimpArgs false
open Go.RowKit

theorem pre_app {α : Type} {s t l : List α} {a : Nat} : s ++ t <+: l.drop a ↔ s <+: l.drop a ∧ t <+: l.drop (a + s.length) := by
  constructor
  · rintro ⟨r, hr⟩
    refine ⟨⟨t ++ r, by rw [← hr, List.append_assoc]⟩, ⟨r, ?_⟩⟩
    rw [← List.drop_drop, ← hr, List.append_assoc, List.drop_left]
  · rintro ⟨⟨r, hr⟩, ⟨q, hq⟩⟩
    refine ⟨q, ?_⟩
    rw [← List.drop_drop, ← hr, List.drop_left] at hq
    rw [List.append_assoc, hq, hr]
theorem pre_le {α : Type} {s l : List α} {a : Nat} (h : s <+: l.drop a) : s.length ≤ l.length - a := by
  have := h.length_le
  rw [List.length_drop] at this
  exact this
theorem pre_nil {α : Type} {l : List α} {a : Nat} : [] <+: l.drop a := ⟨l.drop a, rfl⟩
theorem pre_eq {α : Type} {s l : List α} (h : s <+: l.drop 0) (hl : s.length = l.length) : s = l := h.eq_of_length (by simpa using hl)

theorem uint_has {bs : List UInt8} {a u : Nat} (hu : u < 18446744073709551616) (h : enc u <+: bs.drop a) : uintR bs a 0 = (u, a + (enc u).length, 0) := by
  obtain ⟨r, hr⟩ := h
  refine uintR_some ?_
  rw [← hr]
  exact dec_enc u hu r
theorem dec_has {bs : List UInt8} {a u k : Nat} (hd : dec 0 0 (bs.drop a) = some (u, k)) : enc u <+: bs.drop a ∧ k = (enc u).length := by
  have h1 := enc_dec hd
  have h2 := dec_le _ _ _ _ _ hd
  have h3 : (enc u).length = k := by rw [h1, List.length_take]; omega
  exact ⟨by rw [h1]; exact List.take_prefix _ _, h3.symm⟩
theorem uint_of {bs : List UInt8} {a : Nat} {e : Int} (h : (uintR bs a e).2.2 = 0) : e = 0 ∧ (uintR bs a e).1 < 18446744073709551616 ∧ enc (uintR bs a e).1 <+: bs.drop a ∧ (uintR bs a e).2.1 = a + (enc (uintR bs a e).1).length := by
  by_cases he : e = 0
  · subst he
    cases hd : dec 0 0 (bs.drop a) with
    | none => rw [uintR_none hd] at h; cases h
    | some x =>
      obtain ⟨u, k⟩ := x
      have hlt := uintR_lt bs a 0
      rw [uintR_some hd] at hlt ⊢
      obtain ⟨h1, h2⟩ := dec_has hd
      exact ⟨rfl, hlt, h1, by rw [h2]⟩
  · exfalso
    unfold uintR at h
    rw [if_neg he] at h
    exact he h
theorem size_has {bs : List UInt8} {a u : Nat} {most : Int} (hu : u < 18446744073709551616) (hm : (u : Int) ≤ most) (h : enc u <+: bs.drop a) : sizeS bs a 0 most = (u, a + (enc u).length, 0) := by
  obtain ⟨r, hr⟩ := h
  have hd : dec 0 0 (bs.drop a) = some (u, (enc u).length) := by rw [← hr]; exact dec_enc u hu r
  unfold sizeS
  rw [if_pos rfl, sizeR_ok hd (by omega)]
theorem size_of {bs : List UInt8} {a : Nat} {e most : Int} (h : (sizeS bs a e most).2.2 = 0) : e = 0 ∧ ((sizeS bs a e most).1 : Int) ≤ most ∧ (sizeS bs a e most).1 < 18446744073709551616 ∧ enc (sizeS bs a e most).1 <+: bs.drop a ∧ (sizeS bs a e most).2.1 = a + (enc (sizeS bs a e most).1).length := by
  by_cases he : e = 0
  · subst he
    unfold sizeS at h ⊢
    rw [if_pos rfl] at h ⊢
    cases hd : dec 0 0 (bs.drop a) with
    | none => rw [sizeR_none hd] at h; cases h
    | some x =>
      obtain ⟨u, k⟩ := x
      by_cases hm : most < 0 ∨ most < (u : Int)
      · rw [sizeR_no hd hm] at h; cases h
      · rw [sizeR_ok hd hm]
        obtain ⟨h1, h2⟩ := dec_has hd
        exact ⟨rfl, by show (u : Int) ≤ most; omega, dec_lt _ 0 0 u k (by simp) hd, h1, by rw [h2]⟩
  · exfalso
    unfold sizeS at h
    rw [if_neg he] at h
    exact he h
theorem size_zero {bs : List UInt8} {a : Nat} {e most : Int} (h : (sizeS bs a e most).2.2 ≠ 0) : (sizeS bs a e most).1 = 0 := by
  unfold sizeS at h ⊢
  split
  · rename_i he
    rw [if_pos he] at h
    cases hs : sizeR (bs.drop a) most with
    | none => rfl
    | some x =>
      rw [hs] at h
      exact absurd rfl h
  · rfl
theorem sizeS_le {bs : List UInt8} {a : Nat} {e most : Int} (h0 : 0 ≤ most) : ((sizeS bs a e most).1 : Int) ≤ most := by
  by_cases h : (sizeS bs a e most).2.2 = 0
  · exact (size_of h).2.1
  · rw [size_zero h]; simpa using h0
theorem bytes_has {bs s : List UInt8} {a : Nat} (h : s <+: bs.drop a) : bytesS bs a 0 (s.length : Nat) = (s, a + s.length, 0) := by
  obtain ⟨r, hr⟩ := h
  unfold bytesS bytesR
  rw [if_pos rfl, if_neg (by rw [← hr]; simp; omega), ← hr]
  simp
theorem bytes_of {bs : List UInt8} {a k : Nat} {e : Int} (h : (bytesS bs a e (k : Nat)).2.2 = 0) : e = 0 ∧ (bytesS bs a e (k : Nat)).1.length = k ∧ (bytesS bs a e (k : Nat)).1 <+: bs.drop a ∧ (bytesS bs a e (k : Nat)).2.1 = a + k := by
  by_cases he : e = 0
  · subst he
    unfold bytesS bytesR at h ⊢
    rw [if_pos rfl] at h ⊢
    by_cases hm : (k : Int) < 0 ∨ ((bs.drop a).length : Int) < k
    · rw [if_pos hm] at h; cases h
    · rw [if_neg hm]
      refine ⟨rfl, ?_, ?_, ?_⟩
      · show ((bs.drop a).take (k : Int).toNat).length = k
        rw [List.length_take]; omega
      · exact List.take_prefix _ _
      · simp
  · exfalso
    unfold bytesS at h
    rw [if_neg he] at h
    exact he h

end Go.Proofs.YtnjcncidlhllmaaGreat
namespace Go.Proofs.YtnjcncidlhllmaaGreat
set_option linter.unusedVariables false
set_option linter.unusedSimpArgs false
open Go.RowKit

abbrev Rw := List (List Int)
def okV (rows : Rw) : Prop := rows.length ≤ 16384 ∧ ∀ l ∈ rows, l.length ≤ 64
/-- the bytes that tell which rows are filled, up to row i. -/
def bitN (rows : Rw) : Nat → List Nat
  | 0 => List.replicate ((rows.length + 7) / 8) 0
  | i + 1 => if rows.getD i [] = [] then bitN rows i else (bitN rows i).set (i / 8) ((bitN rows i).getD (i / 8) 0 ||| 2 ^ (i % 8))
theorem bitN_len (rows : Rw) : ∀ i, (bitN rows i).length = (rows.length + 7) / 8
  | 0 => by simp [bitN]
  | i + 1 => by
    rw [bitN]
    split
    · exact bitN_len rows i
    · rw [List.length_set]; exact bitN_len rows i
theorem or_pow_lt {b i : Nat} (h : b < 256) : b ||| 2 ^ (i % 8) < 256 := Nat.or_lt_two_pow (n := 8) h (Nat.pow_lt_pow_right (by omega) (Nat.mod_lt _ (by omega)))
theorem bitN_lt (rows : Rw) : ∀ i, ∀ b ∈ bitN rows i, b < 256
  | 0 => by intro b hb; rw [bitN] at hb; rw [List.eq_of_mem_replicate hb]; omega
  | i + 1 => by
    intro b hb
    rw [bitN] at hb
    split at hb
    · exact bitN_lt rows i b hb
    · rcases List.mem_or_eq_of_mem_set hb with h | h
      · exact bitN_lt rows i b h
      · rw [h]
        refine or_pow_lt ?_
        by_cases hi : i / 8 < (bitN rows i).length
        · rw [List.getD, List.getElem?_eq_getElem hi]
          exact bitN_lt rows i _ (List.getElem_mem hi)
        · rw [List.getD, List.getElem?_eq_none (by omega)]; decide
theorem bitN_bit (rows : Rw) : ∀ i, i ≤ rows.length → ∀ k, k < rows.length → ((bitN rows i).getD (k / 8) 0).testBit (k % 8) = (decide (k < i) && decide (rows.getD k [] ≠ []))
  | 0, _, k, hk => by
    have h : (bitN rows 0).getD (k / 8) 0 = 0 := by
      rw [bitN, List.getD, List.getElem?_replicate]
      split <;> rfl
    rw [h]
    simp
  | i + 1, hi, k, hk => by
    have ih := bitN_bit rows i (by omega) k hk
    rw [bitN]
    by_cases he : rows.getD i [] = []
    · rw [if_pos he, ih]
      by_cases e : k = i
      · subst e
        rw [he]
        simp
      · congr 1
        exact decide_eq_decide.2 (by omega)
    · rw [if_neg he]
      have hlen : k / 8 < (bitN rows i).length := by rw [bitN_len]; omega
      by_cases e8 : k / 8 = i / 8
      · have h1 : ((bitN rows i).set (i / 8) ((bitN rows i).getD (i / 8) 0 ||| 2 ^ (i % 8))).getD (k / 8) 0 = (bitN rows i).getD (k / 8) 0 ||| 2 ^ (i % 8) := by
          rw [← e8, List.getD, List.getElem?_set_self hlen]
          rfl
        rw [h1, Nat.testBit_or, ih, Nat.testBit_two_pow]
        by_cases e : k = i
        · subst e
          simp only [List.getD_eq_getElem?_getD] at he ⊢
          simp [he]
        · have h2 : i % 8 ≠ k % 8 := by omega
          have h3 : decide (k < i + 1) = decide (k < i) := decide_eq_decide.2 (by omega)
          rw [h3]
          simp [h2]
      · have h1 : ((bitN rows i).set (i / 8) ((bitN rows i).getD (i / 8) 0 ||| 2 ^ (i % 8))).getD (k / 8) 0 = (bitN rows i).getD (k / 8) 0 := by
          rw [List.getD, List.getElem?_set_ne (by omega)]
          rfl
        rw [h1, ih]
        congr 1
        exact decide_eq_decide.2 (by omega)
def bitsV (rows : Rw) : List UInt8 := (bitN rows rows.length).map UInt8.ofNat
theorem bitsV_len (rows : Rw) : (bitsV rows).length = (rows.length + 7) / 8 := by rw [bitsV, List.length_map, bitN_len]
/-- is row k filled, by the bytes? -/
def isBit (bits : List UInt8) (k : Nat) : Bool := ((bits.getD (k / 8) 0).toNat).testBit (k % 8)
theorem bitsV_bit (rows : Rw) {k : Nat} (hk : k < rows.length) : isBit (bitsV rows) k = decide (rows.getD k [] ≠ []) := by
  have hlen : k / 8 < (bitN rows rows.length).length := by rw [bitN_len]; omega
  have h1 : ((bitsV rows).getD (k / 8) 0).toNat = (bitN rows rows.length).getD (k / 8) 0 := by
    rw [bitsV, List.getD, List.getElem?_map, List.getElem?_eq_getElem hlen, List.getD, List.getElem?_eq_getElem hlen]
    have := bitN_lt rows rows.length _ (List.getElem_mem hlen)
    simp only [Option.map_some, Option.getD_some]
    rw [UInt8.toNat_ofNat_of_lt' (by simpa using this)]
  unfold isBit
  rw [h1, bitN_bit rows _ (Nat.le_refl _) k hk, decide_eq_true hk, Bool.true_and]
/-- how many of the first i rows are filled; the lengths of those less one; all their numbers. -/
def filV (rows : Rw) : Nat := (rows.filter (fun l => !l.isEmpty)).length
def lensV (rows : Rw) : List Int := (rows.filter (fun l => !l.isEmpty)).map (fun l => (l.length : Int) - 1)
def allV (rows : Rw) : List Int := rows.flatten
theorem lensV_len (rows : Rw) : (lensV rows).length = filV rows := by simp [lensV, filV]
def formV (rows : Rw) : List UInt8 := enc rows.length ++ bitsV rows ++ putR (lensV rows) ++ putR (allV rows)
def sortI (l : List Int) : List Int := l.mergeSort (fun x y => decide (x ≤ y))
def upI (l : List Int) : Prop := l.Pairwise (· ≤ ·)
/-- the bytes are the form of rows in order. -/
structure FormV (bs : List UInt8) (rows : Rw) : Prop where
  ok : okV rows
  fit : ∀ l ∈ rows, InI l
  up : ∀ l ∈ rows, upI l
  form : formV rows = bs
theorem sortI_up (l : List Int) : upI (sortI l) := by
  have h := List.pairwise_mergeSort (le := fun x y : Int => decide (x ≤ y)) (fun a b c h1 h2 => by simp only [decide_eq_true_eq] at *; omega) (fun a b => by simp only [Bool.or_eq_true, decide_eq_true_eq]; omega) l
  exact h.imp (fun h => of_decide_eq_true h)
theorem sortI_perm (l : List Int) : (sortI l).Perm l := List.mergeSort_perm l _
theorem sortI_of_up {l : List Int} (h : upI l) : sortI l = l := List.mergeSort_of_pairwise (h.imp (fun h => decide_eq_true h))
theorem sortI_len (l : List Int) : (sortI l).length = l.length := List.length_mergeSort l
theorem sorted_uniq {l m : List Int} (h1 : upI l) (h2 : upI m) (hp : l.Perm m) : l = m := hp.eq_of_pairwise (fun a b _ _ h1 h2 => Int.le_antisymm h1 h2) h1 h2
theorem sortI_in {l : List Int} (h : InI l) : InI (sortI l) := fun x hx => h x ((sortI_perm l).mem_iff.1 hx)
/-! reading -/
theorem take_map_getD {rows : Rw} {i : Nat} (h : i < rows.length) : rows.take (i + 1) = rows.take i ++ [rows.getD i []] := by
  rw [List.take_succ_eq_append_getElem h, List.getD, List.getElem?_eq_getElem h]
  rfl
theorem filV_step {rows : Rw} {i : Nat} (h : i < rows.length) : filV (rows.take (i + 1)) = filV (rows.take i) + (if rows.getD i [] = [] then 0 else 1) := by
  rw [take_map_getD h]
  unfold filV
  rw [List.filter_append, List.length_append]
  congr 1
  by_cases e : rows.getD i [] = []
  · rw [if_pos e, e]; rfl
  · rw [if_neg e]
    have : (rows.getD i []).isEmpty = false := by simpa using e
    simp only [List.filter_cons, this, List.filter_nil]
    rfl
theorem lensV_step {rows : Rw} {i : Nat} (h : i < rows.length) : lensV (rows.take (i + 1)) = lensV (rows.take i) ++ (if rows.getD i [] = [] then [] else [((rows.getD i []).length : Int) - 1]) := by
  rw [take_map_getD h]
  unfold lensV
  rw [List.filter_append, List.map_append]
  congr 1
  by_cases e : rows.getD i [] = []
  · rw [if_pos e, e]; rfl
  · rw [if_neg e]
    have : (rows.getD i []).isEmpty = false := by simpa using e
    simp only [List.filter_cons, this, List.filter_nil]
    rfl
theorem allV_step {rows : Rw} {i : Nat} (h : i < rows.length) : allV (rows.take (i + 1)) = allV (rows.take i) ++ rows.getD i [] := by
  rw [take_map_getD h]
  simp [allV]
/-- the filled row's length stands in its place. -/
theorem lens_at {rows : Rw} {i : Nat} (h : i < rows.length) (he : rows.getD i [] ≠ []) : (lensV rows).getD (filV (rows.take i)) 0 = ((rows.getD i []).length : Int) - 1 ∧ filV (rows.take i) < filV rows := by
  have h1 : lensV rows = lensV (rows.take (i + 1)) ++ lensV (rows.drop (i + 1)) := by
    unfold lensV
    rw [← List.map_append, ← List.filter_append, List.take_append_drop]
  have h2 := lensV_step h
  rw [if_neg he] at h2
  have h3 := lensV_len (rows.take i)
  have h4 : filV (rows.take i) < (lensV rows).length := by
    rw [h1, h2, List.length_append, List.length_append, h3]
    simp only [List.length_cons, List.length_nil]
    omega
  refine ⟨?_, by rw [← lensV_len rows]; exact h4⟩
  rw [h1, h2, List.append_assoc, List.getD, List.getElem?_append_right (by omega), h3, Nat.sub_self]
  rfl
theorem all_at {rows : Rw} {i : Nat} (h : i < rows.length) : ((allV rows).drop (allV (rows.take i)).length).take (rows.getD i []).length = rows.getD i [] := by
  have h1 : allV rows = allV (rows.take i) ++ (rows.getD i [] ++ allV (rows.drop (i + 1))) := by
    rw [← List.append_assoc, ← allV_step h]
    unfold allV
    rw [← List.flatten_append, List.take_append_drop]
  rw [h1, List.drop_left, List.take_left]
theorem filV_le (rows : Rw) : filV rows ≤ rows.length := List.length_filter_le _ _
theorem allV_le {rows : Rw} (h : okV rows) : (allV rows).length ≤ 1048576 := by
  have : ∀ r : Rw, (∀ l ∈ r, l.length ≤ 64) → (allV r).length ≤ 64 * r.length := by
    intro r
    induction r with
    | nil => intro _; simp [allV]
    | cons x t ih =>
      intro h
      have h1 := ih (fun l hl => h l (List.mem_cons_of_mem _ hl))
      have h2 := h x List.mem_cons_self
      have e : allV (x :: t) = x ++ allV t := by simp [allV]
      rw [e, List.length_append, List.length_cons]
      omega
  have h1 := this rows h.2
  have := h.1
  omega
/-- how many of the first i rows are filled, where row i begins: by the bytes and the lengths. -/
def kB (bits : List UInt8) : Nat → Nat
  | 0 => 0
  | i + 1 => kB bits i + (if isBit bits i = true then 1 else 0)
def atV (bits : List UInt8) (lens : List Int) : Nat → Nat
  | 0 => 0
  | i + 1 => atV bits lens i + (if isBit bits i = true then (lens.getD (kB bits i) 0).toNat + 1 else 0)
def rowV (bits : List UInt8) (lens all : List Int) (i : Nat) : List Int := (all.drop (atV bits lens i)).take (atV bits lens (i + 1) - atV bits lens i)
def rowsV (bits : List UInt8) (lens all : List Int) (n : Nat) : Rw := (List.range n).map (rowV bits lens all)
def lensOk (lens : List Int) : Prop := ∀ x ∈ lens, 0 ≤ x ∧ x < 64
theorem kB_le (bits : List UInt8) : ∀ i, kB bits i ≤ i
  | 0 => Nat.le_refl _
  | i + 1 => by have := kB_le bits i; rw [kB]; split <;> omega
theorem kB_mono (bits : List UInt8) {i j : Nat} (h : i ≤ j) : kB bits i ≤ kB bits j := by
  induction j with
  | zero => have : i = 0 := by omega
            subst this; exact Nat.le_refl _
  | succ j ih =>
    by_cases e : i = j + 1
    · subst e; exact Nat.le_refl _
    · have := ih (by omega); rw [kB]; omega
theorem atV_mono (bits : List UInt8) (lens : List Int) {i j : Nat} (h : i ≤ j) : atV bits lens i ≤ atV bits lens j := by
  induction j with
  | zero => have : i = 0 := by omega
            subst this; exact Nat.le_refl _
  | succ j ih =>
    by_cases e : i = j + 1
    · subst e; exact Nat.le_refl _
    · have := ih (by omega); rw [atV]; omega
theorem atV_step {bits : List UInt8} {lens : List Int} (h : lensOk lens) (i : Nat) : atV bits lens (i + 1) ≤ atV bits lens i + 64 := by
  rw [atV]
  split
  · by_cases hk : kB bits i < lens.length
    · rw [List.getD, List.getElem?_eq_getElem hk]
      have := h _ (List.getElem_mem hk)
      simp only [Option.getD_some]
      omega
    · rw [List.getD, List.getElem?_eq_none (by omega)]
      simp
  · omega
theorem atV_le {bits : List UInt8} {lens : List Int} (h : lensOk lens) : ∀ i, atV bits lens i ≤ 64 * i
  | 0 => Nat.le_refl _
  | i + 1 => by have h1 := atV_le (bits := bits) h i; have h2 := atV_step (bits := bits) h i; omega
/-- the parts that are read off bytes. -/
def nV (bs : List UInt8) : Nat := (sizeS bs 0 0 16384).1
def bV (bs : List UInt8) : List UInt8 × Nat × Int := bytesS bs (sizeS bs 0 0 16384).2.1 (sizeS bs 0 0 16384).2.2 (((nV bs + 7) / 8 : Nat) : Int)
def restV (bs : List UInt8) : List UInt8 := bs.drop (bV bs).2.1
def fV (bs : List UInt8) : Nat := kB (bV bs).1 (nV bs)
def lV (bs : List UInt8) : List Int × Nat × Int := getZ (restV bs) (fV bs : Nat)
def sV (bs : List UInt8) : Nat := atV (bV bs).1 (lV bs).1 (nV bs)
def aV (bs : List UInt8) : List Int × Nat × Int := getZ ((restV bs).drop (lV bs).2.1) (sV bs : Nat)
def rdOk (bs : List UInt8) : Prop := (bV bs).2.2 = 0 ∧ (lV bs).2.2 = 0 ∧ lensOk (lV bs).1 ∧ (aV bs).2.2 = 0 ∧ (lV bs).2.1 + (aV bs).2.1 = (restV bs).length
def rdV (bs : List UInt8) : Rw := rowsV (bV bs).1 (lV bs).1 (aV bs).1 (nV bs)
theorem rdV_len (bs : List UInt8) : (rdV bs).length = nV bs := by simp [rdV, rowsV]
theorem nV_le (bs : List UInt8) : nV bs ≤ 16384 := by
  have h := sizeS_le (bs := bs) (a := 0) (e := 0) (most := 16384) (by decide)
  unfold nV
  omega
theorem rdV_ok {bs : List UInt8} (h : rdOk bs) : okV (rdV bs) := by
  refine ⟨by rw [rdV_len]; exact nV_le bs, fun l hl => ?_⟩
  obtain ⟨i, hi, rfl⟩ := List.mem_map.1 hl
  have h1 := atV_step (bits := (bV bs).1) h.2.2.1 i
  unfold rowV
  rw [List.length_take]
  omega
theorem rdV_in {bs : List UInt8} (h : InI (aV bs).1) : ∀ l ∈ rdV bs, InI l := fun l hl => by
  obtain ⟨i, hi, rfl⟩ := List.mem_map.1 hl
  exact (h.drop _).take _
theorem kB_form (rows : Rw) : ∀ i, i ≤ rows.length → kB (bitsV rows) i = filV (rows.take i)
  | 0, _ => rfl
  | i + 1, h => by
    rw [kB, kB_form rows i (by omega), filV_step (by omega), bitsV_bit rows (by omega)]
    by_cases e : rows.getD i [] = []
    · rw [if_pos e, if_neg (by simpa using e)]
    · rw [if_neg e, if_pos (decide_eq_true e)]
theorem atV_form (rows : Rw) : ∀ i, i ≤ rows.length → atV (bitsV rows) (lensV rows) i = (allV (rows.take i)).length
  | 0, _ => rfl
  | i + 1, h => by
    rw [atV, atV_form rows i (by omega), allV_step (by omega), List.length_append, bitsV_bit rows (by omega), kB_form rows i (by omega)]
    by_cases e : rows.getD i [] = []
    · rw [if_neg (by simpa using e), e]; rfl
    · rw [if_pos (decide_eq_true e), (lens_at (by omega) e).1]
      have : 0 < (rows.getD i []).length := List.length_pos_iff.2 e
      omega
theorem rows_form (rows : Rw) : rowsV (bitsV rows) (lensV rows) (allV rows) rows.length = rows := by
  apply List.ext_getElem (by simp [rowsV])
  intro i h1 h2
  simp only [rowsV, List.getElem_map, List.getElem_range, rowV]
  rw [atV_form rows i (by omega), atV_form rows (i + 1) (by omega), allV_step h2, List.length_append, Nat.add_sub_cancel_left, all_at h2, List.getD, List.getElem?_eq_getElem h2]
  rfl
theorem lensV_ok {rows : Rw} (h : okV rows) : lensOk (lensV rows) := fun x hx => by
  obtain ⟨l, hl, rfl⟩ := List.mem_map.1 hx
  have h1 := h.2 l (List.mem_filter.1 hl).1
  have h2 : l ≠ [] := by simpa using (List.mem_filter.1 hl).2
  have : 0 < l.length := List.length_pos_iff.2 h2
  omega
theorem lensV_in {rows : Rw} (h : okV rows) : InI (lensV rows) := fun x hx => by have := lensV_ok h x hx; omega
theorem allV_in {rows : Rw} (h : ∀ l ∈ rows, InI l) : InI (allV rows) := fun x hx => by
  obtain ⟨l, hl, hx⟩ := List.mem_flatten.1 hx
  exact h l hl x hx
/-- what is kept is read. -/
theorem form_parts {rows : Rw} (h : okV rows) (hi : ∀ l ∈ rows, InI l) : nV (formV rows) = rows.length ∧ (bV (formV rows)) = (bitsV rows, (enc rows.length ++ bitsV rows).length, 0) ∧ restV (formV rows) = putR (lensV rows) ++ putR (allV rows) := by
  have h0 := h.1
  have e1 : sizeS (formV rows) 0 0 16384 = (rows.length, 0 + (enc rows.length).length, 0) := size_has (by omega) (by omega) ⟨bitsV rows ++ putR (lensV rows) ++ putR (allV rows), by simp [formV]⟩
  have n1 : nV (formV rows) = rows.length := by unfold nV; rw [e1]
  have e2 : bV (formV rows) = (bitsV rows, 0 + (enc rows.length).length + (bitsV rows).length, 0) := by
    unfold bV
    rw [n1, e1, ← bitsV_len]
    refine bytes_has ⟨putR (lensV rows) ++ putR (allV rows), ?_⟩
    dsimp only
    rw [Nat.zero_add, show formV rows = enc rows.length ++ (bitsV rows ++ (putR (lensV rows) ++ putR (allV rows))) by simp [formV], List.drop_left]
  refine ⟨n1, by rw [e2]; simp, ?_⟩
  unfold restV
  rw [e2]
  dsimp only
  rw [show formV rows = (enc rows.length ++ bitsV rows) ++ (putR (lensV rows) ++ putR (allV rows)) by simp [formV], show 0 + (enc rows.length).length + (bitsV rows).length = (enc rows.length ++ bitsV rows).length by simp, List.drop_left]
theorem rd_form {rows : Rw} (h : okV rows) (hi : ∀ l ∈ rows, InI l) : rdOk (formV rows) ∧ rdV (formV rows) = rows := by
  obtain ⟨n1, e2, e3⟩ := form_parts h hi
  have hf : fV (formV rows) = filV rows := by
    unfold fV
    rw [n1, e2, kB_form rows _ (Nat.le_refl _), List.take_length]
  have hl : lV (formV rows) = (lensV rows, (putR (lensV rows)).length, 0) := by
    unfold lV
    rw [e3, hf, ← lensV_len]
    refine getZ_put ?_ (lensV_in h) _
    have := filV_le rows
    have := h.1
    rw [lensV_len]
    omega
  have hs : sV (formV rows) = (allV rows).length := by
    unfold sV
    rw [n1, e2, hl]
    dsimp only
    rw [atV_form rows _ (Nat.le_refl _), List.take_length]
  have ha : aV (formV rows) = (allV rows, (putR (allV rows)).length, 0) := by
    unfold aV
    rw [hs, e3, hl]
    dsimp only
    rw [List.drop_left]
    have := getZ_put (allV_le h) (allV_in hi) []
    rwa [List.append_nil] at this
  refine ⟨⟨by rw [e2], by rw [hl], by rw [hl]; exact lensV_ok h, by rw [ha], ?_⟩, ?_⟩
  · rw [hl, ha, e3, List.length_append]
  · unfold rdV
    rw [n1, e2, hl, ha]
    exact rows_form rows
/-- rows in order. -/
def sortV (rows : Rw) : Rw := rows.map sortI
theorem sortV_ok {rows : Rw} (h : okV rows) : okV (sortV rows) := ⟨by simpa [sortV] using h.1, fun l hl => by
  obtain ⟨m, hm, rfl⟩ := List.mem_map.1 hl
  rw [sortI_len]; exact h.2 m hm⟩
theorem sortV_in {rows : Rw} (h : ∀ l ∈ rows, InI l) : ∀ l ∈ sortV rows, InI l := fun l hl => by
  obtain ⟨m, hm, rfl⟩ := List.mem_map.1 hl
  exact sortI_in (h m hm)
theorem sortV_up (rows : Rw) : ∀ l ∈ sortV rows, upI l := fun l hl => by
  obtain ⟨m, hm, rfl⟩ := List.mem_map.1 hl
  exact sortI_up m
theorem sortV_of_up {rows : Rw} (h : ∀ l ∈ rows, upI l) : sortV rows = rows := by
  unfold sortV
  conv => rhs; rw [← List.map_id rows]
  exact List.map_congr_left fun l hl => sortI_of_up (h l hl)
/-- bytes are opened just if they are the form of rows in order; those are read. -/
theorem open_iff {bs : List UInt8} (hi : ∀ l ∈ rdV bs, InI l) : (rdOk bs ∧ formV (sortV (rdV bs)) = bs) ↔ ∃ rows, FormV bs rows := by
  constructor
  · rintro ⟨h, he⟩
    exact ⟨sortV (rdV bs), sortV_ok (rdV_ok h), sortV_in hi, sortV_up _, he⟩
  · rintro ⟨rows, f⟩
    have h := rd_form f.ok f.fit
    rw [f.form] at h
    refine ⟨h.1, ?_⟩
    rw [h.2, sortV_of_up f.up]
    exact f.form
theorem FormV.rd {bs : List UInt8} {rows : Rw} (f : FormV bs rows) : rdV bs = rows := by
  have h := (rd_form f.ok f.fit).2
  rwa [f.form] at h
theorem FormV.of {rows : Rw} (h : okV rows) (hi : ∀ l ∈ rows, InI l) : FormV (formV (sortV rows)) (sortV rows) := ⟨sortV_ok h, sortV_in hi, sortV_up _, rfl⟩
end Go.Proofs.YtnjcncidlhllmaaGreat
namespace Go.Proofs.YtnjcncidlhllmaaGreat
set_option linter.unusedVariables false
set_option linter.unusedSimpArgs false
open Go.RowKit

/-- lists of bytes that are read. -/
def ISl (w : World) (B : Nat) (A : Option Addr) (bss : List (List Int)) : Prop :=
  ∀ j bs, bss[j]? = some bs → ∃ ad Aj cj, A = some ad ∧ ad.block < B ∧ w.cell? (ad.add j) = some (.slice Aj bs.length cj) ∧ bs.length ≤ cj ∧ cj ≤ maxLen ∧ Rd w B Aj (iz .i64 bs)
theorem ISl.fr {S : Nat → Prop} {w w' : World} {B : Nat} {A : Option Addr} {bss : List (List Int)} (h : ISl w B A bss) (f : Fr S w w') (hS : ∀ k, k < B → ¬ S k) : ISl w' B A bss := fun j bs hj => by
  obtain ⟨ad, Aj, cj, e, hb, hc, h1, h2, hr⟩ := h j bs hj
  exact ⟨ad, Aj, cj, e, hb, f.cell hc (by rw [block_of_add]; exact hS _ hb), h1, h2, hr.fr f hS⟩
theorem ISl.fr0 {w w' : World} {B : Nat} {A : Option Addr} {bss : List (List Int)} (h : ISl w B A bss) (f : Fr No w w') : ISl w' B A bss := h.fr f (fun _ _ h => h)
theorem ISl.more {w : World} {B B' : Nat} {A : Option Addr} {bss : List (List Int)} (h : ISl w B A bss) (hB : B ≤ B') : ISl w B' A bss := fun j bs hj => by
  obtain ⟨ad, Aj, cj, e, hb, hc, h1, h2, hr⟩ := h j bs hj
  exact ⟨ad, Aj, cj, e, by omega, hc, h1, h2, hr.more hB⟩

theorem ISl.single {w : World} {B n c : Nat} {A : Option Addr} {bs : List Int} {e : TypeId} (hn : bs.length = n) (h1 : n ≤ c) (h2 : c ≤ maxLen) (hr : Rd w B A (iz .i64 bs)) (hB : B ≤ w.heap.size) : ISl (w.alloc (.cells #[.slice A n c] e)) (w.heap.size + 1) (some ⟨w.heap.size, 0, none⟩) [bs] := by
  subst hn
  intro j bs' hj
  cases j with
  | zero =>
    injection hj with hj
    subst hj
    refine ⟨_, A, c, rfl, by simp, ?_, h1, h2, (hr.fr0 ((Fr.refl _ _).alloc _)).more (by omega)⟩
    rw [Addr.add_lit, cell_of_row _ w.heap.size (0 + 0) #[.slice A bs.length c] e (0, 0) (heap_alloc_new w _)]
    rfl
  | succ j => simp at hj


/-- slices of bytes that were handed out: each of its own memory. -/
structure ValsI (w : World) (base : Nat) (vals : List Value) (bss : List (List Int)) : Prop where
  len : vals.length = bss.length
  own : ∀ (j : Nat) (v : Value) (bs : List Int), vals[j]? = some v → bss[j]? = some bs → Own w base 2 1 v bs.length (iz .i64 bs)
  dis : ∀ (i j : Nat) (vi vj : Value), i < j → vals[i]? = some vi → vals[j]? = some vj → ∀ k, vi.ownBlock = some k → vj.ownBlock ≠ some k
section
variable {S : Nat → Prop} {w w' : World} {base : Nat} {vals : List Value} {bss : List (List Int)}
theorem ValsI.nil (w : World) (base : Nat) : ValsI w base [] [] := ⟨rfl, fun j v bs h => by simp at h, fun i j vi vj _ h => by simp at h⟩
theorem ValsI.get (h : ValsI w base vals bss) {j : Nat} {v : Value} (hv : vals[j]? = some v) : ∃ bs, bss[j]? = some bs ∧ Own w base 2 1 v bs.length (iz .i64 bs) := by
  have hj := (List.getElem?_eq_some_iff.1 hv).1
  rw [h.len] at hj
  exact ⟨_, List.getElem?_eq_getElem hj, h.own j v _ hv (List.getElem?_eq_getElem hj)⟩
theorem ValsI.fr (h : ValsI w base vals bss) (f : Fr S w w') (hS : ∀ (j : Nat) v, vals[j]? = some v → ∀ k, v.ownBlock = some k → ¬ S k) : ValsI w' base vals bss :=
  ⟨h.len, fun j v bs hv hb => (h.own j v bs hv hb).fr f (hS j v hv), h.dis⟩
theorem ValsI.fr0 (h : ValsI w base vals bss) (f : Fr No w w') : ValsI w' base vals bss := h.fr f (fun _ _ _ _ _ h => h)
theorem ValsI.above (h : ValsI w base vals bss) (f : Fr S w w') (hS : ∀ k, S k → k < base) : ValsI w' base vals bss := h.fr f (fun j v hv k hk e => by
  obtain ⟨bs, _, ho⟩ := h.get hv
  have := (ho.lt k hk).1
  have := hS k e
  omega)
theorem ValsI.other {b2 e2 s2 n2 : Nat} {v2 : Value} {xs2 : List Value} (h : ValsI w base vals bss) (o : Own w b2 e2 s2 v2 n2 xs2) (hne : 2 ≠ e2) (f : Fr (fun k => v2.ownBlock = some k) w w') : ValsI w' base vals bss := h.fr f (fun j v hv k hk e => by
  obtain ⟨bs, _, ho⟩ := h.get hv
  exact ho.apart o hne k hk e)
theorem ValsI.lower {b2 : Nat} (h : ValsI w base vals bss) (hb : b2 ≤ base) : ValsI w b2 vals bss := ⟨h.len, fun j v bs hv hb' => (h.own j v bs hv hb').lower hb, h.dis⟩
theorem ValsI.snoc {w0 : World} {v : Value} {bs : List Int} (h0 : ValsI w0 base vals bss) (h : ValsI w base vals bss) (o : Own w w0.heap.size 2 1 v bs.length (iz .i64 bs)) (hb : base ≤ w0.heap.size) : ValsI w base (vals ++ [v]) (bss ++ [bs]) := by
  have hl := h.len
  refine ⟨by simp [hl], ?_, ?_⟩
  · intro j v' bs' hv hb'
    by_cases hj : j < vals.length
    · rw [List.getElem?_append_left hj] at hv
      rw [List.getElem?_append_left (by omega)] at hb'
      exact h.own j v' bs' hv hb'
    · have hj1 := (List.getElem?_eq_some_iff.1 hv).1
      have e1 : j = vals.length := by simp at hj1; omega
      subst e1
      rw [List.getElem?_append_right (Nat.le_refl _), Nat.sub_self] at hv
      rw [hl, List.getElem?_append_right (Nat.le_refl _), Nat.sub_self] at hb'
      simp at hv hb'
      subst hv; subst hb'
      exact o.lower hb
  · intro i j vi vj hij hi hj k hk
    have hj1 := (List.getElem?_eq_some_iff.1 hj).1
    by_cases hjl : j < vals.length
    · rw [List.getElem?_append_left (by omega)] at hi
      rw [List.getElem?_append_left hjl] at hj
      exact h.dis i j vi vj hij hi hj k hk
    · have e1 : j = vals.length := by simp at hj1; omega
      subst e1
      rw [List.getElem?_append_left hij] at hi
      rw [List.getElem?_append_right (Nat.le_refl _), Nat.sub_self] at hj
      simp at hj
      subst hj
      intro hk2
      obtain ⟨bs', _, ho⟩ := h0.get hi
      have h1 := (ho.lt k hk).2
      have h2 := (o.lt k hk2).1
      omega
/-- as lists that are read. -/
theorem ValsI.isl (h : ValsI w base vals bss) {A : Option Addr} (hr : Rd w w.heap.size A vals) : ISl w w.heap.size A bss := fun j bs hj => by
  have hj1 := (List.getElem?_eq_some_iff.1 hj).1
  have hv : vals[j]? = some (vals[j]'(by rw [h.len]; exact hj1)) := List.getElem?_eq_getElem _
  obtain ⟨ad, e, hb, hc⟩ := hr j _ hv
  have ho := h.own j _ bs hv hj
  obtain ⟨A', c', hv', h1, h2, _, h3, _⟩ := ho.form
  rw [hv'] at hc
  exact ⟨ad, A', c', e, hb, hc, h1, h2, h3⟩
end
end Go.Proofs.YtnjcncidlhllmaaGreat
