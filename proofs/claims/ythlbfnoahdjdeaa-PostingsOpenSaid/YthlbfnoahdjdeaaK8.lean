/- Several texts in one: PutW03, Concat, Po3, WpN, GetP, RefNum. -/
import Derived.Test.YthlbfnoahdjdeaaK7
import Derived.Lib.AppendZerosOnto
import Derived.Lib.SliceRun
import Derived.TacticsInMore
namespace Go.Proofs.Ythlbfnoahdjdeaa
set_option linter.unusedVariables false
set_option linter.unusedSimpArgs false
open Go.RowKit Go.Shelf
attribute [local go_sem] Oper.semAt_some

/-- what a round keeps: what lay when the call began, and the two boxes. -/
def KpC (n₀ B1 B2 : Nat) (o1 o2 : Obj) (W W' : World) : Prop := Below n₀ W W' ∧ (W.heap[B1]? = some o1 → W'.heap[B1]? = some o1) ∧ (W.heap[B2]? = some o2 → W'.heap[B2]? = some o2)
theorem KpC.r (n₀ B1 B2 : Nat) (o1 o2 : Obj) (W : World) : KpC n₀ B1 B2 o1 o2 W W := ⟨Below.refl _ _, fun e => e, fun e => e⟩
theorem KpC.t {n₀ B1 B2 : Nat} {o1 o2 : Obj} {A B C : World} (h : KpC n₀ B1 B2 o1 o2 A B) (k : KpC n₀ B1 B2 o1 o2 B C) : KpC n₀ B1 B2 o1 o2 A C := ⟨h.1.trans k.1, fun e => k.2.1 (h.2.1 e), fun e => k.2.2 (h.2.2 e)⟩
theorem KpC.d (n₀ B1 B2 : Nat) (o1 o2 : Obj) (W : World) (nq : Nat) : KpC n₀ B1 B2 o1 o2 W (W.drewN nq) := ⟨⟨rfl, rfl, rfl, Nat.le_refl _, fun _ _ => rfl⟩, fun e => e, fun e => e⟩
theorem KpC.b {n₀ B1 B2 : Nat} {o1 o2 : Obj} {w : World} (hn : n₀ ≤ w.heap.size) (h1 : B1 < w.heap.size) (h2 : B2 < w.heap.size) (W : World) (l : Nat) (o o' : Obj) (hl : w.heap.size ≤ l) (h : W.heap[l]? = some o) (ho : o.isCells = false) (hw : o.isWalk = false) : KpC n₀ B1 B2 o1 o2 W (W.putObj l o') :=
  ⟨belowK_b hn W l o o' hl h ho hw, fun e => (Fr.of_grown (grownBy_putObj' W l o')).blk e (fun e => by have e : l = B1 := Option.some.inj e; omega), fun e => (Fr.of_grown (grownBy_putObj' W l o')).blk e (fun e => by have e : l = B2 := Option.some.inj e; omega)⟩
theorem KpC.fr {S : Nat → Prop} {n₀ B1 B2 : Nat} {o1 o2 : Obj} {W W' : World} (f : Fr S W W') (hn : n₀ ≤ W.heap.size) (h0 : ∀ k, k < n₀ → ¬ S k) (h1 : ¬ S B1) (h2 : ¬ S B2) : KpC n₀ B1 B2 o1 o2 W W' :=
  ⟨f.belowN hn h0, fun e => f.blk e h1, fun e => f.blk e h2⟩

abbrev Cn (n : Nat) := { x : Nat // x < chunks n }
def valC {n : Nat} (xs : List (Cn n)) : List Nat := xs.map (·.1)
theorem valC_snoc {n : Nat} (xs : List (Cn n)) (x : Cn n) : valC (xs ++ [x]) = valC xs ++ [x.1] := by simp [valC]

theorem chunk_stops (fr : Nat) (hn : 1 ≤ fr) (B1 B2 : Nat) (A : Option Addr) (n c : Nat) (n₀ : Nat) (w W0 : World) (t1 t2 : TypeId) (hA : 0 < n → ∃ ad, A = some ad) (hnc : n ≤ c) (hc : c ≤ maxLen) (hnb : n ≤ 1048576)
    (h1 : W0.heap[B1]? = some (.cells #[.slice A n c] t1 (0, 0))) (h2 : W0.heap[B2]? = some (.cells #[.int .i64 128] t2 (0, 0))) :
    SeqStopsK Fence.wide fr Try.prog 103 #[.pointer (some ⟨B1, 0, none⟩), .pointer (some ⟨B2, 0, none⟩)] (fun x : Cn n => #[chV A n x.1]) (KpC n₀ B1 B2 (.cells #[.slice A n c] t1 (0, 0)) (.cells #[.int .i64 128] t2 (0, 0))) (fun ys => valC ys = allC n) (fun pre => valC pre <+: allC n) (chunks n) W0 := fun l J Jx W hW hJ hJx hY h0 =>
  (chunk1_in fr hn l B1 B2 (KpC n₀ B1 B2 (.cells #[.slice A n c] t1 (0, 0)) (.cells #[.int .i64 128] t2 (0, 0))) (KpC.r _ _ _ _ _) KpC.t A n c hA hnc hc hnb (fun pre W => ∃ q : List (Cn n), valC q = pre ∧ J q W) (fun pre W => ∃ q : List (Cn n), valC q = pre ∧ Jx q W)
    (fun pre x W1 h1 h2 hx => by
      obtain ⟨q, rfl, hj⟩ := h1
      refine YieldAt.mono (hY q ⟨x, hx⟩ W1 hj (by simpa [valC] using h2)) ?_
      rintro e W' (⟨h1, h2, h3⟩ | ⟨h1, h2⟩)
      · exact .inl ⟨h1, ⟨_, valC_snoc q ⟨x, hx⟩, h2⟩, h3⟩
      · exact .inr ⟨h1, _, valC_snoc q ⟨x, hx⟩, h2⟩) W
    (fun W' hk => by
      have b1 : W.heap[B1]? = some (.cells #[.slice A n c] t1 (0, 0)) := (hW.block B1 (Array.getElem?_eq_some_iff.1 h1).1).trans h1
      have b2 : W.heap[B2]? = some (.cells #[.int .i64 128] t2 (0, 0)) := (hW.block B2 (Array.getElem?_eq_some_iff.1 h2).1).trans h2
      exact ⟨cell_of_row _ _ _ _ _ _ (hk.2.1 b1), cell_of_row _ _ _ _ _ _ (hk.2.2 b2)⟩) ⟨[], rfl, h0⟩
    (fun W nq => KpC.d _ _ _ _ _ W nq)
    (fun pre W1 nq ⟨q, hq, hj⟩ => ⟨q, hq, hJ q W1 (W1.drewN nq) none hj ⟨rfl, rfl, rfl, Nat.le_refl _, fun _ _ _ => rfl⟩ (fun r e => by cases e)⟩)).mono
    fun e W' ⟨h1, h2⟩ => ⟨h1, h2.elim (fun ⟨q, hq, h⟩ => .inl ⟨q, hq, h⟩) (fun ⟨pre, hp, q, hq, h⟩ => .inr ⟨q, (hq ▸ hp : valC q <+: allC n), h⟩)⟩

def catU (l : List Int) (pre : List Nat) : List UInt8 := pre.flatMap fun j => oneB (chunkL l j)
theorem catU_snoc (l : List Int) (pre : List Nat) (j : Nat) : catU l (pre ++ [j]) = catU l pre ++ oneB (chunkL l j) := by simp [catU, List.flatMap_append]
theorem catU_all (l : List Int) : catU l (allC l.length) = putR l := rfl
theorem catU_le {l : List Int} (h : InI l) : ∀ pre, (catU l pre).length ≤ 1036 * pre.length
  | [] => by simp [catU]
  | j :: pre => by
    have h1 := catU_le h pre
    have h2 := oneB_le (chunk_in h j)
    have h3 := chunk_len l j
    have e : catU l (j :: pre) = oneB (chunkL l j) ++ catU l pre := by simp [catU]
    rw [e, List.length_append, List.length_cons]
    omega

/-- what Put keeps between two rounds. -/
structure PutI (w : World) (l : List Int) (pre : List Nat) (W : World) : Prop where
  fr : Fr No w W
  sz : w.heap.size + 3 ≤ W.heap.size
  own : ∃ v, W.heap[w.heap.size]? = some (.cells #[v] 25 (0, 0)) ∧ Own W (w.heap.size + 3) 5 1 v (catU l pre).length (by8 (catU l pre))
theorem PutI.from (w : World) (l : List Int) (B : Nat) (hB : w.heap.size ≤ B) : OwnFrom B (fun pre W => PutI w l pre W) := by
  rintro pre W W' row ⟨h1, h2, v, h3, h4⟩ hg hr
  have hr2 : ∀ r, row = some r → ∃ o : Obj, W.heap[r]? = some o ∧ o.isCells = false := fun r e => (hr r e).2
  exact ⟨h1.trans (Fr.of_grown hg) (fun i hi e => by have := (hr i e).1; omega), Nat.le_trans h2 (Fr.of_grown hg).size, v, blk_kept h3 rfl hg hr2, own_kept h4 hg hr2⟩

/-- numbers above, so far. -/
def abTo (ch : List Int) (q : Nat) : List Nat := (aboveL ch).take q ++ List.replicate (ch.length - q) 0
theorem abTo_0 (ch : List Int) : abTo ch 0 = List.replicate ch.length 0 := by simp [abTo]
theorem abTo_all (ch : List Int) : abTo ch ch.length = aboveL ch := by
  unfold abTo
  rw [Nat.sub_self, List.take_of_length_le (by rw [aboveL_len]; exact Nat.le_refl _)]
  simp
theorem abTo_set {ch : List Int} {q : Nat} (h : q < ch.length) : (nz (abTo ch q)).set q (.int .u64 (((ch.getD q 0 - minL ch).toNat : Nat) : Int)) = nz (abTo ch (q + 1)) := by
  rw [nz_set]
  congr 1
  unfold abTo
  have hl : ((aboveL ch).take q).length = q := by rw [List.length_take, aboveL_len]; omega
  rw [List.set_append, if_neg (by omega), hl, Nat.sub_self, show ch.length - q = (ch.length - (q + 1)) + 1 by omega, List.replicate_succ, List.set_cons_zero, take_snocN (by rw [aboveL_len]; exact h), aboveL_at h]
  simp
theorem box_put {w : World} {B : Nat} {v u : Value} {t : TypeId} (h : w.heap[B]? = some (.cells #[v] t (0, 0))) : (w.setCell ⟨B, 0, none⟩ u).heap[B]? = some (.cells #[u] t (0, 0)) := by
  have := heap_setCell_same w B 0 #[v] t u h
  simpa using this

set_option maxRecDepth 100000 in
set_option maxHeartbeats 4000000 in
theorem put_in (A : Option Addr) (n c B : Nat) (l : List Int) (w : World) (hl : l.length = n) (hi : InI l) (hn : n ≤ c) (hc : c ≤ maxLen) (hb : n ≤ 1048576) (hB : B ≤ w.heap.size) (hr : Rd w B A (iz .i64 l)) :
    CallsIn Fence.wide 4 Try.prog 70 #[.slice A n c] w (GivesB w (putR l)) := by
  obtain ⟨i0, hi0, hz, hsz, hby⟩ := info_parts Try.info5
  have hA : 0 < n → ∃ ad, A = some ad := fun h => by
    obtain ⟨ad, e, _⟩ := hr.intAt (j := 0) (by omega)
    exact ⟨ad, e⟩
  have HC := hide hc
  have HR := hide hr
  have HL := hide hl
  have HI := hide hi
  have hq : ∀ (a b : Option Addr) (W : World), (binOp .eql 126 (.func (.func 103) #[] #[.pointer a, .pointer b]) .nilFunc).run Try.prog W = .ok (.bool false) W := fun _ _ _ => by kernel_rfl
  clear hr hl hi
  refine callsIn_of_wp_marks Try.func70 rfl trivial ?_ rfl
  simp only [Try.ntmps70, List.size_toArray, List.length_cons, List.length_nil, Nat.reduceAdd, Nat.reduceSub, Array.replicate_succ, Array.replicate_zero, List.push_toArray, List.append_toArray, List.nil_append, List.cons_append]
  gi_wp2_with (refine ⟨trivial, ?_⟩; gi_at_call 87; refine (callsIn_wide.2 (chunkF_any A n c _)).mono ?_; rintro e w' ⟨rfl, rfl⟩)
  obtain ⟨W0, hW0⟩ : ∃ W0, W0 = ((w.alloc (.cells #[.slice none 0 0] 25)).alloc (.cells #[.slice A n c] 79)).alloc (.cells #[.int .i64 128] 3) := ⟨_, rfl⟩
  rw [← hW0]
  have hF0 : Fr No w W0 := by rw [hW0]; exact (((Fr.refl No w).alloc _).alloc _).alloc _
  have hs0 : W0.heap.size = w.heap.size + 3 := by rw [hW0]; simp
  have hb0 : W0.heap[w.heap.size]? = some (.cells #[.slice none 0 0] 25 (0, 0)) := by
    rw [hW0]
    exact (((Fr.refl No _).alloc _).alloc _).blk (box_h w _ _) (fun h => h)
  have hb1 : W0.heap[w.heap.size + 1]? = some (.cells #[.slice A n c] 79 (0, 0)) := by
    rw [hW0]
    have := box_h (w.alloc (.cells #[.slice none 0 0] 25)) (.slice A n c) 79
    rw [show (w.alloc (.cells #[.slice none 0 0] 25)).heap.size = w.heap.size + 1 by simp] at this
    exact ((Fr.refl No _).alloc _).blk this (fun h => h)
  have hb2 : W0.heap[w.heap.size + 1 + 1]? = some (.cells #[.int .i64 128] 3 (0, 0)) := by
    rw [hW0]
    have := box_h ((w.alloc (.cells #[.slice none 0 0] 25)).alloc (.cells #[.slice A n c] 79)) (.int .i64 128) 3
    simpa using this
  have hE0 : PutI w l [] W0 := ⟨hF0, by omega, _, hb0, Own.nil _ _ _ _⟩
  clear hW0
  refine wpIn_rangeFunc_ownF rfl (by omega) (gf := 103) (lb := #[.pointer (some ⟨w.heap.size + 1, 0, none⟩), .pointer (some ⟨w.heap.size + 1 + 1, 0, none⟩)]) rfl trivial (enters_of Try.func103 (by kernel_rfl) rfl)
    (chunk_stops 3 (by omega) (w.heap.size + 1) (w.heap.size + 1 + 1) A n c w.heap.size w W0 79 3 hA hn hc hb hb1 hb2) KpC.t (KpC.b (by omega) (by omega) (by omega)) (Below.refl _ _) (fun _ => rfl)
    (fun pre W => PutI w l (valC pre) W)
    (fun _ _ _ => False)
    (fun s W W' row h hg hr => PutI.from w l _ (by omega) _ W W' row h hg hr) (fun _ _ _ _ _ hs _ _ => hs) hE0
    (fun x => { tmps := #[.slice A n c, undef, .slice none 0 0, .pointer (some ⟨w.heap.size, 0, none⟩), chV A n x.1, undef, undef, undef, undef, undef, .slice A n c, .func (.func 103) #[] #[.pointer (some ⟨w.heap.size + 1, 0, none⟩), .pointer (some ⟨w.heap.size + 1 + 1, 0, none⟩)], chV A n x.1, undef, undef, undef, undef, undef, undef, undef, undef, undef, undef, undef, undef, undef, undef, undef, undef, undef, undef, undef, undef, undef, undef, undef, undef, undef, undef, undef, undef, undef, undef, undef, undef, undef, undef, undef, undef, undef], defers := [] }) ?assign ?body ?done ?stop
  case assign =>
    intro l x W K hK
    gi_wp2
    exact hK
  case body =>
    rintro lr pre ⟨j, hj⟩ W E hpl
    obtain ⟨v, hb, ho⟩ := E.own
    have hsz1 : w.heap.size + 3 ≤ W.heap.size := E.sz
    obtain ⟨Ab, cb, rfl, q1, q2, _⟩ := ho.form
    have hn0 : 0 < n := by unfold chunks at hj; omega
    obtain ⟨ad, rfl⟩ := hA hn0
    have hhl : 128 * j < n := by unfold chunks at hj; omega
    obtain ⟨ch, hch⟩ : ∃ x, x = chunkL l j := ⟨_, rfl⟩
    have hck := chunk_len l j
    rw [← hch, HL.out] at hck
    obtain ⟨k, hk⟩ : ∃ x, x = min 128 (n - 128 * j) := ⟨_, rfl⟩
    rw [← hk] at hck
    have hk1 : 1 ≤ k ∧ k ≤ 128 := by omega
    have hRc := (HR.out.fr0 E.fr).chunk j
    rw [← hch] at hRc
    obtain ⟨bd, hbd⟩ : ∃ x, x = ad.add (128 * j) := ⟨_, rfl⟩
    rw [← hbd] at hRc
    have hv : chV (some ad) n j = .slice (some bd) k k := by
      unfold chV
      rw [← hk, hbd]
      rfl
    have hci : InI ch := by rw [hch]; exact chunk_in HI.out j
    have HRc := hide hRc
    have HCk := hide hck
    have HCi := hide hci
    have HMin := hide (minI_any (some bd) k k B ch W hck hk1.1 (Nat.le_refl _) (by unfold maxLen; omega) hRc)
    obtain ⟨le, hle⟩ : ∃ m, m = minL ch := ⟨_, rfl⟩
    have hle1 : -9223372036854775808 ≤ le ∧ le ≤ 9223372036854775807 := by rw [hle]; exact minL_in hci
    rw [← hle] at HMin
    have HLe := hide hle
    have hmk := make_u64 k (by omega)
    have HO0 := hide (made_own W k 72 (.int .u64 0) _ rfl (by unfold maxLen; omega))
    rw [← nz_rep, ← hck, ← abTo_0, hck] at HO0
    generalize madeCells #[Value.int .u64 0] k = z at hmk HO0
    have hpl2 : pre.length ≤ 8192 := by unfold chunks at hpl; omega
    have hcl := catU_le HI.out (valC pre)
    have hcl2 : (valC pre).length = pre.length := by simp [valC]
    rw [hcl2] at hcl
    obtain ⟨m, hm⟩ : ∃ x, x = (catU l (valC pre)).length := ⟨_, rfl⟩
    have HSn := hide (catU_snoc l (valC pre) j)
    rw [← hch] at HSn
    have HVs := hide (valC_snoc pre ⟨j, hj⟩)
    generalize catU l (valC pre) = cu at hm ho hcl HSn q1 hb
    rw [← hm] at ho hcl q1 hb
    have HM := hide hm
    have hmb : m ≤ 8486912 := by omega
    have HE := hide E
    have HO := hide ho
    have HBx := hide hb
    have hcb : cb ≤ 9223372036854775807 := by unfold maxLen at q2; exact q2
    have HQ2 := hide q2
    obtain ⟨wd, hwd⟩ : ∃ x, x = wid (aboveL ch) := ⟨_, rfl⟩
    have hwd64 : wd ≤ 64 := by rw [hwd]; exact wid_above hci
    have HWd := hide hwd
    have HE1 : Hid (oneB ch = enc (zz le) ++ [UInt8.ofNat wd] ++ packed wd (aboveL ch)) := hide (by unfold oneB; rw [← hle, ← hwd])
    have hel := (enc_len (zz le)).2
    have HEl := hide hel
    obtain ⟨en, hen⟩ : ∃ x, x = (enc (zz le)).length := ⟨_, rfl⟩
    rw [← hen] at hel
    have HEn := hide hen
    obtain ⟨EB, hEB⟩ : ∃ x, x = enc (zz le) := ⟨_, rfl⟩
    rw [← hEB] at HE1 hen HEn
    have HEQ := hide hEB.symm
    clear hEB
    have hpk : (packed wd (aboveL ch)).length ≤ 1025 := by rw [packed_len, aboveL_len, hck]; have := psz_le (n := k) hwd64; omega
    obtain ⟨pn, hpn⟩ : ∃ x, x = (packed wd (aboveL ch)).length := ⟨_, rfl⟩
    rw [← hpn] at hpk
    have HPn := hide hpn
    have H64 := hide (aboveL_64 hci)
    have HAl := hide ((aboveL_len ch).trans hck)
    dsimp only
    rw [hv]
    clear E ho hb hRc hck hk hbd hv hci hle q2 hm hwd hen hpn hch hcl2 hhl hpl hF0 hs0 hb0 hb1 hb2 hE0
    gi_wp2_with (refine ⟨trivial, ?_⟩; gi_at_call 88; refine (CallsIn.inRound lr (callsIn_wide.2 HMin.out)).mono ?_; rintro e w' ⟨rfl, rfl⟩)
    gi_loopw [7, 8, 20] (fun a b i wr => ∃ q : Nat, q ≤ k ∧ i = .int .i64 q ∧ Hid (Own wr W.heap.size 72 1 (.slice (some ⟨W.heap.size, 0, none⟩) k k) k (nz (abTo ch q))) ∧ Hid (Fr No W wr)) (fun _ _ i _ => k - (intOf i).toNat)
    case atStart => exact ⟨0, by omega, rfl, HO0, hide ((Fr.refl No W).alloc _)⟩
    case round =>
      obtain ⟨q, hq1, rfl, HOw, HFw⟩ := hrel
      by_cases hqk : q < k
      · have h1 : q < ch.length := by rw [HCk.out]; exact hqk
        obtain ⟨ad2, e2, _, hcx⟩ := (HRc.out.fr0 HFw.out).intAt h1
        injection e2 with e2
        subst e2
        have hx := HCi.out.at h1
        have hmx := minL_at h1
        rw [← HLe.out] at hmx
        have HS := hide (abTo_set h1)
        rw [← HLe.out] at HS
        obtain ⟨hco, hf1, hput⟩ := HOw.out.put (k := q) hqk
        have hsome : ∃ u0, (nz (abTo ch q))[q]? = some u0 := HOw.out.some_at hqk
        obtain ⟨u0, hu0⟩ := hsome
        rw [hu0] at hco
        have HPut := hide hput
        generalize ch.getD q 0 = x at hcx HS hx hmx
        have HV := above_val hx hle1 hmx
        obtain ⟨u, hu⟩ : ∃ u, u = (x - le).toNat := ⟨_, rfl⟩
        rw [← hu] at HV HS
        clear h1 hu hput hu0
        gi_wp2
        go_roundw
        case rel => exact ⟨q + 1, by omega, by go_num, hide (by rw [← HS.out]; exact HPut.out _), hide (Fr.putG _ _ _ _ _ HFw.out (Nat.le_refl _))⟩
        case measure => simp [intOf]; omega
      · obtain rfl : q = k := by omega
        have hab := HOw.out
        have hall : abTo ch q = aboveL ch := by rw [← HCk.out]; exact abTo_all ch
        rw [hall] at hab
        have HA2 := hide hab
        have HWc := hide (width_any (some ⟨W.heap.size, 0, none⟩) q q _ (aboveL ch) wr HAl.out H64.out (Nat.le_refl _) (by unfold maxLen; omega) hab.rd)
        rw [← HWd.out] at HWc
        have hgr := HFw.out.size
        have hbox := HFw.out.blk HBx.out (fun h => h)
        have cbx : wr.cell? ⟨w.heap.size, 0, none⟩ = some (.slice Ab m cb) := cell_of_row _ _ 0 _ _ _ hbox
        have HBox := hide hbox
        have HPu := hide (putI_any Ab m cb wr.heap.size cu le wr HM.out.symm q1 HQ2.out (by omega) (Nat.le_refl _) (HO.out.fr0 HFw.out).rd hle1.1 hle1.2)
        have b1 : (m + en + 1) * 1 ≤ 140737488355328 := by omega
        have b2 : m + en + 1 ≤ maxLen := by unfold maxLen; omega
        have c1 : (m + en + 1 + pn) * 1 ≤ 140737488355328 := by omega
        have c2 : m + en + 1 + pn ≤ maxLen := by unfold maxLen; omega
        have HW8 := hide (ofNat_toNat (x := wd) (by omega))
        have HML : Hid ((cu ++ EB).length = m + en) := hide (by rw [List.length_append, ← HM.out, ← HEn.out])
        have HZE : Hid (enc (zz le) = EB) := hide HEQ.out
        rw [HZE.out] at HPu
        clear hab hall hbox hqk
        gi_wp2_with (first
          | (refine ⟨trivial, ?_⟩; gi_at_call 89; refine (CallsIn.inRound lr (callsIn_wide.2 HWc.out)).mono ?_; rintro e w' ⟨rfl, rfl⟩)
          | (refine ⟨trivial, ?_⟩; gi_at_call 90; refine (CallsIn.inRound lr (callsIn_wide.2 HPu.out)).mono ?_; rintro e w2 ⟨v2, rfl, hown, hfr⟩; rw [HML.out] at hown; obtain ⟨A2, k2, rfl, x1, x2, _⟩ := hown.form; have hb2 := hfr.blk HBox.out (fun h => h); have cb2 : w2.cell? ⟨w.heap.size, 0, none⟩ = some (.slice Ab m cb) := cell_of_row _ _ 0 _ _ _ hb2; have fb2 : w2.frozen? ⟨w.heap.size, 0, none⟩ = false := frozen_of_row _ _ _ _ _ hb2; have HB3 := hide (box_put (u := .slice A2 (m + en) k2) hb2); have cb3 : (w2.setCell ⟨w.heap.size, 0, none⟩ (.slice A2 (m + en) k2)).cell? ⟨w.heap.size, 0, none⟩ = some (.slice A2 (m + en) k2) := cell_of_row _ _ 0 _ _ _ HB3.out; have HF2 := hide (HFw.out.tr hfr); have HZ2 := hide hfr.size; have HS3 := hide (Src.one (P := Try.prog) (w2.setCell ⟨w.heap.size, 0, none⟩ (.slice A2 (m + en) k2)) (e := 5) Try.underlying25 (.int .u8 (wd : Nat)) rfl); have HS3b : Hid (Src Try.prog 1 25 (.slice (some ⟨w2.heap.size, 0, none⟩) 1 1) 1 [.int .u8 (wd : Nat)] ((w2.setCell ⟨w.heap.size, 0, none⟩ (.slice A2 (m + en) k2)).alloc (.cells #[.int .u8 (wd : Nat)] 5))) := hide (by have h := HS3.out; rw [show (w2.setCell ⟨w.heap.size, 0, none⟩ (.slice A2 (m + en) k2)).heap.size = w2.heap.size by simp [World.setCell]] at h; exact h); have HF3 : Hid (Fr (Is w.heap.size) W (w2.setCell ⟨w.heap.size, 0, none⟩ (.slice A2 (m + en) k2))) := hide ((HF2.out.any (Is w.heap.size)).put _ _); have HO3 := hide (hown.fr ((Fr.refl (Is w.heap.size) w2).put 0 (.slice A2 (m + en) k2)) (fun g hg e => by have e : g = w.heap.size := e; have := (hown.lt g hg).1; omega)); have HA3 := hide ((HA2.out.fr0 hfr).fr ((Fr.refl (Is w.heap.size) w2).put 0 (.slice A2 (m + en) k2)) (fun g hg e => by have e : g = w.heap.size := e; have := (HA2.out.lt g hg).1; omega)); unfold maxLen at x2; clear hown hfr hb2)
          | (gi_at_builtin; refine wpListIn_append_gen _ rfl (.tmp 39) (.tmp 42) 25 25 rfl wr.heap.size 5 i0 (.int .u8 0) 1 1 Try.underlying25 hi0 hz hsz hby rfl (.slice A2 (m + en) k2) (m + en) (by8 (cu ++ EB)) rfl (HO3.out.fr0 ((Fr.refl No _).alloc (.cells #[.int .u8 (wd : Nat)] 5))) _ 1 [.int .u8 (wd : Nat)] rfl (by first | exact HS3.out | exact HS3b.out) b1 b2 (by have := HZ2.out; simp [World.setCell]; omega) ?_; intro v4 w4 hown hfr hat; have HO4 := hide hown; have HF4 : Hid (Fr (Is w.heap.size) W w4) := hide ((HF3.out.alloc _).own hfr (fun g hg => .inl (by have := (HO3.out.lt g hg).1; omega))); have HA4 := hide ((HA3.out.fr0 ((Fr.refl No _).alloc (.cells #[.int .u8 (wd : Nat)] 5))).fr hfr (fun g hg e => HO3.out.ne_own HA3.out (by decide) hg e)); have HB4 := hide (hfr.blk (((Fr.refl No _).alloc (.cells #[.int .u8 (wd : Nat)] 5)).blk HB3.out (fun h => h)) (fun e => by have h2 := (HO3.out.lt w.heap.size e).1; omega)); have HZ5 := hide (show wr.heap.size ≤ w4.heap.size by have h1 := hfr.size; have h2 := HF2.out.size; have h3 := HZ2.out; simp [World.setCell] at h1; omega); clear hown hfr hat)
          | (refine ⟨trivial, ?_⟩; gi_at_call 91; have HBi := bits_any (some ⟨W.heap.size, 0, none⟩) q q w4.heap.size wd (aboveL ch) w4 HAl.out H64.out (Nat.le_refl _) (by unfold maxLen; omega) (by omega) (Nat.le_refl _) (HA4.out.rd); rw [show bitsZ (aboveL ch) wd = packed wd (aboveL ch) by unfold bitsZ; rw [if_pos (by omega)]; rfl] at HBi; refine (CallsIn.inRound lr (callsIn_wide.2 HBi)).mono ?_; clear HBi; rintro e w5 ⟨v5, rfl, hown, hfr⟩; rw [← HPn.out] at hown; obtain ⟨A5, k5, rfl, _⟩ := hown.form; have HS5 := hide (Src.ofRd (P := Try.prog) (size := 1) w5 Try.underlying25 A5 pn k5 (by8 (packed wd (aboveL ch))) (by rw [by8_length, HPn.out]; omega) (by omega) hown.rd (by8_one _)); have HO5 := hide (HO4.out.fr0 hfr); have HF5 := hide (HF4.out.tr hfr); have HB5 := hide (hfr.blk HB4.out (fun h => h)); have HZ6 := hide hfr.size; clear hown hfr)
          | (gi_at_builtin; refine wpListIn_append_gen _ rfl (.tmp 43) (.tmp 46) 25 25 rfl wr.heap.size 5 i0 (.int .u8 0) 1 1 Try.underlying25 hi0 hz hsz hby rfl v4 (m + en + 1) _ rfl HO5.out _ pn (by8 (packed wd (aboveL ch))) rfl HS5.out c1 c2 (by have := HZ5.out; have := HZ6.out; omega) ?_; intro v6 w6 hown hfr hat; obtain ⟨A6, k6, rfl, _⟩ := hown.form; have hb6 := hfr.blk HB5.out (fun e => by have h2 := (HO5.out.lt w.heap.size e).1; omega); have cb6 : w6.cell? ⟨w.heap.size, 0, none⟩ = some (.slice A2 (m + en) k2) := cell_of_row _ _ 0 _ _ _ hb6; have fb6 : w6.frozen? ⟨w.heap.size, 0, none⟩ = false := frozen_of_row _ _ _ _ _ hb6; have HB7 := hide (box_put (u := .slice A6 (m + en + 1 + pn) k6) hb6); have HF6 : Hid (Fr (Is w.heap.size) W w6) := hide (HF5.out.own hfr (fun g hg => .inl (by have := (HO5.out.lt g hg).1; omega))); have HO6 := hide hown; clear hown hfr hat hb6))
        have HF7 := HF6.out.put 0 (.slice A6 (m + en + 1 + pn) k6)
        refine ⟨keeps_of_fr HF7 ?_, KpC.fr HF7 (by omega) ?_ ?_ ?_, HE.out.fr.trans HF7 (fun i hi e => by have e : i = w.heap.size := e; omega), Nat.le_trans hsz1 HF7.size, _, HB7.out, ?_⟩
        · intro g o e hg
          have e : g = w.heap.size := e
          subst e
          rw [HBx.out] at hg
          injection hg with hg
          subst hg
          rfl
        · intro g hg e
          have e : g = w.heap.size := e
          omega
        · intro e
          have e : w.heap.size + 1 = w.heap.size := e
          omega
        · intro e
          have e : w.heap.size + 1 + 1 = w.heap.size := e
          omega
        · have hlen : (catU l (valC (pre ++ [⟨j, hj⟩]))).length = m + en + 1 + pn := by
            rw [HVs.out, HSn.out, HE1.out]
            simp [← HM.out, ← HEn.out, ← HPn.out]
            omega
          have hby : by8 (catU l (valC (pre ++ [⟨j, hj⟩]))) = by8 (cu ++ EB) ++ [.int .u8 (wd : Nat)] ++ by8 (packed wd (aboveL ch)) := by
            rw [HVs.out, HSn.out, HE1.out]
            have e8 : by8 [UInt8.ofNat wd] = [.int .u8 (wd : Nat)] := by simp only [by8, List.map_cons, List.map_nil, HW8.out]
            rw [by8_append, by8_append, by8_append, by8_append, e8]
            simp
          rw [hlen, hby]
          exact (HO6.out.lower (by omega)).fr ((Fr.refl (Is w.heap.size) w6).put 0 _) (fun g hg e => by have e : g = w.heap.size := e; have := (HO6.out.lt g hg).1; omega)
  case done =>
    rintro D ys W hD hys E hK
    obtain ⟨v, hb, ho⟩ := E.own
    obtain ⟨Ab, cb, rfl, q1, q2, _⟩ := ho.form
    rw [hys, ← HL.out, catU_all] at ho hb q1
    obtain ⟨m, hm⟩ : ∃ x, x = (putR l).length := ⟨_, rfl⟩
    rw [← hm] at ho hb q1
    have HM := hide hm
    have c3 : W.cell? ⟨w.heap.size, 0, none⟩ = some (.slice Ab m cb) := cell_of_row _ _ 0 _ _ _ hb
    have HO := hide ho
    have HF := hide E.fr
    have HK := hide hK
    have HQ2 := hide q2
    have hD2 : w.heap.size + 3 ≤ D := by omega
    clear E ho hb hys hK hF0 hs0 hb0 hb1 hb2 hE0 hm q2 hA
    gi_wp2_with (refine ⟨trivial, ?_⟩; gi_at_call 44; refine (callsIn_wide.2 (clip_any Ab m cb W q1 HQ2.out)).mono ?_; rintro e w' ⟨rfl, rfl⟩)
    refine ⟨by simp, .inl ⟨_, _, rfl, run_takeDeferred HK.out, ?_⟩⟩
    refine ⟨_, results_tmp rfl _ _ _, ?_⟩
    have f1 : Fr (fun k => k = D) W (W.putObj D (.deferred none)) := (Fr.of_grown (grownBy_putObj' W D (.deferred none))).mono (fun i _ e => (Option.some.inj e).symm)
    refine ⟨_, rfl, ?_, HF.out.trans f1 (fun i hi e => by have e : i = D := e; omega)⟩
    rw [← HM.out]
    exact (HO.out.clip.lower (by omega)).fr f1 (fun k hk e => by
      have e : k = D := e
      subst e
      obtain ⟨_, A', c', hv, _, _, hA⟩ := HO.out
      injection hv with hv _ _
      subst hv
      rcases hA with ⟨rfl, _⟩ | ⟨g', cur, rfl, _, hh, _⟩
      · cases hk
      · have e : g' = k := Option.some.inj hk
        subst e
        rw [HK.out] at hh
        cases hh)
  case stop =>
    rintro D c pre W _ _ h _
    exact h.elim
theorem put_any (A : Option Addr) (n c B : Nat) (l : List Int) (w : World) (hl : l.length = n) (hi : InI l) (hn : n ≤ c) (hc : c ≤ maxLen) (hb : n ≤ 1048576) (hB : B ≤ w.heap.size) (hr : Rd w B A (iz .i64 l)) :
    Calls Try.prog 70 #[.slice A n c] w (GivesB w (putR l)) := callsIn_wide.1 (put_in A n c B l w hl hi hn hc hb hB hr)
end Go.Proofs.Ythlbfnoahdjdeaa
namespace Go.Proofs.Ythlbfnoahdjdeaa
set_option linter.unusedVariables false
set_option linter.unusedSimpArgs false
open Go.RowKit

theorem flat_succ {bss : List (List UInt8)} {k : Nat} {bs : List UInt8} (h : bss[k]? = some bs) : (bss.take (k + 1)).flatten = (bss.take k).flatten ++ bs := by
  obtain ⟨h1, h2⟩ := List.getElem?_eq_some_iff.1 h
  rw [List.take_succ_eq_append_getElem h1, List.flatten_append, h2]
  simp
theorem flat_le (bss : List (List UInt8)) (k : Nat) : (bss.take k).flatten.length ≤ bss.flatten.length := by
  have h : bss.flatten = (bss.take k).flatten ++ (bss.drop k).flatten := by rw [← List.flatten_append, List.take_append_drop]
  rw [h, List.length_append]
  omega

def GivesO (w : World) (en : Ending) (w' : World) : Prop := ∃ v, en = .returned v ∧ Own w' w.heap.size 5 1 v 0 [] ∧ Fr No w w'

set_option maxRecDepth 100000 in
set_option maxHeartbeats 400000 in
theorem grow_nil (n : Nat) (w : World) (hn : n ≤ 140737488350000) : Calls Try.prog 86 #[.slice none 0 0, .int .i64 (n : Nat)] w (GivesO w) := by
  by_cases h0 : n = 0
  · subst h0
    go_enter Try.func86, Try.ntmps86
    go_wp2
    go_ret
    exact ⟨_, rfl, Own.nil _ _ _ _, Fr.refl _ _⟩
  · obtain ⟨i0, hi, hz, hsz, hby⟩ := info_parts Try.info5
    have hrz : ∀ ty, (Builtin.append_ #[25, 3] ty #[.slice none 0 0, .int .i64 (n : Nat)]).run Try.prog w = _ := fun ty =>
      Lib.run_append_grow_zeros w 25 3 ty 5 i0 (.int .u8 0) .i64 .i64 Try.underlying25 Try.underlying3 hi hz none 0 0 [] (run_firstCells_none w.drew i0.size 0 0 0) n (by omega) (by omega) (by omega) (by omega)
        (by rw [hby]; omega) (growslice_fits (by omega) (by rw [hby]; omega))
    simp only [Nat.zero_add] at hrz
    have hG := grownCap_ge w n 0 5
    have hG2 := grownCap_le_maxLen w n 0 5 (by unfold maxLen; omega)
    generalize grownCap w n 0 5 = G at hrz hG hG2
    have HN := hide (show Own (w.drew.alloc (.cells (([] : List Value).toArray ++ Builtin.zeroCells (Value.int .u8 0).cells n ++ Builtin.zeroCells (Value.int .u8 0).cells (G - n)) 5)) w.heap.size 5 1 (.slice (some ⟨w.heap.size, 0, none⟩) 0 G) 0 [] from
      ⟨rfl, _, G, rfl, Nat.zero_le _, hG2, .inr ⟨w.heap.size, _, rfl, Nat.le_refl _, heap_alloc_new w.drew _, by simp [size_zeroCells, Value.cells]; omega, by simp⟩⟩)
    unfold maxLen at hG2
    generalize ([] : List Value).toArray ++ Builtin.zeroCells (Value.int .u8 0).cells n ++ Builtin.zeroCells (Value.int .u8 0).cells (G - n) = cs at hrz HN
    go_enter Try.func86, Try.ntmps86
    go_wp2_with (at_builtin; refine Lib.wpList_append_run _ rfl _ _ _ _ rfl _ _ rfl rfl _ _ (hrz _) ?_)
    go_ret
    exact ⟨_, rfl, HN.out, (Fr.refl _ _).drew.alloc _⟩

set_option maxRecDepth 100000 in
set_option maxHeartbeats 800000 in
theorem concat_any (A : Option Addr) (n c B : Nat) (bss : List (List UInt8)) (w : World) (hl : bss.length = n) (hn : n ≤ c) (hc : c ≤ maxLen) (hB : B ≤ w.heap.size) (hr : BSl w B A bss) (hb : bss.flatten.length ≤ 140737488350000) :
    Calls Try.prog 69 #[.slice A n c] w (GivesB w bss.flatten) := by
  unfold maxLen at hc
  have HR := hide hr
  have HL := hide hl
  have HLe := hide (flat_le bss)
  clear hr hl
  obtain ⟨i0, hi, hz, hsz, hby⟩ := info_parts Try.info5
  obtain ⟨T, hT⟩ : ∃ T, T = bss.flatten.length := ⟨_, rfl⟩
  rw [← hT] at HLe hb
  have HTT := hide hT
  clear hT
  go_enter Try.func69, Try.ntmps69
  go_wp2
  go_loopw [3, 11] (fun s i wr => ∃ (k x nq : Nat), k ≤ n ∧ x ≤ T ∧ i = .int .i64 k ∧ s = .int .i64 (x : Nat) ∧ Hid (x = (bss.take k).flatten.length) ∧ wr = w.drewN nq) (fun _ i _ => n - (intOf i).toNat)
  case atStart => exact ⟨0, 0, 0, by omega, by omega, rfl, rfl, hide rfl, rfl⟩
  case round =>
    obtain ⟨k, x, nq, hk, hxT, rfl, rfl, HX, rfl⟩ := hrel
    by_cases hlt : k < n
    · obtain ⟨bs, hx⟩ : ∃ bs, bss[k]? = some bs := ⟨_, List.getElem?_eq_getElem (by rw [HL.out]; exact hlt)⟩
      obtain ⟨ad, Aj, cj, rfl, _, hcell, hj1, hj2, _⟩ := HR.out k bs hx
      have HN := hide (flat_succ hx)
      obtain ⟨m, hm⟩ : ∃ m, m = bs.length := ⟨_, rfl⟩
      have hTm : x + m ≤ T := by
        have := HLe.out (k + 1)
        rw [HN.out, List.length_append, ← HX.out, ← hm] at this
        exact this
      rw [← hm] at hcell hj1
      have HM := hide hm
      unfold maxLen at hj2
      clear hx hm
      go_wp2
      go_roundw
      case rel => exact ⟨k + 1, x + m, _, by omega, by omega, by go_num, by go_num, hide (by rw [HN.out, List.length_append, ← HX.out, ← HM.out]), rfl⟩
      case measure => simp [intOf]; omega
    · obtain rfl : k = n := by omega
      go_wp2_with (go_at_call 86; refine (grow_nil _ _ (by omega)).mono ?_; rintro en w1 ⟨v0, rfl, hown, hfr⟩; have O1 := hide hown; have F1 := hide hfr; clear hown hfr)
      clear hlt hk
      go_loopw [6, 27] (fun v i wr => ∃ (j : Nat) (dn : List UInt8), j ≤ k ∧ i = .int .i64 j ∧ Hid (dn = (bss.take j).flatten) ∧ Hid (Own wr w.heap.size 5 1 v dn.length (by8 dn)) ∧ Hid (Fr No w wr)) (fun _ i _ => k - (intOf i).toNat)
      case atStart => exact ⟨0, [], by omega, rfl, hide rfl, O1, hide ((Fr.refl _ _).drewN _ |>.tr F1.out)⟩
      case round =>
        clear O1 F1
        obtain ⟨j, dn, hj, rfl, HD, OW, FW⟩ := hrel
        by_cases hlt : j < k
        · obtain ⟨bs, hx⟩ : ∃ bs, bss[j]? = some bs := ⟨_, List.getElem?_eq_getElem (by rw [HL.out]; exact hlt)⟩
          obtain ⟨ad, Aj, cj, rfl, _, hcell, hj1, hj2, hrj⟩ := (HR.out.fr0 FW.out) j bs hx
          have HN := hide (flat_succ hx)
          have hb2 : dn.length + bs.length ≤ T := by
            have := HLe.out (j + 1)
            rw [HN.out, List.length_append, ← HD.out] at this
            exact this
          have HS := hide (Src.ofRd (P := Try.prog) (size := 1) wr Try.underlying25 Aj bs.length cj (by8 bs) (by rw [by8_length]; omega) (by omega) hrj (by8_one _))
          obtain ⟨nx, HNX⟩ : ∃ nx, Hid (nx = dn ++ bs) := ⟨_, hide rfl⟩
          have HLn := hide (show nx.length = dn.length + bs.length by rw [HNX.out, List.length_append])
          have HNE := hide (show nx = (bss.take (j + 1)).flatten by rw [HNX.out, HN.out, HD.out])
          have HB8 := hide (show by8 dn ++ by8 bs = by8 nx by rw [HNX.out, by8_append])
          obtain ⟨m, hm⟩ : ∃ m, m = bs.length := ⟨_, rfl⟩
          rw [← hm] at hcell hj1 hb2 HS HLn
          obtain ⟨d, hd⟩ : ∃ d, d = dn.length := ⟨_, rfl⟩
          rw [← hd] at hb2 HLn OW
          unfold maxLen at hj2
          clear hx hm hd hrj
          have b1 : (d + m) * 1 ≤ 140737488355328 := by omega
          have b2 : d + m ≤ maxLen := by unfold maxLen; omega
          have hW := FW.out.size
          go_wp2_with (at_builtin; refine wpList_append_gen _ rfl _ _ 25 25 rfl w.heap.size 5 i0 (.int .u8 0) 1 1 Try.underlying25 hi hz hsz hby rfl _ d (by8 dn) rfl OW.out _ m (by8 bs) rfl HS.out b1 b2 hW ?_; intro v2 w2 hown hfr hat; have O2 := hide hown; have F2 : Hid (Fr No w w2) := hide (FW.out.own hfr (fun g hg => .inl (OW.out.lt g hg).1)); clear hown hfr hat)
          go_roundw
          case rel => exact ⟨j + 1, nx, by omega, by go_num, HNE, hide (by rw [HLn.out, ← HB8.out]; exact O2.out), F2⟩
          case measure => simp [intOf]; omega
        · obtain rfl : k = j := by omega
          have HE := hide (show dn = bss.flatten by rw [HD.out, List.take_of_length_le (Nat.le_of_eq HL.out)])
          go_wp2
          go_ret
          exact ⟨_, rfl, by rw [← HE.out]; exact OW.out, FW.out⟩
end Go.Proofs.Ythlbfnoahdjdeaa
namespace Go.Proofs.Ythlbfnoahdjdeaa
set_option linter.unusedVariables false
set_option linter.unusedSimpArgs false
open Go.RowKit

structure R3 (w : World) (base : Nat) (vd vf vp : Value) (D F P : List Int) : Prop where
  d : Own w base 2 1 vd D.length (iz .i64 D)
  f : Own w base 2 1 vf F.length (iz .i64 F)
  p : Own w base 2 1 vp P.length (iz .i64 P)
  df : ∀ k, vd.ownBlock = some k → vf.ownBlock ≠ some k
  dp : ∀ k, vd.ownBlock = some k → vp.ownBlock ≠ some k
  fp : ∀ k, vf.ownBlock = some k → vp.ownBlock ≠ some k
theorem R3.nil (w : World) (base : Nat) : R3 w base (.slice none 0 0) (.slice none 0 0) (.slice none 0 0) [] [] [] := ⟨Own.nil _ _ _ _, Own.nil _ _ _ _, Own.nil _ _ _ _, (fun k h => nomatch h), (fun k h => nomatch h), (fun k h => nomatch h)⟩
theorem R3.rot {w : World} {base : Nat} {vd vf vp : Value} {D F P : List Int} (h : R3 w base vd vf vp D F P) : R3 w base vf vp vd F P D :=
  ⟨h.f, h.p, h.d, h.fp, fun k a b => h.df k b a, fun k a b => h.dp k b a⟩
theorem R3.fr0 {w w' : World} {base : Nat} {vd vf vp : Value} {D F P : List Int} (h : R3 w base vd vf vp D F P) (f : Fr No w w') : R3 w' base vd vf vp D F P := ⟨h.d.fr0 f, h.f.fr0 f, h.p.fr0 f, h.df, h.dp, h.fp⟩
theorem iz_snoc (l : List Int) (x : Int) : iz .i64 (l ++ [x]) = iz .i64 l ++ [.int .i64 x] := by simp [iz]
theorem R3.app {w w1 w' : World} {base : Nat} {vd vf vp v' : Value} {D F P : List Int} {x : Int} (h : R3 w base vd vf vp D F P) (f1 : Fr No w w1) (ho : Own w' base 2 1 v' (D.length + 1) (iz .i64 D ++ [.int .i64 x])) (hf : Fr (fun k => vd.ownBlock = some k) w1 w') (hat : v'.ownBlock = vd.ownBlock ∨ v'.ownBlock = some w1.heap.size) :
    R3 w' base v' vf vp (D ++ [x]) F P := by
  have h1 := h.fr0 f1
  refine ⟨?_, h1.f.fr hf (fun g e1 e2 => h1.df g e2 e1), h1.p.fr hf (fun g e1 e2 => h1.dp g e2 e1), fun k e1 e2 => ?_, fun k e1 e2 => ?_, h1.fp⟩
  · rw [List.length_append, iz_snoc]; exact ho
  · rcases hat with h | h
    · rw [h] at e1; exact h1.df k e1 e2
    · rw [h] at e1
      injection e1 with e1
      have := (h1.f.lt k e2).2
      omega
  · rcases hat with h | h
    · rw [h] at e1; exact h1.dp k e1 e2
    · rw [h] at e1
      injection e1 with e1
      have := (h1.p.lt k e2).2
      omega
theorem R3.frame {w w1 w' : World} {base : Nat} {vd vf vp : Value} {D F P : List Int} (h : R3 w1 base vd vf vp D F P) (f : Fr No w w1) (hb : w.heap.size ≤ base) (hf : Fr (fun k => vd.ownBlock = some k) w1 w') : Fr No w w' := f.trans hf (fun k hk e => by have := (h.d.lt k e).1; omega)
theorem putR_le {l : List Int} (h : InI l) : (putR l).length ≤ 1036 * ((l.length + 127) / 128) := by
  have h1 := catU_le h (allC l.length)
  rw [catU_all] at h1
  have h2 : (allC l.length).length = (l.length + 127) / 128 := by simp [allC, chunks]
  rw [h2] at h1
  exact h1
/-- a row of three rows of bytes, built. -/
theorem BSl.three {w : World} {A1 A2 A3 : Option Addr} {c1 c2 c3 : Nat} {x y z : List UInt8} {e : TypeId} (h1 : x.length ≤ c1) (k1 : c1 ≤ maxLen) (r1 : Rd w w.heap.size A1 (by8 x)) (h2 : y.length ≤ c2) (k2 : c2 ≤ maxLen) (r2 : Rd w w.heap.size A2 (by8 y)) (h3 : z.length ≤ c3) (k3 : c3 ≤ maxLen) (r3 : Rd w w.heap.size A3 (by8 z)) :
    BSl (w.alloc (.cells #[.slice A1 x.length c1, .slice A2 y.length c2, .slice A3 z.length c3] e)) (w.heap.size + 1) (some ⟨w.heap.size, 0, none⟩) [x, y, z] := by
  have hb := heap_alloc_new w (.cells #[.slice A1 x.length c1, .slice A2 y.length c2, .slice A3 z.length c3] e)
  have f : Fr No w (w.alloc (.cells #[.slice A1 x.length c1, .slice A2 y.length c2, .slice A3 z.length c3] e)) := (Fr.refl No w).alloc _
  intro j bs hj
  match j, hj with
  | 0, hj =>
    simp at hj; subst hj
    exact ⟨_, A1, c1, rfl, Nat.lt_succ_self _, by simp [Addr.add], h1, k1, (r1.fr0 f).more (by omega)⟩
  | 1, hj =>
    simp at hj; subst hj
    exact ⟨_, A2, c2, rfl, Nat.lt_succ_self _, by simp [Addr.add], h2, k2, (r2.fr0 f).more (by omega)⟩
  | 2, hj =>
    simp at hj; subst hj
    exact ⟨_, A3, c3, rfl, Nat.lt_succ_self _, by simp [Addr.add], h3, k3, (r3.fr0 f).more (by omega)⟩
  | j + 3, hj => simp at hj
end Go.Proofs.Ythlbfnoahdjdeaa
namespace Go.Proofs.Ythlbfnoahdjdeaa
set_option linter.unusedVariables false
set_option linter.unusedSimpArgs false
open Go.RowKit

theorem wp_named {P : Program} {s : Code} {Q : Exit → Act → World → Prop} {a : Act} {w : World} (h : ∀ K : Act → World → Prop, (∀ a' w', Q .normal a' w' → K a' w') → s.wp P (Exit.then K Q) a w) : s.wp P Q a w := by
  refine wp_mono (h (Q .normal) (fun _ _ h => h)) ?_
  intro e a' w' hq
  cases e <;> exact hq
theorem wp_act {P : Program} {s : Code} {Q : Exit → Act → World → Prop} {a : Act} {w : World} (h : ∀ a', a' = a → s.wp P Q a' w) : s.wp P Q a w := h a rfl
/-- a question, answered. -/
theorem said (p : Prop) : ∃ b : Bool, (b = true ↔ p) := by
  by_cases h : p
  · exact ⟨true, by simp [h]⟩
  · exact ⟨false, by simp [h]⟩
end Go.Proofs.Ythlbfnoahdjdeaa
namespace Go.Proofs.Ythlbfnoahdjdeaa
set_option linter.unusedVariables false
set_option linter.unusedSimpArgs false
open Go.RowKit

/-- so much is read: the rest of the row decides. -/
def Mid (b : List UInt8) (N : Nat) (xs : List Int) (a : Nat) : Prop := xs.length ≤ N ∧ InI xs ∧ a ≤ b.length ∧ getF N b 0 N = (getF (N - xs.length) b a (N - xs.length)).map fun r => (xs ++ r.1, r.2)
theorem Mid.start (b : List UInt8) (N : Nat) : Mid b N [] 0 := by
  refine ⟨Nat.zero_le _, (fun x h => by cases h), Nat.zero_le _, ?_⟩
  simp
theorem Mid.step {b : List UInt8} {N : Nat} {xs : List Int} {a : Nat} (h : Mid b N xs a) (hlt : xs.length < N) {x : List Int} {m : Nat} (hb : blkB (b.drop a) (min (N - xs.length) 128) = some (x, m)) : Mid b N (xs ++ x) (a + m) ∧ x.length = min (N - xs.length) 128 := by
  obtain ⟨h1, h2, h3, h4⟩ := h
  obtain ⟨q1, q2, q3, q4, q5⟩ := blk_parts hb
  rw [List.length_drop] at q4
  refine ⟨⟨by rw [List.length_append]; omega, ?_, by omega, ?_⟩, q1⟩
  · intro y hy
    rcases List.mem_append.1 hy with hy | hy
    · exact h2 y hy
    · exact q2 y hy
  · rw [h4]
    obtain ⟨f, hf⟩ : ∃ f, N - xs.length = f + 1 := ⟨N - xs.length - 1, by omega⟩
    rw [hf] at hb ⊢
    rw [getF, if_neg (by omega), hb]
    dsimp only
    rw [Option.map_map]
    have e : f + 1 - min (f + 1) 128 = N - (xs ++ x).length := by
      rw [List.length_append, q1, hf]
      omega
    rw [e, getF_fuel f (N - (xs ++ x).length) b (a + m) (N - (xs ++ x).length) (by rw [List.length_append, q1, hf]; omega) (Nat.le_refl _)]
    congr 1
    funext r
    simp
theorem Mid.bad {b : List UInt8} {N : Nat} {xs : List Int} {a : Nat} (h : Mid b N xs a) (hlt : xs.length < N) (hb : blkB (b.drop a) (min (N - xs.length) 128) = none) (hN : N ≤ 1048576) : getZ b N = ([], 0, 20) := by
  obtain ⟨h1, h2, h3, h4⟩ := h
  unfold getZ
  rw [if_neg (by omega), Int.toNat_natCast, h4]
  obtain ⟨f, hf⟩ : ∃ f, N - xs.length = f + 1 := ⟨N - xs.length - 1, by omega⟩
  rw [hf] at hb ⊢
  rw [getF, if_neg (by omega), hb]
  rfl
theorem Mid.done {b : List UInt8} {N : Nat} {xs : List Int} {a : Nat} (h : Mid b N xs a) (hlt : xs.length = N) (hN : N ≤ 1048576) : getZ b N = (xs, a, 0) := by
  obtain ⟨h1, h2, h3, h4⟩ := h
  unfold getZ
  rw [if_neg (by omega), Int.toNat_natCast, h4, hlt, Nat.sub_self]
  simp [getF]
theorem getZ_arg (b : List UInt8) {n : Int} (h : n < 0 ∨ 1048576 < n) : getZ b n = ([], 0, 1) := if_pos h

/-! How a block can be no block. -/
theorem p_none {t : List UInt8} {k : Nat} (h : dec 0 0 t = none) : parseB t k = none := by unfold parseB; rw [h]
theorem p_end {t : List UInt8} {k u j : Nat} (h : dec 0 0 t = some (u, j)) (hj : ¬ j < t.length) : parseB t k = none := by unfold parseB; rw [h]; dsimp only; rw [if_neg hj]
theorem p_wide {t : List UInt8} {k u j : Nat} (h : dec 0 0 t = some (u, j)) (hj : j < t.length) (hw : ¬ (t.getD j 0).toNat ≤ 64) : parseB t k = none := by unfold parseB; rw [h]; dsimp only; rw [if_pos hj, if_neg hw]
theorem p_short {t : List UInt8} {k u j : Nat} (h : dec 0 0 t = some (u, j)) (hj : j < t.length) (hw : (t.getD j 0).toNat ≤ 64) (hs : ¬ j + 1 + psz (t.getD j 0).toNat k ≤ t.length) : parseB t k = none := by unfold parseB; rw [h]; dsimp only; rw [if_pos hj, if_pos hw, if_neg hs]
theorem p_left {t : List UInt8} {k u j : Nat} (h : dec 0 0 t = some (u, j)) (hj : j < t.length) (hw : (t.getD j 0).toNat ≤ 64) (hs : j + 1 + psz (t.getD j 0).toNat k ≤ t.length) (hl : leftN ((t.drop (j + 1)).take (psz (t.getD j 0).toNat k)) ((t.getD j 0).toNat * k) ≠ 0) : parseB t k = none := by unfold parseB; rw [h]; dsimp only; rw [if_pos hj, if_pos hw, if_pos hs, if_neg hl]
theorem p_some {t : List UInt8} {k u j : Nat} (h : dec 0 0 t = some (u, j)) (hj : j < t.length) (hw : (t.getD j 0).toNat ≤ 64) (hs : j + 1 + psz (t.getD j 0).toNat k ≤ t.length) (hl : leftN ((t.drop (j + 1)).take (psz (t.getD j 0).toNat k)) ((t.getD j 0).toNat * k) = 0) :
    parseB t k = some (unzz u, (t.getD j 0).toNat, unpacked (t.getD j 0).toNat k ((t.drop (j + 1)).take (psz (t.getD j 0).toNat k)), j + 1 + psz (t.getD j 0).toNat k) := by unfold parseB; rw [h]; dsimp only; rw [if_pos hj, if_pos hw, if_pos hs, if_pos hl]
theorem b_none {t : List UInt8} {k : Nat} (h : parseB t k = none) : blkB t k = none := by unfold blkB; rw [h]
theorem b_bad {t : List UInt8} {k : Nat} {le : Int} {w : Nat} {ab : List Nat} {m : Nat} (h : parseB t k = some (le, w, ab, m)) (hb : ¬ blkOk le w ab) : blkB t k = none := by unfold blkB; rw [h]; dsimp only; rw [if_neg hb]
theorem b_some {t : List UInt8} {k : Nat} {le : Int} {w : Nat} {ab : List Nat} {m : Nat} (h : parseB t k = some (le, w, ab, m)) (hb : blkOk le w ab) : blkB t k = some (ab.map (fun (u : Nat) => le + (u : Int)), m) := by unfold blkB; rw [h]; dsimp only; rw [if_pos hb]
theorem un_one {t : List UInt8} {j : Nat} (h : j < t.length) : (t.drop j).take 1 = [t.getD j 0] := by
  rw [List.drop_eq_getElem_cons h, List.getD_eq_getElem?_getD, List.getElem?_eq_getElem h]
  rfl
/-- reading bytes. -/
theorem bS_off (t : List UInt8) (a : Nat) (e x : Int) (h : e ≠ 0) : bytesS t a e x = ([], a, e) := if_neg h
theorem bS_ok {t : List UInt8} {a k : Nat} (h : a + k ≤ t.length) : bytesS t a 0 (k : Nat) = ((t.drop a).take k, a + k, 0) := by
  unfold bytesS
  rw [if_pos rfl]
  unfold bytesR
  rw [if_neg (by rw [List.length_drop]; omega)]
  rfl
theorem bS_bad {t : List UInt8} {a k : Nat} (ha : a ≤ t.length) (h : ¬ a + k ≤ t.length) : bytesS t a 0 (k : Nat) = ([], a, 20) := by
  unfold bytesS
  rw [if_pos rfl]
  unfold bytesR
  rw [if_pos (by rw [List.length_drop]; omega)]
end Go.Proofs.Ythlbfnoahdjdeaa
namespace Go.Proofs.Ythlbfnoahdjdeaa
set_option linter.unusedVariables false
set_option linter.unusedSimpArgs false
open Go.RowKit

def numW : Option (Nat × Nat) → Value
  | none => .tuple #[.int .u64 0, .int .i64 0]
  | some (u, k) => .tuple #[.int .u64 u, .int .i64 k]

theorem gv_lt (bs : List UInt8) (k j : Nat) : gv bs k j < 18446744073709551616 := Nat.mod_lt _ (by omega)

set_option maxRecDepth 100000 in
set_option maxHeartbeats 1600000 in
theorem refNumber_any (A : Option Addr) (n c B : Nat) (bs : List UInt8) (w : World) (hl : bs.length = n) (hn : n ≤ c) (hc : c ≤ maxLen) (hB : B ≤ w.heap.size) (hr : Rd w B A (by8 bs)) :
    Calls Try.prog 82 #[.slice A n c] w (RetF (numW (dec 0 0 bs)) w) := by
  unfold maxLen at hc
  have HR := hide hr
  have HB := hide hB
  have HL := hide hl
  clear hr hB hl
  go_enter Try.func82, Try.ntmps82
  go_wp2
  go_loop [4] (fun i => ∃ k : Nat, k ≤ n ∧ i = .int .i64 k ∧ Hid (lead bs = k + lead (bs.drop k))) (fun i => n - (intOf i).toNat)
  case atStart => exact ⟨0, by omega, rfl, hide (by simp)⟩
  case round =>
    obtain ⟨k, hk, rfl, HD⟩ := hrel
    have stopped : (k < n ∧ 127 < (bs.getD k 0).toNat) ∨ Hid (lead bs = k) ∧ ((k < n ∧ ¬ 127 < (bs.getD k 0).toNat) ∨ ¬ k < n) := by
      by_cases hlt : k < n
      · by_cases hb : 127 < (bs.getD k 0).toNat
        · exact .inl ⟨hlt, hb⟩
        · exact .inr ⟨hide (lead_stop (.inr hb) HD.out), .inl ⟨hlt, hb⟩⟩
      · exact .inr ⟨hide (lead_stop (.inl (by rw [HL.out]; omega)) HD.out), .inr hlt⟩
    rcases stopped with ⟨hlt, hb⟩ | ⟨HK, hst⟩
    · have hkl : k < bs.length := by rw [HL.out]; exact hlt
      obtain ⟨ad, rfl, _, hcell⟩ := HR.out.byte hkl
      have HD' := hide (lead_step hkl hb HD.out)
      clear hkl
      generalize bs.getD k 0 = b at hb hcell
      go_wp2
      go_round
      case rel => exact ⟨k + 1, by omega, by go_num, HD'⟩
      case measure => simp [intOf]; omega
    · clear HD
      by_cases hbad : n ≤ k ∨ 9 < k
      · have HZ := hide (ref_none1 (bs := bs) (by rw [HK.out, HL.out]; omega))
        have hb2 : decide ((n : Int) ≤ k) = true ∨ decide ((n : Int) ≤ k) = false ∧ 9 < k := by
          by_cases h : n ≤ k
          · exact .inl (by simp; omega)
          · exact .inr ⟨by simp; omega, by omega⟩
        rcases hst with ⟨hlt, hb⟩ | hge
        · have hkl : k < bs.length := by rw [HL.out]; exact hlt
          obtain ⟨ad, rfl, _, hcell⟩ := HR.out.byte hkl
          clear hkl
          generalize bs.getD k 0 = b at hb hcell
          have h9 : 9 < k := by omega
          go_wp2
          go_ret2
          exact ⟨by rw [HZ.out]; rfl, Fr.refl _ _⟩
        · go_wp2
          go_ret2
          exact ⟨by rw [HZ.out]; rfl, Fr.refl _ _⟩
      · have hkn : k < n := by omega
        have hk9 : k ≤ 9 := by omega
        have hkl : k < bs.length := by rw [HL.out]; exact hkn
        have hb : ¬ 127 < (bs.getD k 0).toNat := by rcases hst with h | h; exact h.2; omega
        obtain ⟨ad, rfl, _, hcell⟩ := HR.out.byte hkl
        have HKL := hide hkl
        clear hkl hbad hst
        generalize bs.getD k 0 = b at hb hcell
        go_wp2
        clear hcell hb
        go_loop [5, 6] (fun y i => ∃ j : Int, -1 ≤ j ∧ j ≤ k ∧ i = .int .i64 j ∧ y = .int .u64 (gv bs (k + 1) (j + 1).toNat : Nat)) (fun _ i => (intOf i + 1).toNat)
        case atStart => exact ⟨k, by omega, by omega, rfl, by
          have e : ((k : Int) + 1).toNat = k + 1 := by omega
          rw [e, gv_end]; rfl⟩
        case round =>
          obtain ⟨i, hi1, hi2, rfl, rfl⟩ := hrel
          by_cases hge : 0 ≤ i
          · obtain ⟨j, rfl⟩ := Int.eq_ofNat_of_zero_le hge
            have hjl : j < bs.length := by rw [HL.out]; omega
            obtain ⟨ad', had, _, hcell⟩ := HR.out.byte hjl
            obtain rfl : ad = ad' := Option.some.inj had
            have hs := gv_step (bs := bs) (k := k + 1) (j := j) (by omega) (by rw [HL.out]; omega)
            have e1 : ((j : Int) + 1).toNat = j + 1 := by omega
            rw [e1]
            generalize bs.getD j 0 = b at hcell hs
            have hlt := gv_lt bs (k + 1) (j + 1)
            generalize gv bs (k + 1) (j + 1) = y at hs hlt
            obtain ⟨z, HZ⟩ : ∃ z, Hid (gv bs (k + 1) j = z) := ⟨_, hide rfl⟩
            rw [HZ.out] at hs
            clear hjl had e1
            go_wp2
            go_round
            case rel => exact ⟨(j : Int) - 1, by omega, by omega, rfl, by
              have e2 : ((j : Int) - 1 + 1).toNat = j := by omega
              rw [e2, HZ.out]
              rw [← hs, Int.natCast_emod]; rfl⟩
            case measure => simp [intOf]
          · obtain rfl : i = -1 := by omega
            have e1 : ((-1 : Int) + 1).toNat = 0 := by omega
            rw [e1]
            have hlt := gv_lt bs (k + 1) 0
            have HG : Hid (gv bs (k + 1) 0 = gval (bs.take (lead bs + 1)) % 18446744073709551616) := by rw [HK.out]; rfl
            generalize gv bs (k + 1) 0 = u at HG hlt
            have HU := hide (fun W => refUint_any u W hlt)
            have HNo : Hid (enc u ≠ bs.take (k + 1) → dec 0 0 bs = none) := by
              intro h
              apply ref_none2
              rw [← HG.out, HK.out]
              exact h
            have HYes : Hid (enc u = bs.take (k + 1) → dec 0 0 bs = some (u, k + 1)) := fun h => ref_some hlt (by rw [HL.out]; omega) h
            have hel := enc_len u
            obtain ⟨L, HEL⟩ : ∃ L, Hid ((enc u).length = L) := ⟨_, hide rfl⟩
            rw [HEL.out] at hel
            unfold GivesB at HU
            generalize enc u = E at HU HNo HYes HEL
            rw [HEL.out] at HU
            clear e1 HG hi1 hi2 hge
            obtain ⟨he1, he2⟩ := hel
            have HTL : Hid ((bs.take (k + 1)).length = k + 1) := by
              have := HL.out
              show (bs.take (k + 1)).length = k + 1
              rw [List.length_take]; omega
            by_cases hLk : L = k + 1
            · subst hLk
              have hne : (((k + 1 : Nat) : Int) != (k : Int) + 1) = false := by simp
              go_wp2_with (go_at_call 46; refine (HU.out _).mono ?_; rintro en w1 ⟨v1, rfl, hown, hfr⟩; obtain ⟨A1, c1, rfl, hq1, hq2, _, hq3, _⟩ := hown.form; have HQ := hide hq3; have HF := hide hfr; clear hown hfr hq3)
              unfold maxLen at hq2
              go_loopw [8] (fun i wr => ∃ j nq : Nat, j ≤ k + 1 ∧ i = .int .i64 j ∧ wr = w1.drewN nq ∧ Hid (E.take j = bs.take j)) (fun i _ => k + 1 - (intOf i).toNat)
              case atStart => exact ⟨0, 0, by omega, rfl, rfl, hide rfl⟩
              case round =>
                obtain ⟨j, nq, hj, rfl, rfl, HT⟩ := hrel
                by_cases hlt : j < k + 1
                · have h1 : j < E.length := by rw [HEL.out]; exact hlt
                  have h2 : j < bs.length := by rw [HL.out]; omega
                  obtain ⟨a1, rfl, _, hcell⟩ := HQ.out.byte h1
                  obtain ⟨bd, hbd, _, hcell2⟩ := (HR.out.fr0 HF.out).byte h2
                  obtain rfl : ad = bd := Option.some.inj hbd
                  have HE := hide (fun he => take_succ_eq h1 h2 HT.out he)
                  have HN := hide (show E.getD j 0 ≠ bs.getD j 0 → E ≠ bs.take (k + 1) from fun h e => h (by
                    rw [e]
                    have h3 : j < (bs.take (k + 1)).length := by rw [HTL.out]; exact hlt
                    simp only [List.getD_eq_getElem?_getD, List.getElem?_eq_getElem h3, List.getElem?_eq_getElem h2]
                    simp))
                  clear h1 h2 hbd
                  generalize E.getD j 0 = x at hcell HE HN
                  generalize bs.getD j 0 = y at hcell2 HE HN
                  by_cases he : x = y
                  · subst he
                    have HE' := hide (HE.out rfl)
                    clear HE
                    have hb2 : ((x.toNat : Int) != x.toNat) = false := by simp
                    go_wp2
                    go_quiet (fail)
                    go_wp2
                    go_round
                    case rel => exact ⟨j + 1, _, by omega, by go_num, rfl, HE'⟩
                    case measure => simp [intOf]; omega
                  · have hb2 : ((x.toNat : Int) != y.toNat) = true := by
                      simp
                      intro h
                      exact he (UInt8.toNat_inj.1 (by omega))
                    go_wp2
                    go_quiet (fail)
                    go_wp2
                    go_ret2
                    exact ⟨by rw [HNo.out (HN.out he)]; rfl, (HF.out.drewN _).drewN _⟩
                · have HF2 := hide (show E = bs.take (k + 1) by
                    have h := HT.out
                    have ej : j = k + 1 := by omega
                    rw [ej] at h
                    rwa [List.take_of_length_le (by rw [HEL.out]; omega)] at h)
                  go_wp2
                  go_ret2
                  exact ⟨by rw [HYes.out HF2.out]; simp [numW], HF.out.drewN _⟩
            · have hne : ((L : Int) != (k : Int) + 1) = true := by simp; omega
              have HZ := hide (HNo.out (fun e => hLk (by rw [← HEL.out, e, HTL.out])))
              go_wp2_with (go_at_call 46; refine (HU.out _).mono ?_; rintro en w1 ⟨v1, rfl, hown, hfr⟩; obtain ⟨A1, c1, rfl, hq1, hq2, _, hq3, _⟩ := hown.form; have HF := hide hfr; clear hown hfr hq3)
              go_ret2
              exact ⟨by rw [HZ.out]; rfl, HF.out⟩

end Go.Proofs.Ythlbfnoahdjdeaa
