/- Put: a row in blocks. -/
import Derived.Test.YtpnhnnhocekchaaChunkW
import Derived.Test.YtpnhnnhocekchaaPutI
import Derived.Test.YtpnhnnhocekchaaUnbW
namespace Go.Proofs.Ytpnhnnhocekchaa
set_option linter.unusedVariables false
set_option linter.unusedSimpArgs false
open Go.RowKit Go.Shelf
attribute [local go_sem] Oper.semAt_some

/-- what a round keeps: what lay when the call began, and the two boxes. -/
def KpC (n₀ B1 B2 : Nat) (o1 o2 : Obj) (W W' : World) : Prop := Below n₀ W W' ∧ (W.heap[B1]? = some o1 → W'.heap[B1]? = some o1) ∧ (W.heap[B2]? = some o2 → W'.heap[B2]? = some o2)
theorem KpC.r (n₀ B1 B2 : Nat) (o1 o2 : Obj) (W : World) : KpC n₀ B1 B2 o1 o2 W W := ⟨Below.refl _ _, fun e => e, fun e => e⟩
theorem KpC.t {n₀ B1 B2 : Nat} {o1 o2 : Obj} {A B C : World} (h : KpC n₀ B1 B2 o1 o2 A B) (k : KpC n₀ B1 B2 o1 o2 B C) : KpC n₀ B1 B2 o1 o2 A C := ⟨h.1.trans k.1, fun e => k.2.1 (h.2.1 e), fun e => k.2.2 (h.2.2 e)⟩
theorem KpC.d (n₀ B1 B2 : Nat) (o1 o2 : Obj) (W : World) (nq : Nat) : KpC n₀ B1 B2 o1 o2 W (W.drewN nq) := ⟨⟨rfl, rfl, rfl, Nat.le_refl _, fun _ _ => rfl⟩, fun e => e, fun e => e⟩
theorem KpC.b {n₀ B1 B2 : Nat} {o1 o2 : Obj} {w : World} (hn : n₀ ≤ w.heap.size) (h1 : B1 < w.heap.size) (h2 : B2 < w.heap.size) (W : World) (l : Nat) (o o' : Obj) (hl : w.heap.size ≤ l) (h : W.heap[l]? = some o) (ho : o.isCells = false) (hw : o.isWalk = false) : KpC n₀ B1 B2 o1 o2 W (W.putObj l o') :=
  ⟨belowK_b hn W l o o' hl h ho hw, fun e => (Fr.of_grown (grownBy_putObj' W l o')).blk e (fun e => by have e : l = B1 := Option.some.inj e; omega), fun e => (Fr.of_grown (grownBy_putObj' W l o')).blk e (fun e => by have e : l = B2 := Option.some.inj e; omega)⟩
theorem KpC.fr {S : Nat → Prop} {n₀ B1 B2 : Nat} {o1 o2 : Obj} {W W' : World} (f : Fr S W W') (hn : n₀ ≤ W.heap.size) (h0 : ∀ k, k < n₀ → ¬ S k) (h1 : ¬ S B1) (h2 : ¬ S B2) : KpC n₀ B1 B2 o1 o2 W W' :=
  ⟨f.belowN hn h0, fun e => f.blk e h1, fun e => f.blk e h2⟩

abbrev Cn (n : Nat) := { x : Nat // x < chunks n }
def valC {n : Nat} (xs : List (Cn n)) : List Nat := xs.map (·.1)
theorem valC_snoc {n : Nat} (xs : List (Cn n)) (x : Cn n) : valC (xs ++ [x]) = valC xs ++ [x.1] := by simp [valC]

theorem chunk_stops (fr : Nat) (hn : 1 ≤ fr) (B1 B2 : Nat) (A : Option Addr) (n c : Nat) (n₀ : Nat) (w W0 : World) (t1 t2 : TypeId) (hA : 0 < n → ∃ ad, A = some ad) (hnc : n ≤ c) (hc : c ≤ maxLen) (hnb : n ≤ 1048576)
    (h1 : W0.heap[B1]? = some (.cells #[.slice A n c] t1 (0, 0))) (h2 : W0.heap[B2]? = some (.cells #[.int .i64 128] t2 (0, 0))) :
    SeqStopsK Fence.wide fr Try.prog 88 #[.pointer (some ⟨B1, 0, none⟩), .pointer (some ⟨B2, 0, none⟩)] (fun x : Cn n => #[chV A n x.1]) (KpC n₀ B1 B2 (.cells #[.slice A n c] t1 (0, 0)) (.cells #[.int .i64 128] t2 (0, 0))) (fun ys => valC ys = allC n) (fun pre => valC pre <+: allC n) (chunks n) W0 := fun l J Jx W hW hJ hJx hY h0 =>
  (chunk1_in fr hn l B1 B2 (KpC n₀ B1 B2 (.cells #[.slice A n c] t1 (0, 0)) (.cells #[.int .i64 128] t2 (0, 0))) (KpC.r _ _ _ _ _) KpC.t A n c hA hnc hc hnb (fun pre W => ∃ q : List (Cn n), valC q = pre ∧ J q W) (fun pre W => ∃ q : List (Cn n), valC q = pre ∧ Jx q W)
    (fun pre x W1 h1 h2 hx => by
      obtain ⟨q, rfl, hj⟩ := h1
      refine YieldAt.mono (hY q ⟨x, hx⟩ W1 hj (by simpa [valC] using h2)) ?_
      rintro e W' (⟨h1, h2, h3⟩ | ⟨h1, h2⟩)
      · exact .inl ⟨h1, ⟨_, valC_snoc q ⟨x, hx⟩, h2⟩, h3⟩
      · exact .inr ⟨h1, _, valC_snoc q ⟨x, hx⟩, h2⟩) W
    (fun W' hk => by
      have b1 : W.heap[B1]? = some (.cells #[.slice A n c] t1 (0, 0)) := (hW.block B1 (Array.getElem?_eq_some_iff.1 h1).1).trans h1
      have b2 : W.heap[B2]? = some (.cells #[.int .i64 128] t2 (0, 0)) := (hW.block B2 (Array.getElem?_eq_some_iff.1 h2).1).trans h2
      exact ⟨cell_of_row _ _ _ _ _ _ (hk.2.1 b1), cell_of_row _ _ _ _ _ _ (hk.2.2 b2)⟩) ⟨[], rfl, h0⟩
    (fun W nq => KpC.d _ _ _ _ _ W nq)
    (fun pre W1 nq ⟨q, hq, hj⟩ => ⟨q, hq, hJ q W1 (W1.drewN nq) none hj ⟨rfl, rfl, rfl, Nat.le_refl _, fun _ _ _ => rfl⟩ (fun r e => by cases e)⟩)).mono
    fun e W' ⟨h1, h2⟩ => ⟨h1, h2.elim (fun ⟨q, hq, h⟩ => .inl ⟨q, hq, h⟩) (fun ⟨pre, hp, q, hq, h⟩ => .inr ⟨q, (hq ▸ hp : valC q <+: allC n), h⟩)⟩

def catU (l : List Int) (pre : List Nat) : List UInt8 := pre.flatMap fun j => oneB (chunkL l j)
theorem catU_snoc (l : List Int) (pre : List Nat) (j : Nat) : catU l (pre ++ [j]) = catU l pre ++ oneB (chunkL l j) := by simp [catU, List.flatMap_append]
theorem catU_all (l : List Int) : catU l (allC l.length) = putR l := rfl
theorem catU_le {l : List Int} (h : InI l) : ∀ pre, (catU l pre).length ≤ 1036 * pre.length
  | [] => by simp [catU]
  | j :: pre => by
    have h1 := catU_le h pre
    have h2 := oneB_le (chunk_in h j)
    have h3 := chunk_len l j
    have e : catU l (j :: pre) = oneB (chunkL l j) ++ catU l pre := by simp [catU]
    rw [e, List.length_append, List.length_cons]
    omega

/-- what Put keeps between two rounds. -/
structure PutI (w : World) (l : List Int) (pre : List Nat) (W : World) : Prop where
  fr : Fr No w W
  sz : w.heap.size + 3 ≤ W.heap.size
  own : ∃ v, W.heap[w.heap.size]? = some (.cells #[v] 23 (0, 0)) ∧ Own W (w.heap.size + 3) 5 1 v (catU l pre).length (by8 (catU l pre))
theorem PutI.from (w : World) (l : List Int) (B : Nat) (hB : w.heap.size ≤ B) : OwnFrom B (fun pre W => PutI w l pre W) := by
  rintro pre W W' row ⟨h1, h2, v, h3, h4⟩ hg hr
  have hr2 : ∀ r, row = some r → ∃ o : Obj, W.heap[r]? = some o ∧ o.isCells = false := fun r e => (hr r e).2
  exact ⟨h1.trans (Fr.of_grown hg) (fun i hi e => by have := (hr i e).1; omega), Nat.le_trans h2 (Fr.of_grown hg).size, v, blk_kept h3 rfl hg hr2, own_kept h4 hg hr2⟩

/-- numbers above, so far. -/
def abTo (ch : List Int) (q : Nat) : List Nat := (aboveL ch).take q ++ List.replicate (ch.length - q) 0
theorem abTo_0 (ch : List Int) : abTo ch 0 = List.replicate ch.length 0 := by simp [abTo]
theorem abTo_all (ch : List Int) : abTo ch ch.length = aboveL ch := by
  unfold abTo
  rw [Nat.sub_self, List.take_of_length_le (by rw [aboveL_len]; exact Nat.le_refl _)]
  simp
theorem abTo_set {ch : List Int} {q : Nat} (h : q < ch.length) : (nz (abTo ch q)).set q (.int .u64 (((ch.getD q 0 - minL ch).toNat : Nat) : Int)) = nz (abTo ch (q + 1)) := by
  rw [nz_set]
  congr 1
  unfold abTo
  have hl : ((aboveL ch).take q).length = q := by rw [List.length_take, aboveL_len]; omega
  rw [List.set_append, if_neg (by omega), hl, Nat.sub_self, show ch.length - q = (ch.length - (q + 1)) + 1 by omega, List.replicate_succ, List.set_cons_zero, take_snocN (by rw [aboveL_len]; exact h), aboveL_at h]
  simp
theorem box_put {w : World} {B : Nat} {v u : Value} {t : TypeId} (h : w.heap[B]? = some (.cells #[v] t (0, 0))) : (w.setCell ⟨B, 0, none⟩ u).heap[B]? = some (.cells #[u] t (0, 0)) := by
  have := heap_setCell_same w B 0 #[v] t u h
  simpa using this

set_option maxRecDepth 100000 in
set_option maxHeartbeats 4000000 in
theorem put_in (A : Option Addr) (n c B : Nat) (l : List Int) (w : World) (hl : l.length = n) (hi : InI l) (hn : n ≤ c) (hc : c ≤ maxLen) (hb : n ≤ 1048576) (hB : B ≤ w.heap.size) (hr : Rd w B A (iz .i64 l)) :
    CallsIn Fence.wide 4 Try.prog 30 #[.slice A n c] w (GivesB w (putR l)) := by
  obtain ⟨i0, hi0, hz, hsz, hby⟩ := info_parts Try.info5
  have hA : 0 < n → ∃ ad, A = some ad := fun h => by
    obtain ⟨ad, e, _⟩ := hr.intAt (j := 0) (by omega)
    exact ⟨ad, e⟩
  have HC := hide hc
  have HR := hide hr
  have HL := hide hl
  have HI := hide hi
  have hq : ∀ (a b : Option Addr) (W : World), (binOp .eql 87 (.func (.func 88) #[] #[.pointer a, .pointer b]) .nilFunc).run Try.prog W = .ok (.bool false) W := fun _ _ _ => by kernel_rfl
  clear hr hl hi
  refine callsIn_of_wp_marks Try.func30 rfl trivial ?_ rfl
  simp only [Try.ntmps30, List.size_toArray, List.length_cons, List.length_nil, Nat.reduceAdd, Nat.reduceSub, Array.replicate_succ, Array.replicate_zero, List.push_toArray, List.append_toArray, List.nil_append, List.cons_append]
  gi_wp2_with (refine ⟨trivial, ?_⟩; gi_at_call 56; refine (callsIn_wide.2 (chunkF_any A n c _)).mono ?_; rintro e w' ⟨rfl, rfl⟩)
  obtain ⟨W0, hW0⟩ : ∃ W0, W0 = ((w.alloc (.cells #[.slice none 0 0] 23)).alloc (.cells #[.slice A n c] 41)).alloc (.cells #[.int .i64 128] 3) := ⟨_, rfl⟩
  rw [← hW0]
  have hF0 : Fr No w W0 := by rw [hW0]; exact (((Fr.refl No w).alloc _).alloc _).alloc _
  have hs0 : W0.heap.size = w.heap.size + 3 := by rw [hW0]; simp
  have hb0 : W0.heap[w.heap.size]? = some (.cells #[.slice none 0 0] 23 (0, 0)) := by
    rw [hW0]
    exact (((Fr.refl No _).alloc _).alloc _).blk (box_h w _ _) (fun h => h)
  have hb1 : W0.heap[w.heap.size + 1]? = some (.cells #[.slice A n c] 41 (0, 0)) := by
    rw [hW0]
    have := box_h (w.alloc (.cells #[.slice none 0 0] 23)) (.slice A n c) 41
    rw [show (w.alloc (.cells #[.slice none 0 0] 23)).heap.size = w.heap.size + 1 by simp] at this
    exact ((Fr.refl No _).alloc _).blk this (fun h => h)
  have hb2 : W0.heap[w.heap.size + 1 + 1]? = some (.cells #[.int .i64 128] 3 (0, 0)) := by
    rw [hW0]
    have := box_h ((w.alloc (.cells #[.slice none 0 0] 23)).alloc (.cells #[.slice A n c] 41)) (.int .i64 128) 3
    simpa using this
  have hE0 : PutI w l [] W0 := ⟨hF0, by omega, _, hb0, Own.nil _ _ _ _⟩
  clear hW0
  refine wpIn_rangeFunc_ownF rfl (by omega) (gf := 88) (lb := #[.pointer (some ⟨w.heap.size + 1, 0, none⟩), .pointer (some ⟨w.heap.size + 1 + 1, 0, none⟩)]) rfl trivial (enters_of Try.func88 (by kernel_rfl) rfl)
    (chunk_stops 3 (by omega) (w.heap.size + 1) (w.heap.size + 1 + 1) A n c w.heap.size w W0 41 3 hA hn hc hb hb1 hb2) KpC.t (KpC.b (by omega) (by omega) (by omega)) (Below.refl _ _) (fun _ => rfl)
    (fun pre W => PutI w l (valC pre) W)
    (fun _ _ _ => False)
    (fun s W W' row h hg hr => PutI.from w l _ (by omega) _ W W' row h hg hr) (fun _ _ _ _ _ hs _ _ => hs) hE0
    (fun x => { tmps := #[.slice A n c, undef, .slice none 0 0, .pointer (some ⟨w.heap.size, 0, none⟩), chV A n x.1, undef, undef, undef, undef, undef, .slice A n c, .func (.func 88) #[] #[.pointer (some ⟨w.heap.size + 1, 0, none⟩), .pointer (some ⟨w.heap.size + 1 + 1, 0, none⟩)], chV A n x.1, undef, undef, undef, undef, undef, undef, undef, undef, undef, undef, undef, undef, undef, undef, undef, undef, undef, undef, undef, undef, undef, undef, undef, undef, undef, undef, undef, undef, undef, undef, undef, undef, undef, undef, undef, undef, undef], defers := [] }) ?assign ?body ?done ?stop
  case assign =>
    intro l x W K hK
    gi_wp2
    exact hK
  case body =>
    rintro lr pre ⟨j, hj⟩ W E hpl
    obtain ⟨v, hb, ho⟩ := E.own
    have hsz1 : w.heap.size + 3 ≤ W.heap.size := E.sz
    obtain ⟨Ab, cb, rfl, q1, q2, _⟩ := ho.form
    have hn0 : 0 < n := by unfold chunks at hj; omega
    obtain ⟨ad, rfl⟩ := hA hn0
    have hhl : 128 * j < n := by unfold chunks at hj; omega
    obtain ⟨ch, hch⟩ : ∃ x, x = chunkL l j := ⟨_, rfl⟩
    have hck := chunk_len l j
    rw [← hch, HL.out] at hck
    obtain ⟨k, hk⟩ : ∃ x, x = min 128 (n - 128 * j) := ⟨_, rfl⟩
    rw [← hk] at hck
    have hk1 : 1 ≤ k ∧ k ≤ 128 := by omega
    have hRc := (HR.out.fr0 E.fr).chunk j
    rw [← hch] at hRc
    obtain ⟨bd, hbd⟩ : ∃ x, x = ad.add (128 * j) := ⟨_, rfl⟩
    rw [← hbd] at hRc
    have hv : chV (some ad) n j = .slice (some bd) k k := by
      unfold chV
      rw [← hk, hbd]
      rfl
    have hci : InI ch := by rw [hch]; exact chunk_in HI.out j
    have HRc := hide hRc
    have HCk := hide hck
    have HCi := hide hci
    have HMin := hide (minI_any (some bd) k k B ch W hck hk1.1 (Nat.le_refl _) (by unfold maxLen; omega) hRc)
    obtain ⟨le, hle⟩ : ∃ m, m = minL ch := ⟨_, rfl⟩
    have hle1 : -9223372036854775808 ≤ le ∧ le ≤ 9223372036854775807 := by rw [hle]; exact minL_in hci
    rw [← hle] at HMin
    have HLe := hide hle
    have hmk := make_u64 k (by omega)
    have HO0 := hide (made_own W k 52 (.int .u64 0) _ rfl (by unfold maxLen; omega))
    rw [← nz_rep, ← hck, ← abTo_0, hck] at HO0
    generalize madeCells #[Value.int .u64 0] k = z at hmk HO0
    have hpl2 : pre.length ≤ 8192 := by unfold chunks at hpl; omega
    have hcl := catU_le HI.out (valC pre)
    have hcl2 : (valC pre).length = pre.length := by simp [valC]
    rw [hcl2] at hcl
    obtain ⟨m, hm⟩ : ∃ x, x = (catU l (valC pre)).length := ⟨_, rfl⟩
    have HSn := hide (catU_snoc l (valC pre) j)
    rw [← hch] at HSn
    have HVs := hide (valC_snoc pre ⟨j, hj⟩)
    generalize catU l (valC pre) = cu at hm ho hcl HSn q1 hb
    rw [← hm] at ho hcl q1 hb
    have HM := hide hm
    have hmb : m ≤ 8486912 := by omega
    have HE := hide E
    have HO := hide ho
    have HBx := hide hb
    have hcb : cb ≤ 9223372036854775807 := by unfold maxLen at q2; exact q2
    have HQ2 := hide q2
    obtain ⟨wd, hwd⟩ : ∃ x, x = wid (aboveL ch) := ⟨_, rfl⟩
    have hwd64 : wd ≤ 64 := by rw [hwd]; exact wid_above hci
    have HWd := hide hwd
    have HE1 : Hid (oneB ch = enc (zz le) ++ [UInt8.ofNat wd] ++ packed wd (aboveL ch)) := hide (by unfold oneB; rw [← hle, ← hwd])
    have hel := (enc_len (zz le)).2
    have HEl := hide hel
    obtain ⟨en, hen⟩ : ∃ x, x = (enc (zz le)).length := ⟨_, rfl⟩
    rw [← hen] at hel
    have HEn := hide hen
    obtain ⟨EB, hEB⟩ : ∃ x, x = enc (zz le) := ⟨_, rfl⟩
    rw [← hEB] at HE1 hen HEn
    have HEQ := hide hEB.symm
    clear hEB
    have hpk : (packed wd (aboveL ch)).length ≤ 1025 := by rw [packed_len, aboveL_len, hck]; have := psz_le (n := k) hwd64; omega
    obtain ⟨pn, hpn⟩ : ∃ x, x = (packed wd (aboveL ch)).length := ⟨_, rfl⟩
    rw [← hpn] at hpk
    have HPn := hide hpn
    have H64 := hide (aboveL_64 hci)
    have HAl := hide ((aboveL_len ch).trans hck)
    dsimp only
    rw [hv]
    clear E ho hb hRc hck hk hbd hv hci hle q2 hm hwd hen hpn hch hcl2 hhl hpl hF0 hs0 hb0 hb1 hb2 hE0
    gi_wp2_with (refine ⟨trivial, ?_⟩; gi_at_call 57; refine (CallsIn.inRound lr (callsIn_wide.2 HMin.out)).mono ?_; rintro e w' ⟨rfl, rfl⟩)
    gi_loopw [7, 8, 20] (fun a b i wr => ∃ q : Nat, q ≤ k ∧ i = .int .i64 q ∧ Hid (Own wr W.heap.size 52 1 (.slice (some ⟨W.heap.size, 0, none⟩) k k) k (nz (abTo ch q))) ∧ Hid (Fr No W wr)) (fun _ _ i _ => k - (intOf i).toNat)
    case atStart => exact ⟨0, by omega, rfl, HO0, hide ((Fr.refl No W).alloc _)⟩
    case round =>
      obtain ⟨q, hq1, rfl, HOw, HFw⟩ := hrel
      by_cases hqk : q < k
      · have h1 : q < ch.length := by rw [HCk.out]; exact hqk
        obtain ⟨ad2, e2, _, hcx⟩ := (HRc.out.fr0 HFw.out).intAt h1
        injection e2 with e2
        subst e2
        have hx := HCi.out.at h1
        have hmx := minL_at h1
        rw [← HLe.out] at hmx
        have HS := hide (abTo_set h1)
        rw [← HLe.out] at HS
        obtain ⟨hco, hf1, hput⟩ := HOw.out.put (k := q) hqk
        have hsome : ∃ u0, (nz (abTo ch q))[q]? = some u0 := HOw.out.some_at hqk
        obtain ⟨u0, hu0⟩ := hsome
        rw [hu0] at hco
        have HPut := hide hput
        generalize ch.getD q 0 = x at hcx HS hx hmx
        have HV := above_val hx hle1 hmx
        obtain ⟨u, hu⟩ : ∃ u, u = (x - le).toNat := ⟨_, rfl⟩
        rw [← hu] at HV HS
        clear h1 hu hput hu0
        gi_wp2
        go_roundw
        case rel => exact ⟨q + 1, by omega, by go_num, hide (by rw [← HS.out]; exact HPut.out _), hide (Fr.putG _ _ _ _ _ HFw.out (Nat.le_refl _))⟩
        case measure => simp [intOf]; omega
      · obtain rfl : q = k := by omega
        have hab := HOw.out
        have hall : abTo ch q = aboveL ch := by rw [← HCk.out]; exact abTo_all ch
        rw [hall] at hab
        have HA2 := hide hab
        have HWc := hide (width_any (some ⟨W.heap.size, 0, none⟩) q q _ (aboveL ch) wr HAl.out H64.out (Nat.le_refl _) (by unfold maxLen; omega) hab.rd)
        rw [← HWd.out] at HWc
        have hgr := HFw.out.size
        have hbox := HFw.out.blk HBx.out (fun h => h)
        have cbx : wr.cell? ⟨w.heap.size, 0, none⟩ = some (.slice Ab m cb) := cell_of_row _ _ 0 _ _ _ hbox
        have HBox := hide hbox
        have HPu := hide (putI_any Ab m cb wr.heap.size cu le wr HM.out.symm q1 HQ2.out (by omega) (Nat.le_refl _) (HO.out.fr0 HFw.out).rd hle1.1 hle1.2)
        have b1 : (m + en + 1) * 1 ≤ 140737488355328 := by omega
        have b2 : m + en + 1 ≤ maxLen := by unfold maxLen; omega
        have c1 : (m + en + 1 + pn) * 1 ≤ 140737488355328 := by omega
        have c2 : m + en + 1 + pn ≤ maxLen := by unfold maxLen; omega
        have HW8 := hide (ofNat_toNat (x := wd) (by omega))
        have HML : Hid ((cu ++ EB).length = m + en) := hide (by rw [List.length_append, ← HM.out, ← HEn.out])
        have HZE : Hid (enc (zz le) = EB) := hide HEQ.out
        rw [HZE.out] at HPu
        clear hab hall hbox hqk
        gi_wp2_with (first
          | (refine ⟨trivial, ?_⟩; gi_at_call 21; refine (CallsIn.inRound lr (callsIn_wide.2 HWc.out)).mono ?_; rintro e w' ⟨rfl, rfl⟩)
          | (refine ⟨trivial, ?_⟩; gi_at_call 58; refine (CallsIn.inRound lr (callsIn_wide.2 HPu.out)).mono ?_; rintro e w2 ⟨v2, rfl, hown, hfr⟩; rw [HML.out] at hown; obtain ⟨A2, k2, rfl, x1, x2, _⟩ := hown.form; have hb2 := hfr.blk HBox.out (fun h => h); have cb2 : w2.cell? ⟨w.heap.size, 0, none⟩ = some (.slice Ab m cb) := cell_of_row _ _ 0 _ _ _ hb2; have fb2 : w2.frozen? ⟨w.heap.size, 0, none⟩ = false := frozen_of_row _ _ _ _ _ hb2; have HB3 := hide (box_put (u := .slice A2 (m + en) k2) hb2); have cb3 : (w2.setCell ⟨w.heap.size, 0, none⟩ (.slice A2 (m + en) k2)).cell? ⟨w.heap.size, 0, none⟩ = some (.slice A2 (m + en) k2) := cell_of_row _ _ 0 _ _ _ HB3.out; have HF2 := hide (HFw.out.tr hfr); have HZ2 := hide hfr.size; have HS3 := hide (Src.one (P := Try.prog) (w2.setCell ⟨w.heap.size, 0, none⟩ (.slice A2 (m + en) k2)) (e := 5) Try.underlying23 (.int .u8 (wd : Nat)) rfl); have HS3b : Hid (Src Try.prog 1 23 (.slice (some ⟨w2.heap.size, 0, none⟩) 1 1) 1 [.int .u8 (wd : Nat)] ((w2.setCell ⟨w.heap.size, 0, none⟩ (.slice A2 (m + en) k2)).alloc (.cells #[.int .u8 (wd : Nat)] 5))) := hide (by have h := HS3.out; rw [show (w2.setCell ⟨w.heap.size, 0, none⟩ (.slice A2 (m + en) k2)).heap.size = w2.heap.size by simp [World.setCell]] at h; exact h); have HF3 : Hid (Fr (Is w.heap.size) W (w2.setCell ⟨w.heap.size, 0, none⟩ (.slice A2 (m + en) k2))) := hide ((HF2.out.any (Is w.heap.size)).put _ _); have HO3 := hide (hown.fr ((Fr.refl (Is w.heap.size) w2).put 0 (.slice A2 (m + en) k2)) (fun g hg e => by have e : g = w.heap.size := e; have := (hown.lt g hg).1; omega)); have HA3 := hide ((HA2.out.fr0 hfr).fr ((Fr.refl (Is w.heap.size) w2).put 0 (.slice A2 (m + en) k2)) (fun g hg e => by have e : g = w.heap.size := e; have := (HA2.out.lt g hg).1; omega)); unfold maxLen at x2; clear hown hfr hb2)
          | (gi_at_builtin; refine wpListIn_append_gen _ rfl (.tmp 39) (.tmp 42) 23 23 rfl wr.heap.size 5 i0 (.int .u8 0) 1 1 Try.underlying23 hi0 hz hsz hby rfl (.slice A2 (m + en) k2) (m + en) (by8 (cu ++ EB)) rfl (HO3.out.fr0 ((Fr.refl No _).alloc (.cells #[.int .u8 (wd : Nat)] 5))) _ 1 [.int .u8 (wd : Nat)] rfl (by first | exact HS3.out | exact HS3b.out) b1 b2 (by have := HZ2.out; simp [World.setCell]; omega) ?_; intro v4 w4 hown hfr hat; have HO4 := hide hown; have HF4 : Hid (Fr (Is w.heap.size) W w4) := hide ((HF3.out.alloc _).own hfr (fun g hg => .inl (by have := (HO3.out.lt g hg).1; omega))); have HA4 := hide ((HA3.out.fr0 ((Fr.refl No _).alloc (.cells #[.int .u8 (wd : Nat)] 5))).fr hfr (fun g hg e => HO3.out.ne_own HA3.out (by decide) hg e)); have HB4 := hide (hfr.blk (((Fr.refl No _).alloc (.cells #[.int .u8 (wd : Nat)] 5)).blk HB3.out (fun h => h)) (fun e => by have h2 := (HO3.out.lt w.heap.size e).1; omega)); have HZ5 := hide (show wr.heap.size ≤ w4.heap.size by have h1 := hfr.size; have h2 := HF2.out.size; have h3 := HZ2.out; simp [World.setCell] at h1; omega); clear hown hfr hat)
          | (refine ⟨trivial, ?_⟩; gi_at_call 17; have HBi := bits_any (some ⟨W.heap.size, 0, none⟩) q q w4.heap.size wd (aboveL ch) w4 HAl.out H64.out (Nat.le_refl _) (by unfold maxLen; omega) (by omega) (Nat.le_refl _) (HA4.out.rd); rw [show bitsZ (aboveL ch) wd = packed wd (aboveL ch) by unfold bitsZ; rw [if_pos (by omega)]; rfl] at HBi; refine (CallsIn.inRound lr (callsIn_wide.2 HBi)).mono ?_; clear HBi; rintro e w5 ⟨v5, rfl, hown, hfr⟩; rw [← HPn.out] at hown; obtain ⟨A5, k5, rfl, _⟩ := hown.form; have HS5 := hide (Src.ofRd (P := Try.prog) (size := 1) w5 Try.underlying23 A5 pn k5 (by8 (packed wd (aboveL ch))) (by rw [by8_length, HPn.out]; omega) (by omega) hown.rd (by8_one _)); have HO5 := hide (HO4.out.fr0 hfr); have HF5 := hide (HF4.out.tr hfr); have HB5 := hide (hfr.blk HB4.out (fun h => h)); have HZ6 := hide hfr.size; clear hown hfr)
          | (gi_at_builtin; refine wpListIn_append_gen _ rfl (.tmp 43) (.tmp 46) 23 23 rfl wr.heap.size 5 i0 (.int .u8 0) 1 1 Try.underlying23 hi0 hz hsz hby rfl v4 (m + en + 1) _ rfl HO5.out _ pn (by8 (packed wd (aboveL ch))) rfl HS5.out c1 c2 (by have := HZ5.out; have := HZ6.out; omega) ?_; intro v6 w6 hown hfr hat; obtain ⟨A6, k6, rfl, _⟩ := hown.form; have hb6 := hfr.blk HB5.out (fun e => by have h2 := (HO5.out.lt w.heap.size e).1; omega); have cb6 : w6.cell? ⟨w.heap.size, 0, none⟩ = some (.slice A2 (m + en) k2) := cell_of_row _ _ 0 _ _ _ hb6; have fb6 : w6.frozen? ⟨w.heap.size, 0, none⟩ = false := frozen_of_row _ _ _ _ _ hb6; have HB7 := hide (box_put (u := .slice A6 (m + en + 1 + pn) k6) hb6); have HF6 : Hid (Fr (Is w.heap.size) W w6) := hide (HF5.out.own hfr (fun g hg => .inl (by have := (HO5.out.lt g hg).1; omega))); have HO6 := hide hown; clear hown hfr hat hb6))
        have HF7 := HF6.out.put 0 (.slice A6 (m + en + 1 + pn) k6)
        refine ⟨keeps_of_fr HF7 ?_, KpC.fr HF7 (by omega) ?_ ?_ ?_, HE.out.fr.trans HF7 (fun i hi e => by have e : i = w.heap.size := e; omega), Nat.le_trans hsz1 HF7.size, _, HB7.out, ?_⟩
        · intro g o e hg
          have e : g = w.heap.size := e
          subst e
          rw [HBx.out] at hg
          injection hg with hg
          subst hg
          rfl
        · intro g hg e
          have e : g = w.heap.size := e
          omega
        · intro e
          have e : w.heap.size + 1 = w.heap.size := e
          omega
        · intro e
          have e : w.heap.size + 1 + 1 = w.heap.size := e
          omega
        · have hlen : (catU l (valC (pre ++ [⟨j, hj⟩]))).length = m + en + 1 + pn := by
            rw [HVs.out, HSn.out, HE1.out]
            simp [← HM.out, ← HEn.out, ← HPn.out]
            omega
          have hby : by8 (catU l (valC (pre ++ [⟨j, hj⟩]))) = by8 (cu ++ EB) ++ [.int .u8 (wd : Nat)] ++ by8 (packed wd (aboveL ch)) := by
            rw [HVs.out, HSn.out, HE1.out]
            have e8 : by8 [UInt8.ofNat wd] = [.int .u8 (wd : Nat)] := by simp only [by8, List.map_cons, List.map_nil, HW8.out]
            rw [by8_append, by8_append, by8_append, by8_append, e8]
            simp
          rw [hlen, hby]
          exact (HO6.out.lower (by omega)).fr ((Fr.refl (Is w.heap.size) w6).put 0 _) (fun g hg e => by have e : g = w.heap.size := e; have := (HO6.out.lt g hg).1; omega)
  case done =>
    rintro D ys W hD hys E hK
    obtain ⟨v, hb, ho⟩ := E.own
    obtain ⟨Ab, cb, rfl, q1, q2, _⟩ := ho.form
    rw [hys, ← HL.out, catU_all] at ho hb q1
    obtain ⟨m, hm⟩ : ∃ x, x = (putR l).length := ⟨_, rfl⟩
    rw [← hm] at ho hb q1
    have HM := hide hm
    have c3 : W.cell? ⟨w.heap.size, 0, none⟩ = some (.slice Ab m cb) := cell_of_row _ _ 0 _ _ _ hb
    have HO := hide ho
    have HF := hide E.fr
    have HK := hide hK
    have HQ2 := hide q2
    have hD2 : w.heap.size + 3 ≤ D := by omega
    clear E ho hb hys hK hF0 hs0 hb0 hb1 hb2 hE0 hm q2 hA
    gi_wp2_with (refine ⟨trivial, ?_⟩; gi_at_call 59; refine (callsIn_wide.2 (clip_any Ab m cb W q1 HQ2.out)).mono ?_; rintro e w' ⟨rfl, rfl⟩)
    refine ⟨by simp, .inl ⟨_, _, rfl, run_takeDeferred HK.out, ?_⟩⟩
    refine ⟨_, results_tmp rfl _ _ _, ?_⟩
    have f1 : Fr (fun k => k = D) W (W.putObj D (.deferred none)) := (Fr.of_grown (grownBy_putObj' W D (.deferred none))).mono (fun i _ e => (Option.some.inj e).symm)
    refine ⟨_, rfl, ?_, HF.out.trans f1 (fun i hi e => by have e : i = D := e; omega)⟩
    rw [← HM.out]
    exact (HO.out.clip.lower (by omega)).fr f1 (fun k hk e => by
      have e : k = D := e
      subst e
      obtain ⟨_, A', c', hv, _, _, hA⟩ := HO.out
      injection hv with hv _ _
      subst hv
      rcases hA with ⟨rfl, _⟩ | ⟨g', cur, rfl, _, hh, _⟩
      · cases hk
      · have e : g' = k := Option.some.inj hk
        subst e
        rw [HK.out] at hh
        cases hh)
  case stop =>
    rintro D c pre W _ _ h _
    exact h.elim
theorem put_any (A : Option Addr) (n c B : Nat) (l : List Int) (w : World) (hl : l.length = n) (hi : InI l) (hn : n ≤ c) (hc : c ≤ maxLen) (hb : n ≤ 1048576) (hB : B ≤ w.heap.size) (hr : Rd w B A (iz .i64 l)) :
    Calls Try.prog 30 #[.slice A n c] w (GivesB w (putR l)) := callsIn_wide.1 (put_in A n c B l w hl hi hn hc hb hB hr)
end Go.Proofs.Ytpnhnnhocekchaa
