/- Several texts in one: PoRo0, PoRoP, ApartInt, PoSm, RefN, PoRoW, Lent8. -/
import Derived.Test.YthlbfnoahdjdeaaK21
import Derived.Deep.RegionWith
namespace Go.Proofs.Ythlbfnoahdjdeaa
set_option linter.unusedVariables false
set_option linter.unusedSimpArgs false
open Go.RowKit

def rowOk (b : List UInt8) (n : Nat) (g : Int) : Prop := (getZ b (n : Nat)).2.2 = 0 ∧ ∀ x ∈ (getZ b (n : Nat)).1, 0 ≤ x ∧ x ≤ g
theorem rowOk_put {l : List Int} {g : Int} (hl : l.length ≤ 1048576) (hi : InI l) (hg : ∀ x ∈ l, 0 ≤ x ∧ x ≤ g) (rest : List UInt8) : rowOk (putR l ++ rest) l.length g := by
  unfold rowOk
  rw [getZ_put hl hi rest]
  exact ⟨rfl, hg⟩
def RowR (w : World) (b : List UInt8) (n : Nat) (g : Int) (xs : List Int) (a : Nat) (e : Int) (en : Ending) (w' : World) : Prop :=
  Fr No w w' ∧ (((e = 0 ∧ ∀ x ∈ xs, 0 ≤ x ∧ x ≤ g) ∧ ∃ (A A' : Option Addr) (c m' c' : Nat), en = .returned (.tuple #[.slice A n c, .slice A' m' c', .bool true]) ∧ xs.length = n ∧ Own w' w.heap.size 2 1 (.slice A n c) n (iz .i64 xs) ∧ (b.drop a).length = m' ∧ m' ≤ c' ∧ c' ≤ maxLen ∧ m' ≤ b.length ∧ Rd w' w'.heap.size A' (by8 (b.drop a))) ∨
    (¬ (e = 0 ∧ ∀ x ∈ xs, 0 ≤ x ∧ x ≤ g) ∧ en = .returned (.tuple #[.slice none 0 0, .slice none 0 0, .bool false])))
def RowQ (w : World) (b : List UInt8) (n : Nat) (g : Int) : Ending → World → Prop := RowR w b n g (getZ b (n : Nat)).1 (getZ b (n : Nat)).2.1 (getZ b (n : Nat)).2.2

set_option maxRecDepth 100000 in
set_option maxHeartbeats 2000000 in
theorem rrow_any (A : Option Addr) (m c B n : Nat) (g : Int) (b : List UInt8) (w : World) (hl : b.length = m) (hm : m ≤ 140737488355328) (hmc : m ≤ c) (hc : c ≤ maxLen) (hB : B ≤ w.heap.size) (hr : Rd w B A (by8 b)) :
    Calls Try.prog 61 #[.slice A m c, .int .i64 (n : Nat), .int .i64 g] w (RowQ w b n g) := by
  have HG := hide (refGet_any A m c B (n : Nat) b w hl hm hmc hc hB hr)
  have HCs := hide (getZ_cases b (n : Nat))
  obtain ⟨xs, a, e, hz⟩ : ∃ xs a e, getZ b (n : Nat) = (xs, a, e) := ⟨_, _, _, rfl⟩
  unfold RowQ
  rw [hz] at HG HCs ⊢
  dsimp only at HCs ⊢
  have HR := hide hr
  have HL := hide hl
  have HC := hide (And.intro hmc hc)
  unfold maxLen at hc
  clear hz hr hl
  go_enter Try.func61, Try.ntmps61
  go_wp2_with (fail)
  refine HG.out.mono ?_
  rintro en w1 ⟨v, he, hown, hfr⟩
  dsimp only at he hown
  subst he
  have HF1 := hide hfr
  by_cases he0 : e = 0
  · subst he0
    rcases HCs.out with ⟨h, _⟩ | ⟨_, h1, h2, h3, h4, _⟩
    · exact absurd rfl h
    have hxl : xs.length = n := by omega
    rw [hxl] at hown
    obtain ⟨A1, c1, rfl, p1, p2, -⟩ := hown.form
    have HO1 := hide hown
    have HXl := hide hxl
    have ham : a ≤ m := by rw [← HL.out]; exact h4
    have hn20 : n ≤ 1048576 := by omega
    have HNo : Hid (∀ en w', Fr No w w' → (∃ k, k < n ∧ (xs.getD k 0 < 0 ∨ g < xs.getD k 0)) → en = .returned (.tuple #[.slice none 0 0, .slice none 0 0, .bool false]) → RowR w b n g xs a 0 en w') := hide (fun en w' f ⟨k, hk, hx⟩ he => ⟨f, .inr ⟨fun h => by
      have hkx : k < xs.length := by rw [HXl.out]; exact hk
      have := h.2 _ (getZ_mem hkx)
      omega, he⟩⟩)
    have HF0 : Hid (Fr No w1 w1) := hide (Fr.refl No w1)
    clear hown hfr h1 h2 h3 h4 hxl
    go_wp2_with (fail)
    go_loopw [12] (fun ix wr => ∃ k : Nat, k ≤ n ∧ ix = .int .i64 k ∧ Hid (∀ j, j < k → 0 ≤ xs.getD j 0 ∧ xs.getD j 0 ≤ g) ∧ Hid (Fr No w1 wr)) (fun ix _ => n - (intOf ix).toNat)
    case atStart => exact ⟨0, Nat.zero_le _, rfl, hide (fun j hj => by omega), HF0⟩
    case round =>
      obtain ⟨wo, rfl⟩ : ∃ wo : World, wo = wr := ⟨_, rfl⟩
      obtain ⟨k, hk, rfl, HJ, HFo⟩ := hrel
      by_cases hlt : k < n
      · have hkx : k < xs.length := by rw [HXl.out]; exact hlt
        obtain ⟨ad, rfl, _, kc⟩ := ((HO1.out.fr0 HFo.out).rd.intAt (k := .i64) hkx)
        obtain ⟨x, hx⟩ : ∃ x, xs.getD k 0 = x := ⟨_, rfl⟩
        rw [hx] at kc
        have HX := hide hx
        have j0 : (0 : Int) ≤ (k : Int) := by omega
        have j1 : (k : Int) < (n : Int) := by omega
        clear hx hkx
        by_cases h1 : x < 0
        · have e1 : decide (x < 0) = true := decide_eq_true h1
          have HB := hide (show xs.getD k 0 < 0 ∨ g < xs.getD k 0 from by rw [HX.out]; exact .inl h1)
          clear h1
          go_wp2_with (fail)
          go_ret3
          exact HNo.out _ _ (HF1.out.tr HFo.out) ⟨k, hlt, HB.out⟩ rfl
        · have e1 : decide (x < 0) = false := decide_eq_false h1
          by_cases h2 : g < x
          · have e2 : decide (g < x) = true := decide_eq_true h2
            have HB := hide (show xs.getD k 0 < 0 ∨ g < xs.getD k 0 from by rw [HX.out]; exact .inr h2)
            clear h1 h2
            go_wp2_with (fail)
            go_ret3
            exact HNo.out _ _ (HF1.out.tr HFo.out) ⟨k, hlt, HB.out⟩ rfl
          · have e2 : decide (g < x) = false := decide_eq_false h2
            have HJ2 : Hid (∀ j, j < k + 1 → 0 ≤ xs.getD j 0 ∧ xs.getD j 0 ≤ g) := hide (fun j hj => by
              by_cases e : j = k
              · rw [e, HX.out]; omega
              · exact HJ.out j (by omega))
            clear h1 h2
            go_wp2_with (fail)
            go_roundw
            case rel => exact ⟨k + 1, by omega, by go_num, HJ2, HFo⟩
            case measure => simp [intOf]; omega
      · obtain rfl : k = n := by omega
        have HOk : Hid (∀ x ∈ xs, 0 ≤ x ∧ x ≤ g) := hide (fun x hx => by
          obtain ⟨j, hj, rfl⟩ := List.getElem_of_mem hx
          have h := HJ.out j (by rw [← HXl.out]; exact hj)
          rw [List.getD, List.getElem?_eq_getElem hj] at h
          exact h)
        have HCut := hide ((HR.out.fr0 (HF1.out.tr HFo.out)).cut (k := a) (cap := c) (by rw [by8_length, HL.out]; exact HC.out.1))
        have HDl : Hid ((b.drop a).length = m - a) := hide (by rw [List.length_drop, HL.out])
        have i0 : (0 : Int) ≤ (a : Int) := by omega
        have i1 : (a : Int) ≤ (m : Int) := by omega
        have i2 : (m : Int) ≤ (c : Int) := by omega
        have e9 : (m : Int) - (a : Int) = ((m - a : Nat) : Int) := by omega
        have e8 : (c : Int) - (a : Int) = ((c - a : Nat) : Int) := by omega
        have HRe : Hid (∀ w', Fr No wo w' → Rd w' w'.heap.size (if c = a then A else A.map (·.add a)) (by8 (b.drop a))) := hide (fun w' f => by
          have h := HCut.out.fr0 f
          rw [← by8_drop] at h
          exact h.more (Nat.le_trans hB ((HF1.out.tr HFo.out).tr f).size))
        have hca : m - a ≤ c - a := by have := HC.out.1; omega
        have hcm : c - a ≤ maxLen := by have := HC.out.2; omega
        have HCa := hide (And.intro hca hcm)
        clear hlt HCut hca hcm
        by_cases hce : c = a
        · rw [if_pos hce] at HRe
          subst hce
          go_wp2_with (fail)
          go_quiet (fail)
          go_wp2_with (fail)
          go_ret3
          have fq : Fr No wo (wo.drewN nq) := (Fr.refl No wo).drewN nq
          exact ⟨(HF1.out.tr HFo.out).tr fq, .inl ⟨⟨rfl, HOk.out⟩, A1, A, c1, 0, 0, by simp, HXl.out, (HO1.out.fr0 HFo.out).fr0 fq, by rw [HDl.out]; omega, Nat.le_refl _, Nat.zero_le _, Nat.zero_le _, HRe.out _ fq⟩⟩
        · rw [if_neg hce] at HRe
          go_wp2_with (fail)
          go_quiet (fail)
          go_wp2_with (fail)
          go_ret3
          have fq : Fr No wo (wo.drewN nq) := (Fr.refl No wo).drewN nq
          exact ⟨(HF1.out.tr HFo.out).tr fq, .inl ⟨⟨rfl, HOk.out⟩, A1, A.map (·.add a), c1, m - a, c - a, by simp, HXl.out, (HO1.out.fr0 HFo.out).fr0 fq, HDl.out, HCa.out.1, HCa.out.2, by rw [HL.out]; omega, HRe.out _ fq⟩⟩
  · have hbn : (e != 0) = true := by simpa using he0
    have HE := hide he0
    clear hown hfr he0
    go_wp2_with (fail)
    go_ret3
    exact ⟨HF1.out, .inr ⟨fun h => HE.out h.1, rfl⟩⟩
end Go.Proofs.Ythlbfnoahdjdeaa
namespace Go.Proofs.Ythlbfnoahdjdeaa
set_option linter.unusedVariables false
set_option linter.unusedSimpArgs false
open Go.RowKit

theorem good_docs {a : Int} {blk : List Po} {n : Nat} (h : GoodB a blk n) : ∀ x ∈ docsL a blk, 0 ≤ x ∧ x ≤ 16384 := by
  intro x hx
  obtain ⟨i, hi, rfl⟩ := List.getElem_of_mem hx
  have hi2 : i < blk.length := by rwa [docsL_len] at hi
  have h1 := docsL_getD a blk i hi2
  rw [List.getD, List.getElem?_eq_getElem hi] at h1
  have h2 := h.up i hi2
  have h3 := h.row.d _ (getP_mem hi2)
  have h4 := h.row.last i
  simp only [Option.getD_some] at h1
  omega
theorem good_freqs {a : Int} {blk : List Po} {n : Nat} (h : GoodB a blk n) : ∀ x ∈ freqsL blk, 0 ≤ x ∧ x ≤ 1048576 := by
  intro x hx
  obtain ⟨i, hi, rfl⟩ := List.getElem_of_mem hx
  have h1 := freq_in h.row hi
  rw [List.getD, List.getElem?_eq_getElem hi] at h1
  simp only [Option.getD_some] at h1
  omega
theorem good_places {a : Int} {blk : List Po} {n : Nat} (h : GoodB a blk n) : ∀ x ∈ placesL blk, 0 ≤ x ∧ x ≤ 1048576 := by
  intro x hx
  obtain ⟨p, hp, hx⟩ := List.mem_flatMap.1 hx
  obtain ⟨k, hk, rfl⟩ := List.getElem_of_mem hx
  have hk2 : k < p.2.length := by rwa [deltaL_len] at hk
  have h1 := delta_up 0 p.2 k hk2
  rw [List.getD, List.getElem?_eq_getElem hk] at h1
  simp only [Option.getD_some] at h1
  have hb := (h.row.d p hp).2.2.2
  have hu := h.pos p hp
  have h3 := hb _ (getZ_mem hk2)
  by_cases h0 : k = 0
  · rw [if_pos h0] at h1; omega
  · rw [if_neg h0] at h1
    have h4 := hb _ (getZ_mem (show k - 1 < p.2.length by omega))
    have h5 := upL_of hu (show k - 1 ≤ k by omega) hk2
    omega
/-- a block's bytes pass. -/
theorem row_good {a : Int} {blk : List Po} {n : Nat} (h : GoodB a blk n) :
    rowOk (rowsB a blk) n 16384 ∧ rowOk (putR (freqsL blk) ++ putR (placesL blk)) n 1048576 ∧ rowOk (putR (placesL blk)) (sumP blk) 1048576 := by
  have h1 := h.row.n
  have h2 := h.row.s
  refine ⟨?_, ?_, ?_⟩
  · have := rowOk_put (l := docsL a blk) (g := 16384) (by rw [docsL_len]; omega) (docs_in h.row) (good_docs h) (putR (freqsL blk) ++ putR (placesL blk))
    rw [docsL_len, h.len] at this
    rw [rowsB, List.append_assoc]
    exact this
  · have := rowOk_put (l := freqsL blk) (g := 1048576) (by rw [freqsL_len]; omega) (freqs_in h.row) (good_freqs h) (putR (placesL blk))
    rw [freqsL_len, h.len] at this
    exact this
  · have := rowOk_put (l := placesL blk) (g := 1048576) (by rw [placesL_len]; omega) (places_in h.row) (good_places h) []
    rw [placesL_len, List.append_nil] at this
    exact this
theorem getZ_of_take {b : List UInt8} {n : Nat} {l : List Int} {r : List UInt8} (h : takeZ b (n : Nat) = (l, r)) (h0 : (getZ b (n : Nat)).2.2 = 0) : (getZ b (n : Nat)).1 = l ∧ b.drop (getZ b (n : Nat)).2.1 = r := by
  unfold takeZ at h
  rw [if_pos h0] at h
  injection h with h1 h2
  exact ⟨h1, h2⟩
/-- the three rows that are read are a block's. -/
theorem row_bad1 {a : Int} {n : Nat} {b : List UInt8} (h : ¬ rowOk b n 16384) : ∀ blk, GoodB a blk n → b = rowsB a blk → False := fun blk h1 h2 => h (by rw [h2]; exact (row_good h1).1)
theorem row_d {a : Int} {n : Nat} {b r : List UInt8} {D : List Int} (hD : (getZ b (n : Nat)).1 = D) (hr : b.drop (getZ b (n : Nat)).2.1 = r) : ∀ blk, GoodB a blk n → b = rowsB a blk → D = docsL a blk ∧ r = putR (freqsL blk) ++ putR (placesL blk) := by
  intro blk h1 h2
  have h3 := (take_rows h1).1
  rw [← h2] at h3
  have h4 := (row_good h1).1
  rw [← h2] at h4
  obtain ⟨e1, e2⟩ := getZ_of_take h3 h4.1
  exact ⟨by rw [← hD, e1], by rw [← hr, e2]⟩
theorem row_bad2 {a : Int} {n : Nat} {b r : List UInt8} {D : List Int} (hd : ∀ blk, GoodB a blk n → b = rowsB a blk → D = docsL a blk ∧ r = putR (freqsL blk) ++ putR (placesL blk)) (h : ¬ rowOk r n 1048576) : ∀ blk, GoodB a blk n → b = rowsB a blk → False := fun blk h1 h2 => h (by rw [(hd blk h1 h2).2]; exact (row_good h1).2.1)
theorem row_f {a : Int} {n : Nat} {b r r2 : List UInt8} {D F : List Int} (hd : ∀ blk, GoodB a blk n → b = rowsB a blk → D = docsL a blk ∧ r = putR (freqsL blk) ++ putR (placesL blk)) (hF : (getZ r (n : Nat)).1 = F) (hr : r.drop (getZ r (n : Nat)).2.1 = r2) :
    ∀ blk, GoodB a blk n → b = rowsB a blk → F = freqsL blk ∧ r2 = putR (placesL blk) := by
  intro blk h1 h2
  have h0 := (hd blk h1 h2).2
  have h3 := (take_rows h1).2.1
  rw [← h0] at h3
  have h4 := (row_good h1).2.1
  rw [← h0] at h4
  obtain ⟨e1, e2⟩ := getZ_of_take h3 h4.1
  exact ⟨by rw [← hF, e1], by rw [← hr, e2]⟩
theorem row_s {a : Int} {n s : Nat} {b r2 : List UInt8} {F : List Int} (hf : ∀ blk, GoodB a blk n → b = rowsB a blk → F = freqsL blk ∧ r2 = putR (placesL blk)) (hs : s = sumF F) : ∀ blk, GoodB a blk n → b = rowsB a blk → s = sumP blk := by
  intro blk h1 h2
  rw [hs, (hf blk h1 h2).1, sumF_freqs blk (fun x hx => (h1.row.d x hx).2.2.1)]
theorem row_bad3 {a : Int} {n s : Nat} {b r2 : List UInt8} {F : List Int} (hf : ∀ blk, GoodB a blk n → b = rowsB a blk → F = freqsL blk ∧ r2 = putR (placesL blk)) (hs : s = sumF F) (h : ¬ rowOk r2 s 1048576) : ∀ blk, GoodB a blk n → b = rowsB a blk → False := fun blk h1 h2 => h (by rw [row_s hf hs blk h1 h2, (hf blk h1 h2).2]; exact (row_good h1).2.2)
theorem row_p {a : Int} {n s : Nat} {b r2 r3 : List UInt8} {F P : List Int} (hf : ∀ blk, GoodB a blk n → b = rowsB a blk → F = freqsL blk ∧ r2 = putR (placesL blk)) (hs : s = sumF F) (hP : (getZ r2 (s : Nat)).1 = P) (hr : r2.drop (getZ r2 (s : Nat)).2.1 = r3) :
    ∀ blk, GoodB a blk n → b = rowsB a blk → P = placesL blk ∧ r3 = [] := by
  intro blk h1 h2
  have h0 := (hf blk h1 h2).2
  have e := row_s hf hs blk h1 h2
  have h3 := (take_rows h1).2.2
  rw [← h0, ← e] at h3
  have h4 := (row_good h1).2.2
  rw [← h0, ← e] at h4
  obtain ⟨e1, e2⟩ := getZ_of_take h3 h4.1
  exact ⟨by rw [← hP, e1], by rw [← hr, e2]⟩
/-- the round's end: the document's own last is the same. -/
theorem po_step2 {bs row : List UInt8} {n j a a1 a2 a3 sz d k : Nat} {e e1 e2 e3 la la2 : Int} {all ps : List Po} {P : List Int} {bks : List Bk} (h : PoI bs n j a e la all bks) (hj : 8 * j < n)
    (h1 : sizeS bs a e (bs.length : Nat) = (sz, a1, e1)) (h2 : sizeS bs a1 e1 16384 = (d, a2, e2)) (h3 : bytesS bs a2 e2 (sz : Nat) = (row, a3, e3)) (hk : k = min 8 (n - 8 * j)) (hp : OutR la k row ps k la2 P) :
    ∃ bks2, PoI bs n (j + 1) a3 e3 la2 (all ++ ps) bks2 := by
  have hpr : PsR la row (min 8 (n - 8 * j)) (la + d) ps (decide (la2 = la + d)) := by
    rw [← hk]
    exact out_end hp rfl
  have h4 := po_step h hj h1 h2 h3 hpr
  refine ⟨bks ++ [(row, la, la + (d : Int), min 8 (n - 8 * j))], fun l hf => ?_⟩
  obtain ⟨r1, r2, r3, r4, r5, r6, r7⟩ := h4 l hf
  refine ⟨r1, r2, r3, r4, ?_, r6, r7⟩
  obtain ⟨q1, q2, q3, q4⟩ := po_read h hj h1 h2 h3 hf
  obtain ⟨_, g2, _, _, g5, _, _⟩ := h l hf
  have hg : GoodB la (blkPo l j) k := by
    rw [g5, hk, ← g2]
    exact good_of hf.1 (by rw [g2]; exact hj)
  obtain ⟨o1, o2, _⟩ := hp (blkPo l j) hg (by rw [q2, g5])
  rw [o2, List.take_of_length_le (by rw [hg.len]; exact Nat.le_refl _), g5, blk_last (by rw [g2]; exact hj)]
  unfold aheadPo
  rfl
theorem po_no {bs row : List UInt8} {n j a a1 a2 a3 sz d k : Nat} {e e1 e2 e3 la : Int} {all : List Po} {bks : List Bk} (h : PoI bs n j a e la all bks) (hj : 8 * j < n)
    (h1 : sizeS bs a e (bs.length : Nat) = (sz, a1, e1)) (h2 : sizeS bs a1 e1 16384 = (d, a2, e2)) (h3 : bytesS bs a2 e2 (sz : Nat) = (row, a3, e3)) (hk : k = min 8 (n - 8 * j)) (hbad : e3 ≠ 0 ∨ ∀ blk, GoodB la blk k → row = rowsB la blk → False) : ∀ l, ¬ FormP bs l := by
  intro l hf
  obtain ⟨q1, q2, q3, q4⟩ := po_read h hj h1 h2 h3 hf
  obtain ⟨_, g2, _, _, g5, _, _⟩ := h l hf
  rcases hbad with hb | hb
  · exact hb q1
  · have hg : GoodB la (blkPo l j) k := by
      rw [g5, hk, ← g2]
      exact good_of hf.1 (by rw [g2]; exact hj)
    exact hb _ hg (by rw [q2, g5])
/-- the document's posts, of the call's own. -/
structure OwnPr (w : World) (base : Nat) (v : Value) (ps : List PoL) : Prop where
  row : Own w base 80 2 v ps.length (pFlat ps)
  ns : ∀ p ∈ ps, PoN w base p
  bd : ∀ p ∈ ps, PoB p.1
theorem OwnPr.nil (w : World) (base : Nat) : OwnPr w base (.slice none 0 0) [] := ⟨Own.nil _ _ _ _, (fun p hp => nomatch hp), (fun p hp => nomatch hp)⟩
theorem OwnPr.off {S : Nat → Prop} {w w' : World} {base : Nat} {v : Value} {ps : List PoL} (h : OwnPr w base v ps) (f : Fr S w w') (h1 : Off S w 80) (h2 : Off S w 3) : OwnPr w' base v ps :=
  ⟨h.row.off f h1, fun p hp => (h.ns p hp).off f h2, h.bd⟩
theorem OwnPr.fr0 {w w' : World} {base : Nat} {v : Value} {ps : List PoL} (h : OwnPr w base v ps) (f : Fr No w w') : OwnPr w' base v ps := h.off f (fun _ _ _ _ h => h) (fun _ _ _ _ h => h)
theorem OwnPr.above {S : Nat → Prop} {w w' : World} {base : Nat} {v : Value} {ps : List PoL} (h : OwnPr w base v ps) (f : Fr S w w') (hS : ∀ k, S k → k < base) : OwnPr w' base v ps :=
  ⟨h.row.above f hS, fun p hp => (h.ns p hp).above f hS, h.bd⟩
theorem OwnPr.snoc {w w' : World} {base : Nat} {v v' : Value} {ps : List PoL} {p : PoL} (h : OwnPr w base v ps) (hp : PoN w base p) (hb : PoB p.1) (f : Fr (fun k => v.ownBlock = some k) w w')
    (ho : Own w' base 80 2 v' (ps.length + 1) (pFlat ps ++ pRow p)) : OwnPr w' base v' (ps ++ [p]) := by
  have hoff : Off (fun k => v.ownBlock = some k) w 3 := off_own h.row (by decide)
  refine ⟨by rw [List.length_append, pFlat_snoc]; exact ho, fun q hq => ?_, fun q hq => ?_⟩
  · rcases List.mem_append.1 hq with hq | hq
    · exact Own.off (h.ns q hq) f hoff
    · rw [List.mem_singleton.1 hq]; exact Own.off hp f hoff
  · rcases List.mem_append.1 hq with hq | hq
    · exact h.bd q hq
    · rw [List.mem_singleton.1 hq]; exact hb
theorem OwnPr.rd {w : World} {base c : Nat} {A : Option Addr} {ps : List PoL} (h : OwnPr w base (.slice A ps.length c) ps) : RdPo w w.heap.size A (ps.map (·.1)) := by
  refine ⟨ps, rfl, h.row.rd, fun p hp => ?_⟩
  have h1 := h.ns p hp
  exact ⟨h1.le.2.1, h1.le.2.2, Own.rd h1⟩
theorem OwnPr.inI {w : World} {base : Nat} {v : Value} {ps : List PoL} (h : OwnPr w base v ps) : ∀ x ∈ ps.map (·.1), x.2.length ≤ 140737488351232 := by
  intro x hx
  obtain ⟨p, hp, rfl⟩ := List.mem_map.1 hx
  have := (h.bd p hp).2.1
  omega
def ROpenP10 (w : World) (bs : List UInt8) (en : Ending) (w' : World) : Prop :=
  Fr No w w' ∧ ((∃ A n c ps, FormP bs (ps.map (·.1)) ∧ en = .returned (.tuple #[.slice A n c, .int .i64 0]) ∧ ps.length = n ∧ OwnPr w' w.heap.size (.slice A n c) ps) ∨ ((∀ l, ¬ FormP bs l) ∧ en = .returned (.tuple #[.slice none 0 0, .int .i64 20])))
end Go.Proofs.Ythlbfnoahdjdeaa
namespace Go.Proofs.Ythlbfnoahdjdeaa
set_option linter.unusedVariables false
set_option linter.unusedSimpArgs false
open Go.RowKit

theorem Try.infoEInt : (Try.prog.info? 3).map (fun i => (i.zero, i.size, i.bytes)) = some (some (.int .i64 0), 1, 8) := by kernel_rfl
theorem Try.infoSInt : (Try.prog.info? 52).map (fun i => (i.zero, i.size, i.bytes)) = some (some (.slice none 0 0), 1, 24) := by kernel_rfl
def mk1Int (j n : Nat) : List Value := (List.range n).map fun k : Nat => .int .i64 (1000 * (j : Int) + (k : Int))
def mk2Int (j : Nat) : List Value := (List.range 30).map fun k : Nat => .int .i64 (500000 + 1000 * (j : Int) + (k : Int))
theorem mk1Int_at {j n k : Nat} (h : k < n) : (mk1Int j n)[k]? = some (.int .i64 (1000 * (j : Int) + (k : Int))) := by simp [mk1Int, List.getElem?_range h]
theorem mk2Int_at {j k : Nat} (h : k < 30) : (mk2Int j)[k]? = some (.int .i64 (500000 + 1000 * (j : Int) + (k : Int))) := by simp [mk2Int, List.getElem?_range h]
theorem mk1Int_len (j n : Nat) : (mk1Int j n).length = n := by simp [mk1Int]
theorem mk2Int_len (j : Nat) : (mk2Int j).length = 30 := by simp [mk2Int]
section
variable (q m d : Nat) (A : Nat → Option Addr) (N C : Nat → Nat) (cs : Array Value) (W : World)
set_option maxRecDepth 100000 in
set_option maxHeartbeats 3200000 in
theorem apartInt_any (base : Nat) (Z : Nat → List Value) (hm : m ≤ 100000) (hN : ∀ j, j < m → N j ≤ 2097152) (hd : m ≤ d) (hd2 : d ≤ maxLen) (hq : W.heap[q]? = some (.cells cs 52 (0, 0))) (hcs : ∀ j, j < m → cs[j]? = some (.slice (A j) (N j) (C j)))
    (ho : Owns W base 3 m A N C Z) (ha : Apart m A N C) :
    Calls Try.prog 63 #[.slice (some ⟨q, 0, none⟩) m d] W (fun en w' => en = .returned (.bool true) ∧ Fr (Blocks m A N C) W w') := by
  unfold maxLen at hd2
  have HO := hide ho
  have HQ := hide hq
  have HCS := hide hcs
  have HN := hide hN
  have HA := hide ha
  clear ho hq hcs hN ha
  go_enter Try.func63, Try.ntmps63
  go_wp2
  go_loopw [3, 4] (fun i _ wr => ∃ (i' : Nat) (Z' : Nat → List Value), i' ≤ m ∧ i = .int .i64 i' ∧ Hid (Owns wr base 3 m A N C Z') ∧ Hid (∀ j, j < i' → Z' j = mk1Int j (N j)) ∧ Hid (Fr (Blocks m A N C) W wr) ∧ Hid (wr.heap[q]? = some (.cells cs 52 (0, 0)))) (fun i _ _ => m - (intOf i).toNat)
  case atStart => exact ⟨0, Z, by omega, rfl, HO, hide (fun j h => by omega), hide (Fr.refl _ _), HQ⟩
  case round =>
    obtain ⟨i, Z1, hi, rfl, O1, M1, F1, Q1⟩ := hrel
    obtain ⟨wo, rfl⟩ : ∃ wo : World, wo = wr := ⟨_, rfl⟩
    by_cases hlt : i < m
    · have hNi := HN.out i hlt
      have HCI := hide (HCS.out i hlt)
      go_wp2
      go_loopw [4] (fun k' wr => ∃ (k : Nat) (Z' : Nat → List Value), k ≤ N i ∧ k' = .int .i64 k ∧ Hid (Owns wr base 3 m A N C Z') ∧ Hid (∀ j, j < i → Z' j = mk1Int j (N j)) ∧ Hid ((Z' i).take k = (mk1Int i (N i)).take k) ∧ Hid (Fr (Blocks m A N C) W wr) ∧ Hid (wr.heap[q]? = some (.cells cs 52 (0, 0)))) (fun k' _ => N i - (intOf k').toNat)
      case atStart => exact ⟨0, Z1, by omega, rfl, O1, M1, hide rfl, F1, Q1⟩
      case round =>
        obtain ⟨k, Z2, hk, rfl, O2, M2, T2, F2, Q2⟩ := hrel
        have hci := cell_of_row wr q i cs 52 (0, 0) Q2.out
        rw [HCI.out] at hci
        by_cases hkl : k < N i
        · obtain ⟨g, hAi, hgl, hcell, hfz, hne, hst⟩ := O2.out.store HA.out hlt hkl
          rw [hAi] at hci
          have HST := hide hst
          have HNE := hide (hne q cs _ _ Q2.out (by decide))
          clear hst hne
          obtain ⟨u0, hu0⟩ : ∃ u, (Z2 i)[k]? = some u := ⟨_, List.getElem?_eq_getElem (by have := (O2.out i hlt).1; omega)⟩
          rw [hu0] at hcell
          have HAi := hide hAi
          obtain ⟨v, hv⟩ : ∃ v : Int, v = 1000 * (i : Int) + (k : Int) := ⟨_, rfl⟩
          have ev : 1000 * (i : Int) + (k : Int) = v := hv.symm
          have hv0 : 0 ≤ v := by omega
          have hv1 : v ≤ 200000000 := by omega
          have HMk : Hid ((mk1Int i (N i))[k]? = some (.int .i64 v)) := hide (by rw [hv]; exact mk1Int_at hkl)
          clear hv
          have HT := hide (take_set_snoc T2.out HMk.out (by have := (O2.out i hlt).1; omega))
          clear hAi hu0
          go_wp2
          go_roundw
          case rel => exact ⟨k + 1, _, by omega, by go_num, hide (HST.out _).1, hide (fun j hj => by rw [upd_other _ _ (by omega)]; exact M2.out j hj), hide (by rw [upd_same]; exact HT.out), hide (F2.out.ts (HST.out _).2), hide ((Fr.refl (Is g) wr).setCell (p := ⟨g, k, none⟩) (fun _ => rfl) _ |>.blk Q2.out (fun e => HNE.out e.symm))⟩
          case measure => simp [intOf]; omega
        · have hkN : k = N i := by omega
          go_wp2
          go_roundw
          case rel =>
            refine ⟨i + 1, Z2, by omega, by go_num, O2, hide (fun j hj => ?_), F2, Q2⟩
            by_cases hji : j = i
            · subst hji
              have h := T2.out
              rwa [List.take_of_length_le (by have := (O2.out j hlt).1; omega), List.take_of_length_le (by rw [mk1Int_len]; omega)] at h
            · exact M2.out j (by omega)
          case measure => simp [intOf]; omega
    · have O2 : Hid (∀ j, j < m → Own wo 0 3 1 (.slice (A j) (N j) (C j)) (N j) (mk1Int j (N j))) := fun j hj => by
        have h := O1.out j hj
        rw [M1.out j (by omega)] at h
        exact h.lower (Nat.zero_le _)
      have LT : Hid (∀ j, j < m → ∀ k, (Value.slice (A j) (N j) (C j)).ownBlock = some k → k < W.heap.size) := fun j hj k hk => ((HO.out j hj).lt k hk).2
      have QW : Hid (q < W.heap.size) := (Array.getElem?_eq_some_iff.1 HQ.out).1
      have QN : Hid (∀ j, j < m → (Value.slice (A j) (N j) (C j)).ownBlock ≠ some q) := fun j hj hk => (HO.out j hj).ne_blk hk HQ.out (by decide)
      have hW := F1.out.size
      obtain ⟨i1, hi1, hz1, hs1, hb1⟩ := info_parts Try.infoEInt
      obtain ⟨i2, hi2, hz2, hs2, hb2⟩ := info_parts Try.infoSInt
      clear O1 M1 HO HQ
      go_wp2
      go_loopw [5, 6, 7, 8] (fun more i' _ _ wr => ∃ (i : Nat) (L : Nat → Value), i ≤ m ∧ i' = .int .i64 i ∧ Hid (Own wr W.heap.size 52 1 more i ((List.range i).map L))
          ∧ Hid (∀ j, i ≤ j → j < m → Own wr 0 3 1 (.slice (A j) (N j) (C j)) (N j) (mk1Int j (N j)))
          ∧ Hid (∀ j, j < m → Rd wr W.heap.size (A j) (mk1Int j (N j)))
          ∧ Hid (∀ j, j < i → Own wr 0 3 1 (L j) (N j + 30) (mk1Int j (N j) ++ mk2Int j))
          ∧ Hid (∀ j, j < i → ∀ j', i ≤ j' → j' < m → ∀ k, (Value.slice (A j') (N j') (C j')).ownBlock = some k → (L j).ownBlock ≠ some k)
          ∧ Hid (Fr (Blocks m A N C) W wr) ∧ Hid (wr.heap[q]? = some (.cells cs 52 (0, 0)))) (fun _ i _ _ _ => m - (intOf i).toNat)
      case atStart =>
        refine ⟨0, fun _ => undef, by omega, rfl, hide (Own.nil _ _ _ _), hide (fun j _ hj => O2.out j hj), hide (fun j hj => ?_), hide (fun j hj => by omega), hide (fun j hj => by omega), F1, Q1⟩
        have h := (O2.out j hj).rd
        intro x u hu
        obtain ⟨ad, e, hb, hc⟩ := h x u hu
        exact ⟨ad, e, LT.out j hj _ (by rw [e]; rfl), hc⟩
      case round =>
        obtain ⟨i, L, hi, rfl, OM, OV, RV, OL, DL, FW, QQ⟩ := hrel
        obtain ⟨wi, rfl⟩ : ∃ wi : World, wi = wr := ⟨_, rfl⟩
        clear hlt
        by_cases hlt : i < m
        · have hNi := HN.out i hlt
          have hci := cell_of_row wi q i cs 52 (0, 0) QQ.out
          rw [HCS.out i hlt] at hci
          have hWi := FW.out.size
          have AI := hide (OV.out i (Nat.le_refl _) hlt).mem
          go_wp2
          go_loopw [7, 8] (fun l k' wr => ∃ (k : Nat), k ≤ 30 ∧ k' = .int .i64 k ∧ Hid (Own wr 0 3 1 l (N i + k) (mk1Int i (N i) ++ (mk2Int i).take k))
              ∧ Hid (l.ownBlock = (Value.slice (A i) (N i) (C i)).ownBlock ∨ ∀ g, l.ownBlock = some g → wi.heap.size ≤ g)
              ∧ Hid (Rd wr W.heap.size (A i) (mk1Int i (N i))) ∧ Hid (Fr (fun k => (Value.slice (A i) (N i) (C i)).ownBlock = some k) wi wr)) (fun _ k' _ => 30 - (intOf k').toNat)
          case atStart => exact ⟨0, by omega, rfl, hide (by simpa using OV.out i (Nat.le_refl _) hlt), hide (.inl rfl), hide (RV.out i hlt), hide (Fr.refl _ _)⟩
          case round =>
            obtain ⟨k, hk, rfl, I1, I2, I3, I4⟩ := hrel
            by_cases hkl : k < 30
            · obtain ⟨v, hv⟩ : ∃ v : Int, v = 500000 + 1000 * (i : Int) + (k : Int) := ⟨_, rfl⟩
              have ev : 500000 + 1000 * (i : Int) + (k : Int) = v := hv.symm
              have hv0 : 0 ≤ v := by omega
              have hv1 : v ≤ 200000000 := by omega
              have HMk : Hid ((mk2Int i)[k]? = some (.int .i64 v)) := hide (by rw [hv]; exact mk2Int_at hkl)
              clear hv
              have HS := hide (Src.one (P := Try.prog) wr (e := 3) Try.underlying52 (.int .i64 v) rfl)
              have I1' := hide (I1.out.fr0 ((Fr.refl No wr).alloc (.cells #[.int .i64 v] 3)))
              have b1 : (N i + k + 1) * 8 ≤ 140737488355328 := by omega
              have b2 : N i + k + 1 ≤ maxLen := by unfold maxLen; omega
              go_wp2_with (at_builtin; refine wpList_append_two _ rfl (.tmp 52) (.tmp 58) 52 52 rfl 0 3 i1 (.int .i64 0) 1 8 Try.underlying52 hi1 hz1 hs1 hb1 rfl u7 (N i + k) _ rfl I1'.out _ 1 [.int .i64 v] rfl HS.out b1 b2 (Nat.zero_le _) ?_; intro v' w' hown hat; have ON := hide hown; have HAT := hide hat; clear hown hat)
              go_roundw
              case rel =>
                have h5 := ON.out
                rw [List.append_assoc, take_snoc_at HMk.out] at h5
                have h6 := apart_step hWi (LT.out i hlt) (by
                  rcases AI.out with ⟨h, h0⟩ | h
                  · exact .inl ⟨h, by rw [h0]; rfl⟩
                  · exact .inr h) I2.out I3.out I4.out h5 HAT.out
                exact ⟨k + 1, by omega, by go_num, hide h5, hide h6.1, hide h6.2.1, hide h6.2.2⟩
              case measure => simp [intOf]; omega
            · obtain rfl : k = 30 := by omega
              obtain ⟨Al, cl, rfl, hl1, hl2, _⟩ := I1.out.form
              have HS := hide (Src.one (P := Try.prog) wr (e := 52) Try.underlying103 (.slice Al (N i + 30) cl) rfl)
              have FO : Hid (Fr (fun k => (Value.slice (A i) (N i) (C i)).ownBlock = some k) wi (wr.alloc (.cells #[.slice Al (N i + 30) cl] 52))) := I4.out.alloc _
              have OM' : Hid (Own (wr.alloc (.cells #[.slice Al (N i + 30) cl] 52)) W.heap.size 52 1 u5 i ((List.range i).map L)) := OM.out.fr FO.out (fun g hg hk => by
                have := (OM.out.lt g hg).1
                have := LT.out i hlt g hk
                omega)
              have b1 : (i + 1) * 24 ≤ 140737488355328 := by omega
              have b2 : i + 1 ≤ maxLen := by unfold maxLen; omega
              have b3 : W.heap.size ≤ (wr.alloc (.cells #[.slice Al (N i + 30) cl] 52)).heap.size := Nat.le_trans hWi FO.out.size
              go_wp2_with (at_builtin; refine wpList_append_gen _ rfl (.tmp 60) (.tmp 62) 103 103 rfl W.heap.size 52 i2 (.slice none 0 0) 1 24 Try.underlying103 hi2 hz2 hs2 hb2 rfl u5 i _ rfl OM'.out _ 1 [.slice Al (N i + 30) cl] rfl HS.out b1 b2 b3 ?_; intro v' w' hown hfr hat; have ON := hide hown; have FN := hide hfr; clear hown hfr hat)
              go_roundw
              case rel =>
                have hmw : ∀ g, u5.ownBlock = some g → W.heap.size ≤ g := fun g hg => (OM'.out.lt g hg).1
                have hl : Own (wr.alloc (.cells #[.slice Al (N i + 30) cl] 52)) 0 3 1 (.slice Al (N i + 30) cl) (N i + 30) (mk1Int i (N i) ++ mk2Int i) := by
                  have h := I1.out
                  rw [List.take_of_length_le (by rw [mk2Int_len]; omega)] at h
                  exact h.fr0 ((Fr.refl No wr).alloc _)
                refine ⟨i + 1, updV L i (.slice Al (N i + 30) cl), by omega, by go_num, hide (by rw [← map_snoc]; exact ON.out), hide ?_, hide ?_, hide ?_, hide ?_, hide ?_, hide ?_⟩
                · intro j hij hj
                  refine ((OV.out j (by omega) hj).fr FO.out ?_).fr FN.out ?_
                  · intro g hg hk
                    exact HA.out.dis i j hlt hj (by omega) g hk hg
                  · intro g hg hk
                    have := LT.out j hj g hg
                    have := hmw g hk
                    omega
                · intro j hj
                  have h1 : Rd (wr.alloc (.cells #[.slice Al (N i + 30) cl] 52)) W.heap.size (A j) (mk1Int j (N j)) := by
                    by_cases hji : j = i
                    · subst hji
                      exact I3.out.fr0 ((Fr.refl No wr).alloc _)
                    · refine (RV.out j hj).fr2 FO.out ?_
                      intro ad had hk
                      exact HA.out.dis i j hlt hj (fun e => hji e.symm) _ hk (by rw [had]; rfl)
                  refine h1.fr2 FN.out ?_
                  intro ad had hk
                  have := LT.out j hj ad.block (by rw [had]; rfl)
                  have := hmw _ hk
                  omega
                · intro j hj
                  by_cases hji : j = i
                  · subst hji
                    rw [updV_same]
                    exact hl.fr FN.out (fun g hg hk => hl.ne_own OM'.out (by decide) hk hg)
                  · rw [updV_other _ _ hji]
                    have h1 := (OL.out j (by omega)).fr FO.out (fun g hg hk => DL.out j (by omega) i (Nat.le_refl _) hlt g hk hg)
                    exact h1.fr FN.out (fun g hg hk => h1.ne_own OM'.out (by decide) hk hg)
                · intro j hj j' hij hj' k hk
                  by_cases hji : j = i
                  · subst hji
                    rw [updV_same]
                    rcases I2.out with h2 | h2
                    · rw [h2]
                      exact fun h => HA.out.dis j j' hlt hj' (by omega) k h hk
                    · intro h
                      have := h2 k h
                      have := LT.out j' hj' k hk
                      omega
                  · rw [updV_other _ _ hji]
                    exact DL.out j (by omega) j' (by omega) hj' k hk
                · refine (FW.out.trans FO.out (fun k _ hk => ⟨i, hlt, hk⟩)).trans FN.out ?_
                  intro k hk h
                  have := hmw k h
                  omega
                · refine FN.out.blk (FO.out.blk QQ.out (QN.out i hlt)) ?_
                  intro h
                  have := hmw q h
                  have := QW.out
                  omega
              case measure => simp [intOf]; omega
        · obtain rfl : m = i := by omega
          clear DL OV hW LT QW QN
          obtain ⟨AM, cM, rfl, hM1, hM2, _, hMR, _⟩ := OM.out.form
          unfold maxLen at hM2
          have MR := hide hMR
          clear hMR OM
          go_wp2
          go_loop [9, 10, 11, 12] (fun i' _ _ _ => ∃ i : Nat, i ≤ m ∧ i' = .int .i64 i) (fun i' _ _ _ => m - (intOf i').toNat)
          case atStart => exact ⟨0, by omega, rfl⟩
          case round =>
            obtain ⟨i, hi2', rfl⟩ := hrel
            clear hlt
            by_cases hlt : i < m
            · have hNi := HN.out i hlt
              have hci := cell_of_row wi q i cs 52 (0, 0) QQ.out
              rw [HCS.out i hlt] at hci
              obtain ⟨Al, cl, hLi, hl1, hl2, _, hLR, _⟩ := (OL.out i hlt).form
              unfold maxLen at hl2
              obtain ⟨am, rfl, _, hmc⟩ := MR.out i (L i) (by simp [List.getElem?_range hlt])
              rw [hLi] at hmc
              have LR := hide hLR
              clear hLR hLi
              go_wp2
              go_loop [11] (fun k' => ∃ k : Nat, k ≤ N i ∧ k' = .int .i64 k) (fun k' => N i - (intOf k').toNat)
              case atStart => exact ⟨0, by omega, rfl⟩
              case round =>
                obtain ⟨k, hk, rfl⟩ := hrel
                by_cases hkl : k < N i
                · obtain ⟨v, hv⟩ : ∃ v : Int, v = 1000 * (i : Int) + (k : Int) := ⟨_, rfl⟩
                  have ev : 1000 * (i : Int) + (k : Int) = v := hv.symm
                  have hv0 : 0 ≤ v := by omega
                  have hv1 : v ≤ 200000000 := by omega
                  have HMk : Hid ((mk1Int i (N i))[k]? = some (.int .i64 v)) := hide (by rw [hv]; exact mk1Int_at hkl)
                  clear hv
                  obtain ⟨ad, hAi, _, hc1⟩ := RV.out i hlt k _ HMk.out
                  obtain ⟨bd, rfl, _, hc2⟩ := LR.out k (.int .i64 v) (by rw [List.getElem?_append_left (by rw [mk1Int_len]; exact hkl)]; exact HMk.out)
                  rw [hAi] at hci
                  have hb : (v != v) = false := by simp
                  clear hAi
                  go_wp2
                  go_round
                  case rel => exact ⟨k + 1, by omega, by go_num⟩
                  case measure => simp [intOf]; omega
                · go_wp2
                  go_loop [12] (fun k' => ∃ k : Nat, k ≤ 30 ∧ k' = .int .i64 k) (fun k' => 30 - (intOf k').toNat)
                  case atStart => exact ⟨0, by omega, rfl⟩
                  case round =>
                    clear hkl hk
                    obtain ⟨k, hk, rfl⟩ := hrel
                    by_cases hkl : k < 30
                    · obtain ⟨v, hv⟩ : ∃ v : Int, v = 500000 + 1000 * (i : Int) + (k : Int) := ⟨_, rfl⟩
                      have ev : 500000 + 1000 * (i : Int) + (k : Int) = v := hv.symm
                      have hv0 : 0 ≤ v := by omega
                      have hv1 : v ≤ 200000000 := by omega
                      have HMk : Hid ((mk2Int i)[k]? = some (.int .i64 v)) := hide (by rw [hv]; exact mk2Int_at hkl)
                      clear hv
                      obtain ⟨bd, rfl, _, hc2⟩ := LR.out (N i + k) (.int .i64 v) (by
                        rw [List.getElem?_append_right (by rw [mk1Int_len]; omega), mk1Int_len, Nat.add_sub_cancel_left]
                        exact HMk.out)
                      have hb : (v != v) = false := by simp
                      have t1 : ((N i : Int) + (k : Int)).toNat = N i + k := by omega
                      go_wp2
                      go_round
                      case rel => exact ⟨k + 1, by omega, by go_num⟩
                      case measure => simp [intOf]; omega
                    · go_wp2
                      go_round
                      case rel => exact ⟨i + 1, by omega, by go_num⟩
                      case measure => simp [intOf]; omega
            · go_wp2
              go_ret
              exact ⟨rfl, FW.out⟩
end
end Go.Proofs.Ythlbfnoahdjdeaa
namespace Go.Proofs.Ythlbfnoahdjdeaa
set_option linter.unusedVariables false
set_option linter.unusedSimpArgs false
open Go.RowKit

set_option maxRecDepth 100000 in
set_option maxHeartbeats 400000 in
theorem apartInt_nil (w : World) : Calls Try.prog 63 #[.slice none 0 0] w (RetB true w) := by
  go_enter Try.func63, Try.ntmps63
  go_wp2
  go_loopw [3] (fun i wr => i = .int .i64 0 ∧ Hid (Fr No w wr)) (fun i _ => 0)
  case atStart => exact ⟨rfl, hide (Fr.refl _ _)⟩
  case round =>
    obtain ⟨w1, rfl⟩ : ∃ w1 : World, w1 = wr := ⟨_, rfl⟩
    obtain ⟨rfl, HF⟩ := hrel
    go_wp2
    go_loopw [6] (fun i wr => i = .int .i64 0 ∧ Hid (Fr No w wr)) (fun i _ => 0)
    case atStart => exact ⟨rfl, HF⟩
    case round =>
      obtain ⟨w2, rfl⟩ : ∃ w2 : World, w2 = wr := ⟨_, rfl⟩
      obtain ⟨rfl, HF2⟩ := hrel
      go_wp2
      go_loopw [9] (fun i wr => i = .int .i64 0 ∧ Hid (Fr No w wr)) (fun i _ => 0)
      case atStart => exact ⟨rfl, HF2⟩
      case round =>
        obtain ⟨rfl, HF3⟩ := hrel
        go_wp2
        go_ret
        exact ⟨rfl, HF3.out⟩
theorem pw_at {α : Type} {R : α → α → Prop} {l : List α} (h : l.Pairwise R) {i j : Nat} {x y : α} (hij : i < j) (hx : l[i]? = some x) (hy : l[j]? = some y) : R x y := by
  obtain ⟨h1, rfl⟩ := List.getElem?_eq_some_iff.1 hx
  obtain ⟨h2, rfl⟩ := List.getElem?_eq_some_iff.1 hy
  exact List.pairwise_iff_getElem.1 h i j h1 h2 hij
def dPo : PoL := (noPo, none, 0)
def pA (ps : List PoL) (j : Nat) : Option Addr := (ps.getD j dPo).2.1
def pN (ps : List PoL) (j : Nat) : Nat := (ps.getD j dPo).1.2.length
def pC (ps : List PoL) (j : Nat) : Nat := (ps.getD j dPo).2.2
def pZ (ps : List PoL) (j : Nat) : List Value := iz .i64 (ps.getD j dPo).1.2
theorem getD_at {ps : List PoL} {j : Nat} (h : j < ps.length) : ps[j]? = some (ps.getD j dPo) := by
  rw [List.getD_eq_getElem?_getD, List.getElem?_eq_getElem h]
  rfl
theorem OwnPs.owns {w : World} {base : Nat} {v : Value} {ps : List PoL} (h : OwnPs w base v ps) : Owns w base 3 ps.length (pA ps) (pN ps) (pC ps) (pZ ps) := fun j hj => h.ns _ (List.mem_of_getElem? (getD_at hj))
theorem OwnPs.apart {w : World} {base : Nat} {v : Value} {ps : List PoL} (h : OwnPs w base v ps) : Apart ps.length (pA ps) (pN ps) (pC ps) := by
  refine ⟨fun i j hi hj hij k hk hk2 => ?_⟩
  rcases Nat.lt_or_gt_of_ne hij with hlt | hlt
  · exact pw_at h.ap hlt (getD_at hi) (getD_at hj) k hk hk2
  · exact pw_at h.ap hlt (getD_at hj) (getD_at hi) k hk2 hk

set_option maxRecDepth 100000 in
set_option maxHeartbeats 4000000 in
theorem same10_any (A A2 : Option Addr) (n c c2 base B2 : Nat) (ps : List PoL) (w : World) (hl : ps.length = n) (hn : n ≤ 16384) (h : OwnPs w base (.slice A n c) ps) (hb : base ≤ w.heap.size) (h2 : n ≤ c2) (hc2 : c2 ≤ maxLen) (hr : RdPo w B2 A2 (ps.map (·.1))) :
    Calls Try.prog 33 #[.slice A n c, .slice A2 n c2] w (fun en w' => en = .returned (.bool true) ∧ Fr (fun k => base ≤ k) w w') := by
  obtain ⟨iS, hiS, hzS, hsS, hbS⟩ := info_parts Try.infoSInt
  have HL := hide hl
  have HR := hide hr
  have HP := hide h
  have hle := h.row.le
  rw [hl] at hle
  have HLe := hide hle.2
  have HRp : Hid (RdPo w w.heap.size A (ps.map (·.1))) := hide (by rw [← hl] at h; exact h.rd)
  have HF0 := hide (Fr.refl No w)
  have HLm : Hid ((ps.map (·.1)).length = n) := hide (by rw [List.length_map, hl])
  unfold maxLen at hc2
  have hc3 : c ≤ 9223372036854775807 := by have := hle.2.2; unfold maxLen at this; omega
  have hnb : ((n : Int) != (n : Int)) = false := by simp
  clear hl hr h hle
  go_enter Try.func33, Try.ntmps33
  go_wp2_with (fail)
  go_loopw [5, 6] (fun va ix wr => ∃ k : Nat, k ≤ n ∧ ix = .int .i64 k ∧ Hid (Own wr w.heap.size 52 1 va k ((ps.take k).map pVal)) ∧ Hid (Fr No w wr)) (fun _ ix _ => n - (intOf ix).toNat)
  case atStart => exact ⟨0, Nat.zero_le _, rfl, hide (Own.nil _ _ _ _), HF0⟩
  case round =>
    obtain ⟨wo, rfl⟩ : ∃ wo : World, wo = wr := ⟨_, rfl⟩
    obtain ⟨k, hk, rfl, HO, HF⟩ := hrel
    clear HF0
    by_cases hlt : k < n
    · have hkl : k < (ps.map (·.1)).length := by rw [HLm.out]; exact hlt
      have hkp : k < ps.length := by rw [HL.out]; exact hlt
      obtain ⟨⟨E, Ak, ck⟩, hpk⟩ : ∃ p, ps[k]? = some p := ⟨_, List.getElem?_eq_getElem hkp⟩
      have hE : (ps.map (·.1)).getD k noPo = E := by simp [hpk]
      have hrow := HP.out.row
      obtain ⟨a1, a2⟩ := pFlat_at hpk
      dsimp only at a1 a2
      have hrd := (HP.out.fr0 HF.out)
      rw [← HL.out] at hrd
      have hrd := hrd.row.rd
      obtain ⟨ad, rfl, -, e0⟩ := hrd _ _ a1
      obtain ⟨ad', h7, -, e1⟩ := hrd _ _ a2
      injection h7 with h7
      subst h7
      rw [add_litP] at e1
      obtain ⟨bd, Bk, dk, rfl, -, f0, f1, q1, q2, q3⟩ := (HR.out.fr0 HF.out).at hkl
      rw [hE] at f0 f1 q1 q3
      have hpn := (HP.out.fr0 HF.out).ns _ (List.mem_of_getElem? hpk)
      have hpl := hpn.le
      obtain ⟨pm, hpm⟩ : ∃ pm, E.2.length = pm := ⟨_, rfl⟩
      dsimp only at hpl
      rw [hpm] at e1 f1 q1 hpl
      have p3 := Own.rd hpn
      dsimp only at p3
      have HV : Hid (pVal (E, Ak, ck) = .slice Ak pm ck) := hide (by unfold pVal; dsimp only; rw [hpm])
      have HTk : Hid (ps.take (k + 1) = ps.take k ++ [(E, Ak, ck)]) := hide (by
        obtain ⟨g1, g2⟩ := List.getElem?_eq_some_iff.1 hpk
        rw [List.take_succ_eq_append_getElem g1, g2])
      obtain ⟨dd, hdd⟩ : ∃ x, E.1 = x := ⟨_, rfl⟩
      rw [hdd] at e0 f0
      have HKi := hide (fun t => sameInt_any Ak Bk pm ck pm dk wo.heap.size B2 E.2 E.2 (wo.drewN t) hpm hpm hpl.2.1 hpl.2.2 q1 q2 (p3.fr0 ((Fr.refl No wo).drewN t)) (q3.fr0 ((Fr.refl No wo).drewN t)))
      rw [decide_eq_true rfl] at HKi
      have hb9 : (dd != dd) = false := by simp
      have j0 : (0 : Int) ≤ (k : Int) := by omega
      have j1 : (k : Int) < (n : Int) := by omega
      have HE1 := hide e1
      clear hkl hkp hE hpm hdd a1 a2 hrd hpk hpn hpl p3 q1 q2 q3 hrow
      go_wp2_with (fail)
      go_quiet ((go_at_call 28; exact Calls.quiet_of (HKi.out _)))
      obtain ⟨wq, hwq⟩ : ∃ W, W = wo.drewN nq := ⟨_, rfl⟩
      have e1q : wq.cell? ⟨(ad.add (k * 2)).block, (ad.add (k * 2)).off + 1, none⟩ = some (.slice Ak pm ck) := by rw [hwq]; exact HE1.out
      have HFq : Hid (Fr No w wq) := hide (by rw [hwq]; exact HF.out.drewN nq)
      have HOq := hide (show Own wq w.heap.size 52 1 u5 k ((ps.take k).map pVal) from by rw [hwq]; exact HO.out.fr0 ((Fr.refl No wo).drewN nq))
      rw [← hwq]
      have fa : Fr No wq (wq.alloc (.cells #[.slice Ak pm ck] 52)) := (Fr.refl No wq).alloc _
      have HOa := hide (HOq.out.fr0 fa)
      have HFa := hide (HFq.out.tr fa)
      have HSa := hide (Src.one (P := Try.prog) wq (e := 52) Try.underlying103 (.slice Ak pm ck) rfl)
      have b1 : (k + 1) * 24 ≤ 140737488355328 := by omega
      have b2 : k + 1 ≤ maxLen := by unfold maxLen; omega
      have b3 : w.heap.size ≤ (wq.alloc (.cells #[.slice Ak pm ck] 52)).heap.size := HFa.out.size
      clear hwq fa e0 e1 f0 f1
      go_wp2_with (first | (at_builtin; refine wpList_append_gen _ rfl (.tmp 43) (.tmp 49) 103 103 rfl w.heap.size 52 iS _ 1 24 Try.underlying103 hiS hzS hsS hbS rfl u5 k ((ps.take k).map pVal) rfl HOa.out _ 1 [.slice Ak pm ck] rfl HSa.out b1 b2 b3 ?_; intro v5 w5 hown hfr hat; have HO5 := hide hown; have HF5 := hide hfr; clear hown hfr hat) | fail)
      go_roundw
      case rel => exact ⟨k + 1, by omega, by go_num, hide (by rw [HTk.out, List.map_append, List.map_cons, List.map_nil, HV.out]; exact HO5.out), hide (HFa.out.own HF5.out (fun k' hk' => .inl (HOa.out.lt k' hk').1))⟩
      case measure => simp [intOf]; omega
    · obtain rfl : n = k := by omega
      have hpo := HP.out.fr0 HF.out
      have HOw := hide hpo.owns
      have HAp := hide hpo.apart
      have HNs : Hid (∀ j, j < ps.length → pN ps j ≤ 2097152) := hide (fun j hj => (HP.out.bd _ (List.mem_of_getElem? (getD_at hj))).2.1)
      have HAll : Hid (ps.take n = ps) := hide (List.take_of_length_le (by rw [HL.out]; exact Nat.le_refl _))
      have HC := hide (show Calls Try.prog 63 #[u5] wo (fun en w' => en = .returned (.bool true) ∧ Fr (Blocks ps.length (pA ps) (pN ps) (pC ps)) wo w') from by
        have hv := HO.out
        rw [HAll.out] at hv
        obtain ⟨hl', A', c', rfl, h1, h2, hA'⟩ := hv
        rcases hA' with ⟨rfl, rfl⟩ | ⟨g', cur, rfl, _, hh, h3, h4'⟩
        · obtain rfl : n = 0 := by omega
          exact (apartInt_nil wo).mono (fun _ _ h => ⟨h.1, h.2.any _⟩)
        · rw [← HL.out] at h1 hn ⊢
          refine apartInt_any g' ps.length c' _ _ _ cur wo base _ (by omega) HNs.out h1 h2 hh (fun j hj => ?_) HOw.out HAp.out
          have e := congrArg (fun l => l[j]?) h4'
          simp only [← HL.out, Nat.mul_one, List.getElem?_take, if_pos hj, List.getElem?_map] at e
          rw [Array.getElem?_toList] at e
          rw [e, getD_at hj]
          rfl)
      clear hlt hpo HAp HNs HAll
      go_wp2_with (fail)
      refine HC.out.mono ?_
      rintro en w2 ⟨rfl, hfr⟩
      have HFz : Hid (Fr (fun k => base ≤ k) w w2) := hide (((HF.out.any _)).trans (hfr.mono (T := fun k => base ≤ k) (fun k _ ⟨j, hj, hbj⟩ => (HOw.out j hj).lt k hbj |>.1)) (fun i hi h => h))
      clear hfr HC
      go_wp2_with (fail)
      go_ret
      exact ⟨rfl, HFz.out⟩
end Go.Proofs.Ythlbfnoahdjdeaa
namespace Go.Proofs.Ythlbfnoahdjdeaa
set_option linter.unusedVariables false
set_option linter.unusedSimpArgs false
open Go.RowKit

set_option maxRecDepth 100000 in
set_option maxHeartbeats 800000 in
theorem refN_bad1 (B g : Nat) (bs : List UInt8) (a : Nat) (w : World) (most : Int) (h : RS w B g bs a 0) (hd : dec 0 0 (bs.drop a) = none) :
    Calls Try.prog 59 #[.pointer (some ⟨g, 0, none⟩), .int .i64 most] w (RSRet (.int .i64 0) w B g bs a 20) := by
  obtain ⟨A, c, ⟨c0, c1, c2⟩, hf, h1, h2, h3, h4, hr, hB⟩ := h.parts
  have HN := hide (refnum_cut hr h1 h2 h3 hB hd)
  simp only [numW] at HN
  have H := hide h
  have HA := hide hr
  clear h hr hd
  by_cases hca : c = a
  · have HN1 := HN.out
    rw [if_pos hca, hca, Nat.sub_self] at HN1
    have HN2 := hide HN1
    clear HN HN1
    go_enter Try.func59, Try.ntmps59
    go_wp2_with (fail)
    go_region_with (go_at_call 82; refine (HN2.out w.drew rfl).mono ?_; rintro en w1 ⟨rfl, hfr⟩; have HF : Hid (Fr No w w1) := ⟨hfr.os, hfr.tape, hfr.output, hfr.size, hfr.block⟩; clear hfr; have HR1 := hide (H.out.fr0 HF.out); obtain ⟨A1, k1, ⟨e0, e1, e2⟩, hf1, q1, q2, _, _, _⟩ := HR1.out.parts)
    all_goals (try go_wp2)
    all_goals go_ret
    all_goals exact ⟨rfl, HR1.out.set2 20, (HF.out.any (Is g)).put _ _⟩
  · have HN1 := HN.out
    rw [if_neg hca] at HN1
    have HN2 := hide HN1
    clear HN HN1
    go_enter Try.func59, Try.ntmps59
    go_wp2_with (fail)
    go_region_with (go_at_call 82; refine (HN2.out w.drew rfl).mono ?_; rintro en w1 ⟨rfl, hfr⟩; have HF : Hid (Fr No w w1) := ⟨hfr.os, hfr.tape, hfr.output, hfr.size, hfr.block⟩; clear hfr; have HR1 := hide (H.out.fr0 HF.out); obtain ⟨A1, k1, ⟨e0, e1, e2⟩, hf1, q1, q2, _, _, _⟩ := HR1.out.parts)
    all_goals (try go_wp2)
    all_goals go_ret
    all_goals exact ⟨rfl, HR1.out.set2 20, (HF.out.any (Is g)).put _ _⟩

set_option maxRecDepth 100000 in
set_option maxHeartbeats 800000 in
theorem refN_bad2 (B g : Nat) (bs : List UInt8) (a : Nat) (w : World) (most : Int) (u k : Nat) (h : RS w B g bs a 0) (hd : dec 0 0 (bs.drop a) = some (u, k)) (hneg : most < 0) :
    Calls Try.prog 59 #[.pointer (some ⟨g, 0, none⟩), .int .i64 most] w (RSRet (.int .i64 0) w B g bs a 20) := by
  obtain ⟨A, c, ⟨c0, c1, c2⟩, hf, h1, h2, h3, h4, hr, hB⟩ := h.parts
  have HN := hide (refnum_cut hr h1 h2 h3 hB hd)
  simp only [numW] at HN
  have H := hide h
  have HA := hide hr
  have hk := dec_le _ _ _ _ _ hd
  have hk1 : a + k ≤ bs.length := by have := hk.2; simp at this; omega
  have hk0 : ((k : Int) == 0) = false := by have := hk.1; simp; omega
  have hu := dec_lt _ 0 0 u k (by decide) hd
  clear hk
  clear h hr hd
  by_cases hca : c = a
  · have HN1 := HN.out
    rw [if_pos hca, hca, Nat.sub_self] at HN1
    have HN2 := hide HN1
    clear HN HN1
    go_enter Try.func59, Try.ntmps59
    go_wp2_with (fail)
    go_region_with (go_at_call 82; refine (HN2.out w.drew rfl).mono ?_; rintro en w1 ⟨rfl, hfr⟩; have HF : Hid (Fr No w w1) := ⟨hfr.os, hfr.tape, hfr.output, hfr.size, hfr.block⟩; clear hfr; have HR1 := hide (H.out.fr0 HF.out); obtain ⟨A1, k1, ⟨e0, e1, e2⟩, hf1, q1, q2, _, _, _⟩ := HR1.out.parts)
    all_goals (try go_wp2)
    all_goals go_ret
    all_goals exact ⟨rfl, HR1.out.set2 20, (HF.out.any (Is g)).put _ _⟩
  · have HN1 := HN.out
    rw [if_neg hca] at HN1
    have HN2 := hide HN1
    clear HN HN1
    go_enter Try.func59, Try.ntmps59
    go_wp2_with (fail)
    go_region_with (go_at_call 82; refine (HN2.out w.drew rfl).mono ?_; rintro en w1 ⟨rfl, hfr⟩; have HF : Hid (Fr No w w1) := ⟨hfr.os, hfr.tape, hfr.output, hfr.size, hfr.block⟩; clear hfr; have HR1 := hide (H.out.fr0 HF.out); obtain ⟨A1, k1, ⟨e0, e1, e2⟩, hf1, q1, q2, _, _, _⟩ := HR1.out.parts)
    all_goals (try go_wp2)
    all_goals go_ret
    all_goals exact ⟨rfl, HR1.out.set2 20, (HF.out.any (Is g)).put _ _⟩

set_option maxRecDepth 100000 in
set_option maxHeartbeats 800000 in
theorem refN_bad3 (B g : Nat) (bs : List UInt8) (a : Nat) (w : World) (m : Nat) (u k : Nat) (h : RS w B g bs a 0) (hd : dec 0 0 (bs.drop a) = some (u, k)) (hm2 : (m : Int) ≤ 9223372036854775807) (hbig : m < u) :
    Calls Try.prog 59 #[.pointer (some ⟨g, 0, none⟩), .int .i64 m] w (RSRet (.int .i64 0) w B g bs a 20) := by
  obtain ⟨A, c, ⟨c0, c1, c2⟩, hf, h1, h2, h3, h4, hr, hB⟩ := h.parts
  have HN := hide (refnum_cut hr h1 h2 h3 hB hd)
  simp only [numW] at HN
  have H := hide h
  have HA := hide hr
  have hk := dec_le _ _ _ _ _ hd
  have hk1 : a + k ≤ bs.length := by have := hk.2; simp at this; omega
  have hk0 : ((k : Int) == 0) = false := by have := hk.1; simp; omega
  have hu := dec_lt _ 0 0 u k (by decide) hd
  clear hk
  clear h hr hd
  by_cases hca : c = a
  · have HN1 := HN.out
    rw [if_pos hca, hca, Nat.sub_self] at HN1
    have HN2 := hide HN1
    clear HN HN1
    go_enter Try.func59, Try.ntmps59
    go_wp2_with (fail)
    go_region_with (go_at_call 82; refine (HN2.out w.drew rfl).mono ?_; rintro en w1 ⟨rfl, hfr⟩; have HF : Hid (Fr No w w1) := ⟨hfr.os, hfr.tape, hfr.output, hfr.size, hfr.block⟩; clear hfr; have HR1 := hide (H.out.fr0 HF.out); obtain ⟨A1, k1, ⟨e0, e1, e2⟩, hf1, q1, q2, _, _, _⟩ := HR1.out.parts)
    all_goals (try go_wp2)
    all_goals go_ret
    all_goals exact ⟨rfl, HR1.out.set2 20, (HF.out.any (Is g)).put _ _⟩
  · have HN1 := HN.out
    rw [if_neg hca] at HN1
    have HN2 := hide HN1
    clear HN HN1
    go_enter Try.func59, Try.ntmps59
    go_wp2_with (fail)
    go_region_with (go_at_call 82; refine (HN2.out w.drew rfl).mono ?_; rintro en w1 ⟨rfl, hfr⟩; have HF : Hid (Fr No w w1) := ⟨hfr.os, hfr.tape, hfr.output, hfr.size, hfr.block⟩; clear hfr; have HR1 := hide (H.out.fr0 HF.out); obtain ⟨A1, k1, ⟨e0, e1, e2⟩, hf1, q1, q2, _, _, _⟩ := HR1.out.parts)
    all_goals (try go_wp2)
    all_goals go_ret
    all_goals exact ⟨rfl, HR1.out.set2 20, (HF.out.any (Is g)).put _ _⟩

set_option maxRecDepth 100000 in
set_option maxHeartbeats 800000 in
theorem refN_ok (B g : Nat) (bs : List UInt8) (a : Nat) (w : World) (m : Nat) (u k : Nat) (h : RS w B g bs a 0) (hd : dec 0 0 (bs.drop a) = some (u, k)) (hm2 : (m : Int) ≤ 9223372036854775807) (hfit : u ≤ m) :
    Calls Try.prog 59 #[.pointer (some ⟨g, 0, none⟩), .int .i64 m] w (RSRet (.int .i64 u) w B g bs (a + k) 0) := by
  obtain ⟨A, c, ⟨c0, c1, c2⟩, hf, h1, h2, h3, h4, hr, hB⟩ := h.parts
  have HN := hide (refnum_cut hr h1 h2 h3 hB hd)
  simp only [numW] at HN
  have H := hide h
  have HA := hide hr
  have hk := dec_le _ _ _ _ _ hd
  have hk1 : a + k ≤ bs.length := by have := hk.2; simp at this; omega
  have hk0 : ((k : Int) == 0) = false := by have := hk.1; simp; omega
  have hu := dec_lt _ 0 0 u k (by decide) hd
  clear hk
  clear h hr hd
  by_cases hca : c = a
  · have HN1 := HN.out
    rw [if_pos hca, hca, Nat.sub_self] at HN1
    have HN2 := hide HN1
    clear HN HN1
    go_enter Try.func59, Try.ntmps59
    go_wp2_with (fail)
    go_region_with (go_at_call 82; refine (HN2.out w.drew rfl).mono ?_; rintro en w1 ⟨rfl, hfr⟩; have HF : Hid (Fr No w w1) := ⟨hfr.os, hfr.tape, hfr.output, hfr.size, hfr.block⟩; clear hfr; have HR1 := hide (H.out.fr0 HF.out); obtain ⟨A1, k1, ⟨e0, e1, e2⟩, hf1, q1, q2, _, _, _⟩ := HR1.out.parts)
    all_goals (try go_wp2)
    all_goals go_ret
    all_goals exact ⟨by simp, HR1.out.set1 _ hk1, (HF.out.any (Is g)).put _ _⟩
  · have HN1 := HN.out
    rw [if_neg hca] at HN1
    have HN2 := hide HN1
    clear HN HN1
    go_enter Try.func59, Try.ntmps59
    go_wp2_with (fail)
    go_region_with (go_at_call 82; refine (HN2.out w.drew rfl).mono ?_; rintro en w1 ⟨rfl, hfr⟩; have HF : Hid (Fr No w w1) := ⟨hfr.os, hfr.tape, hfr.output, hfr.size, hfr.block⟩; clear hfr; have HR1 := hide (H.out.fr0 HF.out); obtain ⟨A1, k1, ⟨e0, e1, e2⟩, hf1, q1, q2, _, _, _⟩ := HR1.out.parts)
    all_goals (try go_wp2)
    all_goals go_ret
    all_goals exact ⟨by simp, HR1.out.set1 _ hk1, (HF.out.any (Is g)).put _ _⟩

set_option maxRecDepth 100000 in
set_option maxHeartbeats 800000 in
theorem refN_off (B g : Nat) (bs : List UInt8) (a : Nat) (e : Int) (w : World) (most : Int) (h : RS w B g bs a e) (he : e ≠ 0) :
    Calls Try.prog 59 #[.pointer (some ⟨g, 0, none⟩), .int .i64 most] w (RSRet (.int .i64 0) w B g bs a e) := by
  obtain ⟨A, c, ⟨c0, c1, c2⟩, hf, h1, h2, h3, h4, hr, hB⟩ := h.parts
  have hb : (e != 0) = true := by simpa using he
  have H := hide h
  clear h hr he
  go_enter Try.func59, Try.ntmps59
  go_wp2_with (fail)
  go_ret
  exact ⟨rfl, H.out, Fr.refl _ _⟩

set_option maxRecDepth 100000 in
set_option maxHeartbeats 800000 in
theorem refN_nil (w : World) (most : Int) :
    Calls Try.prog 59 #[.pointer none, .int .i64 most] w (Ret (.int .i64 0) w) := by
  go_enter Try.func59, Try.ntmps59
  go_wp2_with (fail)
  go_ret
  exact ⟨rfl, rfl⟩

theorem refN_any (B g : Nat) (bs : List UInt8) (a : Nat) (e most : Int) (w : World) (h : RS w B g bs a e) (hm2 : most ≤ 9223372036854775807) :
    Calls Try.prog 59 #[.pointer (some ⟨g, 0, none⟩), .int .i64 most] w (RSRet (.int .i64 (sizeS bs a e most).1) w B g bs (sizeS bs a e most).2.1 (sizeS bs a e most).2.2) := by
  unfold sizeS
  by_cases he : e = 0
  · subst he
    rw [if_pos rfl]
    cases hd : dec 0 0 (bs.drop a) with
    | none => rw [sizeR_none hd]; exact refN_bad1 B g bs a w most h hd
    | some x =>
      by_cases hneg : most < 0
      · rw [sizeR_no hd (.inl hneg)]; exact refN_bad2 B g bs a w most x.1 x.2 h hd hneg
      · obtain ⟨m, rfl⟩ := Int.eq_ofNat_of_zero_le (a := most) (by omega)
        by_cases hum : m < x.1
        · rw [sizeR_no hd (.inr (by omega))]; exact refN_bad3 B g bs a w m x.1 x.2 h hd hm2 hum
        · rw [sizeR_ok hd (by omega)]; exact refN_ok B g bs a w m x.1 x.2 h hd hm2 (by omega)
  · rw [if_neg he]
    exact refN_off B g bs a e w most h he

end Go.Proofs.Ythlbfnoahdjdeaa
namespace Go.Proofs.Ythlbfnoahdjdeaa
set_option linter.unusedVariables false
set_option linter.unusedSimpArgs false
open Go.RowKit

theorem RS.base {w : World} {B g : Nat} {bs : List UInt8} {a : Nat} {e : Int} (h : RS w B g bs a e) : B ≤ g := by
  obtain ⟨_, _, _, _, _, _, _, _, h5⟩ := h
  exact h5
theorem RS.row {w : World} {B g : Nat} {bs : List UInt8} {a : Nat} {e : Int} (h : RS w B g bs a e) : ∃ cs, w.heap[g]? = some (.cells cs 100 (0, 0)) := by
  obtain ⟨_, _, h, _⟩ := h
  exact ⟨_, h⟩
/-- the three rows of numbers. -/
structure Rw3 (W : World) (A1 : Option Addr) (c1 n1 : Nat) (D : List Int) (A2 : Option Addr) (c2 n2 : Nat) (F : List Int) (A3 : Option Addr) (c3 n3 : Nat) (P : List Int) : Prop where
  d : Own W 0 2 1 (.slice A1 n1 c1) n1 (iz .i64 D)
  f : Own W 0 2 1 (.slice A2 n2 c2) n2 (iz .i64 F)
  p : Own W 0 2 1 (.slice A3 n3 c3) n3 (iz .i64 P)
theorem Rw3.off {S : Nat → Prop} {W W' : World} {A1 A2 A3 : Option Addr} {c1 c2 c3 n1 n2 n3 : Nat} {D F P : List Int} (h : Rw3 W A1 c1 n1 D A2 c2 n2 F A3 c3 n3 P) (f : Fr S W W') (ho : Off S W 2) : Rw3 W' A1 c1 n1 D A2 c2 n2 F A3 c3 n3 P := ⟨h.d.off f ho, h.f.off f ho, h.p.off f ho⟩
theorem Rw3.fr0 {W W' : World} {A1 A2 A3 : Option Addr} {c1 c2 c3 n1 n2 n3 : Nat} {D F P : List Int} (h : Rw3 W A1 c1 n1 D A2 c2 n2 F A3 c3 n3 P) (f : Fr No W W') : Rw3 W' A1 c1 n1 D A2 c2 n2 F A3 c3 n3 P := h.off f (fun _ _ _ _ h => h)
/-- what Open keeps in memory: the reader, the posts. -/
structure RoM (w W : World) (g : Nat) (bs : List UInt8) (a : Nat) (e : Int) (v : Value) (ps : List PoL) : Prop where
  rs : RS W w.heap.size g bs a e
  po : OwnPr W w.heap.size v ps
  fr : Fr No w W
theorem RoM.read {w W W' : World} {g : Nat} {bs : List UInt8} {a a' : Nat} {e e' : Int} {v : Value} {ps : List PoL} (h : RoM w W g bs a e v ps) (f : Fr (Is g) W W') (hr : RS W' w.heap.size g bs a' e') : RoM w W' g bs a' e' v ps := by
  obtain ⟨cs, hg⟩ := h.rs.row
  exact ⟨hr, h.po.off f (off_is hg (by decide)) (off_is hg (by decide)), h.fr.trans f (fun i hi e => by have e : i = g := e; have := h.rs.base; omega)⟩
theorem rs_offT {w : World} {B g : Nat} {bs : List UInt8} {a : Nat} {e : Int} {S : Nat → Prop} {w' : World} (h : RS w B g bs a e) (f : Fr S w w') (ho : Off S w 100) (hB : ∀ k, k < B → ¬ S k) : RS w' B g bs a e := by
  obtain ⟨cs, hg⟩ := h.row
  exact h.fr f (ho _ _ _ hg) hB
/-- a post is laid behind them. -/
theorem RoM.app {w W W2 : World} {g : Nat} {bs : List UInt8} {a : Nat} {e : Int} {v v' : Value} {ps : List PoL} {p : PoL} (h : RoM w W g bs a e v ps) (hp : PoN W w.heap.size p) (hb : PoB p.1) (f : Fr (fun k => v.ownBlock = some k) W W2)
    (ho : Own W2 w.heap.size 80 2 v' (ps.length + 1) (pFlat ps ++ pRow p)) : RoM w W2 g bs a e v' (ps ++ [p]) :=
  ⟨rs_offT h.rs f (off_own h.po.row (by decide)) (fun k hk e => by have := (h.po.row.lt k e).1; omega), h.po.snoc hp hb f ho, h.fr.own f (fun k hk => .inl (h.po.row.lt k hk).1)⟩
theorem RoM.fr0 {w W W' : World} {g : Nat} {bs : List UInt8} {a : Nat} {e : Int} {v : Value} {ps : List PoL} (h : RoM w W g bs a e v ps) (f : Fr No W W') : RoM w W' g bs a e v ps := ⟨h.rs.fr0 f, h.po.fr0 f, h.fr.tr f⟩

set_option maxRecDepth 100000 in
set_option maxHeartbeats 8000000 in
theorem ropen10_any (A : Option Addr) (m c B : Nat) (bs : List UInt8) (w : World) (hl : bs.length = m) (hm : m ≤ c) (hc : c ≤ maxLen) (hb : m ≤ 140737488355328) (hB : B ≤ w.heap.size) (hr0 : Rd w B A (by8 bs)) :
    Calls Try.prog 30 #[.slice A m c] w (ROpenP10 w bs) := by
  have hr : Rd w w.heap.size A (by8 bs) := hr0.more hB
  obtain ⟨n, a0, e0, hs1⟩ : ∃ n a e, sizeS bs 0 0 16384 = (n, a, e) := ⟨_, _, _, rfl⟩
  have hn16 : n ≤ 16384 := by have := sizeS_le (bs := bs) (a := 0) (e := 0) (most := 16384) (by omega); rw [hs1] at this; dsimp only at this; omega
  have HS0 : Hid (∃ bks, PoI bs n 0 a0 e0 (-1) [] bks) := hide ⟨_, po_start hs1⟩
  have HL := hide hl
  have HR := hide hr
  obtain ⟨w1, hw1⟩ : ∃ w1, w1 = w.alloc (.cells #[.slice A m c, .int .i64 0, .int .i64 0] 100) := ⟨_, rfl⟩
  obtain ⟨g, hg⟩ : ∃ g, g = w.heap.size := ⟨_, rfl⟩
  have hrs : RS w1 w.heap.size g bs 0 0 := by
    refine ⟨A, c, ?_, by omega, hc, Nat.zero_le _, by omega, ?_, by omega⟩
    · rw [hw1, hg, hl]; exact heap_alloc_new w _
    · rw [hw1]; exact hr.fr0 ((Fr.refl No w).alloc _)
  have HF1 : Hid (Fr No w w1) := hide (by rw [hw1]; exact (Fr.refl No w).alloc _)
  have HW1 := hide hw1
  have HG := hide hg
  have HSz1 := hide (refN_any w.heap.size g bs 0 0 16384 w1 hrs (by omega))
  rw [hs1] at HSz1
  have HM := hide hm
  have HC := hide hc
  obtain ⟨ip, hip, hipz, hipsz, hipby⟩ := info_parts Try.infoPr
  obtain ⟨ii, hii, hiz, hisz, hiby⟩ := info_parts Try.infoIn
  unfold maxLen at hc
  clear hl hr hr0 hs1 hrs hw1 hB
  go_enter Try.func30, Try.ntmps30
  go_wp2_with (fail)
  rw [← HW1.out, ← hg]
  refine HSz1.out.mono ?_
  rintro en w2 ⟨rfl, hrs, hfr⟩
  have HM2 : Hid (RoM w w2 g bs a0 e0 (.slice none 0 0) []) := hide ⟨hrs, OwnPr.nil _ _, HF1.out.trans hfr (fun i hi e => by have e : i = g := e; omega)⟩
  clear hrs hfr hg HSz1
  go_wp2_with (fail)
  go_loopw [6, 7] (fun ox lx wr => ∃ (j L a : Nat) (e la : Int) (Al : Option Addr) (cl : Nat) (ps : List PoL), ox = .slice Al L cl ∧ lx = .int .i64 la ∧ L ≤ n ∧ -1 ≤ la ∧ la ≤ 16385 * (L : Int) ∧ Hid (L = min (8 * j) n) ∧ Hid (ps.length = L) ∧ Hid (∃ bks, PoI bs n j a e la (ps.map (·.1)) bks) ∧ Hid (RoM w wr g bs a e ox ps)) (fun ox _ _ => n - (match ox with | .slice _ L _ => L | _ => 0))
  case atStart => exact ⟨0, 0, a0, e0, -1, none, 0, [], rfl, rfl, Nat.zero_le _, by omega, by omega, hide (by omega), hide rfl, HS0, HM2⟩
  case round =>
    obtain ⟨wo, rfl⟩ : ∃ wo : World, wo = wr := ⟨_, rfl⟩
    obtain ⟨j, L, a, e, la, Al, cl, ps, rfl, rfl, hLn, hla1, hla2, HLj, HPl, HI, HMo⟩ := hrel
    clear HM2 HS0
    by_cases hlt : L < n
    · have hjn : 8 * j < n := by have := HLj.out; omega
      have hL8 : L = 8 * j := by have := HLj.out; omega
      obtain ⟨sz, a1, e1, hs1⟩ : ∃ sz a1 e1, sizeS bs a e (m : Nat) = (sz, a1, e1) := ⟨_, _, _, rfl⟩
      obtain ⟨d, a2, e2, hs2⟩ : ∃ d a2 e2, sizeS bs a1 e1 16384 = (d, a2, e2) := ⟨_, _, _, rfl⟩
      obtain ⟨row, a3, e3, hs3⟩ : ∃ row a3 e3, bytesS bs a2 e2 (sz : Nat) = (row, a3, e3) := ⟨_, _, _, rfl⟩
      have hrl : row.length ≤ m := by have := bytesS_le (bs := bs) (a := a2) (e := e2) (x := (sz : Nat)); rw [hs3, HL.out] at this; exact this
      have HSz1 := hide (refN_any w.heap.size g bs a e (m : Nat) wo HMo.out.rs (by omega))
      rw [hs1] at HSz1
      have HSz2 := hide (fun W hW => refN_any w.heap.size g bs a1 e1 16384 W hW (by omega))
      rw [hs2] at HSz2
      have HBy := hide (fun W hW => refB_any w.heap.size g bs a2 e2 (sz : Nat) W hW)
      rw [hs3] at HBy
      have HS1 : Hid (sizeS bs a e (bs.length : Nat) = (sz, a1, e1)) := hide (by rw [HL.out]; exact hs1)
      have HS2 := hide hs2
      have HS3 := hide hs3
      obtain ⟨k, hk⟩ : ∃ k : Nat, k = min 8 (n - L) := ⟨_, rfl⟩
      have HK : Hid (k = min 8 (n - 8 * j)) := hide (by rw [hk, hL8])
      have HNo : Hid ((e3 ≠ 0 ∨ ∀ blk, GoodB la blk k → row = rowsB la blk → False) → ∀ l, ¬ FormP bs l) := hide (fun h => by
        obtain ⟨bks, h1⟩ := HI.out
        exact po_no h1 hjn HS1.out HS2.out HS3.out HK.out h)
      have HSt : Hid (∀ (ps2 : List Po) (la2 : Int) (P : List Int), OutR la k row ps2 k la2 P → ∃ bks2, PoI bs n (j + 1) a3 e3 la2 (ps.map (·.1) ++ ps2) bks2) := hide (fun ps2 la2 P ho => by
        obtain ⟨bks, h1⟩ := HI.out
        exact po_step2 h1 hjn HS1.out HS2.out HS3.out HK.out ho)
      have hk1 : 1 ≤ k := by omega
      have hk8 : k ≤ 8 := by omega
      have hkL : L + k ≤ n := by omega
      have HKj : Hid (L + k = min (8 * (j + 1)) n) := hide (by omega)
      have hltI : (L : Int) < (n : Int) := by omega
      have d1 : decide ((L : Int) < (n : Int)) = true := decide_eq_true hltI
      have d1b : decide (L < n) = true := decide_eq_true hlt
      obtain ⟨rm, hrm⟩ : ∃ r : Nat, r = n - L := ⟨_, rfl⟩
      have hrmI : (n : Int) - (L : Int) = (rm : Int) := by omega
      have hrw : IntKind.i64.wrap (rm : Int) = (rm : Int) := IntWalk.i64_in _ (by omega)
      have hkr : k = min 8 rm := by omega
      clear hs1 hs2 hs3 hL8 hjn hk hrm HI
      go_upto_region 9 with (first
        | (go_at_call 60; refine (HBy.out w5 HM5.out.rs).mono ?_; rintro en w6 ⟨v6, rfl, hown, hrs, hfr⟩; obtain ⟨A6, c6, rfl, x1, x2, -⟩ := hown.form; have HX6 := hide (And.intro x1 x2); have HO6 := hide hown; have HM6 := hide (HM5.out.read hfr hrs); have HF56 := hide hfr; clear hown hrs hfr x1 x2)
        | (go_at_call 59; refine (HSz2.out w4 HM4.out.rs).mono ?_; rintro en w5 ⟨rfl, hrs, hfr⟩; have HM5 := hide (HM4.out.read hfr hrs); clear hrs hfr)
        | (go_at_call 59; refine HSz1.out.mono ?_; rintro en w4 ⟨rfl, hrs, hfr⟩; have HM4 := hide (HMo.out.read hfr hrs); clear hrs hfr)
        | fail)
      obtain ⟨mr, hmr⟩ : ∃ mr, row.length = mr := ⟨_, rfl⟩
      rw [hmr] at HO6 HX6 hrl ⊢
      have HMr := hide hmr
      have ce : w6.cell? ⟨g, 2, none⟩ = some (.int .i64 e3) := by obtain ⟨A9, c9, ⟨_, _, h⟩, _⟩ := HM6.out.rs.parts; exact h
      clear HSz1 HSz2 HBy HM4 HM5 HMo hmr HF56
      by_cases he3 : e3 = 0
      rotate_left
      · have d2 : (e3 != 0) = true := by simpa using he3
        have HN := hide (HNo.out (.inl he3))
        clear he3
        go_wp2_with (fail)
        go_ret2
        exact ⟨HM6.out.fr, .inr ⟨HN.out, rfl⟩⟩
      have d2 : (e3 != 0) = false := by simpa using he3
      subst he3
      go_upto_region 12 with (fail)
      refine wp_named fun K hK => ?_
      obtain ⟨g8, hg8⟩ : ∃ g8, decide (8 < rm) = g8 := ⟨_, rfl⟩
      have HG8 := hide hg8
      have hg8i : decide ((8 : Int) < (rm : Int)) = g8 := by rw [← hg8]; exact decide_eq_decide.2 (by omega)
      go_cut [54] from 53 to 54 (fun v wx => v = .bool g8 ∧ wx = w6)
      case first =>
        go_wp2_with (fail)
        go_meet
        exact ⟨rfl, rfl⟩
      case rest =>
      obtain ⟨rfl, rfl⟩ := hcut
      obtain ⟨w6, rfl⟩ : ∃ W : World, W = wc := ⟨_, rfl⟩
      refine hK _ _ ?_
      clear hK K hg8 hg8i
      go_upto_if 54 with (fail)
      refine wp_named fun K hK => ?_
      go_cut [10] from 55 to 55 (fun v wx => v = .int .i64 (k : Nat) ∧ wx = w6)
      case first =>
        cases g8 with
        | true =>
          have h8 := of_decide_eq_true HG8.out
          have hk9 : k = 8 := by omega
          subst hk9
          clear h8
          go_wp2_with (fail)
          go_meet
          exact ⟨rfl, rfl⟩
        | false =>
          have h8 := of_decide_eq_false HG8.out
          have hk9 : k = rm := by omega
          subst hk9
          clear h8
          go_wp2_with (fail)
          go_meet
          exact ⟨rfl, rfl⟩
      case rest =>
      obtain ⟨rfl, rfl⟩ := hcut
      obtain ⟨w6, rfl⟩ : ∃ W : World, W = wc := ⟨_, rfl⟩
      refine hK _ _ ?_
      have HRw := hide (rrow_any A6 mr c6 w6.heap.size k 16384 row w6 HMr.out (by omega) HX6.out.1 HX6.out.2 (Nat.le_refl _) HO6.out.rd)
      clear hK K HG8 hkr hrw hrmI d2 ce
      go_wp2_with (fail)
      refine HRw.out.mono ?_
      rintro en w7 ⟨hfr, (⟨hok, A11, A12, c11, m12, c12, rfl, hDl, hOD, hrl1, x1, x2, x3, hrd⟩ | ⟨hno, rfl⟩)⟩
      rotate_left
      · have HN := hide (HNo.out (.inr (row_bad1 hno)))
        have HM7 := hide (HM6.out.fr0 hfr)
        clear hno hfr
        go_wp2_with (fail)
        go_ret2
        exact ⟨HM7.out.fr, .inr ⟨HN.out, rfl⟩⟩
      obtain ⟨D, hD⟩ : ∃ D, (getZ row (k : Nat)).1 = D := ⟨_, rfl⟩
      obtain ⟨r1, hr1⟩ : ∃ r1, row.drop (getZ row (k : Nat)).2.1 = r1 := ⟨_, rfl⟩
      have HRd := hide (fun a => row_d (a := a) hD hr1)
      have HDb : Hid (∀ x ∈ D, 0 ≤ x ∧ x ≤ 16384) := hide (by rw [← hD]; exact hok.2)
      rw [hD] at hDl hOD
      rw [hr1] at hrl1 hrd
      rw [HMr.out] at x3
      have HM7 := hide (HM6.out.fr0 hfr)
      have HOD := hide hOD
      have HDl := hide hDl
      have HRw2 := hide (rrow_any A12 m12 c12 w7.heap.size k 1048576 r1 w7 hrl1 (by omega) x1 x2 (Nat.le_refl _) hrd)
      have HF67 := hide hfr
      have HRl1 := hide hrl1
      clear hok hfr hDl hOD hrl1 hrd hD hr1 x1 x2 HRw HO6
      go_wp2_with (fail)
      refine HRw2.out.mono ?_
      rintro en w8 ⟨hfr, (⟨hok, A14, A15, c14, m15, c15, rfl, hFl, hOF, hrl2, x1, x2, x4, hrd⟩ | ⟨hno, rfl⟩)⟩
      rotate_left
      · have HN := hide (HNo.out (.inr (row_bad2 (HRd.out la) hno)))
        have HM8 := hide (HM7.out.fr0 hfr)
        clear hno hfr
        go_wp2_with (fail)
        go_ret2
        exact ⟨HM8.out.fr, .inr ⟨HN.out, rfl⟩⟩
      obtain ⟨F, hF⟩ : ∃ F, (getZ r1 (k : Nat)).1 = F := ⟨_, rfl⟩
      obtain ⟨r2, hr2⟩ : ∃ r2, r1.drop (getZ r1 (k : Nat)).2.1 = r2 := ⟨_, rfl⟩
      have HRf := hide (row_f (HRd.out la) hF hr2)
      have HFb : Hid (∀ x ∈ F, 0 ≤ x ∧ x ≤ 1048576) := hide (by rw [← hF]; exact hok.2)
      rw [hF] at hFl hOF
      rw [hr2] at hrl2 hrd
      have HM8 := hide (HM7.out.fr0 hfr)
      have HOD8 := hide ((HOD.out.fr0 hfr).lower (show w6.heap.size ≤ w6.heap.size from Nat.le_refl _))
      have HOF := hide hOF
      have HFl := hide hFl
      have hx15 : m15 ≤ m := by have := HRl1.out; omega
      have HRw3 := hide (fun (q : Nat) (W : World) (f : Fr No w8 W) => rrow_any A15 m15 c15 w8.heap.size q 1048576 r2 W hrl2 (by omega) x1 x2 f.size (hrd.fr0 f))
      clear hok hfr hFl hOF hrl2 hrd hF hr2 x1 x2 x3 x4 HRw2 HOD HM7 HM6
      have HF80 : Hid (Fr No w8 w8) := hide (Fr.refl No w8)
      go_wp2_with (fail)
      go_loopw [15, 16] (fun ax ix wr => ∃ i s : Nat, i ≤ k ∧ ax = .int .i64 s ∧ ix = .int .i64 i ∧ s ≤ 1048577 * i ∧ Hid (s = sumF (F.take i)) ∧ Hid (Fr No w8 wr)) (fun _ ix _ => k - (intOf ix).toNat)
      case atStart => exact ⟨0, 0, Nat.zero_le _, rfl, rfl, by omega, hide (by simp [sumF]), HF80⟩
      case round =>
        obtain ⟨wz, rfl⟩ : ∃ wz : World, wz = wr := ⟨_, rfl⟩
        obtain ⟨i, s, hi, rfl, rfl, hs, HSf, HFz⟩ := hrel
        clear HF80
        by_cases hlk : i < k
        · have hiF : i < F.length := by rw [HFl.out]; exact hlk
          obtain ⟨adF, hA, _, kF⟩ := ((HOF.out.fr0 HFz.out).rd.intAt (k := .i64) hiF)
          subst hA
          have hfb := HFb.out _ (getZ_mem hiF)
          obtain ⟨f, hf⟩ : ∃ f, F.getD i 0 = f := ⟨_, rfl⟩
          rw [hf] at kF hfb
          obtain ⟨fn, hfn⟩ : ∃ fn : Nat, f = fn := ⟨f.toNat, by omega⟩
          have hfn2 : fn ≤ 1048576 := by omega
          have HSf2 : Hid (s + fn + 1 = sumF (F.take (i + 1))) := hide (by
            have h9 : F.take (i + 1) = F.take i ++ [(fn : Int)] := by rw [take_getZ hiF, hf, hfn]
            rw [h9, sumF_snoc, HSf.out]
            omega)
          subst hfn
          have j0 : (0 : Int) ≤ (i : Int) := by omega
          have j1 : (i : Int) < (k : Int) := by omega
          clear hiF hf hfb
          go_wp2_with (fail)
          go_roundw
          case rel => exact ⟨i + 1, s + fn + 1, by omega, by go_num, by go_num, by omega, HSf2, HFz⟩
          case measure => simp [intOf]; omega
        · obtain rfl : k = i := by omega
          have HSs : Hid (s = sumF F) := hide (by rw [HSf.out, List.take_of_length_le (by rw [HFl.out]; exact Nat.le_refl _)])
          have hs9 : s ≤ 8388616 := by omega
          have HRw4 := hide (HRw3.out s wz HFz.out)
          have HM9 := hide (HM8.out.fr0 HFz.out)
          have HOD9 := hide (HOD8.out.fr0 HFz.out)
          have HOF9 := hide (HOF.out.fr0 HFz.out)
          clear hlk hs HSf HRw3 HM8 HOD8 HOF
          go_wp2_with (fail)
          refine HRw4.out.mono ?_
          rintro en w10 ⟨hfr, (⟨hok, A17, A18, c17, m18, c18, rfl, hPl, hOP, hrl3, x1, x2, x4, hrd⟩ | ⟨hno, rfl⟩)⟩
          rotate_left
          · have HN := hide (HNo.out (.inr (row_bad3 HRf.out HSs.out hno)))
            have HM10 := hide (HM9.out.fr0 hfr)
            clear hno hfr
            go_wp2_with (fail)
            go_ret2
            exact ⟨HM10.out.fr, .inr ⟨HN.out, rfl⟩⟩
          obtain ⟨P, hP⟩ : ∃ P, (getZ r2 (s : Nat)).1 = P := ⟨_, rfl⟩
          obtain ⟨r3, hr3⟩ : ∃ r3, r2.drop (getZ r2 (s : Nat)).2.1 = r3 := ⟨_, rfl⟩
          have HRp := hide (row_p HRf.out HSs.out hP hr3)
          have HPb : Hid (∀ x ∈ P, 0 ≤ x ∧ x ≤ 1048576) := hide (by rw [← hP]; exact hok.2)
          rw [hP] at hPl hOP
          rw [hr3] at hrl3
          have HM10 := hide (HM9.out.fr0 hfr)
          have HOD10 := hide (HOD9.out.fr0 hfr)
          have HOF10 := hide (HOF9.out.fr0 hfr)
          have HOP10 := hide hOP
          have HPl2 := hide hPl
          by_cases h18 : 0 < m18
          · have d5 : decide ((0 : Int) < (m18 : Int)) = true := decide_eq_true (by omega)
            have d5b : decide (0 < m18) = true := decide_eq_true h18
            have HN := hide (HNo.out (.inr (fun blk h1 h2 => by
              have := (HRp.out blk h1 h2).2
              rw [this] at hrl3
              simp at hrl3
              omega)))
            clear hok hfr hPl hOP hrl3 hrd hP hr3 h18
            go_wp2_with (fail)
            go_ret2
            exact ⟨HM10.out.fr, .inr ⟨HN.out, rfl⟩⟩
          have d5 : decide ((0 : Int) < (m18 : Int)) = false := decide_eq_false (by omega)
          have d5b : decide (0 < m18) = false := decide_eq_false h18
          have HCon : Hid (ConR la k row D F) := hide (fun blk h1 h2 => ⟨(HRd.out la blk h1 h2).1, (HRf.out blk h1 h2).1⟩)
          have HOu0 : Hid (OutR la k row [] 0 la P) := hide (out_nil (fun blk h1 h2 => (HRp.out blk h1 h2).1))
          clear hok hfr hPl hOP hrl3 hrd hP hr3 h18 HM9 HOD9 HOF9 HRw4 HNo HRd HRf HRp x1 x2 x4
          have HW30 : Hid (Rw3 w10 A11 c11 k D A14 c14 k F A17 c17 s P) := hide ⟨HOD10.out.lower (Nat.zero_le _), HOF10.out.lower (Nat.zero_le _), HOP10.out.lower (Nat.zero_le _)⟩
          have HMq0 : Hid (RoM w w10 g bs a3 0 (.slice Al L cl) (ps ++ [])) := hide (by rw [List.append_nil]; exact HM10.out)
          have HPd0 : Hid (OutR la k row (([] : List PoL).map (·.1)) 0 la (P.drop 0)) := hide HOu0.out
          clear HOD10 HOF10 HOP10 HM10 HOu0
          go_wp2_with (fail)
          go_loopw [6, 7, 18, 19] (fun ox lx tx ix wr => ∃ (i t : Nat) (la2 : Int) (Aq : Option Addr) (cq : Nat) (qs : List PoL), ox = .slice Aq (L + i) cq ∧ lx = .int .i64 la2 ∧ tx = .int .i64 t ∧ ix = .int .i64 i ∧ i ≤ k ∧ -1 ≤ la2 ∧ la2 ≤ 16385 * ((L + i : Nat) : Int) ∧ t ≤ s ∧ Hid (t = sumF (F.take i)) ∧ Hid (qs.length = i) ∧ Hid (OutR la k row (qs.map (·.1)) i la2 (P.drop t)) ∧ Hid (RoM w wr g bs a3 0 ox (ps ++ qs)) ∧ Hid (Rw3 wr A11 c11 k D A14 c14 k F A17 c17 s P)) (fun _ _ _ ix _ => k - (intOf ix).toNat)
          case atStart => exact ⟨0, 0, la, Al, cl, [], rfl, rfl, rfl, rfl, Nat.zero_le _, hla1, by simpa using hla2, Nat.zero_le _, hide (by simp [sumF]), hide rfl, HPd0, HMq0, HW30⟩
          case round =>
            obtain ⟨wo, rfl⟩ : ∃ wo : World, wo = wr := ⟨_, rfl⟩
            obtain ⟨i, t, la2, Aq, cq, qs, rfl, rfl, rfl, rfl, hik, hl1, hl2, hts, HTf, HQl, HOu, HMo, HW3⟩ := hrel
            clear HW30 HMq0 HPd0
            by_cases hlk : i < k
            · have hiD : i < D.length := by rw [HDl.out]; exact hlk
              have hiF : i < F.length := by rw [HFl.out]; exact hlk
              obtain ⟨adD, hA, _, kD⟩ := (HW3.out.d.rd.intAt (k := .i64) hiD)
              subst hA
              obtain ⟨adF, hA, _, kF0⟩ := (HW3.out.f.rd.intAt (k := .i64) hiF)
              subst hA
              have hdb := HDb.out _ (getZ_mem hiD)
              have hfb := HFb.out _ (getZ_mem hiF)
              obtain ⟨dd, hdd⟩ : ∃ f, D.getD i 0 = f := ⟨_, rfl⟩
              obtain ⟨f, hf⟩ : ∃ f, F.getD i 0 = f := ⟨_, rfl⟩
              rw [hdd] at kD hdb
              rw [hf] at kF0 hfb
              obtain ⟨q, hq⟩ : ∃ q : Nat, (f + 1).toNat = q := ⟨_, rfl⟩
              have hfq : f + 1 = (q : Int) := by omega
              have hq20 : q ≤ 1048577 := by omega
              have HQn : Hid ((F.getD i 0 + 1).toNat = q) := hide (by rw [hf, hq])
              have HD1 := hide hdd
              have HSum : Hid (t + q = sumF (F.take (i + 1))) := hide (by rw [take_getZ hiF, sumF_snoc, hf, HTf.out, hq])
              have htq : t + q ≤ s := by
                have h1 := sumF_le (F := F) (i + 1)
                rw [HSum.out, HSs.out]; exact h1
              obtain ⟨y, hy⟩ : ∃ y, la2 + 1 + dd = y := ⟨_, rfl⟩
              have hy1 : 0 ≤ y ∧ y ≤ 16385 * ((L + (i + 1) : Nat) : Int) := by omega
              obtain ⟨nq, hnq⟩ : ∃ nq, s - t = nq := ⟨_, rfl⟩
              have HLp : Hid (P.length = s) := HPl2
              have i0 : (0 : Int) ≤ (i : Int) := by omega
              have i1 : (i : Int) < (k : Int) := by omega
              have hyI : la2 + 1 + dd = y := hy
              have HY := hide hy
              obtain ⟨E, hE⟩ : ∃ E, E = wo.heap.size := ⟨_, rfl⟩
              obtain ⟨w6b, hw6⟩ : ∃ W, W = wo.alloc (.cells #[.int .i64 y, .slice none 0 0] 80) := ⟨_, rfl⟩
              have fa : Fr No wo w6b := by rw [hw6]; exact (Fr.refl No wo).alloc _
              have HQ6 : Hid (w6b.heap[E]? = some (.cells #[.int .i64 y, .slice none 0 0] 80 (0, 0))) := hide (by rw [hw6, hE]; exact heap_alloc_new wo _)
              have HF6 := hide fa
              have HE := hide hE
              have HW6 := hide hw6
              have HIn0 : Hid (InnR (P.drop t) [] 0 0) := hide (InnR.nil _)
              have HOn0 : Hid (Own w6b (E + 1) 3 1 (.slice none 0 0) 0 (iz .i64 [])) := hide (Own.nil _ _ _ _)
              have HKF := hide kF0
              clear hiD hiF hdd hf hq hw6 hE fa kF0 hnq
              go_upto_region 34 with (fail)
              rw [← HW6.out, ← HE.out]
              clear hy hyI kD
              go_wp2_with (fail)
              go_loopw [18, 21, 22] (fun tx sx jx wz => ∃ (j' : Nat) (pl : Int) (vp : Value) (Ps : List Int), j' ≤ q ∧ tx = .int .i64 ((t + j' : Nat) : Int) ∧ sx = .int .i64 pl ∧ jx = .int .i64 j' ∧ Hid (InnR (P.drop t) Ps j' pl) ∧ Hid (wz.heap[E]? = some (.cells #[.int .i64 y, vp] 80 (0, 0))) ∧ Hid (Own wz (E + 1) 3 1 vp j' (iz .i64 Ps)) ∧ Hid (Fr No wo wz)) (fun _ _ jx _ => q - (intOf jx).toNat)
              case atStart => exact ⟨0, 0, _, [], Nat.zero_le _, rfl, rfl, rfl, HIn0, HQ6, HOn0, HF6⟩
              case round =>
                obtain ⟨wz, rfl⟩ : ∃ wz : World, wz = wr := ⟨_, rfl⟩
                obtain ⟨j', pl, vp, Ps, hjq, rfl, rfl, rfl, HIn, HQz, HOn, HFz⟩ := hrel
                clear HIn0 HOn0
                have kF := HFz.out.cell HKF.out (fun h => h)
                by_cases hjl : j' < q
                · have hjP : t + j' < P.length := by rw [HLp.out]; omega
                  obtain ⟨adP, hA, _, kP⟩ := ((HW3.out.fr0 HFz.out).p.rd.intAt (k := .i64) hjP)
                  subst hA
                  have hxi := HPb.out _ (getZ_mem hjP)
                  obtain ⟨x, hx⟩ : ∃ x, P.getD (t + j') 0 = x := ⟨_, rfl⟩
                  rw [hx] at kP hxi
                  obtain ⟨hx0, hx9⟩ := hxi
                  have hjd : j' < (P.drop t).length := by rw [List.length_drop]; omega
                  have hxd : (P.drop t).getD j' 0 = x := by rw [← hx, List.getD, List.getD, List.getElem?_drop]
                  have hsb := HIn.out.sb
                  obtain ⟨hs1, hs2⟩ := hsb
                  obtain ⟨s1, hs3⟩ : ∃ s1, pl + x = s1 := ⟨_, rfl⟩
                  have hs4 : 0 ≤ s1 ∧ s1 ≤ 1099512676352 := by omega
                  have HIn2 : Hid (InnR (P.drop t) (Ps ++ [s1]) (j' + 1) s1) := hide (by have := HIn.out.snoc hjd (by rw [hxd]; omega); rw [hxd, hs3] at this; exact this)
                  obtain ⟨u, hu⟩ : ∃ u, t + j' = u := ⟨_, rfl⟩
                  have HU := hide hu
                  have hus : u < s := by omega
                  rw [hu] at kP ⊢
                  have fb : Fr No wz (wz.alloc (.cells #[.int .i64 s1] 3)) := (Fr.refl No wz).alloc _
                  have cz : wz.cell? ⟨E, 1, none⟩ = some vp := cell_of_row _ _ 1 _ _ _ HQz.out
                  have HO8 := hide (HOn.out.fr0 fb)
                  have HS8 : Hid (Src Try.prog 1 52 (.slice (some ⟨wz.heap.size, 0, none⟩) 1 1) 1 [.int .i64 s1] (wz.alloc (.cells #[.int .i64 s1] 3))) := hide (Src.one (P := Try.prog) wz (e := 3) Try.underlying52 (.int .i64 s1) rfl)
                  have HQ8 := hide (fb.blk HQz.out (fun h => h))
                  have b5 : (j' + 1) * 8 ≤ 140737488355328 := by omega
                  have b6 : j' + 1 ≤ maxLen := by unfold maxLen; omega
                  have b7 : E + 1 ≤ (wz.alloc (.cells #[.int .i64 s1] 3)).heap.size := (Array.getElem?_eq_some_iff.1 HQ8.out).1
                  have HF8 := hide (HFz.out.tr fb)
                  have d6 : decide ((j' : Int) ≤ f) = true := decide_eq_true (by omega)
                  have j0 : (0 : Int) ≤ (u : Int) := by omega
                  have j1 : (u : Int) < (s : Int) := by omega
                  clear fb hjP hjd hxd hx hu
                  go_wp2_with (first | (at_builtin; refine wpList_append_gen _ rfl (.tmp 130) (.tmp 132) 52 52 rfl (E + 1) 3 ii (.int .i64 0) 1 8 Try.underlying52 hii hiz hisz hiby rfl vp j' (iz .i64 Ps) rfl HO8.out _ 1 [.int .i64 s1] rfl HS8.out b5 b6 b7 ?_; intro v9 w9 hown hfr hat; obtain ⟨A9, q9, rfl, _, _, _, _, _⟩ := hown.form; have HO9 := hide hown; have HF9 := hide hfr; have HQ9 := hide (hfr.blk HQ8.out (fun e => HO8.out.ne_blk e HQ8.out (by decide))); have c9 : w9.cell? ⟨E, 1, none⟩ = some vp := cell_of_row _ _ 1 _ _ _ HQ9.out; have z9 : w9.frozen? ⟨E, 1, none⟩ = false := frozen_of_row _ _ _ _ _ HQ9.out; clear hown hfr hat) | fail)
                  have hq10 : (w9.setCell ⟨E, 1, none⟩ (.slice A9 (j' + 1) q9)).heap[E]? = some (.cells #[.int .i64 y, (.slice A9 (j' + 1) q9)] 80 (0, 0)) := by
                    have := heap_setCell_same w9 E 1 #[.int .i64 y, vp] 80 (.slice A9 (j' + 1) q9) HQ9.out
                    simpa using this
                  have hf10 : Fr (Is E) w9 (w9.setCell ⟨E, 1, none⟩ (.slice A9 (j' + 1) q9)) := (Fr.refl (Is E) w9).put 1 _
                  have HO10 : Hid (Own (w9.setCell ⟨E, 1, none⟩ (.slice A9 (j' + 1) q9)) (E + 1) 3 1 (.slice A9 (j' + 1) q9) (j' + 1) (iz .i64 (Ps ++ [s1]))) := hide (by
                    rw [iz_snoc]
                    exact HO9.out.fr hf10 (fun k hk e => by have e : k = E := e; subst e; exact HO9.out.ne_blk hk HQ9.out (by decide)))
                  have HF10 : Hid (Fr No wo (w9.setCell ⟨E, 1, none⟩ (.slice A9 (j' + 1) q9))) := hide ((HF8.out.own HF9.out (fun k hk => .inl (by have := (HO8.out.lt k hk).1; have := HE.out; omega))).trans hf10 (fun i hi e => by have e : i = E := e; have := HE.out; omega))
                  have HQ10 := hide hq10
                  clear hq10 hf10
                  go_roundw
                  case rel => exact ⟨j' + 1, s1, (.slice A9 (j' + 1) q9), Ps ++ [s1], by omega, by rw [← Nat.add_assoc, HU.out]; go_num, rfl, by go_num, HIn2, HQ10, HO10, HF10⟩
                  case measure => simp [intOf]; omega
                · obtain rfl : q = j' := by omega
                  obtain ⟨Av, cv, rfl, v1, v2, -⟩ := HOn.out.form
                  have hnk : (Ps.length : Nat) = q := HIn.out.l
                  have d6 : decide ((q : Int) ≤ f) = false := decide_eq_false (by omega)
                  have cz0 : wz.cell? ⟨E, 0, none⟩ = some (.int .i64 y) := cell_of_row _ _ 0 _ _ _ HQz.out
                  have cz1 : wz.cell? ⟨E, 1, none⟩ = some (.slice Av q cv) := cell_of_row _ _ 1 _ _ _ HQz.out
                  obtain ⟨wd, hwd⟩ : ∃ W, W = wz.alloc (.cells #[.int .i64 y, .slice Av q cv] 80) := ⟨_, rfl⟩
                  have fd : Fr No wz wd := by rw [hwd]; exact (Fr.refl No wz).alloc _
                  have HWd := hide hwd
                  have HSd : Hid (Src Try.prog 2 31 (.slice (some ⟨wz.heap.size, 0, none⟩) 1 1) 1 [.int .i64 y, .slice Av q cv] wd) := hide (by rw [hwd]; exact (Src.ofRd (P := Try.prog) (size := 2) _ Try.underlying31 (some ⟨wz.heap.size, 0, none⟩) 1 1 [.int .i64 y, .slice Av q cv] rfl (by omega) (Rd.block (heap_alloc_new wz (.cells #[.int .i64 y, .slice Av q cv] 80))) (by simp [Value.oneCell'])))
                  have fod : Fr No wo wd := HFz.out.tr fd
                  have HMd := hide (HMo.out.fr0 fod)
                  have HW3d := hide (HW3.out.fr0 fod)
                  have HLps : Hid ((ps ++ qs).length = L + i) := hide (by rw [List.length_append, HPl.out, HQl.out])
                  have HOd : Hid (Own wd w.heap.size 80 2 (.slice Aq (L + i) cq) (L + i) (pFlat (ps ++ qs))) := hide (by have := HMd.out.po.row; rwa [HLps.out] at this)
                  have hlo : w.heap.size ≤ E + 1 := by have := HMo.out.fr.size; have := HE.out; omega
                  have HPnd : Hid (PoN wd w.heap.size ((y, Ps), Av, cv)) := hide (by
                    unfold PoN pVal
                    dsimp only
                    rw [hnk]
                    exact (HOn.out.fr0 fd).lower hlo)
                  have HPb2 : Hid (PoB (y, Ps)) := hide ⟨⟨by show -1 ≤ y; omega, by show y ≤ _; omega⟩, by show Ps.length ≤ _; omega, fun z hz => by have := HIn.out.b z hz; omega⟩
                  have HOu2 : Hid (OutR la k row ((qs ++ [((y, Ps), Av, cv)]).map (·.1)) (i + 1) y (P.drop (t + q))) := hide (by
                    have := out_step HOu.out HCon.out hlk HQn.out HD1.out HIn.out
                    rw [HY.out, List.drop_drop] at this
                    simpa using this)
                  have HNk := hide hnk
                  have b8 : (L + i + 1) * 32 ≤ 140737488355328 := by omega
                  have b9 : L + i + 1 ≤ maxLen := by unfold maxLen; omega
                  have b10 : w.heap.size ≤ wd.heap.size := HMd.out.fr.size
                  clear hjl hnk fd fod hlo
                  subst hwd
                  go_wp2_with (first | (at_builtin; refine wpList_append_gen _ rfl (.tmp 135) (.tmp 137) 31 31 rfl w.heap.size 80 ip (.agg #[.int .i64 0, .slice none 0 0]) 2 32 Try.underlying31 hip hipz hipsz hipby rfl (.slice Aq (L + i) cq) (L + i) (pFlat (ps ++ qs)) rfl HOd.out _ 1 [.int .i64 y, .slice Av q cv] rfl HSd.out b8 b9 b10 ?_; intro v12 w12 hown hfr hat; obtain ⟨A12, c12', rfl, -⟩ := hown.form; have HO12 := hide hown; have HF12 := hide hfr; clear hown hfr hat) | fail)
                  have HM12 : Hid (RoM w w12 g bs a3 0 (.slice A12 (L + i + 1) c12') ((ps ++ qs) ++ [((y, Ps), Av, cv)])) := hide (HMd.out.app HPnd.out HPb2.out HF12.out (by rw [HLps.out]; unfold pRow; dsimp only; rw [HNk.out]; exact HO12.out))
                  have HW12 := hide (HW3d.out.off HF12.out (off_own HOd.out (by decide)))
                  go_roundw
                  case rel => exact ⟨i + 1, t + q, y, A12, c12', qs ++ [((y, Ps), Av, cv)], by rw [Nat.add_assoc], rfl, by go_num, by go_num, by omega, by omega, hy1.2, htq, HSum, hide (by rw [List.length_append, HQl.out]; rfl), HOu2, hide (by rw [← List.append_assoc]; exact HM12.out), HW12⟩
                  case measure => simp [intOf]; omega
            · obtain rfl : k = i := by omega
              have HNx : Hid (∃ bks2, PoI bs n (j + 1) a3 0 la2 ((ps ++ qs).map (·.1)) bks2) := hide (by rw [List.map_append]; exact HSt.out _ _ _ HOu.out)
              have HLx : Hid ((ps ++ qs).length = L + k) := hide (by rw [List.length_append, HPl.out, HQl.out])
              clear hlk HW3 HOu
              go_wp2_with (fail)
              go_roundw
              case rel => exact ⟨j + 1, L + k, a3, 0, la2, Aq, cq, ps ++ qs, rfl, rfl, hkL, hl1, hl2, HKj, HLx, HNx, HMo⟩
              case measure => dsimp only; omega
    · have hjn : ¬ 8 * j < n := by have := HLj.out; omega
      obtain rfl : n = L := by omega
      have HFin : Hid (∀ l, FormP bs l → ps.map (·.1) = l ∧ endE bs a e = 0) := hide (fun l hf => by
        obtain ⟨bks, h1⟩ := HI.out
        obtain ⟨h2, h3, _⟩ := po_end h1 hjn hf
        exact ⟨h2, h3⟩)
      have HEn := hide (refEnd_any w.heap.size g bs a e wo HMo.out.rs)
      obtain ⟨ε, hε⟩ : ∃ ε, ε = endE bs a e := ⟨_, rfl⟩
      rw [← hε] at HEn HFin
      have d1 : decide ((n : Int) < (n : Int)) = false := by simp
      clear hε HI hjn hlt
      by_cases he : ε = 0
      rotate_left
      · have d2 : (ε != 0) = true := by simpa using he
        have HNo : Hid (∀ l, ¬ FormP bs l) := hide (fun l hf => he (HFin.out l hf).2)
        clear he
        go_wp2_with (go_at_call 62; refine HEn.out.mono ?_; rintro en w6 ⟨rfl, hrs, hfr⟩; have HM6 := hide (HMo.out.read hfr hrs); clear hrs hfr)
        go_ret2
        exact ⟨HM6.out.fr, .inr ⟨HNo.out, rfl⟩⟩
      subst he
      have HMl := hide (show (ps.map (·.1)).length = n by rw [List.length_map]; exact HPl.out)
      have hle := HMo.out.po.row.le
      rw [HPl.out] at hle
      have HLe := hide hle.2
      have HBd := hide (fun W (hM : RoM w W g bs a 0 (.slice Al n cl) ps) => refBuildP_any Al n cl W.heap.size (ps.map (·.1)) W HMl.out HLe.out.1 HLe.out.2 (Nat.le_refl _) (by have h := hM.po; rw [← HPl.out] at h; exact h.rd) hM.po.inI)
      clear hle
      go_wp2_with (fail)
      refine HEn.out.mono ?_
      rintro en w6 ⟨rfl, hrs, hfr⟩
      have HM6 := hide (HMo.out.read hfr hrs)
      clear hrs hfr HMo HEn
      go_wp2_with (fail)
      refine (HBd.out w6 HM6.out).mono ?_
      rintro en w7 ⟨hfr, (⟨hok, v, mc, hmc, rfl, hob⟩ | ⟨hno, rfl⟩)⟩
      rotate_left
      · have HM7 := hide (HM6.out.fr0 hfr)
        have HNo : Hid (∀ l, ¬ FormP bs l) := hide (fun l hf => by
          obtain ⟨rfl, _⟩ := HFin.out l hf
          exact hno hf.1)
        clear hfr hno
        go_wp2_with (fail)
        go_ret2
        exact ⟨HM7.out.fr, .inr ⟨HNo.out, rfl⟩⟩
      have HM7 := hide (HM6.out.fr0 hfr)
      obtain ⟨Ac, cc, rfl, hc1, hc2, _, hc4, _⟩ := hob.form
      obtain ⟨C, hC⟩ : ∃ C, C = buildP (ps.map (·.1)) := ⟨_, rfl⟩
      rw [← hC] at hmc hc4
      have HCe := hide hC
      have HOk := hide hok
      have HCr := hide hc4
      have HCl := hide hmc
      clear hfr hob hok hC hc4 HM6 HBd
      by_cases hml : mc = m
      rotate_left
      · have d3 : ((mc : Int) != (m : Int)) = true := by simp; omega
        have HNo : Hid (∀ l, ¬ FormP bs l) := hide (fun l hf => by
          obtain ⟨rfl, _⟩ := HFin.out l hf
          refine hml ?_
          rw [HCl.out, HCe.out, hf.2, HL.out])
        clear hml hmc
        go_wp2_with (fail)
        go_ret2
        exact ⟨HM7.out.fr, .inr ⟨HNo.out, rfl⟩⟩
      subst hml
      have d3 : ((mc : Int) != (mc : Int)) = false := by simp
      clear hmc
      have HFr7 : Hid (Fr No w7 w7) := hide (Fr.refl _ _)
      go_wp2_with (fail)
      go_loopw [25] (fun jx wr => ∃ j : Nat, j ≤ mc ∧ jx = .int .i64 j ∧ Hid (C.take j = bs.take j) ∧ Hid (Fr No w7 wr)) (fun jx _ => mc - (intOf jx).toNat)
      case atStart => exact ⟨0, Nat.zero_le _, rfl, hide (by simp), HFr7⟩
      case round =>
        obtain ⟨wo, rfl⟩ : ∃ wo : World, wo = wr := ⟨_, rfl⟩
        obtain ⟨j, hj, rfl, HTk, HFo⟩ := hrel
        by_cases hlt : j < mc
        · obtain ⟨ad1, rfl, _, kc1⟩ := (HCr.out.fr0 HFo.out) j _ (by8_get C j (by rw [← HCl.out]; exact hlt))
          obtain ⟨ad2, rfl, _, kc2⟩ := (HR.out.fr0 (HM7.out.fr.tr HFo.out)) j _ (by8_get bs j (by rw [HL.out]; exact hlt))
          have j0 : (0 : Int) ≤ (j : Int) := by omega
          have j1 : (j : Int) < (mc : Int) := by omega
          obtain ⟨x, hx⟩ : ∃ x, C.getD j 0 = x := ⟨_, rfl⟩
          obtain ⟨y, hy⟩ : ∃ y, bs.getD j 0 = y := ⟨_, rfl⟩
          rw [hx] at kc1
          rw [hy] at kc2
          have HXe := hide hx
          have HYe := hide hy
          have d4 : decide ((j : Int) < (mc : Int)) = true := decide_eq_true j1
          clear hx hy
          by_cases hxy : x = y
          · subst hxy
            have HT2 : Hid (C.take (j + 1) = bs.take (j + 1)) := hide (by
              rw [take_snoc8 (by rw [← HCl.out]; exact hlt), take_snoc8 (by rw [HL.out]; exact hlt), HTk.out, HXe.out, HYe.out])
            have d5 : (((x.toNat : Nat) : Int) != ((x.toNat : Nat) : Int)) = false := by simp
            go_wp2_with (fail)
            go_quiet (fail)
            go_wp2_with (fail)
            go_roundw
            case rel => exact ⟨j + 1, by omega, by go_num, HT2, hide (HFo.out.drewN nq)⟩
            case measure => simp [intOf]; omega
          · have HNo : Hid (∀ l, ¬ FormP bs l) := hide (fun l hf => by
              obtain ⟨rfl, _⟩ := HFin.out l hf
              refine hxy ?_
              rw [← HXe.out, ← HYe.out, HCe.out, hf.2])
            have d5 : (((x.toNat : Nat) : Int) != ((y.toNat : Nat) : Int)) = true := by
              simp only [bne_iff_ne, ne_eq]
              intro h
              exact hxy (UInt8.toNat_inj.1 (Int.ofNat_inj.1 h))
            clear hxy
            go_wp2_with (fail)
            go_quiet (fail)
            go_wp2_with (fail)
            go_ret2
            exact ⟨(HM7.out.fr.tr HFo.out).drewN nq, .inr ⟨HNo.out, rfl⟩⟩
        · have hjm : j = mc := by omega
          subst hjm
          have d4 : decide ((j : Int) < (j : Int)) = false := by simp
          have HFm : Hid (FormP bs (ps.map (·.1))) := hide (by
            refine ⟨HOk.out, ?_⟩
            have h := HTk.out
            rw [List.take_of_length_le (by rw [← HCl.out]; exact Nat.le_refl _), List.take_of_length_le (by rw [HL.out]; exact Nat.le_refl _)] at h
            rw [← HCe.out, h])
          go_wp2_with (fail)
          go_ret2
          exact ⟨HM7.out.fr.tr HFo.out, .inl ⟨Al, n, cl, ps, HFm.out, rfl, HPl.out, HM7.out.po.fr0 HFo.out⟩⟩
end Go.Proofs.Ythlbfnoahdjdeaa
namespace Go.Proofs.Ythlbfnoahdjdeaa
set_option linter.unusedVariables false
set_option linter.unusedSimpArgs false
open Go.RowKit

def GivesLent (w : World) (bs : List UInt8) (en : Ending) (w' : World) : Prop :=
  ∃ A c, en = .returned (.slice A bs.length c) ∧ Own w' w.heap.size 5 1 (.slice A (bs.length + 1) c) (bs.length + 1) (by8 (bs ++ [201])) ∧ Fr No w w'

set_option maxRecDepth 100000 in
set_option maxHeartbeats 800000 in
theorem lent8_any (A : Option Addr) (n c B : Nat) (bs : List UInt8) (w : World) (hl : bs.length = n) (hb : n + 1 ≤ 140737488355328) (hr : Rd w B A (by8 bs)) :
    Calls Try.prog 29 #[.slice A n c] w (GivesLent w bs) := by
  obtain ⟨i0, hi, hz, hsz, hby⟩ := info_parts Try.info5
  have HS := hide (Src.ofRd (P := Try.prog) (size := 1) w Try.underlying25 A n c (by8 bs) (by rw [by8_length, hl]; omega) (by omega) hr (by8_one _))
  have HL := hide hl
  clear hr hl
  have b1 : (0 + n) * 1 ≤ 140737488355328 := by omega
  have b2 : 0 + n ≤ maxLen := by unfold maxLen; omega
  have c1 : (0 + n + 1) * 1 ≤ 140737488355328 := by omega
  have c2 : 0 + n + 1 ≤ maxLen := by unfold maxLen; omega
  have HO0 := hide (Own.nil w w.heap.size 5 1)
  go_enter Try.func29, Try.ntmps29
  go_wp2_with (first
    | (at_builtin; refine wpList_append_gen _ rfl (.tmp 4) (.tmp 5) 25 25 rfl w.heap.size 5 i0 (.int .u8 0) 1 1 Try.underlying25 hi hz hsz hby rfl (.slice none 0 0) 0 [] rfl HO0.out _ n (by8 bs) rfl HS.out b1 b2 (Nat.le_refl _) ?_; intro v1 w1 hown hfr hat; have HO1 := hide hown; have HF1 : Hid (Fr No w w1) := hide ((Fr.refl No w).own hfr (fun g h => by cases h)); have hz1 := hfr.size; clear hown hfr hat)
    | (at_builtin; refine wpList_append_gen _ rfl (.tmp 7) (.tmp 8) 25 25 rfl w.heap.size 5 i0 (.int .u8 0) 1 1 Try.underlying25 hi hz hsz hby rfl v1 (0 + n) _ rfl (HO1.out.fr0 ((Fr.refl No w1).alloc (.cells #[.int .u8 201] 5))) _ 1 [.int .u8 201] rfl (Src.one (P := Try.prog) w1 (e := 5) Try.underlying25 (.int .u8 201) rfl) c1 c2 (by simp; omega) ?_; intro v2 w2 hown hfr hat; obtain ⟨A2, k2, rfl, hc1, hc2, _⟩ := hown.form; unfold maxLen at hc2; have HO2 := hide hown; have HF2 : Hid (Fr No w w2) := hide ((HF1.out.alloc _).own hfr (fun g hg => .inl (HO1.out.lt g hg).1)); clear hown hfr hat))
  go_ret
  refine ⟨A2, k2, ?_, ?_, HF2.out⟩
  · rw [HL.out]; first | rfl | simp
  · have h := HO2.out
    rw [HL.out, by8_append]
    simpa [by8] using h

set_option maxRecDepth 100000 in
set_option maxHeartbeats 800000 in
theorem kept8_any (A B : Option Addr) (n c m d b1 b2 : Nat) (xs : List UInt8) (w : World) (hx : xs.length = n) (hm : xs.length = m) (hn : n + 1 ≤ c) (hc : c ≤ maxLen) (hmd : m ≤ d) (hd : d ≤ maxLen) (hr : Rd w b1 A (by8 (xs ++ [201]))) (hs : Rd w b2 B (by8 xs)) :
    Calls Try.prog 31 #[.slice A n c, .slice B m d] w (RetQ (.bool true) w) := by
  have hr1 : Rd w b1 A (by8 xs) := by
    have h := hr.tk xs.length
    rw [← by8_take, List.take_left] at h
    exact h
  have HK := hide (kbytes_any A B n c m d b1 b2 xs xs w hx hm (by omega) hc hmd hd hr1 hs)
  rw [decide_eq_true rfl] at HK
  obtain ⟨ad, rfl, _, hcell⟩ := hr.byte (k := n) (by simp; omega)
  have e1 : (xs ++ [201]).getD n 0 = 201 := by rw [← hx]; simp
  rw [e1] at hcell
  have e2 : ((201 : UInt8).toNat : Nat) = 201 := by decide
  rw [e2] at hcell
  unfold maxLen at hc
  clear hr hs hr1 hx hm e1 e2
  go_enter Try.func31, Try.ntmps31
  go_wp2_with (go_at_call 14; refine HK.out.mono ?_; rintro en w2 ⟨rfl, nq, rfl⟩)
  go_ret
  exact ⟨rfl, _, rfl⟩

end Go.Proofs.Ythlbfnoahdjdeaa
