/- Several texts in one: StoBS, StoDoc, StoDocW, StoBd0, StoKn. -/
import Derived.Test.YtpnhnnhocekchaaK15
namespace Go.Proofs.Ytpnhnnhocekchaa
set_option linter.unusedVariables false
set_option linter.unusedSimpArgs false
open Go.RowKit

set_option maxRecDepth 100000 in
set_option maxHeartbeats 400000 in
theorem cmp_chunk (f t T m c : Nat) (A : Option Addr) (w : World) (ht : t ≤ 16384) (hT : T ≤ 16385) : Calls Try.prog 82 #[.agg #[.int .i64 (f : Nat), .int .i64 (t : Nat), .slice A m c], .int .i64 (T : Nat)] w (RetF (.int .i64 ((t : Int) - (T : Int))) w) := by
  go_enter Try.func82, Try.ntmps82
  go_wp2
  go_ret
  exact ⟨rfl, (Fr.refl _ _).alloc _⟩
/-- the ends of chunks in memory. -/
def EndsM (w : World) (g : Nat) (ts : List Nat) : Prop := ∀ k t, ts[k]? = some t → ∃ (f m c : Nat) (A : Option Addr), w.cell? ⟨g, k * 3, none⟩ = some (.int .i64 (f : Nat)) ∧ w.cell? ⟨g, k * 3 + 1, none⟩ = some (.int .i64 (t : Nat)) ∧ w.cell? ⟨g, k * 3 + 2, none⟩ = some (.slice A m c) ∧ t ≤ 16384
theorem EndsM.fr0 {w w' : World} {g : Nat} {ts : List Nat} (h : EndsM w g ts) (f : Fr No w w') : EndsM w' g ts := fun k t hk => by
  obtain ⟨x, m, c, A, h1, h2, h3, h4⟩ := h k t hk
  exact ⟨x, m, c, A, f.cell h1 (fun h => h), f.cell h2 (fun h => h), f.cell h3 (fun h => h), h4⟩
/-- found: the first whose end is not below T. -/
def FirstAt (ts : List Nat) (T k : Nat) : Prop := k ≤ ts.length ∧ (k = 0 ∨ ∃ t, ts[k - 1]? = some t ∧ t < T) ∧ (k = ts.length ∨ ∃ t, ts[k]? = some t ∧ T ≤ t)
def BsPost (w : World) (ts : List Nat) (T : Nat) (en : Ending) (w' : World) : Prop := ∃ (k : Nat) (b : Bool), en = .returned (.tuple #[.int .i64 k, .bool b]) ∧ Fr No w w' ∧ FirstAt ts T k

set_option maxRecDepth 100000 in
set_option maxHeartbeats 4000000 in
theorem bs_any (g n c T : Nat) (ts : List Nat) (w : World) (hl : ts.length = n) (hn : n ≤ 16384) (hc : n ≤ c) (hcm : c ≤ maxLen) (hT : T ≤ 16385) (h : EndsM w g ts) :
    Calls Try.prog 81 #[.slice (some ⟨g, 0, none⟩) n c, .int .i64 (T : Nat), .func (.func 82) #[] #[]] w (BsPost w ts T) := by
  have HL := hide hl
  have HE := hide h
  have HC := hide (fun (f t m c : Nat) (A : Option Addr) (W : World) (ht : t ≤ 16384) => cmp_chunk f t T m c A W ht hT)
  unfold maxLen at hcm
  clear hl h
  go_enter Try.func81, Try.ntmps81
  go_wp2
  go_loopw [9, 10] (fun vi vj wr => ∃ i j : Nat, i ≤ j ∧ j ≤ n ∧ vi = .int .i64 i ∧ vj = .int .i64 j ∧ Hid (i = 0 ∨ ∃ t, ts[i - 1]? = some t ∧ t < T) ∧ Hid (j = n ∨ ∃ t, ts[j]? = some t ∧ T ≤ t) ∧ Hid (Fr No w wr)) (fun vi vj _ => ((intOf vj) - (intOf vi)).toNat)
  case atStart => exact ⟨0, n, by omega, by omega, rfl, rfl, hide (.inl rfl), hide (.inl rfl), hide (Fr.refl _ _)⟩
  case round =>
    obtain ⟨wo, rfl⟩ : ∃ wo : World, wo = wr := ⟨_, rfl⟩
    obtain ⟨i, j, hij, hj, rfl, rfl, H1, H2, HFr⟩ := hrel
    by_cases hlt : i < j
    · obtain ⟨q, hq⟩ : ∃ q, q = (i + j) / 2 := ⟨_, rfl⟩
      have hqn : q < n := by omega
      have hq1 : i ≤ q := by omega
      have hq2 : q < j := by omega
      obtain ⟨t, ht⟩ : ∃ t, ts[q]? = some t := ⟨_, List.getElem?_eq_getElem (by rw [HL.out]; exact hqn)⟩
      obtain ⟨f, m, c', A, k0, k1, k2, htl⟩ := (HE.out.fr0 HFr.out) q t ht
      have HT := hide ht
      have hw1 : IntKind.u64.wrap ((i : Int) + (j : Int)) = (i : Int) + (j : Int) := IntWalk.u64_in _ (by omega)
      have hd2 : ((i : Int) + (j : Int)) / 2 = (q : Int) := by omega
      have hw3 : IntKind.i64.wrap (q : Int) = (q : Int) := IntWalk.i64_in _ (by omega)
      have hqI : (q : Int) < (n : Int) := by omega
      clear hq ht
      go_wp2_with (fail)
      refine (HC.out f t m c' A wo htl).mono ?_
      rintro en w1 ⟨rfl, hfr⟩
      have HF1 : Hid (Fr No w w1) := hide (HFr.out.tr hfr)
      clear hfr hw1 hd2 hw3 k0 k1 k2
      by_cases hle : t < T
      · have hneg : (t : Int) - (T : Int) < 0 := by omega
        have HN : Hid (q + 1 = 0 ∨ ∃ t, ts[q + 1 - 1]? = some t ∧ t < T) := hide (.inr ⟨t, HT.out, hle⟩)
        clear hle
        go_wp2
        go_roundw
        case rel => exact ⟨q + 1, j, by omega, by omega, by go_num, rfl, HN, H2, HF1⟩
        case measure => simp [intOf]; omega
      · have hneg : ¬ (t : Int) - (T : Int) < 0 := by omega
        have HN : Hid (q = n ∨ ∃ t, ts[q]? = some t ∧ T ≤ t) := hide (.inr ⟨t, HT.out, by omega⟩)
        clear hle
        go_wp2
        go_roundw
        case rel => exact ⟨i, q, by omega, by omega, rfl, rfl, H1, HN, HF1⟩
        case measure => simp [intOf]; omega
    · obtain rfl : i = j := by omega
      clear hlt hij
      have HP : Hid (FirstAt ts T i) := hide ⟨by rw [HL.out]; omega, H1.out, by rw [HL.out]; exact H2.out⟩
      by_cases hin : i < n
      · have hinI : decide ((i : Int) < (n : Int)) = true := decide_eq_true (by omega)
        have hinN : decide (i < n) = true := decide_eq_true hin
        obtain ⟨t, ht⟩ : ∃ t, ts[i]? = some t := ⟨_, List.getElem?_eq_getElem (by rw [HL.out]; exact hin)⟩
        obtain ⟨f, m, c', A, k0, k1, k2, htl⟩ := (HE.out.fr0 HFr.out) i t ht
        clear ht
        go_wp2_with (fail)
        refine (HC.out f t m c' A wo htl).mono ?_
        rintro en w1 ⟨rfl, hfr⟩
        have HF1 : Hid (Fr No w w1) := hide (HFr.out.tr hfr)
        clear hfr k0 k1 k2
        go_wp2
        go_ret2
        exact ⟨i, _, rfl, HF1.out, HP.out⟩
      · have hinI : decide ((i : Int) < (n : Int)) = false := decide_eq_false (by omega)
        have hinN : decide (i < n) = false := decide_eq_false hin
        clear hin
        go_wp2
        go_ret2
        exact ⟨i, _, rfl, HFr.out, HP.out⟩
end Go.Proofs.Ytpnhnnhocekchaa
namespace Go.Proofs.Ytpnhnnhocekchaa
set_option linter.unusedVariables false
set_option linter.unusedSimpArgs false
open Go.RowKit

def DocPost (w : World) (d : List EntV) (en : Ending) (w' : World) : Prop := ∃ A c, en = .returned (.slice A d.length c) ∧ OwnE w' w.heap.size A c d ∧ Fr No w w'
theorem OwnE.nil (w : World) (base : Nat) : OwnE w base none 0 [] := ⟨[], rfl, OwnEs.nil _ _⟩
theorem docsS_take {bs : List UInt8} {k q b : Nat} {ds l : List (List EntV)} (h : chunkOk bs k ds) (hq : q ≤ k) (h2 : docsS bs q 0 = some (l, b)) : l = ds.take q := by
  obtain ⟨h3, h4, h5, h6⟩ := chunk_of h
  have h7 := docs_has (bs := bs) (a := 0) h4 h5 (by rw [h6]; simp) q (by omega)
  rw [h2] at h7
  injection h7 with h7
  injection h7
theorem doc_cell (w : World) (i : Int) (nq : Nat) : ((((w.alloc (.cells #[.int .i64 i] 3)).alloc (.cells #[.slice none 0 0] 71)).drewN nq).setCell ⟨w.heap.size + 1, 0, none⟩ (.slice none 0 0)).cell? ⟨w.heap.size + 1, 0, none⟩ = some (.slice none 0 0) := by
  have h := heap_alloc_new (w.alloc (.cells #[.int .i64 i] 3)) (.cells #[.slice none 0 0] 71)
  rw [show (w.alloc (.cells #[.int .i64 i] 3)).heap.size = w.heap.size + 1 by simp] at h
  have h2 := ((Fr.refl No _).drewN nq).blk h (fun h => h)
  have h3 := box_put (u := .slice none 0 0) h2
  exact cell_of_row _ _ 0 _ _ _ h3
set_option maxRecDepth 100000 in
set_option maxHeartbeats 1000000 in
theorem doc_out (p : Option Addr) (i : Int) (N : Nat) (w : World) (hi1 : -9223372036854775808 ≤ i) (hi2 : i ≤ 9223372036854775807) (hL : ∀ W, Fr No w W → Calls Try.prog 45 #[.pointer p] W (Ret (.int .i64 (N : Nat)) W)) (h : i < 0 ∨ (N : Int) ≤ i) :
    Calls Try.prog 49 #[.pointer p, .int .i64 i] w (DocPost w []) := by
  have HLq := hide (fun (q : Nat) => show Calls Try.prog 45 #[.pointer p] (((w.alloc (.cells #[.int .i64 i] 3)).alloc (.cells #[.slice none 0 0] 71)).drewN q) (fun e w' => e = .returned (.int .i64 (N : Nat)) ∧ w' = (((w.alloc (.cells #[.int .i64 i] 3)).alloc (.cells #[.slice none 0 0] 71)).drewN q)) from (hL _ ((((Fr.refl No w).alloc _).alloc _).drewN q)).mono (fun _ _ h => ⟨h.1, h.2.symm⟩))
  clear hL
  by_cases h0 : i < 0
  · have hd : decide (i < 0) = true := decide_eq_true h0
    clear h
    go_enter Try.func49, Try.ntmps49
    go_wp2
    go_quiet ((go_at_call 45; exact Calls.quiet_of_same (HLq.out _)))
    go_wp2
    obtain ⟨W, hW⟩ : ∃ W, W = (((w.alloc (.cells #[.int .i64 i] 3)).alloc (.cells #[.slice none 0 0] 71)).drewN nq).setCell ⟨w.heap.size + 1, 0, none⟩ (.slice none 0 0) := ⟨_, rfl⟩
    have hc := doc_cell w i nq
    have hf : Fr No w W := by rw [hW]; exact ((((Fr.refl No w).alloc _).alloc _).drewN nq).setCell (p := ⟨w.heap.size + 1, 0, none⟩) (fun h => by have h : w.heap.size + 1 < w.heap.size := h; omega) _
    rw [← hW] at hc ⊢
    refine bodyPost_ret (v := .slice none 0 0) ?_ rfl ⟨none, 0, rfl, OwnE.nil _ _, hf⟩
    simp [results, Try.f49, go_sem, hc]
  · have h1 : (N : Int) ≤ i := by omega
    have hd : decide (i < 0) = false := decide_eq_false h0
    have hd2 : decide ((N : Int) ≤ i) = true := decide_eq_true h1
    clear h
    go_enter Try.func49, Try.ntmps49
    go_wp2
    go_quiet ((go_at_call 45; exact Calls.quiet_of_same (HLq.out _)))
    go_wp2
    obtain ⟨W, hW⟩ : ∃ W, W = (((w.alloc (.cells #[.int .i64 i] 3)).alloc (.cells #[.slice none 0 0] 71)).drewN nq).setCell ⟨w.heap.size + 1, 0, none⟩ (.slice none 0 0) := ⟨_, rfl⟩
    have hc := doc_cell w i nq
    have hf : Fr No w W := by rw [hW]; exact ((((Fr.refl No w).alloc _).alloc _).drewN nq).setCell (p := ⟨w.heap.size + 1, 0, none⟩) (fun h => by have h : w.heap.size + 1 < w.heap.size := h; omega) _
    rw [← hW] at hc ⊢
    refine bodyPost_ret (v := .slice none 0 0) ?_ rfl ⟨none, 0, rfl, OwnE.nil _ _, hf⟩
    simp [results, Try.f49, go_sem, hc]

/-- the ends of chunks. -/
def endsC (cs : List ChV) : List Nat := (chs 0 (cntC cs)).map (·.2.1)
theorem endsC_len (cs : List ChV) : (endsC cs).length = cs.length := by unfold endsC cntC; rw [List.length_map, chs_len, List.length_map]
theorem endsC_at {cs : List ChV} {k : Nat} {c : ChV} (h : cs[k]? = some c) : (endsC cs)[k]? = some (cntB (cntC (cs.take k)) + c.2.length) := by
  have h2 : (cntC cs)[k]? = some (c.2.length, c.1) := by unfold cntC; rw [List.getElem?_map, h]; rfl
  unfold endsC
  rw [List.getElem?_map, chs_at h2]
  have h3 : (cntC cs).take k = cntC (cs.take k) := by unfold cntC; rw [List.map_take]
  rw [h3]
  simp
theorem cntC_docs (cs : List ChV) : cntB (cntC cs) = (docsC cs).length := by
  unfold cntB cntC docsC
  rw [List.map_map, List.length_flatMap]
  rfl
theorem docsC_take {cs : List ChV} {k : Nat} {c : ChV} (h : cs[k]? = some c) : docsC cs = docsC (cs.take k) ++ c.2 ++ docsC (cs.drop (k + 1)) := by
  obtain ⟨h1, h2⟩ := List.getElem?_eq_some_iff.1 h
  conv => lhs; rw [← List.take_append_drop k cs, List.drop_eq_getElem_cons h1, h2]
  simp [docsC, List.flatMap_append]
/-- the chunk that a document lies in. -/
theorem first_chunk {cs : List ChV} {i k : Nat} (hi : i < (docsC cs).length) (h : FirstAt (endsC cs) (i + 1) k) : ∃ c, cs[k]? = some c ∧ cntB (cntC (cs.take k)) ≤ i ∧ i < cntB (cntC (cs.take k)) + c.2.length ∧ (docsC cs).getD i [] = c.2.getD (i - cntB (cntC (cs.take k))) [] := by
  obtain ⟨h1, h2, h3⟩ := h
  rw [endsC_len] at h1 h3
  have prev : ∀ q, q ≤ cs.length → (q = 0 ∨ ∃ t, (endsC cs)[q - 1]? = some t ∧ t < i + 1) → cntB (cntC (cs.take q)) ≤ i := by
    intro q hq h2
    rcases h2 with rfl | ⟨t, ht, hlt⟩
    · simp [cntC, cntB]
    · by_cases hq0 : q = 0
      · subst hq0
        simp [cntC, cntB]
      · obtain ⟨q', rfl⟩ : ∃ q', q = q' + 1 := ⟨q - 1, by omega⟩
        obtain ⟨c, hc⟩ : ∃ c, cs[q']? = some c := ⟨_, List.getElem?_eq_getElem (by omega)⟩
        rw [Nat.add_sub_cancel, endsC_at hc] at ht
        injection ht with ht
        have e : cntB (cntC (cs.take (q' + 1))) = cntB (cntC (cs.take q')) + c.2.length := by
          rw [cntC_docs, cntC_docs, take_some hc]
          simp [docsC, List.flatMap_append]
        omega
  have hk : k < cs.length := by
    rcases Nat.lt_or_ge k cs.length with h | h
    · exact h
    · exfalso
      obtain rfl : k = cs.length := by omega
      have := prev cs.length (Nat.le_refl _) h2
      rw [List.take_length, cntC_docs] at this
      omega
  obtain ⟨c, hc⟩ : ∃ c, cs[k]? = some c := ⟨_, List.getElem?_eq_getElem hk⟩
  rcases h3 with h3 | ⟨t, ht, hle⟩
  · omega
  rw [endsC_at hc] at ht
  injection ht with ht
  have hp := prev k h1 h2
  refine ⟨c, hc, hp, by omega, ?_⟩
  have e := docsC_take hc
  rw [cntC_docs] at hp ht ⊢
  rw [e, List.getD_eq_getElem?_getD, List.getD_eq_getElem?_getD, List.append_assoc, List.getElem?_append_right (by omega), List.getElem?_append_left (by omega)]
theorem StoM.ends {w : World} {base g : Nat} {cs : List ChV} (h : StoM w base g cs) (hne : cs ≠ []) : ∃ gR cR, w.cell? ⟨g, 0, none⟩ = some (.slice (some ⟨gR, 0, none⟩) cs.length cR) ∧ cs.length ≤ cR ∧ cR ≤ maxLen ∧ EndsM w gR (endsC cs) := by
  have hN : (docsC cs).length ≤ 16384 := by obtain ⟨_, _, _, _, _, _, _, _, q⟩ := h.parts; exact q
  obtain ⟨c0, hc0⟩ : ∃ c, cs[0]? = some c := ⟨_, List.getElem?_eq_getElem (List.length_pos_iff.2 hne)⟩
  obtain ⟨gR, cR, A, cA, y0, y1, y2, _⟩ := h.chunkAt hc0
  refine ⟨gR, cR, y0, y1, y2, ?_⟩
  intro k t hk
  have hkl : k < cs.length := by have := (List.getElem?_eq_some_iff.1 hk).1; rwa [endsC_len] at this
  obtain ⟨c, hc⟩ : ∃ c, cs[k]? = some c := ⟨_, List.getElem?_eq_getElem hkl⟩
  rw [endsC_at hc] at hk
  injection hk with hk
  obtain ⟨gR', cR', A', cA', z0, _, _, k0, k1, k2, _⟩ := h.chunkAt hc
  rw [y0] at z0
  injection z0 with z0
  injection z0 with z0 _ _
  injection z0 with z0
  injection z0 with z0
  subst z0
  rw [hk] at k1
  refine ⟨_, _, _, _, k0, k1, k2, ?_⟩
  have e := congrArg List.length (docsC_take hc)
  rw [List.length_append, List.length_append] at e
  rw [cntC_docs] at hk
  omega
end Go.Proofs.Ytpnhnnhocekchaa
namespace Go.Proofs.Ytpnhnnhocekchaa
set_option linter.unusedVariables false
set_option linter.unusedSimpArgs false
open Go.RowKit Go.Shelf
attribute [local go_sem] Oper.semAt_some

set_option maxRecDepth 100000 in
set_option maxHeartbeats 4000000 in
theorem doc_in (fr : Nat) (hfr : 6 ≤ fr) {w : World} {base g : Nat} {cs : List ChV} (i : Nat) (h : StoM w base g cs) (hcl : cs.length ≤ 16384) (hb : ∀ c ∈ cs, c.1.length ≤ 140737488355328) (hi : i < (docsC cs).length) :
    CallsIn Fence.wide fr Try.prog 49 #[.pointer (some ⟨g, 0, none⟩), .int .i64 (i : Nat)] w (DocPost w ((docsC cs).getD i [])) := by
  have hN : (docsC cs).length ≤ 16384 := by obtain ⟨_, _, _, _, _, _, _, _, q⟩ := h.parts; exact q
  have hne : cs ≠ [] := fun e => by rw [e] at hi; simp [docsC] at hi
  obtain ⟨w2, hw2⟩ : ∃ w2, w2 = (w.alloc (.cells #[.int .i64 (i : Nat)] 3)).alloc (.cells #[.slice none 0 0] 71) := ⟨_, rfl⟩
  have hf2 : Fr No w w2 := by rw [hw2]; exact ((Fr.refl No w).alloc _).alloc _
  have HLq := hide (fun (q : Nat) => show Calls Try.prog 45 #[.pointer (some ⟨g, 0, none⟩)] (((w.alloc (.cells #[.int .i64 (i : Nat)] 3)).alloc (.cells #[.slice none 0 0] 71)).drewN q) (fun e w' => e = .returned (.int .i64 ((docsC cs).length : Nat)) ∧ w' = (((w.alloc (.cells #[.int .i64 (i : Nat)] 3)).alloc (.cells #[.slice none 0 0] 71)).drewN q)) from (len_sto (h.fr0 ((((Fr.refl No w).alloc _).alloc _).drewN q))).mono (fun _ _ h => ⟨h.1, h.2.symm⟩))
  have HS := hide h
  have HB := hide hb
  have HI := hide hi
  obtain ⟨d, hd0⟩ : ∃ d, d = (docsC cs).getD i [] := ⟨_, rfl⟩
  have HD := hide hd0
  rw [← hd0]
  obtain ⟨N, hNn⟩ : ∃ N, N = (docsC cs).length := ⟨_, rfl⟩
  rw [← hNn] at HLq hN hi
  have hd : decide ((i : Int) < 0) = false := decide_eq_false (by omega)
  have hd2 : decide ((N : Int) ≤ (i : Int)) = false := decide_eq_false (by omega)
  have hd3 : decide (N ≤ i) = false := decide_eq_false (by omega)
  have HF2 := hide hf2
  have HNE := hide hne
  have hi2 : (i : Int) ≤ 9223372036854775806 := by omega
  have HW2 := hide hw2
  have HB1 : Hid (w2.heap[w.heap.size]? = some (.cells #[.int .i64 (i : Nat)] 3 (0, 0))) := hide (by
    rw [hw2]
    exact ((Fr.refl No _).alloc _).blk (heap_alloc_new w (.cells #[.int .i64 (i : Nat)] 3)) (fun h => h))
  have HB2 : Hid (w2.heap[w.heap.size + 1]? = some (.cells #[.slice none 0 0] 71 (0, 0))) := hide (by
    rw [hw2]
    have h := heap_alloc_new (w.alloc (.cells #[.int .i64 (i : Nat)] 3)) (.cells #[.slice none 0 0] 71)
    rwa [show (w.alloc (.cells #[.int .i64 (i : Nat)] 3)).heap.size = w.heap.size + 1 by simp] at h)
  clear h hb hd0 hNn hf2 hne hw2
  refine callsIn_of_wp_marks Try.func49 rfl trivial ?_ rfl
  simp only [Try.ntmps49, List.size_toArray, List.length_cons, List.length_nil, Nat.reduceAdd, Nat.reduceSub, Array.replicate_succ, Array.replicate_zero, List.push_toArray, List.append_toArray, List.nil_append, List.cons_append]
  refine wpIn_wide.2 ?_
  go_wp2
  go_quiet ((go_at_call 45; exact Calls.quiet_of_same (HLq.out _)))
  obtain ⟨w3, hw3⟩ : ∃ w3, w3 = w2.drewN nq := ⟨_, rfl⟩
  have HF3 : Hid (Fr No w2 w3) := hide (by rw [hw3]; exact (Fr.refl No w2).drewN nq)
  rw [← HW2.out, ← hw3]
  clear hw3 HLq hd hd2 hd3
  have HF3' : Hid (Fr No w w3) := hide (HF2.out.tr HF3.out)
  obtain ⟨gR, cR, y0, y1, y2, y3⟩ := (HS.out.fr0 HF3'.out).ends HNE.out
  obtain ⟨n, hn⟩ : ∃ n, n = cs.length := ⟨_, rfl⟩
  have HBs := hide (bs_any gR n cR (i + 1) (endsC cs) w3.drew (by rw [endsC_len]; exact hn.symm) (by omega) (by omega) y2 (by omega) (y3.fr0 ((Fr.refl No w3).drew)))
  rw [← hn] at y0 y1 hcl
  have HY3 := hide y3
  have HY2 := hide y2
  have HN := hide hn
  have k1 : w3.drew.cell? ⟨g, 0, none⟩ = some (.slice (some ⟨gR, 0, none⟩) n cR) := y0
  have k2 : w3.drew.cell? ⟨w.heap.size, 0, none⟩ = some (.int .i64 (i : Nat)) := cell_of_row _ _ 0 _ _ _ (HF3.out.drew.blk HB1.out (fun h => h))
  have HK : Hid (w3.drew.cell? ⟨g, 0, none⟩ = some (.slice (some ⟨gR, 0, none⟩) n cR) ∧ w3.drew.cell? ⟨w.heap.size, 0, none⟩ = some (.int .i64 (i : Nat))) := hide ⟨k1, k2⟩
  have hsum : IntKind.i64.wrap ((i : Int) + 1) = (i : Int) + 1 := IntWalk.i64_in _ (by omega)
  rw [show ((i + 1 : Nat) : Int) = (i : Int) + 1 by omega] at HBs
  clear y0 y2 y3 hn
  go_wp2
  go_region_held3 (fun W => W.cell? ⟨g, 0, none⟩ = some (.slice (some ⟨gR, 0, none⟩) n cR) ∧ W.cell? ⟨w.heap.size, 0, none⟩ = some (.int .i64 (i : Nat))) (first | exact HK5.out | exact HK.out) (first
    | (go_at_call 81; refine HBs.out.mono ?_; rintro en w5 ⟨k, b, rfl, hfr5, hfirst⟩; have HF5 : Hid (Fr No w3 w5) := hide (((Fr.refl No w3).drew).tr hfr5); have HFi := hide hfirst; have HK5 : Hid (w5.cell? ⟨g, 0, none⟩ = some (.slice (some ⟨gR, 0, none⟩) n cR) ∧ w5.cell? ⟨w.heap.size, 0, none⟩ = some (.int .i64 (i : Nat))) := hide ⟨hfr5.cell HK.out.1 (fun h => h), hfr5.cell HK.out.2 (fun h => h)⟩; clear hfr5 hfirst))
  clear hsum k1 k2
  obtain ⟨c, hc, hf1, hf2, hde⟩ := first_chunk HI.out HFi.out
  have HF5' : Hid (Fr No w w5) := hide (HF3'.out.tr HF5.out)
  obtain ⟨gR', cR', A, cA, y0, _, _, z0, z1, z2, q1, q2, qO⟩ := (HS.out.fr0 HF5'.out).chunkAt hc
  have hok : chunkOk c.1 c.2.length c.2 := by
    obtain ⟨_, _, _, _, _, _, _, _, _, _, h⟩ := HS.out
    exact h c (List.mem_of_getElem? hc)
  have eR : gR' = gR := by
    have h := y0.symm.trans HK5.out.1
    injection h with h
    injection h with h _ _
    injection h with h
    injection h
  subst eR
  have hkn : k < n := by rw [HN.out]; exact (List.getElem?_eq_some_iff.1 hc).1
  have hbm := HB.out c (List.mem_of_getElem? hc)
  have hde2 : d = c.2.getD (i - cntB (cntC (cs.take k))) [] := by rw [HD.out]; exact hde
  have htl : cntB (cntC (cs.take k)) + c.2.length ≤ 16384 := by
    have e := congrArg List.length (docsC_take hc)
    rw [List.length_append, List.length_append] at e
    have h2 : (docsC cs).length ≤ 16384 := by obtain ⟨_, _, _, _, _, _, _, _, q⟩ := HS.out.parts; exact q
    rw [cntC_docs]
    omega
  obtain ⟨f, hf⟩ : ∃ f, f = cntB (cntC (cs.take k)) := ⟨_, rfl⟩
  rw [← hf] at hf1 hf2 hde2 z0 z1 htl
  obtain ⟨m1, hm1⟩ : ∃ m, m = c.2.length := ⟨_, rfl⟩
  rw [← hm1] at hf2 z1 htl hok
  obtain ⟨t, ht⟩ : ∃ t, t = f + m1 := ⟨_, rfl⟩
  rw [← ht] at hf2 z1 htl
  obtain ⟨sl, hsl⟩ : ∃ sl, sl = c.1.length := ⟨_, rfl⟩
  rw [← hsl] at z2 q1 qO hbm
  have hkI : decide ((k : Int) < (n : Int)) = true := decide_eq_true (by omega)
  have hkI2 : (k : Int) < (n : Int) := by omega
  have HDo := hide (docsF_any f t sl cA A w5)
  have HOk := hide hok
  have HDe := hide hde2
  have HTt := hide ht
  have HSl := hide hsl
  have HM1 := hide hm1
  have HQO := hide qO
  have HQ2 := hide q2
  have hk0 : w5.cell? ⟨g, 0, none⟩ = some (.slice (some ⟨gR', 0, none⟩) n cR) := HK5.out.1
  clear y0 hc hde hok hde2 hf ht hsl hm1 qO q2 HBs
  go_wp2_with (fail)
  refine HDo.out.mono ?_
  rintro en w6 ⟨rfl, hw6⟩
  have HF6 : Hid (Fr No w5 w6) := hide (by rw [hw6]; exact (Fr.refl No w5).alloc _)
  have hbox : w6.heap[w5.heap.size]? = some (.cells #[.int .i64 (f : Nat), .int .i64 (t : Nat), .slice A sl cA] 106 (0, 0)) := by rw [hw6]; exact heap_alloc_new w5 _
  clear hw6
  obtain ⟨G, hG⟩ : ∃ G, G = w5.heap.size := ⟨_, rfl⟩
  rw [← hG] at hbox
  have hGl : G ≤ w6.heap.size := by rw [hG]; exact HF6.out.size
  have hrd6 : Rd w6 G A (by8 c.1) := by rw [hG]; exact HQO.out.rd.fr0 HF6.out
  have HSq := hide (docs1_in (fr - 1) (by omega) G sl cA f t m1 A c.1 G w6 hbox HTt.out HSl.out.symm q1 HQ2.out hbm hGl hrd6 htl)
  have HEg := hide (enters_of Try.func104 (by kernel_rfl) rfl)
  have HF6' : Hid (Fr No w w6) := hide (HF5'.out.tr HF6.out)
  have HB16 := hide (((HF3.out.tr HF5.out).tr HF6.out).blk HB1.out (fun h => h))
  have HB26 := hide (((HF3.out.tr HF5.out).tr HF6.out).blk HB2.out (fun h => h))
  have hws : w.heap.size + 2 ≤ w6.heap.size := by
    have h1 := (Array.getElem?_eq_some_iff.1 HB26.out).1
    omega
  clear hbox hGl hrd6 z0 z1 z2 hk0 hkI hkI2
  go_wp2_with (fail)
  rw [← hG]
  clear hG
  refine (wpIn_wide (n := fr)).1 ?_
  refine wpIn_rangeFunc_mem (F := Fence.wide) rfl (by omega) (gf := 104) (lb := #[.pointer (some ⟨G, 0, none⟩)]) rfl trivial HEg.out HSq.out KpE.t KpE.b (fun x W l o o' h hl ho => h.putN hl ho) (Fr.refl _ _) (fun x => rfl)
    (fun pre W => Fr No w W ∧ W.heap[w.heap.size]? = some (.cells #[.int .i64 (i : Nat)] 3 (0, 0)) ∧ W.heap[w.heap.size + 1]? = some (.cells #[.slice none 0 0] 71 (0, 0)) ∧ ∀ x ∈ pre, x.i ≠ i)
    (fun cc pre W => cc = .ret ∧ ∃ pre0 x, pre = pre0 ++ [x] ∧ x.i = i ∧ OwnE W w.heap.size x.A x.c x.d ∧ W.heap[w.heap.size + 1]? = some (.cells #[.slice x.A x.d.length x.c] 71 (0, 0)) ∧ Fr No w W) ?hI ?hIx ?h0
    (fun x => { tmps := #[.pointer (some ⟨g, 0, none⟩), .int .i64 ((i : Nat) : Int), undef, .pointer (some ⟨w.heap.size, 0, none⟩), .pointer (some ⟨w.heap.size + 1, 0, none⟩), .int .i64 ((k : Nat) : Int), .bool b, .int .i64 (x.i : Nat), .slice x.A x.d.length x.c, .int .i64 ((i : Nat) : Int), .bool false, .bool false, .int .i64 ((i : Nat) : Int), .pointer (some ⟨g, 0, none⟩), .int .i64 ((N : Nat) : Int), .bool false, .bool false, .tuple #[.int .i64 ((k : Nat) : Int), .bool b], .pointer (some ⟨g, 0, none⟩), .pointer (some ⟨g, 0, none⟩), .pointer (some ⟨g, 0, none⟩), .slice (some ⟨gR', 0, none⟩) n cR, .int .i64 ((i : Nat) : Int), .int .i64 ((i : Int) + 1), .tuple #[.int .i64 ((k : Nat) : Int), .bool b], .int .i64 ((k : Nat) : Int), .bool b, .pointer (some ⟨g, 0, none⟩), .pointer (some ⟨g, 0, none⟩), .pointer (some ⟨g, 0, none⟩), .slice (some ⟨gR', 0, none⟩) n cR, .int .i64 ((k : Nat) : Int), .pointer (some ⟨gR', k * 3, none⟩), .agg #[.int .i64 ((f : Nat) : Int), .int .i64 ((t : Nat) : Int), .slice A sl cA], .func (.func 104) #[] #[.pointer (some ⟨G, 0, none⟩)], .int .i64 (x.i : Nat), .slice x.A x.d.length x.c, undef, undef, undef, undef], defers := [] }) ?assign ?body ?done ?stop ?panic
  case hI =>
    rintro s A1' A2' ⟨z1, z2, z3, z4⟩ ff
    exact ⟨z1.trans ff (fun j hj hl => by have := hl.1; omega), ff.blk z2 (fun hl => by have := hl.1; omega), ff.blk z3 (fun hl => by have := hl.1; omega), z4⟩
  case hIx =>
    rintro cc s A1' A2' ⟨z0, pre0, x, z1, z2, z3, z4, z5⟩ ff
    exact ⟨z0, pre0, x, z1, z2, z3.off ff (Loose.off (by decide)) (Loose.off (by decide)), ff.blk z4 (fun hl => by have := hl.1; omega), z5.trans ff (fun j hj hl => by have := hl.1; omega)⟩
  case h0 => exact ⟨HF6'.out, HB16.out, HB26.out, (fun x hx => by cases hx)⟩
  case assign =>
    intro l x W K hK
    gi_wp2
    simpa [encX] using hK
  case body =>
    rintro l pre x W ⟨z1, z2, z3, z4⟩ hgx hpl
    have HZ1 := hide z1
    have HZ2 := hide z2
    have HZ3 := hide z3
    have HZ4 := hide z4
    have HGx := hide hgx
    have u1 : W.cell? ⟨w.heap.size, 0, none⟩ = some (.int .i64 (i : Nat)) := cell_of_row _ _ 0 _ _ _ z2
    have u2 : W.cell? ⟨w.heap.size + 1, 0, none⟩ = some (.slice none 0 0) := cell_of_row _ _ 0 _ _ _ z3
    have u3 : W.frozen? ⟨w.heap.size + 1, 0, none⟩ = false := frozen_of_row _ _ _ _ _ z3
    clear z1 z2 z3 z4 hgx
    by_cases hxi : x.i = i
    · have hxd : ((x.i : Int) == (i : Int)) = true := by rw [hxi]; simp
      have hxd2 : (x.i == i) = true := by rw [hxi]; simp
      have hxd3 : (x.i : Int) = (i : Int) := by omega
      have HXi := hide hxi
      clear hxi
      gi_wp2
      have f1 : Fr (Is (w.heap.size + 1)) W (W.setCell ⟨w.heap.size + 1, 0, none⟩ (.slice x.A x.d.length x.c)) := (Fr.refl (Is (w.heap.size + 1)) W).put 0 _
      have o1 : ∀ T, T ≠ 71 → Off (Is (w.heap.size + 1)) W T := fun T hT => off_is HZ3.out hT
      refine ⟨⟨f1.size, fun j o hj hk _ => f1.blk hk (fun e => by have e : j = w.heap.size + 1 := e; omega)⟩, rfl, pre, x, rfl, HXi.out, ((HGx.out.lower HF6'.out.size).off f1 (o1 _ (by decide)) (o1 _ (by decide))), box_put HZ3.out, HZ1.out.trans f1 (fun j hj e => by have e : j = w.heap.size + 1 := e; omega)⟩
    · have HXi := hide hxi
      have hxd : decide ((x.i : Int) = (i : Int)) = false := decide_eq_false (by omega)
      have hxd2 : ((x.i : Int) == (i : Int)) = false := by simpa using hxd
      clear hxi
      gi_wp2
      refine ⟨KeepsFrom.refl _ _, Fr.refl _ _, HZ1.out, HZ2.out, HZ3.out, fun y hy => ?_⟩
      rcases List.mem_append.1 hy with hy | hy
      · exact HZ4.out y hy
      · rw [List.mem_singleton.1 hy]; exact HXi.out
  case panic => exact fun D pre W _ hPn _ _ => absurd HOk.out (hPn _)
  case done =>
    rintro D xs W hD hS ⟨z1, z2, z3, z4⟩ hK
    exfalso
    have h1 := (chunk_of hS.2).1
    rw [List.length_map] at h1
    obtain ⟨x, hx⟩ : ∃ x, xs[i - f]? = some x := ⟨_, List.getElem?_eq_getElem (by have := HTt.out; omega)⟩
    have h2 := hS.1 _ _ hx
    exact z4 x (List.mem_of_getElem? hx) (by omega)
  case stop =>
    rintro D cc pre W hD hSp ⟨rfl, pre0, x, rfl, hxi, z3, z4, z5⟩ hK
    have hM : ∀ E ∈ [D], W.heap[E]? = some (.deferred (some [])) := fun E hE => by rw [List.mem_singleton.1 hE]; exact hK
    refine wpIn_wide.2 ?_
    go_wp2
    show LeavesInM Fence.wide fr Try.prog Try.f49 _ (DocPost w d) ([D].map mkD ++ []) .returning W
    refine leave_marks (by simp) [D] W (by simp) hM fun W' ff => ?_
    have hD2 : w.heap.size + 2 ≤ D := by omega
    have k1 := ff.blk z4 (fun hl => by have := List.mem_singleton.1 hl; omega)
    have hOff : ∀ T, Off (fun k => k ∈ [D]) W T := fun T k cs fz hk hl => by rw [List.mem_singleton.1 hl] at hk; rw [hK] at hk; cases hk
    have c1 : W'.cell? ⟨w.heap.size + 1, 0, none⟩ = some (.slice x.A x.d.length x.c) := cell_of_row _ _ 0 _ _ _ k1
    have hF' : Fr No w W' := z5.trans ff (fun j hj hl => by have := List.mem_singleton.1 hl; omega)
    have hO' := z3.off ff (hOff _) (hOff _)
    have hde : x.d = d := by
      obtain ⟨y1, b', y2⟩ := hSp
      have y3 := y1 pre0.length x (by simp)
      have y4 := docsS_take HOk.out (by simp; have := HTt.out; omega) y2
      have y5 := congrArg (fun l => l[pre0.length]?) y4
      simp only [List.map_append, List.map_cons, List.map_nil, List.length_append, List.length_cons, List.length_nil] at y5
      rw [List.getElem?_append_right (by simp), List.length_map, Nat.sub_self, List.getElem?_take, if_pos (by omega)] at y5
      rw [HDe.out, show i - f = pre0.length by omega, List.getD_eq_getElem?_getD, ← y5]
      rfl
    show LeavesIn _ _ _ _ _ _ _ _ _
    refine ⟨.slice x.A x.d.length x.c, ?_, x.A, x.c, by rw [hde], by rw [← hde]; exact hO', hF'⟩
    simp [results, Try.f49, go_sem, c1]
end Go.Proofs.Ytpnhnnhocekchaa
namespace Go.Proofs.Ytpnhnnhocekchaa
set_option linter.unusedVariables false
set_option linter.unusedSimpArgs false
open Go.RowKit

theorem LentD.rdD {w : World} {base n c : Nat} {A : Option Addr} {ds : List (List EntV)} (h : LentD w base (.slice A n c) ds) : RdD w w.heap.size A ds := fun k hk => by
  obtain ⟨g, R, rc, rfl, hc, he⟩ := h.at hk
  obtain ⟨ps, _, ho, _⟩ := id he
  obtain ⟨_, h1, h2⟩ := ho.le
  exact ⟨_, rfl, World.block_lt_of_cell? w _ hc, R, _, rc, hc, rfl, by omega, h2, he.rd⟩
theorem headB_le {cs : List (Nat × List UInt8)} : (headB cs).length ≤ 20 * cs.length := by
  induction cs with
  | nil => simp [headB]
  | cons x r ih =>
    have e : headB (x :: r) = (enc x.1 ++ enc x.2.length) ++ headB r := by simp [headB]
    have h1 := (enc_len x.1).2
    have h2 := (enc_len x.2.length).2
    rw [e, List.length_append, List.length_append, List.length_cons]
    omega
theorem bodyB_le {cs : List (Nat × List UInt8)} (h : ∀ x ∈ cs, x.2.length ≤ 268426) : (bodyB cs).length ≤ 268426 * cs.length := by
  induction cs with
  | nil => simp [bodyB]
  | cons x r ih =>
    have e : bodyB (x :: r) = x.2 ++ bodyB r := by simp [bodyB]
    have h1 := h x (by simp)
    have h2 := ih (fun y hy => h y (by simp [hy]))
    rw [e, List.length_append, List.length_cons]
    omega
theorem buildB_le (ds : List (List EntV)) : (buildB ds).length ≤ 4398300000 := by
  unfold buildB
  split
  · rename_i hm
    have h1 := (enc_len ds.length).2
    have h2 := (enc_len (cutsB ds).length).2
    have h3 := headB_le (cs := cutsB ds)
    have h4 := bodyB_le (cuts_small hm.2)
    have h5 := (cuts_cnt (ds := ds)).1
    have h6 := hm.1
    simp only [List.length_append]
    omega
  · simp
/-- what Open makes of a form. -/
theorem OpenOk.of_build {ds : List (List EntV)} {ks : List (Nat × Nat)} {cs : List ChV} (hm : mayB ds) (hi : DocsI ds) (h : OpenOk (buildB ds) ks cs) : docsC cs = ds ∧ cntC cs = cutsB ds := by
  have hl : (buildB ds).length < 18446744073709551616 := by have := buildB_le ds; omega
  obtain ⟨_, e⟩ := h.uniq (open_of_build hm hi rfl hl)
  obtain ⟨g1, _⟩ := groups_flat ds
  subst e
  refine ⟨by rw [docsC_groups, g1], ?_⟩
  rw [groups_cuts]
  unfold cntC
  rw [List.map_map]
  rfl

theorem LentD.fr0 {w w' : World} {base : Nat} {v : Value} {ds : List (List EntV)} (h : LentD w base v ds) (f : Fr No w w') : LentD w' base v ds := by
  obtain ⟨ps, h1, h2, h3⟩ := h
  exact ⟨ps, h1, h2.fr0 f, fun p hp => (h3 p hp).fr0 f⟩
theorem fr_of_drewN {w w' : World} {n : Nat} (h : w' = w.drewN n) : Fr No w w' := by subst h; exact (Fr.refl No w).drewN n
end Go.Proofs.Ytpnhnnhocekchaa
namespace Go.Proofs.Ytpnhnnhocekchaa
set_option linter.unusedVariables false
set_option linter.unusedSimpArgs false
open Go.RowKit

def knD : List EntV := [⟨⟨#[102]⟩, ⟨#[97, 98]⟩, []⟩, ⟨⟨#[110]⟩, ⟨#[]⟩, [1, -1]⟩]
def knB : List UInt8 := [1, 1, 1, 13, 2, 1, 102, 2, 97, 98, 0, 1, 110, 0, 2, 2, 1]
theorem kn_build : buildB [knD] = knB := by decide +kernel
theorem kn_nil : buildB [] = [0, 0] := by decide +kernel
theorem kn_bad (ks : List (Nat × Nat)) (cs : List ChV) : ¬ OpenOk [0, 0, 0] ks cs := by
  intro h
  obtain ⟨a, h1, h2⟩ := h.tab
  have e : hdrS [0, 0, 0] ([0, 0, 0] : List UInt8).length (sizeS [0, 0, 0] 0 0 16384).1 (sizeS [0, 0, 0] (sizeS [0, 0, 0] 0 0 16384).2.1 (sizeS [0, 0, 0] 0 0 16384).2.2 ((sizeS [0, 0, 0] 0 0 16384).1 : Nat)).1 (sizeS [0, 0, 0] (sizeS [0, 0, 0] 0 0 16384).2.1 (sizeS [0, 0, 0] 0 0 16384).2.2 ((sizeS [0, 0, 0] 0 0 16384).1 : Nat)).2.1 = some ([], 2, 0) := by decide +kernel
  rw [e] at h1
  injection h1 with h1
  injection h1 with h3 h4
  injection h4 with h4 _
  subst h3 h4
  rw [List.length_nil, bodS] at h2
  injection h2 with h2
  injection h2 with _ h2
  simp at h2
theorem kn_may : mayB [knD] := by decide +kernel
theorem kn_in : DocsI [knD] := by
  intro d hd e he
  rw [List.mem_singleton.1 hd] at he
  rcases List.mem_cons.1 he with rfl | he
  · intro x hx; cases hx
  · rw [List.mem_singleton.1 he]
    intro x hx
    rcases List.mem_cons.1 hx with rfl | hx
    · exact ⟨by decide, by decide⟩
    · rw [List.mem_singleton.1 hx]; exact ⟨by decide, by decide⟩
theorem sto_bounds {ds : List (List EntV)} {cs : List ChV} (hm : mayB ds) (h : cntC cs = cutsB ds) : cs.length ≤ 16384 ∧ ∀ c ∈ cs, c.1.length ≤ 268426 := by
  have h1 := congrArg List.length h
  unfold cntC at h1
  rw [List.length_map] at h1
  have h2 := (cuts_cnt (ds := ds)).1
  have h3 := hm.1
  refine ⟨by omega, fun c hc => ?_⟩
  have h4 : (c.2.length, c.1) ∈ cutsB ds := by rw [← h]; exact List.mem_map.2 ⟨c, hc, rfl⟩
  exact cuts_small hm.2 _ h4
theorem rd_lit8 (w : World) (cs : Array Value) (bs : List UInt8) (h : cs.toList = by8 bs) : Rd (w.alloc (.cells cs 5)) (w.alloc (.cells cs 5)).heap.size (some ⟨w.heap.size, 0, none⟩) (by8 bs) := by
  rw [← h]
  exact (Rd.block (heap_alloc_new w (.cells cs 5))).more (by simp)
/-- the chapter's document in memory. -/
theorem kn_mem {w W1 : World} {b0 b1 : Nat} (h0 : W1.heap[b0]? = some (.cells #[.int .i64 1, .int .i64 (-1)] 2 (0, 0)))
    (h1 : W1.heap[b1]? = some (.cells #[.string ⟨#[102]⟩, .string ⟨#[97, 98]⟩, .slice none 0 0, .string ⟨#[110]⟩, .string ⟨#[]⟩, .slice (some ⟨b0, 0, none⟩) 2 2] 109 (0, 0))) : RdE W1 W1.heap.size (some ⟨b1, 0, none⟩) knD := by
  have l0 := (Array.getElem?_eq_some_iff.1 h0).1
  have l1 := (Array.getElem?_eq_some_iff.1 h1).1
  intro k hk
  refine ⟨_, rfl, ?_⟩
  have hk : k < 2 := hk
  have hk2 : k = 0 ∨ k = 1 := by omega
  rcases hk2 with rfl | rfl
  · refine ⟨l1, cell_of_row _ _ 0 _ _ _ h1, cell_of_row _ _ 1 _ _ _ h1, none, 0, 0, cell_of_row _ _ 2 _ _ _ h1, rfl, Nat.le_refl _, Nat.zero_le _, (fun x hx => by cases hx), Rd.nil _ _ _⟩
  · refine ⟨l1, cell_of_row _ _ 3 _ _ _ h1, cell_of_row _ _ 4 _ _ _ h1, some ⟨b0, 0, none⟩, 2, 2, cell_of_row _ _ 5 _ _ _ h1, rfl, Nat.le_refl _, by unfold maxLen; omega, ?_, ?_⟩
    · intro x hx
      rcases List.mem_cons.1 hx with rfl | hx
      · exact ⟨by decide, by decide⟩
      · rw [List.mem_singleton.1 hx]; exact ⟨by decide, by decide⟩
    · intro j u hu
      refine ⟨_, rfl, l0, ?_⟩
      rw [Addr.add_lit, cell_of_row _ _ _ _ _ _ h0, Nat.zero_add, ← hu]
      rcases j with _ | _ | j <;> rfl
set_option maxRecDepth 100000 in
set_option maxHeartbeats 4000000 in
theorem known11_any (w : World) : Calls Try.prog 48 #[] w (RetB true w) := by
  go_enter Try.func48, Try.ntmps48
  go_wp2_with (fail)
  obtain ⟨w1, hw1⟩ : ∃ w1, w1 = ((w.alloc (.cells #[.int .i64 1, .int .i64 (-1)] 2)).alloc (.cells #[.string ⟨#[102]⟩, .string ⟨#[97, 98]⟩, .slice none 0 0, .string ⟨#[110]⟩, .string ⟨#[]⟩, .slice (some ⟨w.heap.size, 0, none⟩) 2 2] 109)).alloc (.cells #[.slice (some ⟨w.heap.size + 1, 0, none⟩) 2 2] 71) := ⟨_, rfl⟩
  rw [← hw1]
  have hr1 : RdE w1 w1.heap.size (some ⟨w.heap.size + 1, 0, none⟩) knD := by
    rw [hw1]
    refine kn_mem (w := w) (b0 := w.heap.size) ?_ ?_
    · exact (((Fr.refl No _).alloc _).alloc _).blk (heap_alloc_new w (.cells #[.int .i64 1, .int .i64 (-1)] 2)) (fun h => h)
    · have h := heap_alloc_new (w.alloc (.cells #[.int .i64 1, .int .i64 (-1)] 2)) (.cells #[.string ⟨#[102]⟩, .string ⟨#[97, 98]⟩, .slice none 0 0, .string ⟨#[110]⟩, .string ⟨#[]⟩, .slice (some ⟨w.heap.size, 0, none⟩) 2 2] 109)
      rw [show (w.alloc (.cells #[.int .i64 1, .int .i64 (-1)] 2)).heap.size = w.heap.size + 1 by simp] at h
      exact ((Fr.refl No _).alloc _).blk h (fun h => h)
  have hd1 : RdD w1 w1.heap.size (some ⟨w.heap.size + 1 + 1, 0, none⟩) [knD] := by
    intro k hk
    obtain rfl : k = 0 := by simpa using hk
    have h := heap_alloc_new ((w.alloc (.cells #[.int .i64 1, .int .i64 (-1)] 2)).alloc (.cells #[.string ⟨#[102]⟩, .string ⟨#[97, 98]⟩, .slice none 0 0, .string ⟨#[110]⟩, .string ⟨#[]⟩, .slice (some ⟨w.heap.size, 0, none⟩) 2 2] 109)) (.cells #[.slice (some ⟨w.heap.size + 1, 0, none⟩) 2 2] 71)
    rw [show ((w.alloc (.cells #[.int .i64 1, .int .i64 (-1)] 2)).alloc (.cells #[.string ⟨#[102]⟩, .string ⟨#[97, 98]⟩, .slice none 0 0, .string ⟨#[110]⟩, .string ⟨#[]⟩, .slice (some ⟨w.heap.size, 0, none⟩) 2 2] 109)).heap.size = w.heap.size + 1 + 1 by simp, ← hw1] at h
    exact ⟨_, rfl, (Array.getElem?_eq_some_iff.1 h).1, _, _, _, cell_of_row _ _ 0 _ _ _ h, rfl, Nat.le_refl _, by unfold maxLen; omega, hr1⟩
  have HF1 : Hid (Fr No w w1) := hide (by rw [hw1]; exact (((Fr.refl No w).alloc _).alloc _).alloc _)
  have HR1 := hide hr1
  obtain ⟨b1, hb1⟩ : ∃ b1, b1 = w.heap.size + 1 := ⟨_, rfl⟩
  rw [← hb1] at HR1 hd1 ⊢
  have HBu := hide (build_any (some ⟨b1 + 1, 0, none⟩) 1 1 _ [knD] w1 rfl (Nat.le_refl _) (by unfold maxLen; omega) (Nat.le_refl _) hd1)
  clear hw1 hr1 hd1 hb1
  refine HBu.out.mono ?_
  rintro en w2 ⟨v2, rfl, hown, hfr⟩
  rw [kn_build, show knB.length = 17 from rfl] at hown
  obtain ⟨A2, c2, rfl, x1, x2, _⟩ := hown.form
  have HO2 : Hid (Own w2 w1.heap.size 5 1 (.slice A2 17 c2) 17 (by8 knB)) := hide hown
  have HF2 : Hid (Fr No w w2) := hide (HF1.out.tr hfr)
  have HR2 := hide (HR1.out.fr0 hfr)
  have HX := hide (And.intro x1 x2)
  clear hown hfr x1 x2
  go_wp2_with (fail)
  refine (callsIn_wide.1 (open_in 6 (Nat.le_refl _) 17 c2 A2 knB _ w2 rfl HX.out.1 HX.out.2 (by omega) (Nat.le_refl _) HO2.out.rd)).mono ?_
  rintro en w3 ⟨p, e, rfl, hfr, hp⟩
  have hp2 : ∃ cs g, p = some ⟨g, 0, none⟩ ∧ e = 0 ∧ StoM w3 w2.heap.size g cs ∧ docsC cs = [knD] ∧ cntC cs = cutsB [knD] := by
    rcases hp with ⟨ks, cs, g, h1, h2, h3, h4⟩ | ⟨h1, _⟩
    · rw [← kn_build] at h1
      exact ⟨cs, g, h2, h3, h4, OpenOk.of_build kn_may kn_in h1⟩
    · exact absurd (open_of_build kn_may kn_in kn_build (by decide)) (h1 _ _)
  obtain ⟨cs, g, rfl, rfl, hsto, hdc, hcc⟩ := hp2
  have HS3 := hide hsto
  have HF3 : Hid (Fr No w w3) := hide (HF2.out.tr hfr)
  have HO3 := hide (HO2.out.fr0 hfr)
  have HR3 := hide (HR2.out.fr0 hfr)
  have HDc := hide hdc
  have HCc := hide hcc
  clear hfr hp hsto hdc hcc
  go_wp2_with (fail)
  obtain ⟨w4, hw4⟩ : ∃ w4, w4 = w3.alloc (.cells #[.int .u8 0, .int .u8 0, .int .u8 0] 5) := ⟨_, rfl⟩
  have hr4 : Rd w4 w4.heap.size (some ⟨w3.heap.size, 0, none⟩) (by8 [0, 0, 0]) := by
    rw [hw4]
    exact rd_lit8 w3 #[.int .u8 0, .int .u8 0, .int .u8 0] _ rfl
  have f4 : Fr No w3 w4 := by rw [hw4]; exact (Fr.refl No w3).alloc _
  have HF4 : Hid (Fr No w w4) := hide (HF3.out.tr f4)
  have HO4 := hide (HO3.out.fr0 f4)
  have HR4 := hide (HR3.out.fr0 f4)
  have HS4 := hide (HS3.out.fr0 f4)
  rw [← hw4]
  have HOp := hide (callsIn_wide.1 (open_in 6 (Nat.le_refl _) 3 3 (some ⟨w3.heap.size, 0, none⟩) [0, 0, 0] _ w4 rfl (Nat.le_refl _) (by unfold maxLen; omega) (by omega) (Nat.le_refl _) hr4))
  clear hw4 hr4 f4
  refine HOp.out.mono ?_
  rintro en w5 ⟨p, e, rfl, hfr, hp⟩
  obtain ⟨rfl, rfl⟩ : p = none ∧ e = 20 := by
    rcases hp with ⟨ks, cs, g, h1, _⟩ | ⟨_, h⟩
    · exact absurd h1 (kn_bad _ _)
    · exact h
  have HF5 : Hid (Fr No w w5) := hide (HF4.out.tr hfr)
  have HO5 := hide (HO4.out.fr0 hfr)
  have HR5 := hide (HR4.out.fr0 hfr)
  have HS5 := hide (HS4.out.fr0 hfr)
  clear hfr hp HOp
  go_wp2_with (fail)
  obtain ⟨w6, hw6⟩ : ∃ w6, w6 = w5.alloc (.cells #[.int .u8 1, .int .u8 1, .int .u8 1, .int .u8 13, .int .u8 2, .int .u8 1, .int .u8 102, .int .u8 2, .int .u8 97, .int .u8 98, .int .u8 0, .int .u8 1, .int .u8 110, .int .u8 0, .int .u8 2, .int .u8 2, .int .u8 1] 5) := ⟨_, rfl⟩
  have hr6 : Rd w6 w6.heap.size (some ⟨w5.heap.size, 0, none⟩) (by8 knB) := by
    rw [hw6]
    exact rd_lit8 w5 #[.int .u8 1, .int .u8 1, .int .u8 1, .int .u8 13, .int .u8 2, .int .u8 1, .int .u8 102, .int .u8 2, .int .u8 97, .int .u8 98, .int .u8 0, .int .u8 1, .int .u8 110, .int .u8 0, .int .u8 2, .int .u8 2, .int .u8 1] _ rfl
  have f6 : Fr No w5 w6 := by rw [hw6]; exact (Fr.refl No w5).alloc _
  rw [← hw6]
  have HKb := hide (kbytes_any A2 (some ⟨w5.heap.size, 0, none⟩) 17 c2 17 17 _ _ knB knB w6 rfl rfl HX.out.1 HX.out.2 (Nat.le_refl _) (by unfold maxLen; omega) (HO5.out.fr0 f6).rd hr6)
  have HF6 : Hid (Fr No w w6) := hide (HF5.out.tr f6)
  have HR6 := hide (HR5.out.fr0 f6)
  have HS6 := hide (HS5.out.fr0 f6)
  clear hw6 hr6 f6
  refine HKb.out.mono ?_
  rintro en w7 ⟨rfl, q7, hq7⟩
  rw [decide_eq_true rfl]
  have HF7 : Hid (Fr No w w7) := hide (HF6.out.tr (fr_of_drewN hq7))
  have HR7 := hide (HR6.out.fr0 (fr_of_drewN hq7))
  have HS7 := hide (HS6.out.fr0 (fr_of_drewN hq7))
  have HLen := hide (show Calls Try.prog 45 #[.pointer (some ⟨g, 0, none⟩)] w7 (Ret (.int .i64 1) w7) by have := len_sto HS7.out; rw [HDc.out] at this; exact this)
  have HDoc := hide (callsIn_wide.1 (doc_in 6 (Nat.le_refl _) (w := w7) 0 HS7.out (sto_bounds kn_may HCc.out).1 (fun c hc => Nat.le_trans ((sto_bounds kn_may HCc.out).2 c hc) (by omega)) (by rw [HDc.out]; exact Nat.zero_lt_one)))
  rw [HDc.out] at HDoc
  clear hq7 HKb
  go_wp2_with (fail)
  refine HLen.out.mono ?_
  rintro en wz ⟨rfl, rfl⟩
  go_wp2_with (fail)
  refine HDoc.out.mono ?_
  rintro en w8 ⟨A8, c8, rfl, hoe, hfr⟩
  have HF8 : Hid (Fr No w w8) := hide (HF7.out.tr hfr)
  have HEn := hide (entries_any A8 (some ⟨b1, 0, none⟩) 2 c8 2 2 _ _ knD knD w8 rfl rfl hoe.le.1 hoe.le.2 (Nat.le_refl _) (by unfold maxLen; omega) hoe.rd (HR7.out.fr0 hfr))
  rw [decide_eq_true rfl] at HEn
  rw [show (([knD] : List (List EntV)).getD 0 []).length = 2 from rfl]
  clear hoe hfr
  go_wp2_with (fail)
  refine HEn.out.mono ?_
  rintro en w9 ⟨rfl, q9, hq9⟩
  have HF9 : Hid (Fr No w w9) := hide (HF8.out.tr (fr_of_drewN hq9))
  clear hq9
  go_wp2_with (fail)
  refine (build_any none 0 0 0 [] w9 rfl (Nat.le_refl _) (Nat.zero_le _) (Nat.zero_le _) (fun k hk => by simp at hk)).mono ?_
  rintro en w10 ⟨v10, rfl, hown, hfr⟩
  rw [kn_nil, show ([0, 0] : List UInt8).length = 2 from rfl] at hown
  obtain ⟨A10, c10, rfl, x1, x2, _⟩ := hown.form
  have HO10 := hide hown
  have HX10 := hide (And.intro x1 x2)
  have HF10 : Hid (Fr No w w10) := hide (HF9.out.tr hfr)
  clear hown hfr x1 x2
  go_wp2_with (fail)
  have hr11 : Rd (w10.alloc (.cells #[.int .u8 0, .int .u8 0] 5)) (w10.alloc (.cells #[.int .u8 0, .int .u8 0] 5)).heap.size (some ⟨w10.heap.size, 0, none⟩) (by8 [0, 0]) :=
    rd_lit8 w10 #[.int .u8 0, .int .u8 0] _ rfl
  refine (kbytes_any A10 (some ⟨w10.heap.size, 0, none⟩) 2 c10 2 2 _ _ [0, 0] [0, 0] _ rfl rfl HX10.out.1 HX10.out.2 (Nat.le_refl _) (by unfold maxLen; omega) (HO10.out.fr0 ((Fr.refl No w10).alloc _)).rd hr11).mono ?_
  rintro en w11 ⟨rfl, q11, hq11⟩
  rw [decide_eq_true rfl]
  have HF11 : Hid (Fr No w w11) := hide ((HF10.out.alloc _).tr (fr_of_drewN hq11))
  clear hq11 hr11
  go_wp2
  go_ret
  exact ⟨rfl, HF11.out⟩
end Go.Proofs.Ytpnhnnhocekchaa
