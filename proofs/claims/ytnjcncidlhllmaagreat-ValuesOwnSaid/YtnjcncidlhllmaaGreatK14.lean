/- Several texts in one: KnW, Lent8. -/
import Derived.Test.YtnjcncidlhllmaaGreatK13
namespace Go.Proofs.YtnjcncidlhllmaaGreat
set_option linter.unusedVariables false
set_option linter.unusedSimpArgs false
open Go.RowKit

theorem lit_rowsN (w : World) : ISl (((w.alloc (.cells #[.int .i64 5, .int .i64 3] 2)).alloc (.cells #[.int .i64 7] 2)).alloc (.cells #[.slice (some ⟨w.heap.size, 0, none⟩) 2 2, .slice none 0 0, .slice (some ⟨w.heap.size + 1, 0, none⟩) 1 1] 41)) (((w.alloc (.cells #[.int .i64 5, .int .i64 3] 2)).alloc (.cells #[.int .i64 7] 2)).alloc (.cells #[.slice (some ⟨w.heap.size, 0, none⟩) 2 2, .slice none 0 0, .slice (some ⟨w.heap.size + 1, 0, none⟩) 1 1] 41)).heap.size (some ⟨w.heap.size + 2, 0, none⟩) exN := by
  have r1 := Rd.block (heap_alloc_new w (.cells #[.int .i64 5, .int .i64 3] 2))
  have r2 := Rd.block (heap_alloc_new (w.alloc (.cells #[.int .i64 5, .int .i64 3] 2)) (.cells #[.int .i64 7] 2))
  have r3 := Rd.block (heap_alloc_new ((w.alloc (.cells #[.int .i64 5, .int .i64 3] 2)).alloc (.cells #[.int .i64 7] 2)) (.cells #[.slice (some ⟨w.heap.size, 0, none⟩) 2 2, .slice none 0 0, .slice (some ⟨w.heap.size + 1, 0, none⟩) 1 1] 41))
  have e1 : (w.alloc (.cells #[.int .i64 5, .int .i64 3] 2)).heap.size = w.heap.size + 1 := by simp
  have e2 : ((w.alloc (.cells #[.int .i64 5, .int .i64 3] 2)).alloc (.cells #[.int .i64 7] 2)).heap.size = w.heap.size + 2 := by simp
  rw [e1] at r2
  rw [e2] at r3
  obtain ⟨W1, hW1⟩ : ∃ x, x = w.alloc (.cells #[.int .i64 5, .int .i64 3] 2) := ⟨_, rfl⟩
  rw [← hW1] at r1 r2 r3 e1 e2 ⊢
  obtain ⟨W2, hW2⟩ : ∃ x, x = W1.alloc (.cells #[.int .i64 7] 2) := ⟨_, rfl⟩
  have f12 : Fr No W1 W2 := by rw [hW2]; exact (Fr.refl _ _).alloc _
  rw [← hW2] at r2 r3 e2 ⊢
  obtain ⟨W3, hW3⟩ : ∃ x, x = W2.alloc (.cells #[.slice (some ⟨w.heap.size, 0, none⟩) 2 2, .slice none 0 0, .slice (some ⟨w.heap.size + 1, 0, none⟩) 1 1] 41) := ⟨_, rfl⟩
  have f23 : Fr No W2 W3 := by rw [hW3]; exact (Fr.refl _ _).alloc _
  have e3 : W3.heap.size = w.heap.size + 3 := by rw [hW3]; simp [e2]
  rw [← hW3] at r3 ⊢
  have h0 : RowsAt W3 W3.heap.size [] [] := ⟨rfl, fun j l hj => by simp at hj⟩
  have h1 := h0.snoc (A := some ⟨w.heap.size, 0, none⟩) (c := 2) (l := [5, 3]) (by decide) (by decide) (((r1.fr0 f12).fr0 f23).more (by omega))
  have h2 := h1.snoc (A := none) (c := 0) (l := []) (by decide) (by decide) (rd_empty _ _ _)
  have h3 := h2.snoc (A := some ⟨w.heap.size + 1, 0, none⟩) (c := 1) (l := [7]) (by decide) (by decide) ((r2.fr0 f23).more (by omega))
  exact h3.isl (Nat.le_refl _) (r3.more (by omega))
/-- rows of texts that lie in memory below B. -/
def RowsTAt (w : World) (B : Nat) (vals : List Value) (rows : RwT) : Prop := vals.length = rows.length ∧ ∀ (j : Nat) l, rows[j]? = some l → ∃ A c, vals[j]? = some (.slice A l.length c) ∧ l.length ≤ c ∧ c ≤ maxLen ∧ Rd w B A (svs l)
theorem RowsTAt.snoc {w : World} {B : Nat} {vals : List Value} {rows : RwT} (h : RowsTAt w B vals rows) {A : Option Addr} {c : Nat} {l : List Tx} (h1 : l.length ≤ c) (h2 : c ≤ maxLen) (h3 : Rd w B A (svs l)) : RowsTAt w B (vals ++ [.slice A l.length c]) (rows ++ [l]) := by
  refine ⟨by simp [h.1], fun j l' hj => ?_⟩
  by_cases hlt : j < rows.length
  · rw [List.getElem?_append_left hlt] at hj
    obtain ⟨A', c', k1, k2⟩ := h.2 j l' hj
    exact ⟨A', c', by rw [List.getElem?_append_left (by rw [h.1]; exact hlt)]; exact k1, k2⟩
  · have hj1 := (List.getElem?_eq_some_iff.1 hj).1
    have e : j = rows.length := by simp at hj1; omega
    subst e
    rw [List.getElem?_append_right (Nat.le_refl _), Nat.sub_self] at hj
    simp at hj
    subst hj
    exact ⟨A, c, by rw [← h.1, List.getElem?_append_right (Nat.le_refl _), Nat.sub_self]; rfl, h1, h2, h3⟩
theorem RowsTAt.tsl {w : World} {B : Nat} {vals : List Value} {rows : RwT} (h : RowsTAt w B vals rows) (hB : B ≤ w.heap.size) {A : Option Addr} (hr : Rd w w.heap.size A vals) : TSl w w.heap.size A rows := fun j l hj => by
  obtain ⟨A', c', k1, k2, k3, k4⟩ := h.2 j l hj
  obtain ⟨ad, e, hb, hc⟩ := hr j _ k1
  exact ⟨ad, A', c', e, hb, hc, k2, k3, k4.more hB⟩
theorem lit_rowsT (w : World) : TSl (((w.alloc (.cells #[.string ⟨#[98]⟩, .string ⟨#[97]⟩, .string ⟨#[98]⟩] 9)).alloc (.cells #[.string ⟨#[99]⟩] 9)).alloc (.cells #[.slice (some ⟨w.heap.size, 0, none⟩) 3 3, .slice (some ⟨w.heap.size + 1, 0, none⟩) 1 1] 43)) (((w.alloc (.cells #[.string ⟨#[98]⟩, .string ⟨#[97]⟩, .string ⟨#[98]⟩] 9)).alloc (.cells #[.string ⟨#[99]⟩] 9)).alloc (.cells #[.slice (some ⟨w.heap.size, 0, none⟩) 3 3, .slice (some ⟨w.heap.size + 1, 0, none⟩) 1 1] 43)).heap.size (some ⟨w.heap.size + 2, 0, none⟩) exT := by
  have r1 := Rd.block (heap_alloc_new w (.cells #[.string ⟨#[98]⟩, .string ⟨#[97]⟩, .string ⟨#[98]⟩] 9))
  have r2 := Rd.block (heap_alloc_new (w.alloc (.cells #[.string ⟨#[98]⟩, .string ⟨#[97]⟩, .string ⟨#[98]⟩] 9)) (.cells #[.string ⟨#[99]⟩] 9))
  have r3 := Rd.block (heap_alloc_new ((w.alloc (.cells #[.string ⟨#[98]⟩, .string ⟨#[97]⟩, .string ⟨#[98]⟩] 9)).alloc (.cells #[.string ⟨#[99]⟩] 9)) (.cells #[.slice (some ⟨w.heap.size, 0, none⟩) 3 3, .slice (some ⟨w.heap.size + 1, 0, none⟩) 1 1] 43))
  have e1 : (w.alloc (.cells #[.string ⟨#[98]⟩, .string ⟨#[97]⟩, .string ⟨#[98]⟩] 9)).heap.size = w.heap.size + 1 := by simp
  have e2 : ((w.alloc (.cells #[.string ⟨#[98]⟩, .string ⟨#[97]⟩, .string ⟨#[98]⟩] 9)).alloc (.cells #[.string ⟨#[99]⟩] 9)).heap.size = w.heap.size + 2 := by simp
  rw [e1] at r2
  rw [e2] at r3
  obtain ⟨W1, hW1⟩ : ∃ x, x = w.alloc (.cells #[.string ⟨#[98]⟩, .string ⟨#[97]⟩, .string ⟨#[98]⟩] 9) := ⟨_, rfl⟩
  rw [← hW1] at r1 r2 r3 e1 e2 ⊢
  obtain ⟨W2, hW2⟩ : ∃ x, x = W1.alloc (.cells #[.string ⟨#[99]⟩] 9) := ⟨_, rfl⟩
  have f12 : Fr No W1 W2 := by rw [hW2]; exact (Fr.refl _ _).alloc _
  rw [← hW2] at r2 r3 e2 ⊢
  obtain ⟨W3, hW3⟩ : ∃ x, x = W2.alloc (.cells #[.slice (some ⟨w.heap.size, 0, none⟩) 3 3, .slice (some ⟨w.heap.size + 1, 0, none⟩) 1 1] 43) := ⟨_, rfl⟩
  have f23 : Fr No W2 W3 := by rw [hW3]; exact (Fr.refl _ _).alloc _
  have e3 : W3.heap.size = w.heap.size + 3 := by rw [hW3]; simp [e2]
  rw [← hW3] at r3 ⊢
  have h0 : RowsTAt W3 W3.heap.size [] [] := ⟨rfl, fun j l hj => by simp at hj⟩
  have h1 := h0.snoc (A := some ⟨w.heap.size, 0, none⟩) (c := 3) (l := [[98], [97], [98]]) (by decide) (by decide) (((r1.fr0 f12).fr0 f23).more (by omega))
  have h2 := h1.snoc (A := some ⟨w.heap.size + 1, 0, none⟩) (c := 1) (l := [[99]]) (by decide) (by decide) ((r2.fr0 f23).more (by omega))
  exact h2.tsl (Nat.le_refl _) (r3.more (by omega))
theorem rd_lit (w : World) (cs : Array Value) (e : TypeId) : Rd (w.alloc (.cells cs e)) (w.alloc (.cells cs e)).heap.size (some ⟨w.heap.size, 0, none⟩) cs.toList := (Rd.block (heap_alloc_new w _)).more (by simp)
theorem rd_lit8v (w : World) (cs : Array Value) (bs : List UInt8) (h : cs.toList = by8 bs) : Rd (w.alloc (.cells cs 5)) (w.alloc (.cells cs 5)).heap.size (some ⟨w.heap.size, 0, none⟩) (by8 bs) := by
  rw [← h]
  exact rd_lit w cs _
theorem opened_ex : accT (keptT exT) ∧ (tT (keptT exT)).1 = [[97], [98], [99]] ∧ nV (restT (keptT exT)) = 2 ∧ rdV (restT (keptT exT)) = ordsR exT := by
  obtain ⟨h1, h2, h3, h4⟩ := opened_texts exT_ok rfl
  exact ⟨h1, by rw [h2, exT_terms], by rw [h3]; rfl, h4⟩
theorem ex_row0 {bits : List UInt8} {lens all : List Int} (h : rowsV bits lens all 2 = ordsR exT) : pickT [[97], [98], [99]] (rowV bits lens all 0) = [[97], [98]] ∧ (rowV bits lens all 0).length ≤ 64 ∧ ∀ x ∈ rowV bits lens all 0, 0 ≤ x ∧ x < ((3 : Nat) : Int) := by
  have e : rowV bits lens all 0 = ordsV [[97], [98], [99]] [[98], [97], [98]] := by rw [rowsV_at h (by omega), ordsR_at (by decide), exT_terms]; rfl
  have hlt : ltT [[97], [98], [99]] := by rw [← exT_terms]; exact termsV_lt _
  have hsub : ∀ t ∈ ([[98], [97], [98]] : List Tx), t ∈ ([[97], [98], [99]] : List Tx) := by decide
  rw [e]
  refine ⟨by rw [pickT_ords hlt hsub, exT_set0], by rw [ordsV_len, exT_set0]; decide, fun x hx => ?_⟩
  obtain ⟨t, ht, rfl⟩ := List.mem_map.1 hx
  have h2 := (ordT_mem hlt (hsub t ((setT_mem _ t).1 ht))).1
  have h3 : ([[97], [98], [99]] : List Tx).length = 3 := rfl
  rw [h3] at h2
  omega
theorem ex_row1 {bits : List UInt8} {lens all : List Int} (h : rowsV bits lens all 2 = ordsR exT) : rowV bits lens all 1 = [2] := by
  rw [rowsV_at h (by omega), ordsR_at (by decide), exT_terms]
  exact exT_ords1
set_option maxRecDepth 100000 in
set_option maxHeartbeats 8000000 in
theorem known12_any (w : World) : Calls Tryz.prog 7 #[] w (RetB true w) := by
  have HB0 := hide bad00
  go_enter Tryz.func7, Tryz.ntmps7
  have HR1 := hide (lit_rowsN w)
  go_wp2_with (fail)
  obtain ⟨w1, hw1⟩ : ∃ x, x = ((w.alloc (.cells #[.int .i64 5, .int .i64 3] 2)).alloc (.cells #[.int .i64 7] 2)).alloc (.cells #[.slice (some ⟨w.heap.size, 0, none⟩) 2 2, .slice none 0 0, .slice (some ⟨w.heap.size + 1, 0, none⟩) 1 1] 41) := ⟨_, rfl⟩
  rw [← hw1] at HR1 ⊢
  have HF1 : Hid (Fr No w w1) := hide (by rw [hw1]; exact (((Fr.refl No w).alloc _).alloc _).alloc _)
  have HNu := hide (numbers_any (some ⟨w.heap.size + 2, 0, none⟩) 3 3 w1.heap.size exN w1 rfl exN_in (Nat.le_refl _) (by decide) (Nat.le_refl _) HR1.out)
  clear hw1 HR1
  refine HNu.out.mono ?_
  rintro en w2 ⟨v1, rfl, hown, hf⟩
  have hl9 : (keptV exN).length = 9 := by rw [exN_kept]; rfl
  rw [hl9] at hown
  obtain ⟨A1, c1, rfl, q1, q2, _⟩ := hown.form
  have HO2 := hide hown
  have HF2 := hide (HF1.out.tr hf)
  have HOn := hide (openNumbers_any A1 9 c1 w2.heap.size (keptV exN) w2 hl9 q1 q2 (by decide) (Nat.le_refl _) hown.rd)
  have HQ1 := hide (And.intro q1 q2)
  unfold maxLen at q2
  clear hown hf HNu HF1
  go_wp2_with (fail)
  refine HOn.out.mono ?_
  rintro en w3 ⟨hf, hcase⟩
  obtain ⟨G, bits, lens, all, rfl, hcol, hrv⟩ : ∃ G bits lens all, en = .returned (.tuple #[.pointer (some ⟨G, 0, none⟩), .int .i64 0]) ∧ ColO w3 w2.heap.size G bits lens all 3 ∧ rowsV bits lens all 3 = [[3, 5], [], [7]] := by
    have hfm := keptV_form exN_ok exN_in
    rcases hcase with ⟨hno, _⟩ | ⟨rs, hrs, G, bits, lens, all, he, hc, hr⟩
    · exact absurd ⟨_, hfm⟩ hno
    · have e : rs = [[3, 5], [], [7]] := by rw [← hrs.rd, hfm.rd, exN_sort]
      subst e
      exact ⟨G, bits, lens, all, he, hc, hr⟩
  have HF3 := hide (HF2.out.tr hf)
  have HF23 := hide hf
  have HCol := hide hcol
  have HRv := hide hrv
  have HRt := hide (lit_rowsT w3)
  clear hf hcase hcol hrv HOn
  go_wp2_with (fail)
  obtain ⟨w4, hw4⟩ : ∃ x, x = ((w3.alloc (.cells #[.string ⟨#[98]⟩, .string ⟨#[97]⟩, .string ⟨#[98]⟩] 9)).alloc (.cells #[.string ⟨#[99]⟩] 9)).alloc (.cells #[.slice (some ⟨w3.heap.size, 0, none⟩) 3 3, .slice (some ⟨w3.heap.size + 1, 0, none⟩) 1 1] 43) := ⟨_, rfl⟩
  rw [← hw4] at HRt ⊢
  have HF34 : Hid (Fr No w3 w4) := hide (by rw [hw4]; exact (((Fr.refl No w3).alloc _).alloc _).alloc _)
  have HTx := hide (texts12_any (some ⟨w3.heap.size + 2, 0, none⟩) 2 2 w4.heap.size exT w4 rfl (Nat.le_refl _) (by decide) (Nat.le_refl _) HRt.out)
  clear hw4 HRt
  refine HTx.out.mono ?_
  rintro en w5 ⟨v5, rfl, hown, hf⟩
  have hkl := keptT_len exT
  have hop := opened_ex
  obtain ⟨ts5, hts5⟩ : ∃ x, x = keptT exT := ⟨_, rfl⟩
  obtain ⟨m5, hm5⟩ : ∃ x, x = ts5.length := ⟨_, rfl⟩
  rw [← hts5] at hown hkl hop
  rw [← hm5] at hown hkl
  obtain ⟨A5, c5, rfl, q3, q4, _⟩ := hown.form
  have HF35 := hide (HF34.out.tr hf)
  have HOt := hide (openTexts_any A5 m5 c5 w5.heap.size ts5 w5 hm5.symm q3 q4 (by omega) (Nat.le_refl _) hown.rd)
  have HOp := hide hop
  unfold maxLen at q4
  clear hown hf HTx HF34 hts5 hm5 hop
  go_wp2_with (fail)
  refine HOt.out.mono ?_
  rintro en w6 ⟨hf, hcase⟩
  obtain ⟨G2, bits2, lens2, all2, rfl, hcol2, hrv2⟩ : ∃ G bits lens all, en = .returned (.tuple #[.pointer (some ⟨G, 0, none⟩), .int .i64 0]) ∧ ColT w6 w5.heap.size G bits lens all 2 [[97], [98], [99]] ∧ rowsV bits lens all 2 = ordsR exT := by
    rcases hcase with ⟨hno, _⟩ | ⟨_, G, bits, lens, all, he, hc, hr⟩
    · exact absurd HOp.out.1 hno
    · rw [HOp.out.2.1, HOp.out.2.2.1] at hc
      rw [HOp.out.2.2.1, HOp.out.2.2.2] at hr
      exact ⟨G, bits, lens, all, he, hc, hr⟩
  have HF36 := hide (HF35.out.tr hf)
  have HCol2 := hide hcol2
  have HX0 := hide (ex_row0 hrv2)
  have HX1 := hide (ex_row1 hrv2)
  have hlt3 : ltT [[97], [98], [99]] := by rw [← exT_terms]; exact termsV_lt _
  have hfi := find_any hcol2 hlt3 (by decide) [98]
  rw [if_pos (by decide), decide_eq_true (by decide), exT_find] at hfi
  have HFi := hide hfi
  clear hf hcase hcol2 hrv2 hlt3 hfi HOt HOp HF35
  go_wp2_with (fail)
  refine HFi.out.mono ?_
  rintro en w7 ⟨rfl, nq7, hw7⟩
  have hf67 : Fr No w6 w7 := by rw [hw7]; exact (Fr.refl No w6).drewN nq7
  have HF37 := hide (HF36.out.tr hf67)
  have HCol27 := hide (HCol2.out.fr0 hf67)
  have HLit := hide (rd_lit8v w7 #[.int .u8 0, .int .u8 0] [0, 0] rfl)
  clear hw7 hf67 HFi HF36 HCol2
  go_wp2_with (fail)
  have HO0 := hide (openNumbers_any (some ⟨w7.heap.size, 0, none⟩) 2 2 _ [0, 0] (w7.alloc (.cells #[.int .u8 0, .int .u8 0] 5)) rfl (Nat.le_refl _) (by decide) (by decide) (Nat.le_refl _) HLit.out)
  refine HO0.out.mono ?_
  rintro en w8 ⟨hf, hcase⟩
  obtain rfl : en = .returned (.tuple #[.pointer none, .int .i64 20]) := by
    rcases hcase with ⟨_, h⟩ | ⟨r, hr, _⟩
    · exact h
    · exact absurd ⟨r, hr⟩ HB0.out
  have HF78 : Hid (Fr No w7 w8) := hide (((Fr.refl No w7).alloc _).tr hf)
  have HF8 := hide (HF3.out.tr (HF37.out.tr HF78.out))
  have HCol8 := hide (HCol.out.fr0 (HF37.out.tr HF78.out))
  have HCol28 := hide (HCol27.out.fr0 HF78.out)
  have HO8 := hide (HO2.out.fr0 (HF23.out.tr (HF37.out.tr HF78.out)))
  have HLit9 := hide (rd_lit8v w8 #[.int .u8 3, .int .u8 5, .int .u8 0, .int .u8 1, .int .u8 1, .int .u8 6, .int .u8 3, .int .u8 16, .int .u8 1] [3, 5, 0, 1, 1, 6, 3, 16, 1] rfl)
  clear hf hcase HO0 HLit HF37 HF78 HCol HCol27 HO2 HF23 HF3 HF2 HB0
  go_wp2_with (fail)
  obtain ⟨w9, hw9⟩ : ∃ x, x = w8.alloc (.cells #[.int .u8 3, .int .u8 5, .int .u8 0, .int .u8 1, .int .u8 1, .int .u8 6, .int .u8 3, .int .u8 16, .int .u8 1] 5) := ⟨_, rfl⟩
  have hf89 : Fr No w8 w9 := by rw [hw9]; exact (Fr.refl No w8).alloc _
  rw [← hw9] at HLit9 ⊢
  have hkb := kbytes_any A1 (some ⟨w8.heap.size, 0, none⟩) 9 c1 9 9 w9.heap.size w9.heap.size (keptV exN) [3, 5, 0, 1, 1, 6, 3, 16, 1] w9 hl9 rfl HQ1.out.1 HQ1.out.2 (Nat.le_refl _) (by decide) (HO8.out.fr0 hf89).rd HLit9.out
  rw [decide_eq_true exN_kept] at hkb
  refine hkb.mono ?_
  rintro en w10 ⟨rfl, nq, hw10⟩
  have hf9 : Fr No w8 w10 := by rw [hw10]; exact hf89.drewN nq
  have HF10 := hide (HF8.out.tr hf9)
  have HCol10 := hide (HCol8.out.fr0 hf9)
  have HCol210 := hide (HCol28.out.fr0 hf9)
  have hr0 : rowV bits lens all 0 = [3, 5] := by rw [rowsV_at HRv.out (by omega)]; rfl
  have hnr := numRow_in HCol10.out.m (i := 0) (by omega) (by omega) (by rw [hr0]; decide)
  rw [hr0] at hnr
  have HNr : Hid (Calls Tryz.prog 16 #[.pointer (some ⟨G, 0, none⟩), .int .i64 0] w10 (GivesL w10 [3, 5])) := hide hnr
  clear hw10 hf9 hkb hw9 hf89 HLit9 HO8 HF8 HCol8 HCol28 hr0 hnr HQ1 q1 q2 hl9
  go_wp2_with (fail)
  refine HNr.out.mono ?_
  rintro en w11 ⟨v11, rfl, hown, hf⟩
  change Own w11 w10.heap.size 2 1 v11 2 (iz .i64 [3, 5]) at hown
  obtain ⟨A11, c11, rfl, g1, g2, _⟩ := hown.form
  have hlit : Rd (w11.alloc (.cells #[.int .i64 3, .int .i64 5] 2)) (w11.alloc (.cells #[.int .i64 3, .int .i64 5] 2)).heap.size (some ⟨w11.heap.size, 0, none⟩) (iz .i64 [3, 5]) := rd_lit w11 #[.int .i64 3, .int .i64 5] _
  have hsm := sameI64_any A11 (some ⟨w11.heap.size, 0, none⟩) 2 c11 2 2 _ _ [3, 5] [3, 5] (w11.alloc (.cells #[.int .i64 3, .int .i64 5] 2)) rfl rfl g1 g2 (Nat.le_refl _) (by decide) (hown.fr0 ((Fr.refl No w11).alloc _)).rd hlit
  rw [decide_eq_true rfl] at hsm
  have HSm := hide hsm
  have HF11 := hide (HF10.out.tr hf)
  have HF1011 := hide hf
  unfold maxLen at g2
  clear hown hf hlit hsm HNr
  go_wp2_with (fail)
  refine HSm.out.mono ?_
  rintro en w12 ⟨rfl, nq12, hw12⟩
  have hf12 : Fr No w11 w12 := by rw [hw12]; exact ((Fr.refl No w11).alloc _).drewN nq12
  have HF12 := hide (HF11.out.tr hf12)
  have HCol12 := hide (HCol10.out.fr0 (HF1011.out.tr hf12))
  have HCol212 := hide (HCol210.out.fr0 (HF1011.out.tr hf12))
  have hfl := filled_any HCol12.out.m (by omega)
  rw [HRv.out] at hfl
  have HFl : Hid (Calls Tryz.prog 25 #[.pointer (some ⟨G, 0, none⟩)] w12 (RetQ (.int .i64 2) w12)) := hide hfl
  clear hw12 hf12 hfl HSm HF11 HF10 HF1011 HCol10 HCol210
  go_wp2_with (fail)
  refine HFl.out.mono ?_
  rintro en w13 ⟨rfl, nq13, hw13⟩
  have hf13 : Fr No w12 w13 := by rw [hw13]; exact (Fr.refl No w12).drewN nq13
  have HF13 := hide (HF12.out.tr hf13)
  have HCol213 := hide (HCol212.out.fr0 hf13)
  have HTe : Hid (Calls Tryz.prog 26 #[.pointer (some ⟨G2, 0, none⟩)] w13 (Ret (.int .i64 3) w13)) := hide (txTerms_any HCol213.out)
  clear hw13 hf13 HFl HF12 HCol12 HCol212
  go_wp2_with (fail)
  refine HTe.out.mono ?_
  rintro en w' ⟨rfl, rfl⟩
  have hrw := txRow_in HCol213.out (i := 0) (by omega) (by omega) HX0.out.2.1 HX0.out.2.2
  rw [HX0.out.1] at hrw
  have HRw : Hid (Calls Tryz.prog 18 #[.pointer (some ⟨G2, 0, none⟩), .int .i64 0] w13 (GivesT w13 [[97], [98]])) := hide hrw
  clear hrw HTe
  go_wp2_with (fail)
  refine HRw.out.mono ?_
  rintro en w14 ⟨v14, rfl, hown, hf⟩
  change Own w14 w13.heap.size 9 1 v14 2 (svs [[97], [98]]) at hown
  obtain ⟨A14, c14, rfl, g3, g4, _⟩ := hown.form
  have hlit : Rd (w14.alloc (.cells #[.string ⟨#[97]⟩, .string ⟨#[98]⟩] 9)) (w14.alloc (.cells #[.string ⟨#[97]⟩, .string ⟨#[98]⟩] 9)).heap.size (some ⟨w14.heap.size, 0, none⟩) (svs [[97], [98]]) := rd_lit w14 #[.string ⟨#[97]⟩, .string ⟨#[98]⟩] _
  have hsm := sameS_any A14 (some ⟨w14.heap.size, 0, none⟩) 2 c14 2 2 _ _ [[97], [98]] [[97], [98]] (w14.alloc (.cells #[.string ⟨#[97]⟩, .string ⟨#[98]⟩] 9)) rfl rfl g3 g4 (Nat.le_refl _) (by decide) (hown.fr0 ((Fr.refl No w14).alloc _)).rd hlit
  rw [decide_eq_true rfl] at hsm
  have HSm := hide hsm
  have HF14 := hide (HF13.out.tr hf)
  have HF1314 := hide hf
  unfold maxLen at g4
  clear hown hf hlit hsm HRw
  go_wp2_with (fail)
  refine HSm.out.mono ?_
  rintro en w15 ⟨rfl, nq15, hw15⟩
  have hf15 : Fr No w14 w15 := by rw [hw15]; exact ((Fr.refl No w14).alloc _).drewN nq15
  have HF15 := hide (HF14.out.tr hf15)
  have HCol215 := hide (HCol213.out.fr0 (HF1314.out.tr hf15))
  have hor := ords_in HCol215.out (i := 1) (by omega) (by omega) (by rw [HX1.out]; decide)
  rw [HX1.out] at hor
  have HOr : Hid (Calls Tryz.prog 19 #[.pointer (some ⟨G2, 0, none⟩), .int .i64 1] w15 (GivesI w15 [2])) := hide hor
  clear hw15 hf15 hor HSm HF14 HF13 HF1314 HCol213
  go_wp2_with (fail)
  refine HOr.out.mono ?_
  rintro en w16 ⟨v16, rfl, hown, hf⟩
  change Own w16 w15.heap.size 3 1 v16 1 (iz .i64 [2]) at hown
  obtain ⟨A16, c16, rfl, g5, g6, _⟩ := hown.form
  have hlit : Rd (w16.alloc (.cells #[.int .i64 2] 3)) (w16.alloc (.cells #[.int .i64 2] 3)).heap.size (some ⟨w16.heap.size, 0, none⟩) (iz .i64 [2]) := rd_lit w16 #[.int .i64 2] _
  have hsm := sameInt_any A16 (some ⟨w16.heap.size, 0, none⟩) 1 c16 1 1 _ _ [2] [2] (w16.alloc (.cells #[.int .i64 2] 3)) rfl rfl g5 g6 (Nat.le_refl _) (by decide) (hown.fr0 ((Fr.refl No w16).alloc _)).rd hlit
  rw [decide_eq_true rfl] at hsm
  have HSm := hide hsm
  have HF16 := hide (HF15.out.tr hf)
  unfold maxLen at g6
  clear hown hf hlit hsm HOr HF15 HCol215
  go_wp2_with (fail)
  refine HSm.out.mono ?_
  rintro en w17 ⟨rfl, nq17, hw17⟩
  have hf17 : Fr No w16 w17 := by rw [hw17]; exact ((Fr.refl No w16).alloc _).drewN nq17
  have HF17 := hide (HF16.out.tr hf17)
  have htn := texts12_any none 0 0 0 [] w17 rfl (Nat.le_refl _) (Nat.zero_le _) (Nat.zero_le _) (fun j l hj => by simp at hj)
  rw [exT_nil] at htn
  have HTn := hide htn
  clear hw17 hf17 htn HSm HF16
  go_wp2_with (fail)
  refine HTn.out.mono ?_
  rintro en w18 ⟨v18, rfl, hown, hf⟩
  change Own w18 w17.heap.size 5 1 v18 2 (by8 [0, 0]) at hown
  obtain ⟨A18, c18, rfl, g7, g8, _⟩ := hown.form
  have hlit := rd_lit8v w18 #[.int .u8 0, .int .u8 0] [0, 0] rfl
  have hkb := kbytes_any A18 (some ⟨w18.heap.size, 0, none⟩) 2 c18 2 2 _ _ [0, 0] [0, 0] (w18.alloc (.cells #[.int .u8 0, .int .u8 0] 5)) rfl rfl g7 g8 (Nat.le_refl _) (by decide) (hown.fr0 ((Fr.refl No w18).alloc _)).rd hlit
  rw [decide_eq_true rfl] at hkb
  have HKb := hide hkb
  have HF18 := hide (HF17.out.tr hf)
  unfold maxLen at g8
  clear hown hf hlit hkb HTn HF17
  go_wp2_with (fail)
  refine HKb.out.mono ?_
  rintro en w19 ⟨rfl, nq19, hw19⟩
  have HF19 : Hid (Fr No w w19) := hide (HF18.out.tr (by rw [hw19]; exact ((Fr.refl No w18).alloc _).drewN nq19))
  clear hw19 HKb
  go_wp2_with (fail)
  go_ret
  exact ⟨rfl, HF19.out⟩
end Go.Proofs.YtnjcncidlhllmaaGreat
namespace Go.Proofs.YtnjcncidlhllmaaGreat
set_option linter.unusedVariables false
set_option linter.unusedSimpArgs false
open Go.RowKit

def GivesLent (w : World) (bs : List UInt8) (en : Ending) (w' : World) : Prop :=
  ∃ A c, en = .returned (.slice A bs.length c) ∧ Own w' w.heap.size 5 1 (.slice A (bs.length + 1) c) (bs.length + 1) (by8 (bs ++ [201])) ∧ Fr No w w'

set_option maxRecDepth 100000 in
set_option maxHeartbeats 800000 in
theorem lent8_any (A : Option Addr) (n c B : Nat) (bs : List UInt8) (w : World) (hl : bs.length = n) (hb : n + 1 ≤ 140737488355328) (hr : Rd w B A (by8 bs)) :
    Calls Tryz.prog 11 #[.slice A n c] w (GivesLent w bs) := by
  obtain ⟨i0, hi, hz, hsz, hby⟩ := info_parts Tryz.info5
  have HS := hide (Src.ofRd (P := Tryz.prog) (size := 1) w Tryz.underlying25 A n c (by8 bs) (by rw [by8_length, hl]; omega) (by omega) hr (by8_one _))
  have HL := hide hl
  clear hr hl
  have b1 : (0 + n) * 1 ≤ 140737488355328 := by omega
  have b2 : 0 + n ≤ maxLen := by unfold maxLen; omega
  have c1 : (0 + n + 1) * 1 ≤ 140737488355328 := by omega
  have c2 : 0 + n + 1 ≤ maxLen := by unfold maxLen; omega
  have HO0 := hide (Own.nil w w.heap.size 5 1)
  go_enter Tryz.func11, Tryz.ntmps11
  go_wp2_with (first
    | (at_builtin; refine wpList_append_gen _ rfl (.tmp 4) (.tmp 5) 25 25 rfl w.heap.size 5 i0 (.int .u8 0) 1 1 Tryz.underlying25 hi hz hsz hby rfl (.slice none 0 0) 0 [] rfl HO0.out _ n (by8 bs) rfl HS.out b1 b2 (Nat.le_refl _) ?_; intro v1 w1 hown hfr hat; have HO1 := hide hown; have HF1 : Hid (Fr No w w1) := hide ((Fr.refl No w).own hfr (fun g h => by cases h)); have hz1 := hfr.size; clear hown hfr hat)
    | (at_builtin; refine wpList_append_gen _ rfl (.tmp 7) (.tmp 8) 25 25 rfl w.heap.size 5 i0 (.int .u8 0) 1 1 Tryz.underlying25 hi hz hsz hby rfl v1 (0 + n) _ rfl (HO1.out.fr0 ((Fr.refl No w1).alloc (.cells #[.int .u8 201] 5))) _ 1 [.int .u8 201] rfl (Src.one (P := Tryz.prog) w1 (e := 5) Tryz.underlying25 (.int .u8 201) rfl) c1 c2 (by simp; omega) ?_; intro v2 w2 hown hfr hat; obtain ⟨A2, k2, rfl, hc1, hc2, _⟩ := hown.form; unfold maxLen at hc2; have HO2 := hide hown; have HF2 : Hid (Fr No w w2) := hide ((HF1.out.alloc _).own hfr (fun g hg => .inl (HO1.out.lt g hg).1)); clear hown hfr hat))
  go_ret
  refine ⟨A2, k2, ?_, ?_, HF2.out⟩
  · rw [HL.out]; first | rfl | simp
  · have h := HO2.out
    rw [HL.out, by8_append]
    simpa [by8] using h

set_option maxRecDepth 100000 in
set_option maxHeartbeats 800000 in
theorem kept8_any (A B : Option Addr) (n c m d b1 b2 : Nat) (xs : List UInt8) (w : World) (hx : xs.length = n) (hm : xs.length = m) (hn : n + 1 ≤ c) (hc : c ≤ maxLen) (hmd : m ≤ d) (hd : d ≤ maxLen) (hr : Rd w b1 A (by8 (xs ++ [201]))) (hs : Rd w b2 B (by8 xs)) :
    Calls Tryz.prog 30 #[.slice A n c, .slice B m d] w (RetQ (.bool true) w) := by
  have hr1 : Rd w b1 A (by8 xs) := by
    have h := hr.tk xs.length
    rw [← by8_take, List.take_left] at h
    exact h
  have HK := hide (kbytes_any A B n c m d b1 b2 xs xs w hx hm (by omega) hc hmd hd hr1 hs)
  rw [decide_eq_true rfl] at HK
  obtain ⟨ad, rfl, _, hcell⟩ := hr.byte (k := n) (by simp; omega)
  have e1 : (xs ++ [201]).getD n 0 = 201 := by rw [← hx]; simp
  rw [e1] at hcell
  have e2 : ((201 : UInt8).toNat : Nat) = 201 := by decide
  rw [e2] at hcell
  unfold maxLen at hc
  clear hr hs hr1 hx hm e1 e2
  go_enter Tryz.func30, Tryz.ntmps30
  go_wp2_with (go_at_call 23; refine HK.out.mono ?_; rintro en w2 ⟨rfl, nq, rfl⟩)
  go_ret
  exact ⟨rfl, _, rfl⟩

end Go.Proofs.YtnjcncidlhllmaaGreat
