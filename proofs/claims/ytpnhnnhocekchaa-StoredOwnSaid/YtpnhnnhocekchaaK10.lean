/- Several texts in one: StoFW, StoCut, StoRF, StoRec. -/
import Derived.Test.YtpnhnnhocekchaaK9
import Derived.Deep.DeepCutAuto
import Derived.RecoverIn
import Derived.TacticsInMore
namespace Go.Proofs.Ytpnhnnhocekchaa
set_option linter.unusedVariables false
set_option linter.unusedSimpArgs false
open Go.RowKit

/-- a box of bytes, above a line. -/
def BoxB (w : World) (base g : Nat) (bs : List UInt8) : Prop := base ≤ g ∧ ∃ v, w.heap[g]? = some (.cells #[v] 23 (0, 0)) ∧ Own w base 5 1 v bs.length (by8 bs)
def Ub (w : World) (base g : Nat) : Nat → Prop := fun k => base ≤ k ∧ (k = g ∨ ∃ cs fz, w.heap[k]? = some (.cells cs 5 fz))
theorem Own.cells8 {w : World} {base n : Nat} {v : Value} {xs : List Value} (h : Own w base 5 1 v n xs) {k : Nat} (hk : v.ownBlock = some k) : base ≤ k ∧ ∃ cs fz, w.heap[k]? = some (.cells cs 5 fz) := by
  refine ⟨(h.lt k hk).1, ?_⟩
  obtain ⟨_, A, c, rfl, _, _, hA⟩ := h
  rcases hA with ⟨rfl, _⟩ | ⟨g, cur, rfl, _, hh, _⟩
  · cases hk
  · have e : g = k := Option.some.inj hk
    subst e
    exact ⟨_, _, hh⟩
theorem BoxB.size {w : World} {base g : Nat} {bs : List UInt8} (h : BoxB w base g bs) : base < w.heap.size := by
  obtain ⟨h0, v, h1, _⟩ := h
  have := (Array.getElem?_eq_some_iff.1 h1).1
  omega
theorem BoxB.fr0 {w w' : World} {base g : Nat} {bs : List UInt8} (h : BoxB w base g bs) (f : Fr No w w') : BoxB w' base g bs := by
  obtain ⟨h0, v, h1, h2⟩ := h
  exact ⟨h0, v, f.blk h1 (fun h => h), h2.fr0 f⟩

set_option maxRecDepth 100000 in
set_option maxHeartbeats 400000 in
theorem form1_any (base g m c2 B : Nat) (A2 : Option Addr) (bs ts : List UInt8) (w : World) (hb : BoxB w base g bs) (hl : ts.length = m) (hm : m ≤ c2) (hr : Rd w B A2 (by8 ts)) (hs : bs.length + m ≤ 140737488355328) :
    Calls Try.prog 109 #[.slice A2 m c2, .pointer (some ⟨g, 0, none⟩)] w (fun en w' => (∃ r, en = .returned r) ∧ BoxB w' base g (bs ++ ts) ∧ Fr (Ub w base g) w w') := by
  have hbz := hb.size
  obtain ⟨h0, v, h1, h2⟩ := hb
  obtain ⟨i0, hi, hz, hsz, hby⟩ := info_parts Try.info5
  have HS := hide (Src.ofRd (P := Try.prog) (size := 1) w Try.underlying23 A2 m c2 (by8 ts) (by rw [by8_length, hl]; omega) (by omega) hr (by8_one _))
  have cb := cell_of_row _ _ 0 _ _ _ h1
  have HB := hide h1
  have HO := hide h2
  have b1 : (bs.length + m) * 1 ≤ 140737488355328 := by omega
  have b2 : bs.length + m ≤ maxLen := by unfold maxLen; omega
  have b3 : base ≤ w.heap.size := by omega
  have HL := hide hl
  obtain ⟨n, hn⟩ : ∃ n, n = bs.length := ⟨_, rfl⟩
  rw [← hn] at HO b1 b2
  have HN := hide hn
  obtain ⟨Av, cv, rfl, _⟩ := HO.out.form
  clear h1 h2 hr hl hs hn
  go_enter Try.func109, Try.ntmps109
  go_wp2_with (first | (at_builtin; refine wpList_append_gen _ rfl (.tmp 3) (.tmp 4) 23 23 rfl base 5 i0 (.int .u8 0) 1 1 Try.underlying23 hi hz hsz hby rfl (.slice Av n cv) n (by8 bs) rfl HO.out _ m (by8 ts) rfl HS.out b1 b2 b3 ?_; intro v1 w1 hown hfr hat; obtain ⟨A1, c1, rfl, _⟩ := hown.form; have hb1 := hfr.blk HB.out (fun e => HO.out.ne_blk e HB.out (by decide)); have cb1 : w1.cell? ⟨g, 0, none⟩ = some (.slice Av n cv) := cell_of_row _ _ 0 _ _ _ hb1; have fb1 : w1.frozen? ⟨g, 0, none⟩ = false := frozen_of_row _ _ _ _ _ hb1; have HB1 := hide (box_put (u := .slice A1 (n + m) c1) hb1); have HB0 := hide hb1; have HO1 := hide hown; have HF1 := hide hfr; clear hown hfr hat hb1) | fail)
  go_end0
  have e : (bs ++ ts).length = n + m := by rw [List.length_append, HL.out, ← HN.out]
  refine ⟨⟨_, rfl⟩, ⟨h0, _, HB1.out, ?_⟩, ?_⟩
  · rw [e, by8_append]
    exact HO1.out.fr ((Fr.refl (Is g) w1).put 0 _) (fun k hk e => by
      have e : k = g := e
      subst e
      exact HO1.out.ne_blk hk HB0.out (by decide))
  · refine (HF1.out.mono (fun k _ hk => ?_)).setCell (p := ⟨g, 0, none⟩) (fun _ => ⟨h0, .inl rfl⟩) _
    obtain ⟨q1, q2⟩ := HO.out.cells8 hk
    exact ⟨q1, .inr q2⟩

/-- in the midst of an entry: the bytes so far, the entry's own block. -/
structure FSt (w W : World) (G : Nat) (cs : Array Value) (bs : List UInt8) : Prop where
  box : BoxB W w.heap.size w.heap.size bs
  fr : Fr No w W
  row : W.heap[G]? = some (.cells cs 109 (0, 0))
theorem FSt.fr0 {w W W' : World} {G : Nat} {cs : Array Value} {bs : List UInt8} (h : FSt w W G cs bs) (f : Fr No W W') : FSt w W' G cs bs := ⟨h.box.fr0 f, h.fr.tr f, f.blk h.row (fun h => h)⟩
theorem FSt.put {w W : World} {G B m c2 : Nat} {cs : Array Value} {bs ts : List UInt8} {A2 : Option Addr} (h : FSt w W G cs bs) (hG : G ≠ w.heap.size) (hl : ts.length = m) (hm : m ≤ c2) (hr : Rd W B A2 (by8 ts)) (hs : bs.length + m ≤ 140737488355328) :
    Calls Try.prog 109 #[.slice A2 m c2, .pointer (some ⟨w.heap.size, 0, none⟩)] W (fun en W' => (∃ r, en = .returned r) ∧ FSt w W' G cs (bs ++ ts)) :=
  (form1_any _ _ m c2 B A2 bs ts W h.box hl hm hr hs).mono fun en W' ⟨h1, h2, h3⟩ => ⟨h1, h2, h.fr.trans h3 (fun i hi e => by have := e.1; omega), h3.blk h.row (fun e => by
    rcases e.2 with e | ⟨cs', fz, e⟩
    · exact hG e
    · rw [h.row] at e
      injection e with e
      injection e with _ e _
      revert e
      decide)⟩

theorem txt_le (s : ByteArray) : (enc s.size ++ s.data.toList).length ≤ s.size + 10 := by
  have h := (enc_len s.size).2
  have e : s.data.toList.length = s.size := by rw [Array.length_toList]; rfl
  rw [List.length_append]
  omega
theorem numsB_at {l : List Int} {j : Nat} (h : j < l.length) : numsB (l.take (j + 1)) = numsB (l.take j) ++ enc (zz (l.getD j 0)) := by
  rw [take_snoc_int h, numsB_snoc]
theorem entsB_at {l : List EntV} {j : Nat} (h : j < l.length) : entsB (l.take (j + 1)) = entsB (l.take j) ++ entB (l.getD j .none) := by
  have e : l.take (j + 1) = l.take j ++ [l.getD j .none] := by
    rw [List.take_succ_eq_append_getElem h]
    simp [List.getD_eq_getElem?_getD, List.getElem?_eq_getElem h]
  rw [e, entsB_snoc]

set_option maxRecDepth 100000 in
set_option maxHeartbeats 1000000 in
theorem form_any (A : Option Addr) (n c B : Nat) (l : List EntV) (w : World) (hl : l.length = n) (hn : n ≤ c) (hc : c ≤ maxLen) (hB : B ≤ w.heap.size) (hr : RdE w B A l) :
    Calls Try.prog 99 #[.slice A n c] w (fun en w' => ∃ v, en = .returned (.tuple #[v, .bool (formZ l).2]) ∧ Own w' w.heap.size 5 1 v (formZ l).1.length (by8 (formZ l).1) ∧ Fr No w w') := by
  have hnm : n ≤ 9223372036854775807 := by unfold maxLen at hc; omega
  have HL := hide hl
  have HR := hide hr
  have hel := (enc_len n).2
  have HU := hide (fun (W : World) (u : Nat) (hu : u < 18446744073709551616) => putU_any none 0 0 0 [] u W rfl (Nat.le_refl _) (Nat.zero_le _) (by omega) (Nat.zero_le _) (Rd.nil _ _ _) hu)
  have hF0 : Fr No w (w.alloc (.cells #[.slice none 0 0] 23)) := (Fr.refl No w).alloc _
  have hbx : BoxB (w.alloc (.cells #[.slice none 0 0] 23)) w.heap.size w.heap.size [] := ⟨Nat.le_refl _, _, heap_alloc_new w _, Own.nil _ _ _ _⟩
  have HF0 := hide hF0
  have HBx := hide hbx
  have HB := hide hB
  clear hl hr hF0 hbx hB
  go_enter Try.func99, Try.ntmps99
  go_wp2_with (first
    | (go_at_call 72; refine (HU.out _ n (by omega)).mono ?_; rintro en w1 ⟨v1, rfl, hown, hfr⟩; rw [List.nil_append] at hown; obtain ⟨A1, c1, rfl, x1, x2, x3, x4, _⟩ := hown.form; have HFm := hide (form1_any w.heap.size w.heap.size _ c1 _ A1 [] (enc n) w1 (HBx.out.fr0 hfr) rfl x1 x4 (by have := hel; simp; omega)); have HF1 := hide (HF0.out.tr hfr); clear hown hfr x1 x2 x3 x4)
    | (go_at_call 109; refine HFm.out.mono ?_; rintro en w2 ⟨⟨rv, rfl⟩, hbx, hfr⟩; have HB2 := hide hbx; have HF2 := hide (HF1.out.trans hfr (fun i hi h => by have h := h.1; omega)); clear hbx hfr HFm))
  go_loopw [19] (fun ix wr => ∃ j : Nat, j ≤ n ∧ ix = .int .i64 j ∧ Hid (docOk (l.take j)) ∧ Hid (j = 0 ∨ n ≤ 64) ∧ Hid (BoxB wr w.heap.size w.heap.size (enc n ++ entsB (l.take j))) ∧ Hid (Fr No w wr)) (fun ix _ => n - (intOf ix).toNat)
  case atStart => exact ⟨0, by omega, rfl, hide ⟨by simp, fun e he => by simp at he⟩, hide (.inl rfl), hide (by have := HB2.out; simpa [entsB] using this), HF2⟩
  case round =>
    obtain ⟨j, hj, rfl, HOk, HZ, HBB, HFr⟩ := hrel
    by_cases hlt : j < n
    · obtain ⟨ad, rfl, he⟩ := HR.out j (by rw [HL.out]; exact hlt)
      obtain ⟨e1, e2, e3, R, rn, rc, e4, e5⟩ := he
      replace e2 := HFr.out.cell e2 (fun h => h)
      replace e3 := HFr.out.cell e3 (fun h => h)
      replace e4 := HFr.out.cell e4 (fun h => h)
      have HA := hide (entsB_at (l := l) (j := j) (by rw [HL.out]; exact hlt))
      have hmem : l.getD j .none ∈ l := by
        have h1 : j < l.length := by rw [HL.out]; exact hlt
        rw [List.getD_eq_getElem?_getD, List.getElem?_eq_getElem h1]
        exact List.getElem_mem h1
      have hno : ¬ (n ≤ 64 ∧ entOk (l.getD j .none)) → formZ l = ([], false) := by
        intro h
        unfold formZ
        rw [if_neg]
        intro hd
        exact h ⟨by rw [← HL.out]; exact hd.1, hd.2 _ hmem⟩
      have HNo := hide hno
      have hnx : n ≤ 64 → entOk (l.getD j .none) → docOk (l.take (j + 1)) := by
        intro h1 h2
        have h3 : j < l.length := by rw [HL.out]; exact hlt
        refine ⟨by rw [List.length_take]; omega, ?_⟩
        rw [List.take_succ_eq_append_getElem h3]
        intro x hx
        rcases List.mem_append.1 hx with hx | hx
        · exact HOk.out.2 x hx
        · rw [List.mem_singleton.1 hx]
          rw [List.getD_eq_getElem?_getD, List.getElem?_eq_getElem h3] at h2
          exact h2
      have HNx := hide hnx
      clear hmem hno hnx
      generalize l.getD j .none = E at *
      by_cases hok : n ≤ 64 ∧ entOk E
      · have HOk2 := hide (HNx.out hok.1 hok.2)
        obtain ⟨hn64, hf, ht, hns⟩ := hok
        have hrn := e5.1
        rw [hrn] at hns
        have hf' : (E.f.size : Int) ≤ 24 := by omega
        have ht' : (E.t.size : Int) ≤ 4096 := by omega
        have hr' : (rn : Int) ≤ 4 := by omega
        have hn' : (n : Int) ≤ 64 := by omega
        have hG : wr.heap.size ≠ w.heap.size := by have := HBB.out.size; omega
        have hbl : (enc n ++ entsB (l.take j)).length ≤ 300000 := by
          have h1 := entsB_le (l.take j) HOk.out.2
          rw [List.length_take] at h1
          rw [List.length_append]
          omega
        have HS0 := hide (show FSt w (wr.alloc (.cells #[.string E.f, .string E.t, .slice R rn rc] 109)) wr.heap.size #[.string E.f, .string E.t, .slice R rn rc] (enc n ++ entsB (l.take j)) from ⟨HBB.out.fr0 ((Fr.refl No _).alloc _), HFr.out.tr ((Fr.refl No _).alloc _), heap_alloc_new wr _⟩)
        have HG := hide hG
        have HBl := hide hbl
        have HTx := hide (fun (W : World) (s : ByteArray) (hs : s.size ≤ 4096) => putText_any none 0 0 0 [] s W rfl (Nat.le_refl _) (Nat.zero_le _) (by omega) (Nat.zero_le _) (Rd.nil _ _ _))
        have HE5 := hide e5
        have HPI := hide (fun (W : World) (x : Int) (h1 : -9223372036854775808 ≤ x) (h2 : x ≤ 9223372036854775807) => putI_any none 0 0 0 [] x W rfl (Nat.le_refl _) (Nat.zero_le _) (by omega) (Nat.zero_le _) (Rd.nil _ _ _) h1 h2)
        obtain ⟨X, hX⟩ : ∃ X, X = enc n ++ entsB (l.take j) := ⟨_, rfl⟩
        rw [← hX] at HS0 HBl
        have HXX := hide hX
        clear hG hbl e5 hX
        go_wp2_with (fail)
        refine (HTx.out _ E.f (by omega)).mono ?_
        rintro en w3 ⟨v3, rfl, hown, hfr⟩
        rw [List.nil_append] at hown
        obtain ⟨l3, hl3⟩ : ∃ k, k = (enc E.f.size ++ E.f.data.toList).length := ⟨_, rfl⟩
        rw [← hl3] at hown
        obtain ⟨A3, c3, rfl, x1, _, _, x4, _⟩ := hown.form
        have HP := hide ((HS0.out.fr0 hfr).put HG.out hl3.symm x1 x4 (by have h := HBl.out; have h1 := txt_le E.f; rw [← hl3] at h1; omega))
        clear hown hfr x1 x4 hl3
        go_wp2_with (fail)
        refine HP.out.mono ?_
        rintro en w4 ⟨⟨r4, rfl⟩, hs⟩
        have HS1 := hide hs
        have k1 : w4.cell? ⟨wr.heap.size, 1, none⟩ = some (.string E.t) := cell_of_row _ _ 1 _ _ _ hs.row
        clear hs HP
        go_wp2_with (fail)
        refine (HTx.out _ E.t (by omega)).mono ?_
        rintro en w5 ⟨v5, rfl, hown, hfr⟩
        rw [List.nil_append] at hown
        obtain ⟨l5, hl5⟩ : ∃ k, k = (enc E.t.size ++ E.t.data.toList).length := ⟨_, rfl⟩
        rw [← hl5] at hown
        obtain ⟨A5, c5, rfl, x1, _, _, x4, _⟩ := hown.form
        have HP := hide ((HS1.out.fr0 hfr).put HG.out hl5.symm x1 x4 (by have h := HBl.out; have h1 := txt_le E.f; have h2 := txt_le E.t; rw [← hl5] at h2; rw [List.length_append]; omega))
        clear hown hfr x1 x4 hl5
        go_wp2_with (fail)
        refine HP.out.mono ?_
        rintro en w6 ⟨⟨r6, rfl⟩, hs⟩
        have HS2 := hide hs
        have k2 : w6.cell? ⟨wr.heap.size, 2, none⟩ = some (.slice R rn rc) := cell_of_row _ _ 2 _ _ _ hs.row
        clear hs HP
        go_wp2_with (fail)
        refine (HU.out _ rn (by omega)).mono ?_
        rintro en w7 ⟨v7, rfl, hown, hfr⟩
        rw [List.nil_append] at hown
        obtain ⟨A7, c7, rfl, x1, _, _, x4, _⟩ := hown.form
        have HP := hide ((HS2.out.fr0 hfr).put HG.out rfl x1 x4 (by have h := HBl.out; have h1 := txt_le E.f; have h2 := txt_le E.t; have h3 := (enc_len rn).2; rw [List.length_append, List.length_append]; omega))
        clear hown hfr x1 x4
        go_wp2_with (fail)
        refine HP.out.mono ?_
        rintro en w8 ⟨⟨r8, rfl⟩, hs⟩
        have k3 : w8.cell? ⟨wr.heap.size, 2, none⟩ = some (.slice R rn rc) := cell_of_row _ _ 2 _ _ _ hs.row
        obtain ⟨Y, hY⟩ : ∃ Y, Y = X ++ (enc E.f.size ++ E.f.data.toList) ++ (enc E.t.size ++ E.t.data.toList) ++ enc rn := ⟨_, rfl⟩
        rw [← hY] at hs
        have HS3 := hide hs
        have HY := hide hY
        have HYl : Hid (Y.length ≤ 400000) := hide (by have h := HBl.out; have h1 := txt_le E.f; have h2 := txt_le E.t; have h3 := (enc_len rn).2; rw [hY, List.length_append, List.length_append, List.length_append]; omega)
        clear hs HP hY
        go_wp2_with (fail)
        go_loopw [64] (fun ix wx => ∃ q : Nat, q ≤ rn ∧ ix = .int .i64 q ∧ Hid (FSt w wx wr.heap.size #[.string E.f, .string E.t, .slice R rn rc] (Y ++ numsB (E.ns.take q)))) (fun ix _ => rn - (intOf ix).toNat)
        case atStart => exact ⟨0, by omega, rfl, hide (by have := HS3.out; simpa [numsB] using this)⟩
        case round =>
          obtain ⟨q, hq, rfl, HSq⟩ := hrel
          obtain ⟨z1, z2, z3, z4, z5⟩ := HE5.out
          by_cases hlq : q < rn
          · obtain ⟨ad2, rfl, _, hcell⟩ := (z5.fr0 HSq.out.fr).intAt (j := q) (by rw [z1]; exact hlq)
            have hin := z4.at (k := q) (by rw [z1]; exact hlq)
            have HNA := hide (numsB_at (l := E.ns) (j := q) (by rw [z1]; exact hlq))
            have HNl := hide (Nat.le_trans (numsB_le (E.ns.take q)) (Nat.mul_le_mul_left 10 (List.length_take_le q E.ns)))
            generalize E.ns.getD q 0 = x at hcell hin HNA
            clear z1 z2 z3 z4 z5
            go_wp2_with (fail)
            refine (HPI.out _ x hin.1 hin.2).mono ?_
            rintro en w9 ⟨v9, rfl, hown, hfr⟩
            rw [List.nil_append] at hown
            obtain ⟨A9, c9, rfl, x1, _, _, x4, _⟩ := hown.form
            have HP := hide ((HSq.out.fr0 hfr).put HG.out rfl x1 x4 (by have h := HYl.out; have h2 := HNl.out; have h3 := (enc_len (zz x)).2; rw [List.length_append]; omega))
            clear hown hfr x1 x4
            go_wp2_with (fail)
            refine HP.out.mono ?_
            rintro en w10 ⟨⟨r10, rfl⟩, hs⟩
            have HS4 := hide hs
            clear hs HP
            go_wp2
            go_roundw
            case rel => exact ⟨q + 1, by omega, by go_num, hide (by rw [HNA.out, ← List.append_assoc]; exact HS4.out)⟩
            case measure => simp [intOf]; omega
          · obtain rfl : q = rn := by omega
            clear hlq
            have hbx := HSq.out.box
            rw [List.take_of_length_le (by rw [z1]; exact Nat.le_refl _), HY.out, HXX.out] at hbx
            have e : enc n ++ entsB (l.take j) ++ (enc E.f.size ++ E.f.data.toList) ++ (enc E.t.size ++ E.t.data.toList) ++ enc q ++ numsB E.ns = enc n ++ entsB (l.take (j + 1)) := by
              rw [HA.out]
              unfold entB txtB
              rw [z1]
              simp
            rw [e] at hbx
            have HB5 := hide hbx
            have HF5 := hide HSq.out.fr
            clear z1 z2 z3 z4 z5 hbx e
            go_wp2
            go_roundw
            case rel => exact ⟨j + 1, by omega, by go_num, HOk2, hide (.inr hn64), HB5, HF5⟩
            case measure => simp [intOf]; omega
      · have HZ0 := hide (HNo.out hok)
        have hF : Hid (Fr No w (wr.alloc (.cells #[.string E.f, .string E.t, .slice R rn rc] 109))) := hide (HFr.out.tr ((Fr.refl No _).alloc _))
        have hrn : E.ns.length = rn := e5.1
        have hbad : 64 < n ∨ 24 < E.f.size ∨ 4096 < E.t.size ∨ 4 < rn := by
          unfold entOk at hok
          omega
        clear e5 hok hrn HNo HNx
        by_cases g1 : 64 < n
        · have g1' : (64 : Int) < (n : Int) := by omega
          clear hbad g1
          go_wp2
          go_ret2
          rw [HZ0.out]
          exact ⟨_, rfl, Own.nil _ _ _ _, hF.out⟩
        · have g1' : ¬ (64 : Int) < (n : Int) := by omega
          by_cases g2 : 24 < E.f.size
          · have g2' : (24 : Int) < (E.f.size : Int) := by omega
            clear hbad g1 g2
            go_wp2
            go_ret2
            rw [HZ0.out]
            exact ⟨_, rfl, Own.nil _ _ _ _, hF.out⟩
          · have g2' : ¬ (24 : Int) < (E.f.size : Int) := by omega
            by_cases g3 : 4096 < E.t.size
            · have g3' : (4096 : Int) < (E.t.size : Int) := by omega
              clear hbad g1 g2 g3
              go_wp2
              go_ret2
              rw [HZ0.out]
              exact ⟨_, rfl, Own.nil _ _ _ _, hF.out⟩
            · have g3' : ¬ (4096 : Int) < (E.t.size : Int) := by omega
              have g4' : (4 : Int) < (rn : Int) := by omega
              clear hbad g1 g2 g3
              go_wp2
              go_ret2
              rw [HZ0.out]
              exact ⟨_, rfl, Own.nil _ _ _ _, hF.out⟩
    · obtain rfl : j = n := by omega
      have hz : formZ l = (enc j ++ entsB l, true) := by
        have h := HOk.out
        rw [List.take_of_length_le (by rw [HL.out]; exact Nat.le_refl _)] at h
        unfold formZ formB
        rw [if_pos h, HL.out]
      have HZ1 := hide hz
      have hbx := HBB.out
      rw [List.take_of_length_le (by rw [HL.out]; exact Nat.le_refl _)] at hbx
      obtain ⟨_, v, hrow, hown⟩ := hbx
      obtain ⟨m, hm⟩ : ∃ m, m = (enc j ++ entsB l).length := ⟨_, rfl⟩
      rw [← hm] at hown
      have HM := hide hm
      have k1 : wr.cell? ⟨w.heap.size, 0, none⟩ = some v := cell_of_row _ _ 0 _ _ _ hrow
      have HO := hide hown
      obtain ⟨Av, cv, rfl, _⟩ := hown.form
      clear hlt hz hown hrow hm
      go_wp2
      go_ret2
      rw [HZ1.out]
      refine ⟨_, rfl, ?_, HFr.out⟩
      show Own wr w.heap.size 5 1 (.slice Av m cv) (enc j ++ entsB l).length (by8 (enc j ++ entsB l))
      rw [← HM.out]
      exact HO.out
end Go.Proofs.Ytpnhnnhocekchaa
namespace Go.Proofs.Ytpnhnnhocekchaa
set_option linter.unusedVariables false
set_option linter.unusedSimpArgs false
open Go.RowKit

theorem Fr.froz {S : Nat → Prop} {w w' : World} (f : Fr S w w') {g : Nat} {cs : Array Value} {t : TypeId} {fz : Nat × Nat} (hg : w.heap[g]? = some (.cells cs t fz)) (hS : ¬ S g) {i : Nat} (h : w.frozen? ⟨g, i, none⟩ = false) : w'.frozen? ⟨g, i, none⟩ = false := by
  have h2 := f.blk hg hS
  simp only [World.frozen?, hg, h2] at h ⊢
  exact h
/-- the last chunk's two cells written: its bytes, its end. -/
theorem OwnC.last {w w1 : World} {base n g c : Nat} {qs : List ChL} {L : ChL} {b : List UInt8} {A : Option Addr} {cb : Nat} (h : OwnC w base (.slice (some ⟨g, 0, none⟩) n c) n (qs ++ [L]))
    (f : Fr (fun k => (bVal L).ownBlock = some k) w w1) (ho : Own w1 base 5 1 (.slice A (L.b ++ b).length cb) (L.b ++ b).length (by8 (L.b ++ b))) (hat : (Value.slice A (L.b ++ b).length cb).ownBlock = (bVal L).ownBlock ∨ (Value.slice A (L.b ++ b).length cb).ownBlock = some w.heap.size) (t : Nat) :
    OwnC ((w1.setCell ⟨g, (n - 1) * 3 + 2, none⟩ (.slice A (L.b ++ b).length cb)).setCell ⟨g, (n - 1) * 3 + 1, none⟩ (.int .i64 (t : Nat))) base (.slice (some ⟨g, 0, none⟩) n c) n (qs ++ [⟨L.f, t, L.b ++ b, A, cb⟩]) := by
  have hl := h.len
  have hq : n = qs.length + 1 := by rw [← hl]; simp
  have hL : L ∈ qs ++ [L] := by simp
  have hoff : Off (fun k => (bVal L).ownBlock = some k) w 106 := off_own (h.bs L hL) (by decide)
  have r1 := h.row.off f hoff
  obtain ⟨g', e1, _, _, hown, _, _, s1⟩ := r1.storeN (k := (n - 1) * 3 + 2) (by omega)
  have e1 : g = g' := by injection e1 with e1; injection e1
  subst e1
  have r2 := s1 (.slice A (L.b ++ b).length cb)
  obtain ⟨g2, e2, _, _, _, _, _, s2⟩ := r2.storeN (k := (n - 1) * 3 + 1) (by omega)
  have e2 : g = g2 := by injection e2 with e2; injection e2
  subst e2
  have r3 := s2 (.int .i64 (t : Nat))
  have hfl : ((cFlat (qs ++ [L])).set ((n - 1) * 3 + 2) (.slice A (L.b ++ b).length cb)).set ((n - 1) * 3 + 1) (.int .i64 (t : Nat)) = cFlat (qs ++ [⟨L.f, t, L.b ++ b, A, cb⟩]) := by
    rw [cFlat_snoc, cFlat_snoc, show n - 1 = qs.length by omega]
    have e := cFlat_len qs
    rw [List.set_append_right _ _ (by omega), List.set_append_right _ _ (by omega), e, show qs.length * 3 + 2 - qs.length * 3 = 2 by omega, show qs.length * 3 + 1 - qs.length * 3 = 1 by omega]
    rfl
  rw [hfl] at r3
  -- the row's own block holds chunks, the bytes' blocks hold bytes
  have hgc : ∃ cs fz, w1.heap[g]? = some (.cells cs 106 fz) := (r1.cellsT hown).2
  obtain ⟨cs, fz, hgc⟩ := hgc
  have f1 : Fr (Is g) w1 ((w1.setCell ⟨g, (n - 1) * 3 + 2, none⟩ (.slice A (L.b ++ b).length cb)).setCell ⟨g, (n - 1) * 3 + 1, none⟩ (.int .i64 (t : Nat))) := ((Fr.refl (Is g) w1).put _ _).put _ _
  have o1 : Off (Is g) w1 5 := off_is hgc (by decide)
  have hqs : ∀ q ∈ qs, Own w1 base 5 1 (bVal q) q.b.length (by8 q.b) := fun q hq => (h.bs q (by simp [hq])).fr f (fun k hk hk2 => by
    have hp := (List.pairwise_append.1 h.ap).2.2 q hq L (by simp) k hk
    exact hp hk2)
  refine ⟨r3, ?_, ?_⟩
  · intro q hq
    rcases List.mem_append.1 hq with hq | hq
    · exact (hqs q hq).off f1 o1
    · rw [List.mem_singleton.1 hq]
      exact ho.off f1 o1
  · rw [List.pairwise_append]
    refine ⟨(List.pairwise_append.1 h.ap).1, List.pairwise_singleton _ _, ?_⟩
    intro q hq r hr k hk
    rw [List.mem_singleton.1 hr]
    show (Value.slice A (L.b ++ b).length cb).ownBlock ≠ some k
    rcases hat with hat | hat
    · rw [hat]
      exact (List.pairwise_append.1 h.ap).2.2 q hq L (by simp) k hk
    · rw [hat]
      intro e
      have e : w.heap.size = k := Option.some.inj e
      have := ((h.bs q (by simp [hq])).lt k hk).2
      omega

theorem openB_cnt (cs : List (Nat × List UInt8)) : cntB (openB cs).1 + (openB cs).2.1 = cntB cs := by
  by_cases hf : fullB cs = true
  · rw [openB_full hf]; rfl
  · obtain ⟨x, h1, h2, h3⟩ := openB_part (by simpa using hf)
    rw [h2]
    conv => rhs; rw [h1]
    exact (cntB_snoc _ _).symm
set_option maxRecDepth 100000 in
set_option maxHeartbeats 4000000 in
theorem cut_any (A : Option Addr) (n c B : Nat) (ds : List (List EntV)) (w : World) (hl : ds.length = n) (hn : n ≤ c) (hc : c ≤ maxLen) (hB : B ≤ w.heap.size) (hr : RdD w B A ds) :
    Calls Try.prog 71 #[.slice A n c] w (fun en w' => ∃ v, en = .returned (.tuple #[v, .bool (decide (mayB ds))]) ∧ Fr No w w' ∧ (mayB ds → ∃ ps, OwnC w' w.heap.size v ps.length ps ∧ ps.map tri = chs 0 (cutsB ds))) := by
  obtain ⟨i0, hi, hz, hsz, hby⟩ := info_parts Try.infoChunk
  obtain ⟨i5, hi5, hz5, hsz5, hby5⟩ := info_parts Try.info5
  have HL := hide hl
  have HR := hide hr
  have HForm := hide (fun (R : Option Addr) (dn dc : Nat) (D : List EntV) (W : World) => form_any R dn dc B D W)
  by_cases hbig : 16384 < n
  · have hno : decide (mayB ds) = false := decide_eq_false (fun h => by have := h.1; omega)
    have hbigI : (16384 : Int) < (n : Int) := by omega
    have HNo := hide hno
    clear hno hl hr
    go_enter Try.func71, Try.ntmps71
    go_wp2
    go_ret2
    exact ⟨_, by rw [HNo.out]; rfl, Fr.refl _ _, fun h => by have := HNo.out; rw [decide_eq_true h] at this; cases this⟩
  have hbigI : ¬ (16384 : Int) < (n : Int) := by omega
  clear hl hr
  go_enter Try.func71, Try.ntmps71
  go_wp2_with (fail)
  go_loopw [4, 5, 16] (fun v fl ix wr => ∃ (j m : Nat) (ps : List ChL), j ≤ n ∧ ix = .int .i64 j ∧ fl = .bool (fullB (cutsB (ds.take j))) ∧ Hid (OwnC wr w.heap.size v m ps) ∧ Hid (ps.map tri = chs 0 (cutsB (ds.take j))) ∧ m ≤ j ∧ Hid (∀ d ∈ ds.take j, docOk d) ∧ Hid (Fr No w wr)) (fun _ _ ix _ => n - (intOf ix).toNat)
  case atStart => exact ⟨0, 0, [], by omega, rfl, by simp [cutsB, fullB], hide (OwnC.nil _ _), hide (by simp [cutsB, chs]), by omega, hide (fun d hd => by simp at hd), hide (Fr.refl _ _)⟩
  case round =>
    obtain ⟨wo, rfl⟩ : ∃ wo : World, wo = wr := ⟨_, rfl⟩
    obtain ⟨j, m, ps, hj, rfl, rfl, HO, HT, hmj, HOk, HFr⟩ := hrel
    by_cases hlt : j < n
    · obtain ⟨ad, rfl, e0, R, dn, dc, e1, e2, e3, e4, e5⟩ := HR.out j (by rw [HL.out]; exact hlt)
      have f0 := HFr.out.cell e1 (fun h => h)
      have HTk := hide (take_getD (l := ds) (d := []) (q := j) (by rw [HL.out]; exact hlt))
      have hmem := getD_mem2 (l := ds) (d := []) (q := j) (by rw [HL.out]; exact hlt)
      have HMem := hide hmem
      generalize ds.getD j [] = D at *
      have HF := hide (HForm.out R dn dc D wo e2 e3 e4 (Nat.le_trans hB HFr.out.size) (e5.fr0 HFr.out))
      clear e0 e1 e2 e3 e4 e5 hmem
      by_cases hok : docOk D
      · have hfz : formZ D = (formB D, true) := by unfold formZ; rw [if_pos hok]
        have hfl := formB_le hok
        rw [hfz] at HF
        obtain ⟨bs, hbs⟩ : ∃ bs, bs = formB D := ⟨_, rfl⟩
        have HBs := hide hbs
        rw [← hbs] at HF hfl
        obtain ⟨bn, hbn⟩ : ∃ bn, bn = bs.length := ⟨_, rfl⟩
        have HBn := hide hbn
        rw [← hbn] at hfl
        obtain ⟨cs, hcs⟩ : ∃ cs, cs = cutsB (ds.take j) := ⟨_, rfl⟩
        rw [← hcs] at HT
        rw [← hcs]
        have HCs := hide hcs
        have HOk2 := hide hok
        clear hbs hbn hcs hfz hok
        go_upto_region 11 with (go_at_call 99; refine HF.out.mono ?_; rintro en w1 ⟨v1, rfl, hown, hfr⟩; rw [← HBn.out] at hown; obtain ⟨A1, c1, rfl, x1, x2, _⟩ := hown.form; have HO1 := hide hown; have HF1 : Hid (Fr No wo w1) := hide hfr; have HC1 := hide (HO.out.fr0 hfr); clear hown hfr)
        have hjn : ((j : Nat) : Int) ≤ 16384 := by omega
        go_upto_if 28 with (fail)
        go_cut [4, 5, 28] from 29 to 33 (fun v _ _ wx => ∃ (g cc m' : Nat) (qs : List ChL) (L : ChL), v = .slice (some ⟨g, 0, none⟩) m' cc ∧ Hid (OwnC wx w.heap.size (.slice (some ⟨g, 0, none⟩) m' cc) m' (qs ++ [L])) ∧ Hid (qs.map tri = chs 0 (openB cs).1) ∧ Hid (L.f = cntB (openB cs).1) ∧ Hid (L.b = (openB cs).2.2) ∧ 1 ≤ m' ∧ m' ≤ j + 1 ∧ Hid (Fr No w wx) ∧ Hid (Own wx wo.heap.size 5 1 (.slice A1 bn c1) bn (by8 bs)) ∧ Hid (w.heap.size ≤ wx.heap.size))
        case first =>
          by_cases hfu : fullB cs = true
          · rw [hfu]
            have HFu := hide hfu
            have HC2 := hide (HC1.out.fr0 ((Fr.refl No _).alloc (.cells #[.int .i64 j, .int .i64 0, .slice none 0 0] 106)))
            have HS2 := hide (Src.ofRd (P := Try.prog) (size := 3) _ Try.underlying101 (some ⟨w1.heap.size, 0, none⟩) 1 1 [.int .i64 j, .int .i64 0, .slice none 0 0] rfl (by omega) (Rd.block (heap_alloc_new w1 (.cells #[.int .i64 j, .int .i64 0, .slice none 0 0] 106))) (by simp [Value.oneCell']))
            have b1 : (m + 1) * 40 ≤ 140737488355328 := by omega
            have b2 : m + 1 ≤ maxLen := by unfold maxLen; omega
            have b3 : w.heap.size ≤ (w1.alloc (.cells #[.int .i64 j, .int .i64 0, .slice none 0 0] 106)).heap.size := by
              have h1 := HFr.out.size
              have h2 := HF1.out.size
              simp
              omega
            clear hfu
            go_wp2_with (first | (at_builtin; refine wpList_append_gen _ rfl (.tmp 29) (.tmp 32) 101 101 rfl w.heap.size 106 i0 _ 3 40 Try.underlying101 hi hz hsz hby rfl u4 m (cFlat ps) rfl HC2.out.row _ 1 [.int .i64 j, .int .i64 0, .slice none 0 0] rfl HS2.out b1 b2 b3 ?_; intro v4 w4 hown hfr hat; have HO4 := hide hown; have HF4 := hide hfr; obtain ⟨A4, c4, rfl, _⟩ := hown.form; clear hown hfr hat) | fail)
            go_meet
            have hnew : OwnC w4 w.heap.size (.slice A4 (m + 1) c4) (m + 1) (ps ++ [⟨j, 0, [], none, 0⟩]) := HC2.out.snoc (p := ⟨j, 0, [], none, 0⟩) (Own.nil _ _ _ _) (fun _ _ _ _ h => by cases h) HF4.out HO4.out
            obtain ⟨g, rfl, _⟩ := hnew.row.storeN (k := 0) (by omega)
            refine ⟨g, c4, m + 1, ps, ⟨j, 0, [], none, 0⟩, rfl, hide hnew, hide ?_, hide ?_, hide ?_, by omega, by omega, hide ?_, hide ?_, hide ?_⟩
            · rw [openB_full HFu.out]; exact HT.out
            · rw [openB_full HFu.out, HCs.out, cutsB_cnt, List.length_take, HL.out]
              show j = min j n
              omega
            · rw [openB_full HFu.out]
            · exact ((HFr.out.tr HF1.out).alloc _).own HF4.out (fun k hk => .inl (HC2.out.row.lt k hk).1)
            · exact (HO1.out.fr0 ((Fr.refl No _).alloc _)).off HF4.out (off_own HC2.out.row (by decide))
            · exact Nat.le_trans b3 HF4.out.size
          · have hfu : fullB cs = false := by simpa using hfu
            obtain ⟨x, hx1, hx2, hx3⟩ := openB_part hfu
            rw [hfu]
            have hps : ∃ qs L, ps = qs ++ [L] ∧ qs.map tri = chs 0 (openB cs).1 ∧ tri L = (cntB (openB cs).1, cntB (openB cs).1 + x.1, x.2) := by
              have h := HT.out
              rw [hx1, chs_snoc] at h
              obtain ⟨l1, l2, e1, e2, e3⟩ := List.map_eq_append_iff.1 h
              obtain ⟨L, e4⟩ : ∃ L, l2 = [L] := by
                have hl2 : l2.length = 1 := by have := congrArg List.length e3; simpa using this
                exact List.length_eq_one_iff.1 hl2
              subst e4
              refine ⟨l1, L, e1, ?_, ?_⟩
              · rw [e2]
              · have h1 : [tri L] = [_] := e3
                injection h1 with h1
                rw [h1]
                simp
            obtain ⟨qs, L, rfl, hq1, hq2⟩ := hps
            have HQ1 := hide hq1
            have HQ2 := hide hq2
            have HX2 := hide hx2
            have hml := HC1.out.len
            obtain ⟨Av, cv, rfl, _⟩ := HC1.out.row.form
            obtain ⟨g, rfl, _⟩ := HC1.out.row.storeN (k := 0) (by simp at hml; omega)
            clear hx1 hx2 hq1 hq2 hfu
            go_wp2
            go_meet
            refine ⟨g, cv, m, qs, L, rfl, HC1, HQ1, hide ?_, hide ?_, by simp at hml; omega, by omega, hide (HFr.out.tr HF1.out), HO1, hide (HFr.out.tr HF1.out).size⟩
            · have h := congrArg (·.1) HQ2.out
              exact h
            · have h := congrArg (·.2.2) HQ2.out
              rw [HX2.out]
              exact h
        case rest =>
          obtain ⟨g, cc, m', qs, L, rfl, HC3, HQ3, HLf, HLb, hm1, hm2, HF3, HO3, HZ3⟩ := hcut
          have hsm := openB_small cs
          rw [← HLb.out] at hsm
          obtain ⟨xl, hxl⟩ : ∃ xl, xl = L.b.length := ⟨_, rfl⟩
          rw [← hxl] at hsm
          have HXl := hide hxl
          have hLm : L ∈ qs ++ [L] := by simp
          have hml := HC3.out.len
          obtain ⟨g', cc', p, eg, _, _, ep, _, k0, k1, k2, kO⟩ := HC3.out.at (k := m' - 1) (by omega)
          have eg : g = g' := by injection eg with eg; injection eg with eg; injection eg
          subst eg
          have ep : p = L := by
            have h1 : m' - 1 = qs.length := by simp at hml; omega
            rw [h1] at ep
            simpa using ep.symm
          subst ep
          obtain ⟨Ab, cb, hbv, y1, y2, _⟩ := kO.form
          rw [hbv] at k2
          rw [← hxl] at hbv k2 y1
          have HBv := hide hbv
          rw [hbv, ← hxl] at kO
          have HKO := hide kO
          have fz : ∀ i, wc.frozen? ⟨g, i, none⟩ = false := by
            obtain ⟨_, e, _, _, _, _, hf, _⟩ := HC3.out.row.storeN (k := 0) (by omega)
            injection e with e
            injection e with e
            subst e
            exact hf
          have FZ := hide fz
          have HS3 := hide (Src.ofRd (P := Try.prog) (size := 1) wc Try.underlying23 A1 bn c1 (by8 bs) (by rw [by8_length, HBn.out]; omega) (by omega) HO3.out.rd (by8_one _))
          have HGc := hide (HC3.out.row.cellsT (show (Value.slice (some ⟨g, 0, none⟩) m' cc).ownBlock = some g from rfl))
          have b1 : (xl + bn) * 1 ≤ 140737488355328 := by omega
          have b2 : xl + bn ≤ maxLen := by unfold maxLen; omega
          have b3 : w.heap.size ≤ wc.heap.size := HZ3.out
          have hm1I : (1 : Int) ≤ (m' : Int) := by omega
          have z1 := fz ((m' - 1) * 3 + 2)
          have hng : ¬ (Value.slice Ab xl cb).ownBlock = some g := fun e => by
            obtain ⟨_, cs', fz', hh⟩ := HGc.out
            exact HKO.out.ne_blk e hh (by decide)
          have HNg := hide hng
          have HK1 := hide k1
          have HK2 := hide k2
          clear hxl hLm hml k0 k1 kO fz hbv hng
          go_wp2_with (first | (at_builtin; refine wpList_append_gen _ rfl (.tmp 44) (.tmp 45) 23 23 rfl w.heap.size 5 i5 (.int .u8 0) 1 1 Try.underlying23 hi5 hz5 hsz5 hby5 rfl (.slice Ab xl cb) xl (by8 p.b) rfl HKO.out _ bn (by8 bs) rfl HS3.out b1 b2 b3 ?_; intro v5 w5 hown hfr hat; obtain ⟨A5, c5, rfl, _⟩ := hown.form; have HO5 := hide hown; have HF5 := hide hfr; have HAt := hide hat; have e1 := hfr.cell (p := ⟨g, (m' - 1) * 3 + 1, none⟩) HK1.out HNg.out; have e2 := hfr.cell (p := ⟨g, (m' - 1) * 3 + 2, none⟩) HK2.out HNg.out; have q1 : w5.frozen? ⟨g, (m' - 1) * 3 + 1, none⟩ = false := (by obtain ⟨_, cs', fz', hh⟩ := HGc.out; exact hfr.froz hh HNg.out (FZ.out _)); have q2 : w5.frozen? ⟨g, (m' - 1) * 3 + 2, none⟩ = false := (by obtain ⟨_, cs', fz', hh⟩ := HGc.out; exact hfr.froz hh HNg.out (FZ.out _)); have e3 : (w5.setCell ⟨g, (m' - 1) * 3 + 2, none⟩ (.slice A5 (xl + bn) c5)).cell? ⟨g, (m' - 1) * 3 + 1, none⟩ = some (.int .i64 (p.t : Nat)) := (World.cell?_setCell_other w5 ⟨g, (m' - 1) * 3 + 2, none⟩ ⟨g, (m' - 1) * 3 + 1, none⟩ _ (by intro h; injection h; omega)).trans e1; have e4 : ((w5.setCell ⟨g, (m' - 1) * 3 + 2, none⟩ (.slice A5 (xl + bn) c5)).setCell ⟨g, (m' - 1) * 3 + 1, none⟩ (.int .i64 ((j : Int) + 1))).cell? ⟨g, (m' - 1) * 3 + 2, none⟩ = some (.slice A5 (xl + bn) c5) := (World.cell?_setCell_other _ ⟨g, (m' - 1) * 3 + 1, none⟩ ⟨g, (m' - 1) * 3 + 2, none⟩ _ (by intro h; injection h; omega)).trans (World.cell?_setCell_same' w5 ⟨g, (m' - 1) * 3 + 2, none⟩ _ (by rw [e2]; rfl)); clear hown hfr hat) | fail)
          go_roundw
          case measure => simp [intOf]; omega
          case rel =>
            have hlen : (p.b ++ bs).length = xl + bn := by rw [List.length_append, ← HXl.out, ← HBn.out]
            have hbv : bVal p = .slice Ab xl cb := HBv.out
            have hj1 : (Value.int .i64 ((j : Int) + 1)) = .int .i64 ((j + 1 : Nat) : Int) := by go_num
            have hlast := HC3.out.last (b := bs) (A := A5) (cb := c5) (w1 := w5) (by rw [hbv]; exact HF5.out) (by rw [hlen, by8_append]; exact HO5.out) (by rw [hlen, hbv]; exact HAt.out) (j + 1)
            rw [hlen] at hlast
            have hcut : cutsB (ds.take (j + 1)) = (openB cs).1 ++ [((openB cs).2.1 + 1, p.b ++ bs)] := by
              rw [HTk.out, cutsB_snoc, ← HCs.out, ← HBs.out, addD_open, HLb.out]
            have hgw : w.heap.size ≤ g := by
              obtain ⟨g', e, hb, _⟩ := HC3.out.row.storeN (k := 0) (by omega)
              have e2 : g = g' := by injection e with e; injection e
              omega
            refine ⟨j + 1, m', qs ++ [⟨p.f, j + 1, p.b ++ bs, A5, c5⟩], by omega, hj1, ?_, hide ?_, hide ?_, hm2, hide ?_, hide ?_⟩
            · rw [hcut, fullB_snoc, hlen]
              have e : decide ((256 : Int) ≤ (xl : Int) + (bn : Int)) = decide (256 ≤ xl + bn) := decide_eq_decide.2 (by omega)
              rw [e]
            · rw [hj1]; exact hlast
            · rw [hcut, chs_snoc, List.map_append, HQ3.out]
              have e1 := openB_cnt cs
              have e2 : cntB cs = j := by
                rw [HCs.out, cutsB_cnt, List.length_take, HL.out]
                omega
              show _ ++ [(p.f, j + 1, p.b ++ bs)] = _
              rw [HLf.out]
              dsimp only
              rw [show 0 + cntB (openB cs).1 = cntB (openB cs).1 by omega, show cntB (openB cs).1 + ((openB cs).2.1 + 1) = j + 1 by omega]
            · rw [HTk.out]
              intro d hd
              rcases List.mem_append.1 hd with hd | hd
              · exact HOk.out d hd
              · rw [List.mem_singleton.1 hd]; exact HOk2.out
            · exact ((HF3.out.own HF5.out (fun k hk => .inl (HKO.out.lt k hk).1)).setCell (p := ⟨g, (m' - 1) * 3 + 2, none⟩) (fun h => by have h : g < w.heap.size := h; omega) _).setCell (p := ⟨g, (m' - 1) * 3 + 1, none⟩) (fun h => by have h : g < w.heap.size := h; omega) _
      · have hfz : formZ D = ([], false) := by unfold formZ; rw [if_neg hok]
        rw [hfz] at HF
        have hno : ¬ mayB ds := fun h => hok (h.2 _ HMem.out)
        have HNo := hide hno
        clear hok hfz hno
        go_wp2_with (go_at_call 99; refine HF.out.mono ?_; rintro en w1 ⟨v1, rfl, hown, hfr⟩; have HF1 := hide (HFr.out.tr hfr); clear hown hfr)
        go_ret2
        exact ⟨_, by rw [decide_eq_false HNo.out]; rfl, HF1.out, fun h => absurd h HNo.out⟩
    · obtain rfl : j = n := by omega
      have htk : ds.take j = ds := List.take_of_length_le (by rw [HL.out]; exact Nat.le_refl _)
      rw [htk] at HT HOk
      have HMay : Hid (mayB ds) := hide ⟨by rw [HL.out]; omega, HOk.out⟩
      clear hlt htk
      go_wp2
      go_ret2
      exact ⟨_, by rw [decide_eq_true HMay.out]; rfl, HFr.out, fun _ => ⟨ps, by rw [HO.out.len]; exact HO.out, HT.out⟩⟩
end Go.Proofs.Ytpnhnnhocekchaa
namespace Go.Proofs.Ytpnhnnhocekchaa
set_option linter.unusedVariables false
set_option linter.unusedSimpArgs false
open Go.RowKit

set_option maxRecDepth 100000 in
set_option maxHeartbeats 800000 in
theorem refText_any (s : ByteArray) (w : World) (hs : s.size ≤ 140737488350000) :
    Calls Try.prog 106 #[.string s] w (GivesB w (enc s.size ++ s.data.toList)) := by
  have H := hide (refUint_any s.size w (by omega))
  obtain ⟨i0, hi, hz, hsz, hby⟩ := info_parts Try.info5
  have hlen := (enc_len s.size).2
  generalize enc s.size = xs at H hlen
  generalize hm : s.size = m at *
  have HS := fun W => Src.ofString (P := Try.prog) (w := W) Try.underlying9 s
  rw [hm, byteCells_by8] at HS
  have HS' := hide HS
  have hsl : s.data.toList.length = m := by rw [← hm, Array.length_toList]; rfl
  generalize s.data.toList = t at HS' hsl
  have b1 : (xs.length + m) * 1 ≤ 140737488355328 := by omega
  have b2 : xs.length + m ≤ maxLen := by unfold maxLen; omega
  clear HS
  go_enter Try.func106, Try.ntmps106
  go_wp2_with (first | (go_at_call 73; refine H.out.mono ?_; rintro en w1 ⟨v1, rfl, hown, hfr⟩; have HO := hide hown; have HF := hide hfr; have b3 := hfr.size; clear hown hfr) | (at_builtin; refine wpList_append_gen _ rfl (.tmp 8) (.tmp 9) 23 9 rfl w.heap.size 5 i0 (.int .u8 0) 1 1 Try.underlying23 hi hz hsz hby rfl v1 xs.length (by8 xs) rfl HO.out _ m (by8 t) rfl (HS'.out w1) b1 b2 b3 ?_; intro v' w' hown hfr hat; have HOn := hide hown; have HFn := hide hfr; clear hown hfr hat))
  go_ret
  refine ⟨_, rfl, ?_, HF.out.own HFn.out (fun g hg => .inl (HO.out.lt g hg).1)⟩
  rw [by8_append, List.length_append, hsl]
  exact HOn.out
set_option maxRecDepth 100000 in
set_option maxHeartbeats 1000000 in
theorem refForm_any (A : Option Addr) (n c B : Nat) (l : List EntV) (w : World) (hl : l.length = n) (hn : n ≤ c) (hc : c ≤ maxLen) (hok : docOk l) (hB : B ≤ w.heap.size) (hr : RdE w B A l) :
    Calls Try.prog 80 #[.slice A n c] w (GivesB w (formB l)) := by
  obtain ⟨i0, hi, hz, hsz, hby⟩ := info_parts Try.info5
  have hn64 : n ≤ 64 := by rw [← hl]; exact hok.1
  have hfl := formB_le hok
  have HL := hide hl
  have HR := hide hr
  have HOk := hide hok
  have hel := (enc_len n).2
  have HU := hide (fun (W : World) (u : Nat) (hu : u < 18446744073709551616) => refUint_any u W hu)
  have HTx := hide (fun (W : World) (s : ByteArray) (hs : s.size ≤ 4096) => refText_any s W (by omega))
  have HTu := hide (fun (W : World) (x : Int) (h1 : -9223372036854775808 ≤ x) (h2 : x ≤ 9223372036854775807) => turned_any x W h1 h2)
  have HB := hide hB
  clear hl hr hB hok
  go_enter Try.func80, Try.ntmps80
  go_wp2_with (fail)
  refine (HU.out _ n (by omega)).mono ?_
  rintro en w1 ⟨v1, rfl, hown, hfr⟩
  have HO1 := hide hown
  have HF1 := hide hfr
  clear hown hfr
  go_wp2
  go_loopw [3, 4] (fun v ix wr => ∃ (j m : Nat) (X : List UInt8), j ≤ n ∧ ix = .int .i64 j ∧ Hid (X = enc n ++ entsB (l.take j)) ∧ Hid (m = X.length) ∧ m ≤ 268180 ∧ Hid (Own wr w.heap.size 5 1 v m (by8 X)) ∧ Hid (Fr No w wr)) (fun _ ix _ => n - (intOf ix).toNat)
  case atStart => exact ⟨0, (enc n).length, enc n, by omega, rfl, hide (by simp [entsB]), hide rfl, by omega, HO1, HF1⟩
  case round =>
    clear HO1 HF1
    obtain ⟨j, m, X, hj, rfl, HX, HM, hm, HO, HFr⟩ := hrel
    by_cases hlt : j < n
    · obtain ⟨ad, rfl, he⟩ := HR.out j (by rw [HL.out]; exact hlt)
      obtain ⟨e1, e2, e3, R, rn, rc, e4, e5⟩ := he
      have HA := hide (entsB_at (l := l) (j := j) (by rw [HL.out]; exact hlt))
      have hE : entOk (l.getD j .none) := by
        have h1 : j < l.length := by rw [HL.out]; exact hlt
        rw [List.getD_eq_getElem?_getD, List.getElem?_eq_getElem h1]
        exact HOk.out.2 _ (List.getElem_mem h1)
      have hnl : (enc n ++ entsB (l.take (j + 1))).length ≤ 268170 := by
        have h1 := entsB_le (l.take (j + 1)) (fun e he => HOk.out.2 e (List.mem_of_mem_take he))
        rw [List.length_take] at h1
        rw [List.length_append]
        omega
      have HNl := hide hnl
      generalize l.getD j .none = E at *
      obtain ⟨hf, ht, hns⟩ := hE
      have HE2 := hide e2
      have HE3 := hide e3
      have HE4 := hide e4
      have HE5 := hide e5
      have hrn : rn ≤ 4 := by rw [← e5.1]; exact hns
      have f0 := HFr.out.cell e2 (fun h => h)
      clear e2 e3 e4 e5 hnl
      go_wp2_with (fail)
      refine (HTx.out _ E.f (by omega)).mono ?_
      rintro en w3 ⟨v3, rfl, hown, hfr⟩
      obtain ⟨l3, hl3⟩ : ∃ k, k = (enc E.f.size ++ E.f.data.toList).length := ⟨_, rfl⟩
      rw [← hl3] at hown
      have hb3 : l3 ≤ E.f.size + 10 := by rw [hl3]; exact txt_le _
      obtain ⟨A3, c3, rfl, x1, _⟩ := hown.form
      have F3 : Hid (Fr No w w3) := hide (HFr.out.tr hfr)
      have O3 := hide (HO.out.fr0 hfr)
      have HL3 := hide hl3
      have S3 := hide (Src.ofRd (P := Try.prog) (size := 1) w3 Try.underlying23 A3 l3 c3 (by8 (enc E.f.size ++ E.f.data.toList)) (by rw [by8_length, hl3]; omega) (by omega) hown.rd (by8_one _))
      have b1 : (m + l3) * 1 ≤ 140737488355328 := by omega
      have b2 : m + l3 ≤ maxLen := by unfold maxLen; omega
      have b3 : w.heap.size ≤ w3.heap.size := F3.out.size
      clear hown hfr hl3
      go_wp2_with (first | (at_builtin; refine wpList_append_gen _ rfl (.tmp 16) (.tmp 22) 23 23 rfl w.heap.size 5 i0 (.int .u8 0) 1 1 Try.underlying23 hi hz hsz hby rfl u3 (m) (by8 (X)) rfl O3.out _ l3 (by8 (enc E.f.size ++ E.f.data.toList)) rfl S3.out b1 b2 b3 ?_; intro v4 w4 hown2 hfr2 hat; have F4 : Hid (Fr No w w4) := hide (F3.out.own hfr2 (fun g hg => .inl (O3.out.lt g hg).1)); have O4 := hide hown2; have f1 := F4.out.cell HE3.out (fun h => h); clear hown2 hfr2 hat b1 b2 b3) | fail)
      refine (HTx.out _ E.t (by omega)).mono ?_
      rintro en w5 ⟨v5, rfl, hown, hfr⟩
      rw [← by8_append] at O4
      obtain ⟨l5, hl5⟩ : ∃ k, k = (enc E.t.size ++ E.t.data.toList).length := ⟨_, rfl⟩
      rw [← hl5] at hown
      have hb5 : l5 ≤ E.t.size + 10 := by rw [hl5]; exact txt_le _
      obtain ⟨A5, c5, rfl, x1, _⟩ := hown.form
      have F5 : Hid (Fr No w w5) := hide (F4.out.tr hfr)
      have O5 := hide (O4.out.fr0 hfr)
      have HL5 := hide hl5
      have S5 := hide (Src.ofRd (P := Try.prog) (size := 1) w5 Try.underlying23 A5 l5 c5 (by8 (enc E.t.size ++ E.t.data.toList)) (by rw [by8_length, hl5]; omega) (by omega) hown.rd (by8_one _))
      have b1 : (m + l3 + l5) * 1 ≤ 140737488355328 := by omega
      have b2 : m + l3 + l5 ≤ maxLen := by unfold maxLen; omega
      have b3 : w.heap.size ≤ w5.heap.size := F5.out.size
      clear hown hfr hl5
      go_wp2_with (first | (at_builtin; refine wpList_append_gen _ rfl (.tmp 24) (.tmp 30) 23 23 rfl w.heap.size 5 i0 (.int .u8 0) 1 1 Try.underlying23 hi hz hsz hby rfl v4 (m + l3) (by8 (X ++ (enc E.f.size ++ E.f.data.toList))) rfl O5.out _ l5 (by8 (enc E.t.size ++ E.t.data.toList)) rfl S5.out b1 b2 b3 ?_; intro v6 w6 hown2 hfr2 hat; have F6 : Hid (Fr No w w6) := hide (F5.out.own hfr2 (fun g hg => .inl (O5.out.lt g hg).1)); have O6 := hide hown2; have f2 := F6.out.cell HE4.out (fun h => h); clear hown2 hfr2 hat b1 b2 b3) | fail)
      rw [← by8_append] at O6
      refine (HU.out _ rn (by omega)).mono ?_
      rintro en w7 ⟨v7, rfl, hown, hfr⟩
      obtain ⟨l7, hl7⟩ : ∃ k, k = (enc rn).length := ⟨_, rfl⟩
      rw [← hl7] at hown
      have hb7 : l7 ≤ 10 := by rw [hl7]; exact (enc_len _).2
      obtain ⟨A7, c7, rfl, x1, _⟩ := hown.form
      have F7 : Hid (Fr No w w7) := hide (F6.out.tr hfr)
      have O7 := hide (O6.out.fr0 hfr)
      have HL7 := hide hl7
      have S7 := hide (Src.ofRd (P := Try.prog) (size := 1) w7 Try.underlying23 A7 l7 c7 (by8 (enc rn)) (by rw [by8_length, hl7]; omega) (by omega) hown.rd (by8_one _))
      have b1 : (m + l3 + l5 + l7) * 1 ≤ 140737488355328 := by omega
      have b2 : m + l3 + l5 + l7 ≤ maxLen := by unfold maxLen; omega
      have b3 : w.heap.size ≤ w7.heap.size := F7.out.size
      clear hown hfr hl7
      go_wp2_with (first | (at_builtin; refine wpList_append_gen _ rfl (.tmp 32) (.tmp 40) 23 23 rfl w.heap.size 5 i0 (.int .u8 0) 1 1 Try.underlying23 hi hz hsz hby rfl v6 (m + l3 + l5) (by8 (X ++ (enc E.f.size ++ E.f.data.toList) ++ (enc E.t.size ++ E.t.data.toList))) rfl O7.out _ l7 (by8 (enc rn)) rfl S7.out b1 b2 b3 ?_; intro v8 w8 hown2 hfr2 hat; have F8 : Hid (Fr No w w8) := hide (F7.out.own hfr2 (fun g hg => .inl (O7.out.lt g hg).1)); have O8 := hide hown2; clear hown2 hfr2 hat b1 b2 b3) | fail)
      rw [← by8_append] at O8
      obtain ⟨Y, hY⟩ : ∃ Y, Y = X ++ (enc E.f.size ++ E.f.data.toList) ++ (enc E.t.size ++ E.t.data.toList) ++ enc rn := ⟨_, rfl⟩
      rw [← hY] at O8
      obtain ⟨y, hy⟩ : ∃ y, y = m + l3 + l5 + l7 := ⟨_, rfl⟩
      rw [← hy] at O8
      have HYl : Hid (y = Y.length) := hide (by rw [hY, hy, List.length_append, List.length_append, List.length_append, HM.out, HL3.out, HL5.out, HL7.out])
      have hyb : y ≤ 272500 := by omega
      have HY := hide hY
      clear hY hy f0 f1 f2
      go_wp2
      go_loopw [3, 5] (fun v ix wx => ∃ (q z : Nat) (Z : List UInt8), q ≤ rn ∧ ix = .int .i64 q ∧ Hid (Z = Y ++ numsB (E.ns.take q)) ∧ Hid (z = Z.length) ∧ z ≤ y + 10 * q ∧ Hid (Own wx w.heap.size 5 1 v z (by8 Z)) ∧ Hid (Fr No w wx)) (fun _ ix _ => rn - (intOf ix).toNat)
      case atStart => exact ⟨0, y, Y, by omega, rfl, hide (by simp [numsB]), HYl, by omega, O8, F8⟩
      case round =>
        clear O8 F8 O7 F7 O6 F6 O5 F5 O4 F4 O3 F3
        obtain ⟨q, z, Z, hq, rfl, HZ, Hz, hzb, HOq, HFq⟩ := hrel
        obtain ⟨z1, z2, z3, z4, z5⟩ := HE5.out
        have f3 := HFq.out.cell HE4.out (fun h => h)
        by_cases hlq : q < rn
        · obtain ⟨ad2, rfl, _, hcell⟩ := (z5.fr0 HFq.out).intAt (j := q) (by rw [z1]; exact hlq)
          have hin := z4.at (k := q) (by rw [z1]; exact hlq)
          have HNA := hide (numsB_at (l := E.ns) (j := q) (by rw [z1]; exact hlq))
          generalize E.ns.getD q 0 = x at hcell hin HNA
          have hzx := zz_lt hin.1 hin.2
          clear z1 z2 z3 z4 z5
          go_wp2_with (fail)
          refine (HTu.out _ x hin.1 hin.2).mono ?_
          rintro en w8 ⟨rfl, rfl⟩
          go_wp2_with (fail)
          refine (HU.out _ (zz x) hzx).mono ?_
          rintro en w9 ⟨v9, rfl, hown, hfr⟩
          obtain ⟨l9, hl9⟩ : ∃ k, k = (enc (zz x)).length := ⟨_, rfl⟩
          rw [← hl9] at hown
          have hb9 : l9 ≤ 10 := by rw [hl9]; exact (enc_len _).2
          obtain ⟨A9, c9, rfl, x1, _⟩ := hown.form
          have F9 : Hid (Fr No w w9) := hide (HFq.out.tr hfr)
          have O9 := hide (HOq.out.fr0 hfr)
          have HL9 := hide hl9
          have S9 := hide (Src.ofRd (P := Try.prog) (size := 1) w9 Try.underlying23 A9 l9 c9 (by8 (enc (zz x))) (by rw [by8_length, hl9]; omega) (by omega) hown.rd (by8_one _))
          have b1 : (z + l9) * 1 ≤ 140737488355328 := by omega
          have b2 : z + l9 ≤ maxLen := by unfold maxLen; omega
          have b3 : w.heap.size ≤ w9.heap.size := F9.out.size
          clear hown hfr hl9
          go_wp2_with (first | (at_builtin; refine wpList_append_gen _ rfl (.tmp 52) (.tmp 62) 23 23 rfl w.heap.size 5 i0 (.int .u8 0) 1 1 Try.underlying23 hi hz hsz hby rfl u3 (z) (by8 (Z)) rfl O9.out _ l9 (by8 (enc (zz x))) rfl S9.out b1 b2 b3 ?_; intro v10 w10 hown2 hfr2 hat; have F10 : Hid (Fr No w w10) := hide (F9.out.own hfr2 (fun g hg => .inl (O9.out.lt g hg).1)); have O10 := hide hown2; clear hown2 hfr2 hat b1 b2 b3) | fail)
          rw [← by8_append] at O10
          go_roundw
          case rel => exact ⟨q + 1, z + l9, Z ++ enc (zz x), by omega, by go_num, hide (by rw [HZ.out, HNA.out, List.append_assoc]), hide (by rw [List.length_append, ← Hz.out, ← HL9.out]), by omega, O10, F10⟩
          case measure => simp [intOf]; omega
        · obtain rfl : q = rn := by omega
          clear hlq
          have e : Z = enc n ++ entsB (l.take (j + 1)) := by
            rw [HZ.out, List.take_of_length_le (show E.ns.length ≤ q by rw [z1]; exact Nat.le_refl _), HY.out, HX.out, HA.out]
            unfold entB txtB
            rw [z1]
            simp
          have HZ2 := hide e
          have hz2 : z ≤ 268180 := by rw [Hz.out, e]; have := HNl.out; omega
          clear z1 z2 z3 z4 z5 e
          go_wp2
          go_roundw
          case rel => exact ⟨j + 1, z, Z, by omega, by go_num, HZ2, Hz, hz2, HOq, HFq⟩
          case measure => simp [intOf]; omega
    · obtain rfl : j = n := by omega
      clear hlt
      go_wp2
      go_ret
      have e : formB l = X := by
        rw [HX.out, List.take_of_length_le (by rw [HL.out]; exact Nat.le_refl _), ← HL.out]
        rfl
      rw [e]
      refine ⟨_, rfl, ?_, HFr.out⟩
      rw [← HM.out]
      exact HO.out
end Go.Proofs.Ytpnhnnhocekchaa
namespace Go.Proofs.Ytpnhnnhocekchaa
set_option linter.unusedVariables false
set_option linter.unusedSimpArgs false
open Go.RowKit

def chainR : List PanicEntry := [{ v := .iface 111 (.agg #[]), recovered := true }]
set_option maxRecDepth 100000 in
theorem rec_bad (n b1 b2 : Nat) (v1 v2 : Value) (w : World) (hne : b1 ≠ b2) (h1 : w.cell? ⟨b1, 0, none⟩ = some v1) (h2 : w.cell? ⟨b2, 0, none⟩ = some v2) (z1 : w.frozen? ⟨b1, 0, none⟩ = false) (z2 : w.frozen? ⟨b2, 0, none⟩ = false) :
    CallsDIn Fence.wide n Try.prog 75 #[.pointer (some ⟨b1, 0, none⟩), .pointer (some ⟨b2, 0, none⟩)] (.panicking chainC) w fun e u' w' =>
      e = .returned (.tuple #[]) ∧ u' = .panicking chainR ∧ w' = ((w.alloc (.cells #[] 111)).setCell ⟨b1, 0, none⟩ (.pointer none)).setCell ⟨b2, 0, none⟩ (.int .i64 20) := by
  refine callsDIn_of_wpSIn Try.func75 rfl trivial fun c₀ cs hu => ?_
  simp only [Try.ntmps75, List.size_toArray, List.length_cons, List.length_nil, Nat.reduceAdd, Nat.reduceSub, Array.replicate_succ, Array.replicate_zero, List.push_toArray, List.append_toArray, List.nil_append, List.cons_append]
  apply wpSIn_seq
  apply wpSIn_region
  simp [wpOpsSIn, go_sem, recoverD, hu, chainC, Exit.thenS]
  refine wpSIn_of_wpIn rfl ?_
  have a1 : (w.alloc (.cells #[] 111)).cell? ⟨b1, 0, none⟩ = some v1 := ((Fr.refl No w).alloc _).cell h1 (fun h => h)
  have a2 : (w.alloc (.cells #[] 111)).cell? ⟨b2, 0, none⟩ = some v2 := ((Fr.refl No w).alloc _).cell h2 (fun h => h)
  have y1 : (w.alloc (.cells #[] 111)).frozen? ⟨b1, 0, none⟩ = false := by
    unfold World.cell? at h1
    simp only [World.frozen?] at z1 ⊢
    cases hb : w.heap[b1]? with
    | none => rw [hb] at h1; simp at h1
    | some o => rw [((Fr.refl No w).alloc (.cells #[] 111)).blk hb (fun h => h)]; rw [hb] at z1; exact z1
  have y2 : (w.alloc (.cells #[] 111)).frozen? ⟨b2, 0, none⟩ = false := by
    unfold World.cell? at h2
    simp only [World.frozen?] at z2 ⊢
    cases hb : w.heap[b2]? with
    | none => rw [hb] at h2; simp at h2
    | some o => rw [((Fr.refl No w).alloc (.cells #[] 111)).blk hb (fun h => h)]; rw [hb] at z2; exact z2
  have hta : ∀ W : World, (Instr.typeAssert (.iface 111 (.agg #[])) 20 111 true).run Try.prog W = .ok (.tuple #[.agg #[], .bool true]) W := fun W => by kernel_rfl
  have a3 : ((w.alloc (.cells #[] 111)).setCell ⟨b1, 0, none⟩ (.pointer none)).cell? ⟨b2, 0, none⟩ = some v2 := (World.cell?_setCell_other _ ⟨b1, 0, none⟩ ⟨b2, 0, none⟩ _ (by intro h; injection h; exact hne (by assumption))).trans a2
  clear h1 h2 z1 z2
  gi_wp2
  exact ⟨rfl, _, rfl, _, results_none rfl _ _ _, rfl, rfl, rfl⟩

set_option maxRecDepth 100000 in
theorem rec_ok (n b1 b2 : Nat) (w : World) :
    CallsDIn Fence.wide n Try.prog 75 #[.pointer (some ⟨b1, 0, none⟩), .pointer (some ⟨b2, 0, none⟩)] .returning w fun e u' w' =>
      e = .returned (.tuple #[]) ∧ u' = .returning ∧ w' = w.alloc (.cells #[] 111) := by
  refine callsDIn_of_wpSIn Try.func75 rfl trivial fun c₀ cs hu => ?_
  simp only [Try.ntmps75, List.size_toArray, List.length_cons, List.length_nil, Nat.reduceAdd, Nat.reduceSub, Array.replicate_succ, Array.replicate_zero, List.push_toArray, List.append_toArray, List.nil_append, List.cons_append]
  apply wpSIn_seq
  apply wpSIn_region
  simp [wpOpsSIn, go_sem, recoverD, hu, Exit.thenS]
  refine wpSIn_of_wpIn rfl ?_
  have hta : ∀ W : World, (Instr.typeAssert .nilIface 20 111 true).run Try.prog W = .ok (.tuple #[.agg #[], .bool false]) W := fun W => by kernel_rfl
  gi_wp2
  cases c₀
  simp only at hu
  subst hu
  exact ⟨rfl, _, rfl, _, results_none rfl _ _ _, rfl, rfl, rfl⟩
end Go.Proofs.Ytpnhnnhocekchaa
