/- Does a set hold just these? same. Condition: the library's table lies as laid. -/
import Derived.Test.YtapfbjaopbcgjaaDoorRefB14
import Derived.Test.YtapfbjaopbcgjaaDoorCount
import Derived.Test.YtapfbjaopbcgjaaDoorKitInt
import Derived.Test.YtapfbjaopbcgjaaDoorKit8
import Derived.Test.YtapfbjaopbcgjaaDoorApartV
import Derived.Deep.RegionHeld3
import Derived.Deep.DeepCutAuto
import Derived.Deep.RegionLaw
namespace Go.Proofs.YtapfbjaopbcgjaaDoor
set_option linter.unusedVariables false
set_option linter.unusedSimpArgs false
open Go.RowKit

theorem BV.fr0 {w w' : World} {B : Nat} {v : Value} {l : List Bool} (h : BV w B v l) (f : Fr No w w') : BV w' B v l := by
  rcases h with h | ⟨g, gw, rfl, h⟩
  · exact .inl h
  · exact .inr ⟨g, gw, rfl, h.fr0 f⟩
theorem retB_of {f : FuncId} {args : Array Value} {w : World} {b : Bool} (h : Calls Tryd.prog f args w (RetQ (.bool b) w)) : Calls Tryd.prog f args w (RetB b w) :=
  h.mono fun en w' ⟨h1, n, h2⟩ => by subst h2; exact ⟨h1, (Fr.refl No w).drewN n⟩
theorem ints_iz (l : List Nat) : ints l = iz .i64 (l.map fun (n : Nat) => (n : Int)) := by simp [ints, iz]
theorem held_count (l : List Bool) : countL l = (held l).length := by
  have h : ∀ k, cntN (hasN l) k = (uptoN l k).length := by
    intro k
    induction k with
    | zero => rfl
    | succ k ih =>
      rw [cntN, ih]
      cases hb : hasN l k with
      | true => rw [upto_hit hb]; simp
      | false => rw [upto_skip (l := l) (i := k) (k := k + 1) (by omega) (fun j h1 h2 => by rw [show j = k by omega]; exact hb)]; simp
  exact h _
theorem same_ints (A B : Option Addr) (n c d : Nat) (l : List Nat) (w : World) (hl : l.length = n) (h1 : n ≤ c) (h2 : c ≤ maxLen) (h3 : n ≤ d) (h4 : d ≤ maxLen) (hr : Rd w w.heap.size A (ints l)) (hs : Rd w w.heap.size B (ints l)) :
    Calls Tryd.prog 34 #[.slice A n c, .slice B n d] w (RetB true w) := by
  rw [ints_iz] at hr hs
  have h := sameInt_any A B n c n d w.heap.size w.heap.size _ _ w (by rw [List.length_map]; exact hl) (by rw [List.length_map]; exact hl) h1 h2 h3 h4 hr hs
  have e : decide (l.map (fun (n : Nat) => (n : Int)) = l.map (fun (n : Nat) => (n : Int))) = true := decide_eq_true rfl
  rw [e] at h
  exact retB_of h
theorem bytes_yes (A B : Option Addr) (n c d : Nat) (xs : List UInt8) (W : World) (hx : xs.length = n) (hn : n ≤ c) (hc : c ≤ maxLen) (hm : n ≤ d) (hd : d ≤ maxLen) (hr : Rd W W.heap.size A (by8 xs)) (hs : Rd W W.heap.size B (by8 xs)) :
    Calls Tryd.prog 36 #[.slice A n c, .slice B n d] W (RetB true W) := by
  have h := kbytes_any A B n c n d W.heap.size W.heap.size xs xs W hx hx hn hc hm hd hr hs
  have e : decide (xs = xs) = true := decide_eq_true rfl
  rw [e] at h
  exact retB_of h
theorem bytesL_any (B : Nat) (v : Value) (L : List Bool) (w : World) (h : BV w B v L) (hT : Tab w) (hL : L.length ≤ 16384) :
    Calls Tryd.prog 37 #[v] w (GivesB w (enc L.length ++ setB L)) := callsIn_wide.1 (bytesL_in B v L w h hT hL)

theorem apart_two (W w7 : World) (A7 A8 : Option Addr) (r c7 c8 M : Nat) (bs : List UInt8) (hr : bs.length = r) (hr2 : r ≤ 3000) (o7 : Own W M 5 1 (.slice A7 r c7) r (by8 bs)) (o8 : Own W w7.heap.size 5 1 (.slice A8 r c8) r (by8 bs)) (o70 : Own w7 M 5 1 (.slice A7 r c7) r (by8 bs)) (hM : M ≤ w7.heap.size) (hM2 : M ≤ W.heap.size) :
    Calls Tryd.prog 42 #[.slice (some ⟨W.heap.size, 0, none⟩) 2 2] (W.alloc (.cells #[.slice A7 r c7, .slice A8 r c8] 50)) (fun en w' => en = .returned (.bool true) ∧ Fr (fun k => M ≤ k) W w') := by
  subst hr
  have f := (Fr.refl No W).alloc (.cells #[.slice A7 bs.length c7, .slice A8 bs.length c8] 50)
  have V1 : Vals w7 M [.slice A7 bs.length c7] [bs] := by
    exact ⟨rfl, fun j v b hv hb => by
      cases j with
      | zero => injection hv with hv; injection hb with hb; subst hv; subst hb; exact o70
      | succ j => simp at hv, fun i j vi vj hij hi hj => by
      cases j with
      | zero => omega
      | succ j => simp at hj⟩
  have V2 : Vals W M [.slice A7 bs.length c7] [bs] := ⟨rfl, fun j v b hv hb => by
      cases j with
      | zero => injection hv with hv; injection hb with hb; subst hv; subst hb; exact o7
      | succ j => simp at hv, V1.dis⟩
  have V3 := Vals.snoc (w0 := w7) V1 V2 o8 hM
  have ho : Own (W.alloc (.cells #[.slice A7 bs.length c7, .slice A8 bs.length c8] 50)) W.heap.size 50 1 (.slice (some ⟨W.heap.size, 0, none⟩) 2 2) 2 [.slice A7 bs.length c7, .slice A8 bs.length c8] :=
    ⟨rfl, _, 2, rfl, Nat.le_refl _, by unfold maxLen; omega, .inr ⟨W.heap.size, _, rfl, Nat.le_refl _, heap_alloc_new W _, by simp, by simp⟩⟩
  have hlt := o7.lt
  refine (apart8_vals (some ⟨W.heap.size, 0, none⟩) 2 2 M _ _ _ (ho.lower hM2) (V3.fr0 f) (by omega) (fun b hb => by simp at hb; rcases hb with rfl | rfl <;> omega)).mono ?_
  rintro en w' ⟨he, hf⟩
  refine ⟨he, (f.any _).trans hf (fun i hi e => ?_)⟩
  obtain ⟨j, v, hv, hk⟩ := e
  obtain ⟨_, _, ho2⟩ := V3.get hv
  exact (ho2.lt i hk).1
theorem each_big (B : Nat) (v : Value) (L : List Bool) (w : World) (h : BV w B v L) (hT : Tab w) (hL : L.length ≤ 16384) :
    Calls Tryd.prog 38 #[v, .int .i64 1073741824] w (GivesN w (held L)) := by
  have h1 := eachL_any B v L 1073741824 w h hT hL (by omega) (by omega)
  have h2 : (held L).length ≤ L.length := upto_len L _
  rw [List.take_of_length_le (by omega)] at h1
  exact h1
theorem each_one (B : Nat) (v : Value) (L : List Bool) (w : World) (h : BV w B v L) (hT : Tab w) (hL : L.length ≤ 16384) :
    Calls Tryd.prog 38 #[v, .int .i64 1] w (GivesN w ((held L).take 1)) :=
  eachL_any B v L 1 w h hT hL (by omega) (by omega)

set_option maxRecDepth 100000 in
set_option maxHeartbeats 1000000 in
theorem same_any (B : Nat) (p : Option Addr) (l : List Bool) (A : Option Addr) (n c : Nat) (w : World) (h : BV w B (.pointer p) l) (hT : Tab w) (hl : l.length = n) (h1 : n ≤ c) (h2 : c ≤ maxLen) (hn2 : n ≤ 16384) (hr : Rd w w.heap.size A (bz l)) :
    Calls Tryd.prog 12 #[.pointer p, .slice A n c] w (RetB true w) := by
  have HL1 := hide (fun W (f : Fr No w W) => len_any B _ l W (h.fr0 f))
  have HC1 := hide (fun W (f : Fr No w W) => count_any B _ l W (h.fr0 f))
  have HLs := hide (refList_any A n c w.heap.size l w hl h1 h2 hn2 (Nat.le_refl _) hr)
  have HE1 := hide (fun W (f : Fr No w W) => each_big B (.pointer p) l W (h.fr0 f) (hT.fr0 f) (by omega))
  have HE2 := hide (fun W (f : Fr No w W) => each_one B (.pointer p) l W (h.fr0 f) (hT.fr0 f) (by omega))
  have HB1 := hide (fun W (f : Fr No w W) => bytesL_any B (.pointer p) l W (h.fr0 f) (hT.fr0 f) (by omega))
  have HB2 := hide (fun W (f : Fr No w W) => refBytes_any A n c w.heap.size l W hl h1 h2 hn2 f.size (hr.fr0 f))
  have HH := hide (fun W (f : Fr No w W) i => has_any B _ l i W (h.fr0 f))
  have hcnt := held_count l
  have hhl : (held l).length ≤ n := by rw [← hl]; exact upto_len l _
  rw [hcnt] at HC1
  have HL := hide hl
  have HR := hide hr
  rw [hl] at HL1
  clear h hT hl hr hcnt
  obtain ⟨hd, hhd⟩ : ∃ hd, hd = held l := ⟨_, rfl⟩
  rw [← hhd] at HE1 HLs HC1 HE2 hhl
  obtain ⟨q, hq⟩ : ∃ q, q = hd.length := ⟨_, rfl⟩
  rw [← hq] at HC1 hhl
  have HQ := hide hq
  obtain ⟨bs, hbs⟩ : ∃ bs, bs = enc l.length ++ setB l := ⟨_, rfl⟩
  rw [← hbs] at HB1 HB2
  have hbl : bs.length ≤ 3000 := by
    rw [hbs, List.length_append]
    have := (enc_len n).2
    have h3 : (setB l).length = byteN l.length := byf_len _ _
    rw [h3, HL.out]
    unfold byteN
    omega
  obtain ⟨r, hr8⟩ : ∃ r, r = bs.length := ⟨_, rfl⟩
  rw [← hr8] at hbl
  have HRl := hide hr8
  clear hhd hq hbs hr8
  have hb1 : ((n : Int) != (n : Int)) = false := by simp
  have hb2 : ((q : Int) != (q : Int)) = false := by simp
  unfold maxLen at h2
  go_enter Tryd.func12, Tryd.ntmps12
  go_wp2_with (fail)
  refine HLs.out.mono ?_
  rintro en w1 ⟨v1, rfl, hown, hfr⟩
  rw [← HQ.out] at hown
  have O1 := hide hown
  have F1 := hide hfr
  obtain ⟨A1, c1, rfl, p1, p2, _⟩ := hown.form
  clear hown hfr
  go_wp2_with (fail)
  refine (HL1.out _ F1.out).mono ?_
  rintro en w2 ⟨rfl, rfl⟩
  go_wp2_with (fail)
  refine (HC1.out _ F1.out).mono ?_
  rintro en w2 ⟨rfl, rfl⟩
  go_wp2_with (fail)
  refine (HE1.out _ F1.out).mono ?_
  rintro en w2 ⟨v2, rfl, hown, hfr⟩
  rw [← HQ.out] at hown
  have R2 := hide hown
  obtain ⟨A2, c2, rfl, r1, r2, _⟩ := hown.form
  have F2 := hide (F1.out.tr hfr)
  have O2 := hide (O1.out.fr0 hfr)
  clear hown hfr
  go_wp2_with (fail)
  refine (same_ints A2 A1 q c2 c1 hd w2 HQ.out.symm r1 r2 p1 p2 R2.out.rd O2.out.rd).mono ?_
  rintro en w3 ⟨rfl, hfr⟩
  have F3 := hide (F2.out.tr hfr)
  have O3 := hide (O2.out.fr0 hfr)
  clear hfr
  go_wp2_with (fail)
  refine (HB1.out _ F3.out).mono ?_
  rintro en w4 ⟨v4, rfl, hown, hfr⟩
  rw [← HRl.out] at hown
  have R4 := hide hown
  obtain ⟨A4, c4, rfl, s1, s2, _⟩ := hown.form
  have F4 := hide (F3.out.tr hfr)
  have O4 := hide (O3.out.fr0 hfr)
  clear hown hfr
  go_wp2_with (fail)
  refine (HB2.out _ F4.out).mono ?_
  rintro en w5 ⟨v5, rfl, hown, hfr⟩
  rw [← HRl.out] at hown
  have R5 := hide hown
  obtain ⟨A5, c5, rfl, t1, t2, _⟩ := hown.form
  have F5 := hide (F4.out.tr hfr)
  have O5 := hide (O4.out.fr0 hfr)
  have R45 := hide (R4.out.fr0 hfr)
  clear hown hfr
  go_wp2_with (fail)
  refine (bytes_yes A4 A5 r c4 c5 bs w5 HRl.out.symm s1 s2 t1 t2 R45.out.rd R5.out.rd).mono ?_
  rintro en w6 ⟨rfl, hfr⟩
  have F6 := hide (F5.out.tr hfr)
  have O6 := hide (O5.out.fr0 hfr)
  clear hfr
  go_wp2_with (fail)
  have HSI := hide (fun W A3 c3 (h3 : (hd.take 1).length = 1) (h1 : 1 ≤ c3) (h2 : c3 ≤ maxLen) (hr : Rd W W.heap.size A3 (ints (hd.take 1))) (f : Fr No w6 W) (hq1 : 1 < q) => same_ints A3 A1 1 c3 c1 (hd.take 1) W h3 h1 h2 (by omega) p2 hr (by
    have h := (O6.out.fr0 f).rd.tk 1
    have e : (ints hd).take 1 = ints (hd.take 1) := by simp [ints, List.map_take]
    rw [e] at h
    exact h))
  have HT1 : Hid (1 < q → (hd.take 1).length = 1) := hide (fun h => by rw [List.length_take, ← HQ.out]; omega)
  generalize hd.take 1 = h1 at HSI HT1 HE2
  clear O1 F1 O2 R2 F2 O3 F3 R4 O4 F4 R5 F5 O5 R45
  have FG := hide (Fr.refl No w6)
  go_cut [45] from 35 to 45 (fun s wx => s = .bool false ∧ Hid (Fr No w6 wx))
  case first =>
    by_cases hq1 : 1 < q
    · have hd1 : decide ((1 : Int) < (q : Int)) = true := decide_eq_true (by omega)
      have hq2 : (1 : Int) ≤ (c1 : Int) := by omega
      go_region_held3 (fun _ => True) (exact trivial) (first
        | (go_at_call 38; refine (HE2.out _ (F6.out.drew)).mono ?_; rintro en w7 ⟨v7, rfl, hown, hfr⟩; rw [HT1.out hq1] at hown; have R7 := hide hown; obtain ⟨A7, c7, rfl, x1, x2, _⟩ := hown.form; have F7 : Hid (Fr No w6 w7) := hide (((Fr.refl No w6).drew).tr hfr); clear hown hfr)
        | (go_at_call 34; refine (HSI.out w7 A7 c7 (HT1.out hq1) x1 x2 R7.out.rd F7.out hq1).mono ?_; rintro en w8 ⟨rfl, hfr⟩; have F8 := hide (F7.out.tr hfr); clear hfr))
      go_wp2
      go_meet
      exact ⟨rfl, F8⟩
    · have hd1 : decide ((1 : Int) < (q : Int)) = false := decide_eq_false (by omega)
      go_quiet (fail)
      go_wp2
      go_meet
      exact ⟨rfl, hide ((Fr.refl No w6).drewN _)⟩
  case rest =>
    obtain ⟨rfl, FC⟩ := hcut
    go_wp2_with (fail)
    have F0 := hide (F6.out.tr FC.out)
    clear F6 O6 FC HLs HC1 HE1 HE2 HSI HT1 HB2 HL1 FG
    have HHg := hide (fun i => HH.out wc.drew F0.out.drew i)
    have HAp : Hid (∀ W A7 A8 c7 c8 w7, Own W wc.heap.size 5 1 (.slice A7 r c7) r (by8 bs) → Own W w7.heap.size 5 1 (.slice A8 r c8) r (by8 bs) → Own w7 wc.heap.size 5 1 (.slice A7 r c7) r (by8 bs) → wc.heap.size ≤ w7.heap.size → wc.heap.size ≤ W.heap.size →
        Calls Tryd.prog 42 #[.slice (some ⟨W.heap.size, 0, none⟩) 2 2] (W.alloc (.cells #[.slice A7 r c7, .slice A8 r c8] 50)) (fun en w' => en = .returned (.bool true) ∧ Fr (fun k => wc.heap.size ≤ k) W w')) := hide (fun W A7 A8 c7 c8 w7 o7 o8 o70 h h2 => apart_two W w7 A7 A8 r c7 c8 wc.heap.size bs HRl.out.symm (by omega) o7 o8 o70 h h2)
    go_cut [4] from 46 to 82 (fun s wx => s = .bool true ∧ Hid (Fr No w wx))
    case rest =>
      obtain ⟨rfl, FE⟩ := hcut
      go_wp2
      go_ret
      exact ⟨rfl, FE.out⟩
    case first =>
      by_cases hn0 : n = 0
      · subst hn0
        have hv1 : hasI l (-1) = false := rfl
        have hv2 : hasI l 0 = false := by unfold hasI; rw [show (0 : Int).toNat = 0 from rfl, hasN_big (by rw [HL.out]; exact Nat.le_refl _)]; rfl
        refine wp_region_any (by kernel_rfl) ?_
        try (change wpAny _ _ _ _ _ _ _ (World.drew _))
        refine wpAny_take (i := 0) (v := ?_) rfl (by kernel_rfl) (by kernel_rfl) (by kernel_rfl) (fun _ _ _ h => h) (Or.inl ⟨by kernel_rfl, ?_⟩) ?_
        rotate_left 1
        · (intro w; go_simp; try with_reducible rfl)
        refine wpAny_ready (rs := [1]) (by kernel_rfl) (by simp) ?_
        refine AllReady.cons rfl (fun K hK => ?_) AllReady.nil
        go_simp
        go_at_call 15; refine (HHg.out _).mono ?_; rintro en wx ⟨rfl, rfl⟩
        refine hK _ _ ?_
        clear hK K
        refine wpAny_take (i := 2) (v := ?_) rfl (by kernel_rfl) (by kernel_rfl) (by kernel_rfl) (fun _ _ _ h => h) (Or.inl ⟨by kernel_rfl, ?_⟩) ?_
        rotate_left 1
        · (intro w; go_simp; try with_reducible rfl)
        refine wpAny_take (i := 3) (v := ?_) rfl (by kernel_rfl) (by kernel_rfl) (by kernel_rfl) (fun _ _ _ h => h) (Or.inl ⟨by kernel_rfl, ?_⟩) ?_
        rotate_left 1
        · (intro w; go_simp; try with_reducible rfl)
        refine wpAny_take (i := 4) (v := ?_) rfl (by kernel_rfl) (by kernel_rfl) (by kernel_rfl) (fun _ _ _ h => h) (Or.inl ⟨by kernel_rfl, ?_⟩) ?_
        rotate_left 1
        · (intro w; go_simp; try with_reducible rfl)
        refine wpAny_take (i := 5) (v := ?_) rfl (by kernel_rfl) (by kernel_rfl) (by kernel_rfl) (fun _ _ _ h => h) (Or.inl ⟨by kernel_rfl, ?_⟩) ?_
        rotate_left 1
        · (intro w; go_simp; try with_reducible rfl)
        refine wpAny_take (i := 6) (v := ?_) rfl (by kernel_rfl) (by kernel_rfl) (by kernel_rfl) (fun _ _ _ h => h) (Or.inl ⟨by kernel_rfl, ?_⟩) ?_
        rotate_left 1
        · (intro w; go_simp; try with_reducible rfl)
        refine wpAny_ready (rs := [7]) (by kernel_rfl) (by simp) ?_
        refine AllReady.cons rfl (fun K hK => ?_) AllReady.nil
        go_simp
        go_at_call 15; refine (HHg.out _).mono ?_; rintro en wx ⟨rfl, rfl⟩
        refine hK _ _ ?_
        clear hK K
        refine wpAny_take (i := 8) (v := ?_) rfl (by kernel_rfl) (by kernel_rfl) (by kernel_rfl) (fun _ _ _ h => h) (Or.inl ⟨by kernel_rfl, ?_⟩) ?_
        rotate_left 1
        · (intro w; go_simp; try with_reducible rfl)
        refine wpAny_take (i := 9) (v := ?_) rfl (by kernel_rfl) (by kernel_rfl) (by kernel_rfl) (fun _ _ _ h => h) (Or.inl ⟨by kernel_rfl, ?_⟩) ?_
        rotate_left 1
        · (intro w; go_simp; try with_reducible rfl)
        refine wpAny_take (i := 10) (v := ?_) rfl (by kernel_rfl) (by kernel_rfl) (by kernel_rfl) (fun _ _ _ h => h) (Or.inl ⟨by kernel_rfl, ?_⟩) ?_
        rotate_left 1
        · (intro w; go_simp; try with_reducible rfl)
        refine wpAny_take (i := 11) (v := ?_) rfl (by kernel_rfl) (by kernel_rfl) (by kernel_rfl) (fun _ _ _ h => h) (Or.inl ⟨by kernel_rfl, ?_⟩) ?_
        rotate_left 1
        · (intro w; go_simp; try with_reducible rfl)
        refine wpAny_take (i := 12) (v := ?_) rfl (by kernel_rfl) (by kernel_rfl) (by kernel_rfl) (fun _ _ _ h => h) (Or.inl ⟨by kernel_rfl, ?_⟩) ?_
        rotate_left 1
        · (intro w; go_simp; try with_reducible rfl)
        refine wpAny_take (i := 13) (v := ?_) rfl (by kernel_rfl) (by kernel_rfl) (by kernel_rfl) (fun _ _ _ h => h) (Or.inl ⟨by kernel_rfl, ?_⟩) ?_
        rotate_left 1
        · (intro w; go_simp; try with_reducible rfl)
        refine wpAny_take (i := 14) (v := ?_) rfl (by kernel_rfl) (by kernel_rfl) (by kernel_rfl) (fun _ _ _ h => h) (Or.inl ⟨by kernel_rfl, ?_⟩) ?_
        rotate_left 1
        · (intro w; go_simp; try with_reducible rfl)
        refine wpAny_take (i := 15) (v := undef) rfl (by kernel_rfl) (by kernel_rfl) (by kernel_rfl) (fun _ _ _ h => h) (Or.inr ⟨by kernel_rfl, rfl⟩) ?_
        refine wpAny_take (i := 16) (v := undef) rfl (by kernel_rfl) (by kernel_rfl) (by kernel_rfl) (fun _ _ _ h => h) (Or.inr ⟨by kernel_rfl, rfl⟩) ?_
        refine wpAny_take (i := 17) (v := undef) rfl (by kernel_rfl) (by kernel_rfl) (by kernel_rfl) (fun _ _ _ h => h) (Or.inr ⟨by kernel_rfl, rfl⟩) ?_
        refine wpAny_take (i := 18) (v := undef) rfl (by kernel_rfl) (by kernel_rfl) (by kernel_rfl) (fun _ _ _ h => h) (Or.inr ⟨by kernel_rfl, rfl⟩) ?_
        refine wpAny_take (i := 19) (v := undef) rfl (by kernel_rfl) (by kernel_rfl) (by kernel_rfl) (fun _ _ _ h => h) (Or.inr ⟨by kernel_rfl, rfl⟩) ?_
        refine wpAny_take (i := 20) (v := undef) rfl (by kernel_rfl) (by kernel_rfl) (by kernel_rfl) (fun _ _ _ h => h) (Or.inr ⟨by kernel_rfl, rfl⟩) ?_
        refine wpAny_take (i := 21) (v := undef) rfl (by kernel_rfl) (by kernel_rfl) (by kernel_rfl) (fun _ _ _ h => h) (Or.inr ⟨by kernel_rfl, rfl⟩) ?_
        refine wpAny_take (i := 22) (v := undef) rfl (by kernel_rfl) (by kernel_rfl) (by kernel_rfl) (fun _ _ _ h => h) (Or.inr ⟨by kernel_rfl, rfl⟩) ?_
        refine wpAny_take (i := 23) (v := undef) rfl (by kernel_rfl) (by kernel_rfl) (by kernel_rfl) (fun _ _ _ h => h) (Or.inr ⟨by kernel_rfl, rfl⟩) ?_
        refine wpAny_take (i := 24) (v := undef) rfl (by kernel_rfl) (by kernel_rfl) (by kernel_rfl) (fun _ _ _ h => h) (Or.inr ⟨by kernel_rfl, rfl⟩) ?_
        refine wpAny_take (i := 25) (v := undef) rfl (by kernel_rfl) (by kernel_rfl) (by kernel_rfl) (fun _ _ _ h => h) (Or.inr ⟨by kernel_rfl, rfl⟩) ?_
        refine wpAny_take (i := 26) (v := undef) rfl (by kernel_rfl) (by kernel_rfl) (by kernel_rfl) (fun _ _ _ h => h) (Or.inr ⟨by kernel_rfl, rfl⟩) ?_
        refine wpAny_take (i := 27) (v := ?_) rfl (by kernel_rfl) (by kernel_rfl) (by kernel_rfl) (fun _ _ _ h => h) (Or.inl ⟨by kernel_rfl, ?_⟩) ?_
        rotate_left 1
        · (intro w; go_simp; try with_reducible rfl)
        refine wpAny_take (i := 28) (v := ?_) rfl (by kernel_rfl) (by kernel_rfl) (by kernel_rfl) (fun _ _ _ h => h) (Or.inl ⟨by kernel_rfl, ?_⟩) ?_
        rotate_left 1
        · (intro w; go_simp; try with_reducible rfl)
        refine wpAny_take (i := 29) (v := ?_) rfl (by kernel_rfl) (by kernel_rfl) (by kernel_rfl) (fun _ _ _ h => h) (Or.inl ⟨by kernel_rfl, ?_⟩) ?_
        rotate_left 1
        · (intro w; go_simp; try with_reducible rfl)
        refine wpAny_take (i := 30) (v := ?_) rfl (by kernel_rfl) (by kernel_rfl) (by kernel_rfl) (fun _ _ _ h => h) (Or.inl ⟨by kernel_rfl, ?_⟩) ?_
        rotate_left 1
        · (intro w; go_simp; try with_reducible rfl)
        refine wpAny_take (i := 32) (v := ?_) rfl (by kernel_rfl) (by kernel_rfl) (by kernel_rfl) (fun _ _ _ h => h) (Or.inl ⟨by kernel_rfl, ?_⟩) ?_
        rotate_left 1
        · (intro w; go_simp; try with_reducible rfl)
        refine wpAny_ready (rs := [31]) (by kernel_rfl) (by simp) ?_
        refine AllReady.cons rfl (fun K hK => ?_) AllReady.nil
        go_simp
        go_at_call 37; refine (HB1.out _ F0.out.drew).mono ?_; rintro en w7 ⟨v7, rfl, hown, hfr⟩; rw [← HRl.out] at hown; have O7 : Hid (Own w7 wc.heap.size 5 1 v7 r (by8 bs)) := hide hown; obtain ⟨A7, c7, rfl, x1, x2, _⟩ := hown.form; have F7 := hide (F0.out.drew.tr hfr); have z7 : Hid (wc.heap.size ≤ w7.heap.size) := hide hfr.size; clear hown hfr
        refine hK _ _ ?_
        clear hK K
        refine wpAny_ready (rs := [33]) (by kernel_rfl) (by simp) ?_
        refine AllReady.cons rfl (fun K hK => ?_) AllReady.nil
        go_simp
        go_at_call 37; refine (HB1.out w7 F7.out).mono ?_; rintro en w8 ⟨v8, rfl, hown, hfr⟩; rw [← HRl.out] at hown; have O8 := hide hown; obtain ⟨A8, c8, rfl, y1, y2, _⟩ := hown.form; have F8 := hide (F7.out.tr hfr); have O78 := hide (O7.out.fr0 hfr); have z8 : Hid (wc.heap.size ≤ w8.heap.size) := hide (Nat.le_trans z7.out hfr.size); clear hown hfr
        refine hK _ _ ?_
        clear hK K
        refine wpAny_ready (rs := [34]) (by kernel_rfl) (by simp) ?_
        refine AllReady.cons rfl (fun K hK => ?_) AllReady.nil
        go_simp
        refine hK _ _ ?_
        clear hK K
        refine wpAny_ready (rs := [35]) (by kernel_rfl) (by simp) ?_
        refine AllReady.cons rfl (fun K hK => ?_) AllReady.nil
        go_simp
        go_at_call 42; refine (HAp.out w8 A7 A8 c7 c8 w7 O78.out O8.out O7.out z7.out z8.out).mono ?_; rintro en w9 ⟨rfl, hfr⟩; have F9 : Hid (Fr No w w9) := hide (F8.out.trans hfr (fun i hi e => by have e : wc.heap.size ≤ i := e; have := F0.out.size; omega)); clear hfr
        refine hK _ _ ?_
        clear hK K
        refine wpAny_take (i := 36) (v := ?_) rfl (by kernel_rfl) (by kernel_rfl) (by kernel_rfl) (fun _ _ _ h => h) (Or.inl ⟨by kernel_rfl, ?_⟩) ?_
        rotate_left 1
        · (intro w; go_simp; try with_reducible rfl)
        refine wpAny_take (i := 37) (v := ?_) rfl (by kernel_rfl) (by kernel_rfl) (by kernel_rfl) (fun _ _ _ h => h) (Or.inl ⟨by kernel_rfl, ?_⟩) ?_
        rotate_left 1
        · (intro w; go_simp; try with_reducible rfl)
        refine wpAny_done (by kernel_rfl) ?_ _
        go_wp2
        go_meet
        exact ⟨rfl, F9⟩
      · obtain ⟨k, rfl⟩ : ∃ k, n = k + 1 := ⟨n - 1, by omega⟩
        obtain ⟨ad, rfl, had, _⟩ := HR.out.boolAt (j := k) (by rw [HL.out]; omega)
        have HS := hide (fun W (f : Fr No w W) => (show W.cell? (ad.add k) = some (.bool (hasN l k)) by
          obtain ⟨ad', e, _, hc⟩ := (HR.out.fr0 f).boolAt (j := k) (by rw [HL.out]; omega)
          injection e with e
          subst e
          exact hc))
        have hv1 : hasI l (-1) = false := rfl
        have hv2 : hasI l ((k : Int) + 1) = false := by
          unfold hasI
          rw [show ((k : Int) + 1).toNat = k + 1 by omega, hasN_big (by rw [HL.out]; exact Nat.le_refl _)]
          simp
        have hv3 : hasI l (k : Int) = hasN l k := by
          unfold hasI
          rw [Int.toNat_natCast, decide_eq_true (by omega)]
          rfl
        have hS0 := HS.out wc F0.out
        generalize hasN l k = b at HS hS0 hv3
        have hbb : (b == b) = true := by cases b <;> rfl
        have hk0 : (0 : Int) ≤ (k : Int) := by omega
        have hk1 : (k : Int) < (k : Int) + 1 := by omega
        have hk2 : IntKind.i64.wrap (k : Int) = (k : Int) := IntWalk.i64_in _ (by omega)
        have hk3 : IntKind.i64.wrap ((k : Int) + 1 - 1) = (k : Int) := by rw [IntWalk.i64_in _ (by omega)]; omega
        have hk4 : IntKind.i64.wrap ((k : Int) + 1) = (k : Int) + 1 := IntWalk.i64_in _ (by omega)
        go_region_held3 (fun W => W.cell? (ad.add k) = some (.bool b)) (first | exact hS9 | exact hS8 | exact hS7 | exact hS0 | exact HS.out _ (F8.out.alloc _)) (first
          | (go_at_call 15; refine (HHg.out _).mono ?_; rintro en wx ⟨rfl, rfl⟩)
          | (go_at_call 37; have mk := Q7; clear mk; refine (HB1.out w7 F7.out).mono ?_; rintro en w8 ⟨v8, rfl, hown, hfr⟩; rw [← HRl.out] at hown; have O8 := hide hown; obtain ⟨A8, c8, rfl, y1, y2, _⟩ := hown.form; have F8 := hide (F7.out.tr hfr); have O78 := hide (O7.out.fr0 hfr); have z8 : Hid (wc.heap.size ≤ w8.heap.size) := hide (Nat.le_trans z7.out hfr.size); have hS8 := HS.out w8 F8.out; clear hown hfr)
          | (go_at_call 37; refine (HB1.out _ F0.out.drew).mono ?_; rintro en w7 ⟨v7, rfl, hown, hfr⟩; rw [← HRl.out] at hown; have O7 : Hid (Own w7 wc.heap.size 5 1 v7 r (by8 bs)) := hide hown; obtain ⟨A7, c7, rfl, x1, x2, _⟩ := hown.form; have F7 := hide (F0.out.drew.tr hfr); have z7 : Hid (wc.heap.size ≤ w7.heap.size) := hide hfr.size; have Q7 := hide True.intro; have hS7 := HS.out w7 F7.out; clear hown hfr)
          | (go_at_call 42; refine (HAp.out w8 A7 A8 c7 c8 w7 O78.out O8.out O7.out z7.out z8.out).mono ?_; rintro en w9 ⟨rfl, hfr⟩; have F9 : Hid (Fr No w w9) := hide (F8.out.trans hfr (fun i hi e => by have e : wc.heap.size ≤ i := e; have := F0.out.size; omega)); have hS9 := HS.out w9 F9.out; clear hfr))
        go_wp2
        go_meet
        exact ⟨rfl, F9⟩
end Go.Proofs.YtapfbjaopbcgjaaDoor
