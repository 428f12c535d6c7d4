/- frame.Open: what it gives of any bytes. -/
import Derived.Test.YtapfbjaopbcgjaaKindW
import Derived.Test.YtapfbjaopbcgjaaVals
import Derived.Test.YtapfbjaopbcgjaaFour
import Derived.Test.YtapfbjaopbcgjaaTakeN
import Derived.Test.YtapfbjaopbcgjaaTakeB
import Derived.Deep.RegionWith
import Derived.StillTailTactics
import Derived.Deep.RegionHeld3
import Derived.Deep.DeepCutAuto
namespace Go.Proofs.Ytapfbjaopbcgjaa
set_option linter.unusedVariables false
set_option linter.unusedSimpArgs false
open Go.RowKit

def GivesOpen (kind : UInt8) (d : List UInt8) (w : World) (en : Ending) (w' : World) : Prop :=
  ∃ v vals, en = .returned (.tuple #[v, .int .i64 (openE kind d)]) ∧ Own w' w.heap.size 23 1 v (openL kind d).length vals ∧ Vals w' w.heap.size vals (openL kind d) ∧ Fr No w w'
theorem open_fail {kind : UInt8} {d : List UInt8} {w w' : World} {e : Int} (he : openE kind d = e) (h0 : e ≠ 0) (f : Fr No w w') : GivesOpen kind d w (.returned (.tuple #[.slice none 0 0, .int .i64 e])) w' := by
  have hL : openL kind d = [] := by unfold openL; rw [he, if_neg h0]
  refine ⟨.slice none 0 0, [], by rw [he], ?_, ?_, f⟩
  · rw [hL]; exact Own.nil _ _ _ _
  · rw [hL]; exact Vals.nil _ _
theorem open_ok {kind : UInt8} {d : List UInt8} {w w' : World} {G k : Nat} {v : Value} {vals : List Value} {bl : List (List UInt8)} (he : openE kind d = 0) (hL : openL kind d = bl) (hk : bl.length = k) (hG : w.heap.size ≤ G) (o : Own w' G 23 1 v k vals) (V : Vals w' G vals bl) (f : Fr No w w') : GivesOpen kind d w (.returned (.tuple #[v, .int .i64 0])) w' := by
  subst hk
  subst hL
  exact ⟨v, vals, by rw [he], o.lower hG, V.lower hG, f⟩
theorem openE_bad {kind : UInt8} {d : List UInt8} (h1 : ¬ 16777216 < d.length) (h : ¬ (kindOK d = true ∧ d.getD 3 0 = kind ∧ 8 ≤ d.length ∧ crcOK d = true)) : openE kind d = 20 := by
  unfold openE
  rw [if_neg h1, if_neg (by unfold goodB; simpa using h)]

theorem RD.apart {w w' : World} {g : Nat} {bs : List UInt8} {a : Nat} {e : Int} {b2 e2 s2 n2 : Nat} {v2 : Value} {xs2 : List Value} (h : RD w g bs a e) (o : Own w b2 e2 s2 v2 n2 xs2) (h1 : 5 ≠ e2) (h2 : e2 ≠ 72) (f : Fr (fun k => v2.ownBlock = some k) w w') : RD w' g bs a e := by
  obtain ⟨A, c, hh, q1, q2, q3, q4, ho⟩ := h
  refine ⟨A, c, f.blk hh (fun hk => o.ne_blk hk hh h2), q1, q2, q3, q4, ho.fr f (fun k hk e => ho.apart o h1 k hk e)⟩
theorem Try.infoI : (Try.prog.info? 3).map (fun i => (i.zero, i.size, i.bytes)) = some (some (.int .i64 0), 1, 8) := by kernel_rfl
theorem make_ints (k : Nat) (hk : k ≤ 1048576) (W : World) : (Instr.makeSlice 58 (.int .i64 (k : Nat)) (.int .i64 (k : Nat))).run Try.prog W = .ok (.slice (some ⟨W.heap.size, 0, none⟩) k k) (W.alloc (.cells (madeCells #[.int .i64 0] k) 3)) := by
  obtain ⟨i0, hi, hz, hsz, hby⟩ := info_parts Try.infoI
  have h := run_make (P := Try.prog) W 58 3 i0 (.int .i64 0) Try.underlying58 hi hz .i64 .i64 (k : Int) (k : Int) (by omega) (by omega) (by rw [hby]; omega) (by omega)
  rw [Int.toNat_natCast, hsz, Nat.mul_one] at h
  exact h

set_option maxRecDepth 100000 in
set_option maxHeartbeats 400000 in
theorem clipB_any (A : Option Addr) (n c : Nat) (w : World) (hn : n ≤ c) (hc : c ≤ maxLen) :
    Calls Try.prog 36 #[.slice A n c] w (Ret (.slice A n n) w) := by
  unfold maxLen at hc
  go_enter Try.func36, Try.ntmps36
  go_wp2
  go_ret
  exact ⟨by simp, rfl⟩

theorem ints_set {l : List Nat} {j k y : Nat} (hj : j < k) (hl : l.length = j) : (ints l ++ List.replicate (k - j) (Value.int .i64 0)).set j (.int .i64 (y : Nat)) = ints (l ++ [y]) ++ List.replicate (k - (j + 1)) (Value.int .i64 0) := by
  have h1 : (ints l).length = j := by simp [ints, hl]
  rw [List.set_append, if_neg (by omega), h1, Nat.sub_self, show k - j = (k - (j + 1)) + 1 by omega, List.replicate_succ, List.set_cons_zero]
  simp [ints]

set_option maxRecDepth 100000 in
set_option maxHeartbeats 4000000 in
theorem open_any (kind : UInt8) (A : Option Addr) (n c B : Nat) (d : List UInt8) (w : World) (hl : d.length = n) (hn : n ≤ c) (hc : c ≤ maxLen) (hB : B ≤ w.heap.size) (hr : Rd w B A (by8 d)) :
    Calls Try.prog 17 #[.int .u8 (kind.toNat : Nat), .slice A n c] w (GivesOpen kind d w) := by
  have HC := hide hc
  unfold maxLen at hc
  have HR := hide hr
  have HL := hide hl
  clear hr hl
  by_cases hbig : 16777216 < n
  · have HE := hide (show openE kind d = 3 from if_pos (by rw [HL.out]; exact hbig))
    go_enter Try.func17, Try.ntmps17
    go_wp2
    go_ret2
    exact open_fail HE.out (by decide) (Fr.refl _ _)
  · have HBig := hide (show ¬ 16777216 < d.length by rw [HL.out]; exact hbig)
    by_cases hk : kindOK d = true
    · have HK := hide (fun W (h : Rd W B A (by8 d)) => kind_yes A n c B d W HL.out hn HC.out h hk)
      have h4 : 4 ≤ n := by rw [← HL.out]; exact (of_decide_eq_true hk).1
      have HK0 := hide hk
      clear hk
      by_cases hkk : d.getD 3 0 = kind
      · subst hkk
        by_cases h8 : 8 ≤ n
        · have hb : ((((d.getD 3 0).toNat : Nat) : Int) != (((d.getD 3 0).toNat : Nat) : Int)) = false := by simp
          obtain ⟨kz, hkz⟩ : ∃ kz, kz = ((((d.getD 3 0).toNat : Nat) : Int)) := ⟨_, rfl⟩
          rw [← hkz] at hb HK ⊢
          clear hkz
          obtain ⟨q, hnq⟩ : ∃ q, n = q + 4 := ⟨n - 4, by omega⟩
          have hq4 : 4 ≤ q := by omega
          have hqn : q ≤ n := by omega
          have HQ := hide hnq
          have e4 : (n : Int) - 4 = (q : Int) := by omega
          have e5 : n - q = 4 := by omega
          clear hnq
          have hdq : decide ((q : Int) < 4) = false := by simp; omega
          have hq0 : (0 : Int) ≤ (q : Int) := by omega
          have hqC : (q : Int) ≤ (c : Int) := by omega
          have hqN : (q : Int) ≤ (n : Int) := by omega
          obtain ⟨ad, rfl, _, _⟩ := HR.out.byte (k := 0) (by rw [HL.out]; omega)
          have HR1 := hide (show Rd w B (some ad) (by8 (d.take q)) by rw [by8_take]; exact HR.out.tk q)
          have HR2 := hide (show Rd w B (some (ad.add q)) (by8 (d.drop q)) by rw [by8_drop]; exact HR.out.dr q)
          have HL1 := hide (show (d.take q).length = q by rw [List.length_take, HL.out, HQ.out]; omega)
          have HL2 := hide (show (d.drop q).length = 4 by rw [List.length_drop, HL.out, HQ.out]; omega)
          have hqc : q < c := by omega
          have hcr := crcOf_lt (d.take q)
          have HCB := hide (show [d.take q].flatten = d.take q by simp)
          have HOK := hide (show crcOK d = decide (d.drop q = fourB (crcOf (d.take q))) by
            unfold crcOK
            rw [HL.out, show n - 4 = q by have := HQ.out; omega])
          obtain ⟨cr, HCR⟩ : ∃ cr, Hid (cr = crcOf (d.take q)) := ⟨_, hide rfl⟩
          rw [← HCR.out] at hcr
          have HG4 := hide (fun (W W' : World) (en : Ending) (h : GivesB W (fourB cr) en W') => give_slice (k := 4) rfl h)
          obtain ⟨bb, HBB⟩ : ∃ bb, Hid (bb = decide (d.drop q = fourB cr)) := ⟨_, hide rfl⟩
          have HOK2 := hide (show crcOK d = bb by rw [HOK.out, HBB.out, HCR.out])
          clear hbig
          have hbig : decide ((16777216 : Int) < (n : Int)) = false := by
            apply decide_eq_false
            have := HBig.out
            rw [HL.out] at this
            omega
          go_enter Try.func17, Try.ntmps17
          go_upto_region 5 with (go_at_call 19; refine (HK.out _ HR.out).mono ?_; rintro en w1 ⟨rfl, nq, rfl⟩)
          have H1 : Hid (Rd (w.drewN nq) B (some ad) (by8 (d.take q))) := hide (HR1.out.fr0 ((Fr.refl No w).drewN nq))
          have F0 : Hid (Fr No w (w.drewN nq)) := hide ((Fr.refl No w).drewN nq)
          have hB1 : B ≤ (w.drewN nq).heap.size := hB
          generalize w.drewN nq = w1 at H1 F0 hB1 ⊢
          have HSum : Hid (Calls Try.prog 13 #[.slice (some ⟨w1.heap.size, 0, none⟩) 1 1] ((w1.alloc (.cells #[.slice (some ad) q c] 23)).drew) (RetF (.int .u32 (cr : Nat)) w1)) := hide (by
            have h := sum_any (some ⟨w1.heap.size, 0, none⟩) 1 1 (w1.heap.size + 1) [d.take q] ((w1.alloc (.cells #[.slice (some ad) q c] 23)).drew) rfl (Nat.le_refl _) (by unfold maxLen; omega) (by simp) ((BSl.single HL1.out (by omega) HC.out H1.out hB1).fr0 ((Fr.refl No _).drew))
            rw [HCB.out, ← HCR.out] at h
            exact h.mono fun en w' ⟨he, hf⟩ => ⟨he, (((Fr.refl No w1).alloc _).drew).tr hf⟩)
          go_cut [49] from 26 to 49 (fun s wx => s = .bool (!bb) ∧ Hid (Fr No w wx))
          case first =>
            clear HR HR1 HK HQ HK0 HOK HOK2 HBig
            go_region_held3 (fun _ => True) (exact trivial) (first
              | (go_at_call 13; refine HSum.out.mono ?_; rintro en w6 ⟨rfl, hfr⟩; have F6 := hide (F0.out.tr hfr); have H6 := hide (HR2.out.fr0 F6.out); clear hfr)
              | (go_at_call 27; refine (four_any cr _ hcr).mono ?_; intro en w7 hg7; obtain ⟨A7, c7, rfl, hx1, hx2, hx3, hfr⟩ := HG4.out _ _ _ hg7; have H7 := hide (H6.out.fr0 hfr); have F7 := hide (F6.out.tr hfr); have HX7 := hide hx3; clear hg7 hx3 hfr)
              | (go_at_call 31; refine (equal_any _ _ _ _ _ _ _ _ _ _ _ HL2.out rfl H7.out HX7.out).mono ?_; rw [← HBB.out]; rintro en w8 ⟨rfl, nq8, rfl⟩))
            go_wp2
            go_meet
            exact ⟨by cases bb <;> rfl, hide (F7.out.drewN nq8)⟩
          case rest =>
            obtain ⟨rfl, FC⟩ := hcut
            cases bb
            · have HE := hide (openE_bad (kind := d.getD 3 0) HBig.out (fun h => by rw [HOK2.out] at h; exact Bool.false_ne_true h.2.2.2))
              go_wp2
              go_ret2
              exact open_fail HE.out (by decide) FC.out
            · have HE := hide (show openE (d.getD 3 0) d = endEP (midB d) (readB (midB d)).2.1 (readB (midB d)).2.2 by
                unfold openE
                rw [if_neg HBig.out, if_pos (show goodB (d.getD 3 0) d = true from decide_eq_true ⟨HK0.out, rfl, by rw [HL.out]; exact h8, HOK2.out⟩)])
              have hmd : midB d = (d.take q).drop 4 := by
                unfold midB
                rw [HL.out, show n - 4 = q by have := HQ.out; omega]
              have HM := hide (show Rd wc B (some ⟨ad.block, ad.off + 4, none⟩) (by8 (midB d)) by
                have h := (HR1.out.dr 4).fr0 FC.out
                rw [← by8_drop, ← hmd, show ad.add 4 = ⟨ad.block, ad.off + 4, none⟩ from by simp [Addr.add]] at h
                exact h)
              have HML := hide (show (midB d).length = q - 4 by rw [hmd, List.length_drop, HL1.out])
              clear hmd H1 F0 HSum HR HR1 HR2 HL1 HL2 HK HQ HK0 HOK HOK2 HG4 HBB HCB HCR
              have HEL := hide (show openL (d.getD 3 0) d = if openE (d.getD 3 0) d = 0 then (readB (midB d)).1 else [] from rfl)
              unfold readB at HE HEL
              generalize midB d = m at HM HML HE HEL
              have HS0 := hide (fun g W (h : RD W g m 0 0) => size_any g m 0 0 1024 W h (by decide) (by decide))
              have hk0 : (sizeS m 0 0 1024).1 ≤ 1024 := sizeS_le m 0 0 1024
              generalize sizeS m 0 0 1024 = x0 at HS0 hk0 HE HEL
              obtain ⟨k, a1, e1⟩ := x0
              dsimp only at HS0 hk0 HE HEL
              have hmk := make_ints k (by omega)
              have hBc : B ≤ wc.heap.size := Nat.le_trans hB FC.out.size
              go_wp2_with (first
                | (go_at_call 32; refine (newReader_any _ _ _ B m wc HML.out (by omega) (by unfold maxLen; omega) (by have h1 := HBig.out; rw [HL.out] at h1; omega) hBc HM.out).mono ?_; rintro en w2 ⟨g, rfl, hg, hrd, hfr⟩; have R2 := hide hrd; have F2 := hide (FC.out.tr hfr); have hgw : w.heap.size ≤ g := Nat.le_trans FC.out.size hg; clear hrd hfr hg)
                | (go_at_call 33; refine (HS0.out g _ R2.out).mono ?_; rintro en w3 ⟨rfl, hrd, hfr⟩; have R3 := hide hrd; have F3 := hide (F2.out.own1 hfr hgw); clear hrd hfr))
              have hgG : g < w3.heap.size := R3.out.lt
              have hwG : w.heap.size ≤ w3.heap.size := F3.out.size
              have hkm : k ≤ maxLen := by unfold maxLen; omega
              have SZ := hide (made_own w3 k 3 (.int .i64 0) #[.int .i64 0] rfl hkm)
              have R4 := hide (R3.out.fr0 ((Fr.refl No w3).alloc (.cells (madeCells #[.int .i64 0] k) 3)))
              have F4 := hide (F3.out.alloc (.cells (madeCells #[.int .i64 0] k) 3))
              obtain ⟨w4, hw4⟩ : ∃ w4, w4 = w3.alloc (.cells (madeCells #[.int .i64 0] k) 3) := ⟨_, rfl⟩
              have hG4 : w3.heap.size ≤ w4.heap.size := by rw [hw4]; simp
              rw [← hw4] at SZ R4 F4
              try rw [← hw4]
              clear hw4 hmk HS0 R2 R3 F2 F3 FC HM
              generalize w3.heap.size = G at *
              go_loopw [59] (fun i wr => ∃ (j a : Nat) (e : Int), j ≤ k ∧ i = .int .i64 j ∧ Hid (a = (sizesR m a1 e1 j).2.1 ∧ e = (sizesR m a1 e1 j).2.2) ∧ Hid (RD wr g m a e) ∧ Hid (Own wr G 3 1 (.slice (some ⟨G, 0, none⟩) k k) k (ints (sizesR m a1 e1 j).1 ++ List.replicate (k - j) (.int .i64 0))) ∧ Hid (Fr No w wr) ∧ G ≤ wr.heap.size) (fun i _ => k - (intOf i).toNat)
              case atStart => exact ⟨0, a1, e1, by omega, rfl, hide ⟨rfl, rfl⟩, R4, hide (by simpa [sizesR, ints] using SZ.out), F4, hG4⟩
              case round =>
                clear SZ R4 F4
                obtain ⟨j, a, e, hj, rfl, HA, RR, OO, FF, hGr⟩ := hrel
                by_cases hlt : j < k
                · have HSz := hide (fun W (h : RD W g m a e) => size_any g m a e 16777216 W h (by decide) (by decide))
                  obtain ⟨y, HY⟩ : ∃ y, Hid (y = sizeS m a e 16777216) := ⟨_, hide rfl⟩
                  rw [← HY.out] at HSz
                  have HN := hide (show (sizesR m a1 e1 (j + 1)).1 = (sizesR m a1 e1 j).1 ++ [y.1] ∧ (sizesR m a1 e1 (j + 1)).2 = y.2 by
                    rw [HY.out, HA.out.1, HA.out.2]
                    exact ⟨rfl, rfl⟩)
                  obtain ⟨y1, y2, y3⟩ := y
                  dsimp only at HN HSz
                  have HNS := hide (ints_set (l := (sizesR m a1 e1 j).1) (y := y1) hlt (sizesR_len m a1 e1 j))
                  go_wp2_with (go_at_call 33; refine (HSz.out _ RR.out).mono ?_; rintro en w6 ⟨rfl, hrd, hfr⟩; have R6 := hide hrd; have F6 := hide (FF.out.own1 hfr hgw); have O6 := hide (OO.out.above hfr (fun k h => by have : k = g := h; omega)); have hG6 := hfr.size; clear hrd hfr; obtain ⟨g', hg', _, _, hcl, hfz, hst⟩ := O6.out.store (k := j) hlt; obtain rfl : G = g' := congrArg Addr.block (Option.some.inj hg'); have HST := hide hst; clear hst hg'; obtain ⟨v0, hv0⟩ := O6.out.some_at hlt; rw [hv0] at hcl; clear hv0)
                  go_roundw
                  case rel =>
                    refine ⟨j + 1, y2, y3, by omega, by go_num, hide (by rw [HN.out.2]; exact ⟨rfl, rfl⟩), hide (R6.out.apart O6.out (by decide) (by decide) (Fr.putO w6 G j k k _)), hide ?_, hide (F6.out.setCell (p := ⟨G, j, none⟩) (fun h => absurd h (by show ¬ G < w.heap.size; omega)) _), by simp [World.setCell]; omega⟩
                    have h := HST.out (.int .i64 (y1 : Nat))
                    rw [HNS.out] at h
                    rw [HN.out.1]
                    exact h
                  case measure => simp [intOf]; omega
                · obtain rfl : k = j := by omega
                  have OO2 : Hid (Own wr G 3 1 (.slice (some ⟨G, 0, none⟩) k k) k (ints (sizesR m a1 e1 k).1)) := hide (by
                    have h := OO.out
                    rw [Nat.sub_self, List.replicate_zero, List.append_nil] at h
                    exact h)
                  obtain ⟨szs, HSZ⟩ : ∃ szs, Hid (szs = (sizesR m a1 e1 k).1) := ⟨_, hide rfl⟩
                  rw [← HSZ.out] at OO2 HE HEL
                  have HSL := hide (show szs.length = k by rw [HSZ.out, sizesR_len])
                  rw [← HA.out.1, ← HA.out.2] at HE HEL
                  clear HA HSZ OO
                  obtain ⟨i0, hi, hz, hsz, hby⟩ := info_parts Try.infoB
                  go_wp2
                  clear hlt hj
                  obtain ⟨wb, rfl⟩ : ∃ wb : World, wb = wr := ⟨_, rfl⟩
                  go_loopw [12, 70] (fun v i wr => ∃ (j a' : Nat) (e' : Int) (vals : List Value), j ≤ k ∧ i = .int .i64 j ∧ Hid (a' = (blocksR m szs a e j).2.1 ∧ e' = (blocksR m szs a e j).2.2) ∧ Hid (RD wr g m a' e') ∧ Hid (Own wr G 3 1 (.slice (some ⟨G, 0, none⟩) k k) k (ints szs)) ∧ Hid (Own wr G 23 1 v j vals) ∧ Hid (Vals wr G vals (blocksR m szs a e j).1) ∧ Hid (Fr No w wr) ∧ G ≤ wr.heap.size) (fun _ i _ => k - (intOf i).toNat)
                  case atStart => exact ⟨0, a, e, [], by omega, rfl, hide ⟨rfl, rfl⟩, RR, OO2, hide (Own.nil _ _ _ _), hide (Vals.nil _ _), FF, hGr⟩
                  case round =>
                    clear RR OO2 FF hGr
                    obtain ⟨j, a', e', vals, hj, rfl, HA, RR, OO, OV, VV, FF, hGr⟩ := hrel
                    by_cases hlt : j < k
                    · obtain ⟨g', hg', _, _, hcl, _, _⟩ := OO.out.store (k := j) hlt
                      obtain rfl : G = g' := by
                        cases hg'
                        rfl
                      have hsj : (ints szs)[j]? = some (.int .i64 (szs.getD j 0 : Nat)) := by
                        have h1 : j < szs.length := by rw [HSL.out]; exact hlt
                        simp [ints, List.getElem?_map, List.getElem?_eq_getElem h1]
                      rw [hsj] at hcl
                      clear hsj hg'
                      have HBy := hide (fun W (h : RD W g m a' e') => bytes_any g m a' e' (szs.getD j 0 : Nat) W h)
                      obtain ⟨y, HY⟩ : ∃ y, Hid (y = bytesS m a' e' (szs.getD j 0 : Nat)) := ⟨_, hide rfl⟩
                      rw [← HY.out] at HBy
                      have HN := hide (show (blocksR m szs a e (j + 1)).1 = (blocksR m szs a e j).1 ++ [y.1] ∧ (blocksR m szs a e (j + 1)).2 = y.2 by
                        rw [HY.out, HA.out.1, HA.out.2]
                        exact ⟨rfl, rfl⟩)
                      clear HY
                      obtain ⟨y1, y2, y3⟩ := y
                      dsimp only at HN HBy
                      generalize szs.getD j 0 = sj at hcl HBy
                      have b1 : (j + 1) * 24 ≤ 140737488355328 := by omega
                      have b2 : j + 1 ≤ maxLen := by unfold maxLen; omega
                      go_wp2_with (first
                        | (go_at_call 34; refine (HBy.out _ RR.out).mono ?_; rintro en w6 ⟨v6, rfl, hown, hrd, hfr⟩; obtain ⟨A6, c6, rfl, hq1, hq2, _, _, _⟩ := hown.form; have R6 := hide hrd; have F6 := hide (FF.out.own1 hfr hgw); have hS : ∀ k, Is g k → k < G := (fun k h => by have : k = g := h; omega); have O6 := hide (OO.out.above hfr hS); have P6 := hide (OV.out.above hfr hS); have V6 := hide (VV.out.snoc (VV.out.above hfr hS) hown hGr); have hG6 := Nat.le_trans hGr hfr.size; clear hrd hfr hown hS)
                        | (at_builtin; refine wpList_append_gen _ rfl (.tmp 74) (.tmp 78) 22 22 rfl G 23 i0 (.slice none 0 0) 1 24 Try.underlying22 hi hz hsz hby rfl _ j vals rfl (P6.out.fr0 ((Fr.refl No w6).alloc _)) _ 1 _ rfl (src_slice w6 A6 y1.length c6) b1 b2 (Nat.le_trans hG6 (by simp)) ?_; intro v7 w7 hown hfr hat; have O7 := hide hown; have f7 := (((Fr.refl (fun k => _ = some k) w6).alloc _).ts hfr); have R7 := hide (R6.out.apart P6.out (by decide) (by decide) f7); have Z7 := hide (O6.out.fr f7 (fun k hk e => O6.out.apart P6.out (by decide) k hk e)); have V7 := hide (V6.out.other P6.out (by decide) f7); have F7 := hide (F6.out.trans f7 (fun i hi e => by have := (P6.out.lt i e).1; omega)); have hG7 := Nat.le_trans hG6 f7.size; clear hown hfr hat f7))
                      go_roundw
                      case rel => exact ⟨j + 1, y2, y3, _, by omega, by go_num, hide (by rw [HN.out.2]; exact ⟨rfl, rfl⟩), R7, Z7, O7, hide (by rw [HN.out.1]; exact V7.out), F7, hG7⟩
                      case measure => simp [intOf]; omega
                    · obtain rfl : k = j := by omega
                      rw [← HA.out.1, ← HA.out.2] at HE
                      obtain ⟨Av, cv, rfl, hv1, hv2, _, _, _⟩ := OV.out.form
                      have HEn := hide (fun W (h : RD W g m a' e') => end_any g m a' e' W h)
                      have HBL := hide (blocksR_len m szs a e k)
                      by_cases hok : e' = 0 ∧ ¬ a' < m.length
                      · have h0 : endE m a' e' = 0 := by unfold endE; rw [if_neg (fun h => hok.2 h.2)]; exact hok.1
                        have h1 : endEP m a' e' = 0 := if_pos hok
                        rw [h0] at HEn
                        rw [h1] at HE
                        rw [HE.out, if_pos rfl] at HEL
                        go_wp2_with (first
                          | (go_at_call 35; refine (HEn.out _ RR.out).mono ?_; rintro en w8 ⟨rfl, hrd, hfr⟩; have hS : ∀ k, Is g k → k < G := (fun k h => by have : k = g := h; omega); have O8 := hide (OV.out.above hfr hS); have V8 := hide (VV.out.above hfr hS); have F8 := hide (FF.out.own1 hfr hgw); clear hrd hfr hS)
                          | (go_at_call 36; refine (clipB_any _ _ _ _ hv1 hv2).mono ?_; rintro en w9 ⟨rfl, rfl⟩))
                        go_ret2
                        exact open_ok HE.out HEL.out HBL.out hwG O8.out.clip V8.out F8.out
                      · have h0 : (endE m a' e' != 0) = true := by
                          unfold endE
                          by_cases hh : e' = 0 ∧ a' < m.length
                          · rw [if_pos hh]; decide
                          · rw [if_neg hh]
                            simp
                            intro h1
                            exact hok ⟨h1, fun h2 => hh ⟨h1, h2⟩⟩
                        have h1 : endEP m a' e' = 20 := if_neg hok
                        rw [h1] at HE
                        generalize endE m a' e' = ee at HEn h0
                        go_wp2_with (go_at_call 35; refine (HEn.out _ RR.out).mono ?_; rintro en w8 ⟨rfl, hrd, hfr⟩; have F8 := hide (FF.out.own1 hfr hgw); clear hrd hfr)
                        go_ret2
                        exact open_fail HE.out (by decide) F8.out
        · have HE := hide (openE_bad (kind := d.getD 3 0) HBig.out (fun h => h8 (by rw [← HL.out]; exact h.2.2.1)))
          have hb : ((((d.getD 3 0).toNat : Nat) : Int) != (((d.getD 3 0).toNat : Nat) : Int)) = false := by simp
          generalize ((((d.getD 3 0).toNat : Nat) : Int)) = kz at hb HK
          have h8' : decide ((n : Int) - 4 < 4) = true := by
            apply decide_eq_true
            omega
          go_enter Try.func17, Try.ntmps17
          go_wp2_with (go_at_call 19; refine (HK.out _ HR.out).mono ?_; rintro en w1 ⟨rfl, nq, rfl⟩)
          go_quiet (fail)
          go_wp2
          go_ret2
          exact open_fail HE.out (by decide) (((Fr.refl _ _).drewN _).drewN _)
      · have HE := hide (openE_bad (kind := kind) HBig.out (fun h => hkk h.2.1))
        have hb : ((((d.getD 3 0).toNat : Nat) : Int) != ((kind.toNat : Nat) : Int)) = true := by rw [neq8]; simp only [hkk, decide_false, Bool.not_false]
        generalize ((((d.getD 3 0).toNat : Nat) : Int)) = kz at hb HK
        clear hkk
        go_enter Try.func17, Try.ntmps17
        go_wp2_with (go_at_call 19; refine (HK.out _ HR.out).mono ?_; rintro en w1 ⟨rfl, nq, rfl⟩)
        go_quiet (fail)
        go_wp2
        go_ret2
        exact open_fail HE.out (by decide) (((Fr.refl _ _).drewN _).drewN _)
    · have HE := hide (openE_bad (kind := kind) HBig.out (fun h => hk h.1))
      have HK := hide (fun W (h : Rd W B A (by8 d)) => kind_no A n c B d W HL.out hn HC.out h (by simpa using hk))
      clear hk
      go_enter Try.func17, Try.ntmps17
      go_wp2_with (go_at_call 19; refine (HK.out _ HR.out).mono ?_; rintro en w1 ⟨rfl, nq, rfl⟩)
      go_quiet (fail)
      go_wp2
      go_ret2
      exact open_fail HE.out (by decide) (((Fr.refl _ _).drewN _).drewN _)
end Go.Proofs.Ytapfbjaopbcgjaa
