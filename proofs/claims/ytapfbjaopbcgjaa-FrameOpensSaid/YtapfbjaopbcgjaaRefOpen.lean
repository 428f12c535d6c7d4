/- The document's Open: what it gives of any bytes. -/
import Derived.Test.YtapfbjaopbcgjaaOpenW
import Derived.Test.YtapfbjaopbcgjaaRefSum
import Derived.Test.YtapfbjaopbcgjaaRefN
import Derived.Test.YtapfbjaopbcgjaaRefBy
namespace Go.Proofs.Ytapfbjaopbcgjaa
set_option linter.unusedVariables false
set_option linter.unusedSimpArgs false
open Go.RowKit

theorem src_int (w : World) (x : Int) : Src Try.prog 1 58 (.slice (some ⟨w.heap.size, 0, none⟩) 1 1) 1 [.int .i64 x] (w.alloc (.cells #[.int .i64 x] 3)) :=
  Src.one (P := Try.prog) w (e := 3) Try.underlying58 _ rfl
theorem RS.above {S : Nat → Prop} {w w' : World} {B g G : Nat} {bs : List UInt8} {a : Nat} {e : Int} (h : RS w B g bs a e) (f : Fr S w w') (hg : g < G) (hS : ∀ k, S k → G ≤ k) : RS w' B g bs a e := by
  have hB : B ≤ g := by
    obtain ⟨_, _, _, _, _, _, _, _, h5⟩ := h
    exact h5
  exact h.fr f (fun h => by have := hS g h; omega) (fun k hk h => by have := hS k h; omega)
theorem RS.new {w : World} {B n c : Nat} {A : Option Addr} {bs : List UInt8} (hl : bs.length = n) (h1 : n ≤ c) (h2 : c ≤ maxLen) (h3 : n ≤ 140737488355328) (hr : Rd w B A (by8 bs)) (hB : B ≤ w.heap.size) :
    RS (w.alloc (.cells #[.slice A n c, .int .i64 0, .int .i64 0] 65)) B w.heap.size bs 0 0 := by
  subst hl
  exact ⟨A, c, heap_alloc_new w _, h1, h2, Nat.zero_le _, h3, hr.fr0 ((Fr.refl _ _).alloc _), hB⟩
theorem four_eq {l : List UInt8} {x : Nat} (hl : l.length = 4) : l = fourB x ↔ (l.getD 0 0 = UInt8.ofNat (x % 256) ∧ l.getD 1 0 = UInt8.ofNat (x / 256 % 256) ∧ l.getD 2 0 = UInt8.ofNat (x / 65536 % 256) ∧ l.getD 3 0 = UInt8.ofNat (x / 16777216 % 256)) := by
  match l, hl with
  | [a, b, c, d], _ => simp [fourB]
theorem head_eq {d : List UInt8} {kind : UInt8} (h : 8 ≤ d.length) : (kindOK d = true ∧ d.getD 3 0 = kind) ↔ (d.getD 0 0 = 76 ∧ d.getD 1 0 = 84 ∧ d.getD 2 0 = 1 ∧ d.getD 3 0 = kind) := by
  rw [kindOK_iff (by omega), decide_eq_true_iff]
  constructor
  · rintro ⟨⟨a, b, c⟩, e⟩; exact ⟨a, b, c, e⟩
  · rintro ⟨a, b, c, e⟩; exact ⟨⟨a, b, c⟩, e⟩

theorem neqv {y : UInt8} {v : Nat} {e : Int} (h : (((UInt8.ofNat v).toNat : Nat) : Int) = e) : (((y.toNat : Nat) : Int) != e) = !decide (y = UInt8.ofNat v) := by
  rw [← h]
  exact neq8 y (UInt8.ofNat v)
theorem u8_top {x : Nat} (hx : x < 4294967296) : (((UInt8.ofNat (x / 16777216 % 256)).toNat : Nat) : Int) = (x : Int) / 16777216 := by
  rw [u8_four x 16777216]
  omega
theorem drop_get (d : List UInt8) (q i : Nat) : (d.drop q).getD i 0 = d.getD (q + i) 0 := by simp [List.getElem?_drop]

set_option maxRecDepth 100000 in
set_option maxHeartbeats 4000000 in
theorem refOpen_any (kind : UInt8) (A : Option Addr) (n c B : Nat) (d : List UInt8) (w : World) (hl : d.length = n) (hn : n ≤ c) (hc : c ≤ maxLen) (hB : B ≤ w.heap.size) (hr : Rd w B A (by8 d)) :
    Calls Try.prog 18 #[.int .u8 (kind.toNat : Nat), .slice A n c] w (GivesOpen kind d w) := by
  have HC := hide hc
  unfold maxLen at hc
  have HR := hide hr
  have HL := hide hl
  clear hr hl
  by_cases hbig : 16777216 < n
  · have HE := hide (show openE kind d = 3 from if_pos (by rw [HL.out]; exact hbig))
    go_enter Try.func18, Try.ntmps18
    go_wp2
    go_ret2
    exact open_fail HE.out (by decide) (Fr.refl _ _)
  · have HBig := hide (show ¬ 16777216 < d.length by rw [HL.out]; exact hbig)
    have hbd : decide ((16777216 : Int) < (n : Int)) = false := by
      apply decide_eq_false
      omega
    clear hbig
    by_cases h8 : 8 ≤ n
    · obtain ⟨q, hnq⟩ : ∃ q, n = q + 4 := ⟨n - 4, by omega⟩
      have hq4 : 4 ≤ q := by omega
      have HQ := hide hnq
      have e4 : (n : Int) - 4 = (q : Int) := by omega
      have hqn1 : q < n := by omega
      have hqn2 : q + 1 < n := by omega
      have hqn3 : q + 2 < n := by omega
      have hqn4 : q + 3 < n := by omega
      have hqc : q ≤ c := by omega
      clear hnq
      obtain ⟨ad, rfl, _, hcell0⟩ := HR.out.byte (k := 0) (by rw [HL.out]; omega)
      rw [show ad.add 0 = ad from by simp [Addr.add]] at hcell0
      have hcell1 := HR.out.byteAt 0 (by rw [HL.out]; omega)
      have hcell2 := HR.out.byteAt 1 (by rw [HL.out]; omega)
      have hcell3 := HR.out.byteAt 2 (by rw [HL.out]; omega)
      rw [show (0 + 1 : Nat) = 1 from rfl] at hcell1
      rw [show (1 + 1 : Nat) = 2 from rfl] at hcell2
      rw [show (2 + 1 : Nat) = 3 from rfl] at hcell3
      have HH := hide (head_eq (d := d) (kind := kind) (by rw [HL.out]; exact h8))
      have hp1 : 0 < n := by omega
      have t0 := neq8 (d.getD 0 0) 76
      have t1 := neq8 (d.getD 1 0) 84
      have t2 := neq8 (d.getD 2 0) 1
      have t3 := neq8 (d.getD 3 0) kind
      rw [show ((76 : UInt8).toNat : Nat) = 76 from rfl] at t0
      rw [show ((84 : UInt8).toNat : Nat) = 84 from rfl] at t1
      rw [show ((1 : UInt8).toNat : Nat) = 1 from rfl] at t2
      rw [show (((76 : Nat)) : Int) = 76 from rfl] at t0
      rw [show (((84 : Nat)) : Int) = 84 from rfl] at t1
      rw [show (((1 : Nat)) : Int) = 1 from rfl] at t2
      by_cases hhead : d.getD 0 0 = 76 ∧ d.getD 1 0 = 84 ∧ d.getD 2 0 = 1 ∧ d.getD 3 0 = kind
      · have HHead := hide (HH.out.2 hhead)
        obtain ⟨k0, k1, k2, k3⟩ := hhead
        rw [decide_eq_true k0, Bool.not_true] at t0
        rw [decide_eq_true k1, Bool.not_true] at t1
        rw [decide_eq_true k2, Bool.not_true] at t2
        rw [decide_eq_true k3, Bool.not_true] at t3
        clear k0 k1 k2 k3 HH
        generalize d.getD 0 0 = x0 at hcell0 t0
        generalize d.getD 1 0 = x1 at hcell1 t1
        generalize d.getD 2 0 = x2 at hcell2 t2
        generalize d.getD 3 0 = x3 at hcell3 t3
        have HL1 := hide (show (d.take q).length = q by rw [List.length_take, HL.out, HQ.out]; omega)
        have HL2 := hide (show (d.drop q).length = 4 by rw [List.length_drop, HL.out, HQ.out]; omega)
        have HSm := hide (refSum_any (some ad) q c B (d.take q) w HL1.out hqc HC.out (by rw [by8_take]; exact HR.out.tk q))
        have hcr := crcOf_lt (d.take q)
        have HOK := hide (show crcOK d = decide (d.drop q = fourB (crcOf (d.take q))) by
          unfold crcOK
          rw [HL.out, show n - 4 = q by have := HQ.out; omega])
        have HF4 := hide (four_eq (x := crcOf (d.take q)) HL2.out)
        simp only [drop_get, Nat.add_zero] at HF4
        generalize crcOf (d.take q) = cr at HSm hcr HOK HF4
        have g0 : w.cell? (ad.add q) = some (.int .u8 ((d.getD q 0).toNat : Nat)) := by
          obtain ⟨ad', e, _, hc'⟩ := HR.out.byte (k := q) (by rw [HL.out]; omega)
          injection e with e; subst e; exact hc'
        have g1 : w.cell? ⟨ad.block, ad.off + (q + 1), none⟩ = some (.int .u8 ((d.getD (q + 1) 0).toNat : Nat)) := by
          obtain ⟨ad', e, _, hc'⟩ := HR.out.byte (k := q + 1) (by rw [HL.out]; omega)
          injection e with e; subst e; simpa [Addr.add] using hc'
        have g2 : w.cell? ⟨ad.block, ad.off + (q + 2), none⟩ = some (.int .u8 ((d.getD (q + 2) 0).toNat : Nat)) := by
          obtain ⟨ad', e, _, hc'⟩ := HR.out.byte (k := q + 2) (by rw [HL.out]; omega)
          injection e with e; subst e; simpa [Addr.add] using hc'
        have g3 : w.cell? ⟨ad.block, ad.off + (q + 3), none⟩ = some (.int .u8 ((d.getD (q + 3) 0).toNat : Nat)) := by
          obtain ⟨ad', e, _, hc'⟩ := HR.out.byte (k := q + 3) (by rw [HL.out]; omega)
          injection e with e; subst e; simpa [Addr.add] using hc'
        have u0 := u8_four0 cr
        have u1 := u8_four cr 256
        have u2 := u8_four cr 65536
        have u3 := u8_top hcr
        rw [show (((256 : Nat)) : Int) = 256 from rfl] at u1
        rw [show (((65536 : Nat)) : Int) = 65536 from rfl] at u2
        generalize d.getD q 0 = y0 at g0 HF4
        generalize d.getD (q + 1) 0 = y1 at g1 HF4
        generalize d.getD (q + 2) 0 = y2 at g2 HF4
        generalize d.getD (q + 3) 0 = y3 at g3 HF4
        generalize UInt8.ofNat (cr % 256) = z0 at u0 HF4
        generalize UInt8.ofNat (cr / 256 % 256) = z1 at u1 HF4
        generalize UInt8.ofNat (cr / 65536 % 256) = z2 at u2 HF4
        generalize UInt8.ofNat (cr / 16777216 % 256) = z3 at u3 HF4
        have v0 := u0.symm
        have v1 := u1.symm
        have v2 := u2.symm
        have v3 := u3.symm
        clear u0 u1 u2 u3
        by_cases hall : y0 = z0 ∧ y1 = z1 ∧ y2 = z2 ∧ y3 = z3
        · have HOk := hide (show crcOK d = true by rw [HOK.out]; exact decide_eq_true (HF4.out.2 hall))
          obtain ⟨rfl, rfl, rfl, rfl⟩ := hall
          clear HF4 HOK
          go_enter Try.func18, Try.ntmps18
          have HE := hide (show openE kind d = endEP (midB d) (readB (midB d)).2.1 (readB (midB d)).2.2 by
            unfold openE
            rw [if_neg HBig.out, if_pos (show goodB kind d = true from decide_eq_true ⟨HHead.out.1, HHead.out.2, by rw [HL.out]; exact h8, HOk.out⟩)])
          have hmd : midB d = (d.take q).drop 4 := by
            unfold midB
            rw [HL.out, show n - 4 = q by have := HQ.out; omega]
          have HM := hide (show Rd w B (some ⟨ad.block, ad.off + 4, none⟩) (by8 (midB d)) by
            have h := (show Rd w B (some ad) (by8 (d.take q)) by rw [by8_take]; exact HR.out.tk q).dr 4
            rw [← by8_drop, ← hmd, show ad.add 4 = ⟨ad.block, ad.off + 4, none⟩ from by simp [Addr.add]] at h
            exact h)
          have HML := hide (show (midB d).length = q - 4 by rw [hmd, List.length_drop, HL1.out])
          have HEL := hide (show openL kind d = if openE kind d = 0 then (readB (midB d)).1 else [] from rfl)
          have HN24 := hide (show n ≤ 16777216 by have h1 := HBig.out; rw [HL.out] at h1; omega)
          clear hmd HL1 HL2 HHead HOk HBig
          unfold readB at HE HEL
          generalize midB d = m at HM HML HE HEL
          have HS0 := hide (fun Bq g W (h : RS W Bq g m 0 0) => refN_any Bq g m 0 0 1024 W h (by decide))
          have hk0 : (sizeS m 0 0 1024).1 ≤ 1024 := sizeS_le m 0 0 1024
          generalize sizeS m 0 0 1024 = x0' at HS0 hk0 HE HEL
          obtain ⟨k, a1, e1⟩ := x0'
          dsimp only at HS0 hk0 HE HEL
          have HRN := hide (fun W (h : Fr No w W) => RS.new (w := W) (c := c - 4) HML.out (by omega) (by have := HC.out; unfold maxLen at *; omega) (by have := HN24.out; omega) (HM.out.fr0 h) (Nat.le_trans hB h.size))
          go_wp2_with (first
            | (go_at_call 14; refine HSm.out.mono ?_; rintro en w1 ⟨rfl, nq, rfl⟩; have R1 := hide (HRN.out _ ((Fr.refl No w).drewN nq)); have F1 := hide (((Fr.refl No w).drewN nq).alloc (.cells #[.slice (some ⟨ad.block, ad.off + 4, none⟩) (q - 4) (c - 4), .int .i64 0, .int .i64 0] 65)))
            | (go_at_call 37; refine (HS0.out B w.heap.size _ R1.out).mono ?_; rintro en w3 ⟨rfl, hrd, hfr⟩; have R3 := hide hrd; have F3 := hide (F1.out.own1 hfr (Nat.le_refl _)); clear hrd hfr))
          have hg3 : w.heap.size < w3.heap.size := R3.out.lt
          obtain ⟨g, hg⟩ : ∃ g, g = w.heap.size := ⟨_, rfl⟩
          rw [← hg] at hg3 R3 ⊢
          have hgw : w.heap.size ≤ g := Nat.le_of_eq hg.symm
          clear hg HS0 HRN HSm R1 F1 HM HR
          obtain ⟨G, hG⟩ : ∃ G, G = w3.heap.size := ⟨_, rfl⟩
          have hgG : g < G := by rw [hG]; exact hg3
          have hwG : w.heap.size ≤ G := by omega
          have hG3 : G ≤ w3.heap.size := by omega
          obtain ⟨i0, hi, hz, hsz, hby⟩ := info_parts Try.infoI
          obtain ⟨i1, hi1, hz1, hsz1, hby1⟩ := info_parts Try.infoB
          clear hG hg3
          go_loopw [10, 11] (fun v i wr => ∃ (j a : Nat) (e : Int), j ≤ k ∧ i = .int .i64 j ∧ Hid (a = (sizesR m a1 e1 j).2.1 ∧ e = (sizesR m a1 e1 j).2.2) ∧ Hid (RS wr B g m a e) ∧ Hid (Own wr G 3 1 v j (ints (sizesR m a1 e1 j).1)) ∧ Hid (Fr No w wr) ∧ G ≤ wr.heap.size) (fun _ i _ => k - (intOf i).toNat)
          case atStart => exact ⟨0, a1, e1, by omega, rfl, hide ⟨rfl, rfl⟩, R3, hide (Own.nil _ _ _ _), F3, hG3⟩
          case round =>
            clear R3 F3
            obtain ⟨j, a, e, hj, rfl, HA, RR, OO, FF, hGr⟩ := hrel
            by_cases hlt : j < k
            · have HSz := hide (fun W (h : RS W B g m a e) => refN_any B g m a e 16777216 W h (by decide))
              obtain ⟨y, HY⟩ : ∃ y, Hid (y = sizeS m a e 16777216) := ⟨_, hide rfl⟩
              rw [← HY.out] at HSz
              have HN := hide (show (sizesR m a1 e1 (j + 1)).1 = (sizesR m a1 e1 j).1 ++ [y.1] ∧ (sizesR m a1 e1 (j + 1)).2 = y.2 by
                rw [HY.out, HA.out.1, HA.out.2]
                exact ⟨rfl, rfl⟩)
              clear HY
              obtain ⟨y1, y2, y3⟩ := y
              dsimp only at HN HSz
              have HNI := hide (show ints (sizesR m a1 e1 j).1 ++ [.int .i64 (y1 : Nat)] = ints (sizesR m a1 e1 (j + 1)).1 by rw [HN.out.1]; simp [ints])
              obtain ⟨Av, cv, rfl, hv1, hv2, _, _, _⟩ := OO.out.form
              unfold maxLen at hv2
              have b1 : Hid ((j + 1) * 8 ≤ 140737488355328) := hide (by omega)
              have b2 : j + 1 ≤ maxLen := by unfold maxLen; omega
              go_wp2_with (first
                | (go_at_call 37; refine (HSz.out _ RR.out).mono ?_; rintro en w6 ⟨rfl, hrd, hfr⟩; have R6 := hide hrd; have F6 := hide (FF.out.own1 hfr hgw); have O6 := hide (OO.out.above hfr (fun k h => by have : k = g := h; omega)); have hG6 := Nat.le_trans hGr hfr.size; clear hrd hfr)
                | (at_builtin; refine wpList_append_gen _ rfl (.tmp 107) (.tmp 109) 58 58 rfl G 3 i0 (.int .i64 0) 1 8 Try.underlying58 hi hz hsz hby rfl _ j _ rfl (O6.out.fr0 ((Fr.refl No w6).alloc _)) _ 1 _ rfl (src_int w6 _) b1.out b2 (Nat.le_trans hG6 (by simp)) ?_; intro v7 w7 hown hfr hat; have f7 := (((Fr.refl (fun k => _ = some k) w6).alloc _).ts hfr); have O7 := hide hown; have R7 := hide (R6.out.above f7 hgG (fun k e => (O6.out.lt k e).1)); have F7 := hide (F6.out.trans f7 (fun i hi e => by have := (O6.out.lt i e).1; omega)); have hG7 := Nat.le_trans hG6 f7.size; clear hown hfr hat f7))
              go_roundw
              case rel => exact ⟨j + 1, y2, y3, by omega, by go_num, hide (by rw [HN.out.2]; exact ⟨rfl, rfl⟩), R7, hide (by rw [← HNI.out]; exact O7.out), F7, hG7⟩
              case measure => simp [intOf]; omega
            · obtain rfl : k = j := by omega
              obtain ⟨szs, HSZ⟩ : ∃ szs, Hid (szs = (sizesR m a1 e1 k).1) := ⟨_, hide rfl⟩
              rw [← HSZ.out] at OO HE HEL
              have HSL := hide (show szs.length = k by rw [HSZ.out, sizesR_len])
              rw [← HA.out.1, ← HA.out.2] at HE HEL
              obtain ⟨Az, cz, rfl, hzl1, hzl2, _, _, _⟩ := OO.out.form
              unfold maxLen at hzl2
              clear HA HSZ
              go_wp2
              clear hlt hj
              obtain ⟨wb, rfl⟩ : ∃ wb : World, wb = wr := ⟨_, rfl⟩
              go_loopw [13, 14] (fun v i wr => ∃ (j a' : Nat) (e' : Int) (vals : List Value), j ≤ k ∧ i = .int .i64 j ∧ Hid (a' = (blocksR m szs a e j).2.1 ∧ e' = (blocksR m szs a e j).2.2) ∧ Hid (RS wr B g m a' e') ∧ Hid (Own wr G 3 1 (.slice Az k cz) k (ints szs)) ∧ Hid (Own wr G 23 1 v j vals) ∧ Hid (Vals wr G vals (blocksR m szs a e j).1) ∧ Hid (Fr No w wr) ∧ G ≤ wr.heap.size) (fun _ i _ => k - (intOf i).toNat)
              case atStart => exact ⟨0, a, e, [], by omega, rfl, hide ⟨rfl, rfl⟩, RR, OO, hide (Own.nil _ _ _ _), hide (Vals.nil _ _), FF, hGr⟩
              case round =>
                clear RR OO FF hGr
                obtain ⟨j, a', e', vals, hj, rfl, HA, RR, OO, OV, VV, FF, hGr⟩ := hrel
                obtain ⟨Av, cv, rfl, hv1, hv2, _, _, _⟩ := OV.out.form
                unfold maxLen at hv2
                by_cases hlt : j < k
                · obtain ⟨adz, rfl, _, hcl⟩ := OO.out.rd j (.int .i64 (szs.getD j 0 : Nat)) (by
                    have h1 : j < szs.length := by rw [HSL.out]; exact hlt
                    simp [ints, List.getElem?_map, List.getElem?_eq_getElem h1])
                  have HBy := hide (fun W (h : RS W B g m a' e') => refB_any B g m a' e' (szs.getD j 0 : Nat) W h)
                  obtain ⟨y, HY⟩ : ∃ y, Hid (y = bytesS m a' e' (szs.getD j 0 : Nat)) := ⟨_, hide rfl⟩
                  rw [← HY.out] at HBy
                  have HN := hide (show (blocksR m szs a e (j + 1)).1 = (blocksR m szs a e j).1 ++ [y.1] ∧ (blocksR m szs a e (j + 1)).2 = y.2 by
                    rw [HY.out, HA.out.1, HA.out.2]
                    exact ⟨rfl, rfl⟩)
                  clear HY
                  obtain ⟨y1, y2, y3⟩ := y
                  dsimp only at HN HBy
                  generalize szs.getD j 0 = sj at hcl HBy
                  have b1 : Hid ((j + 1) * 24 ≤ 140737488355328) := hide (by omega)
                  have b2 : j + 1 ≤ maxLen := by unfold maxLen; omega
                  go_wp2_with (first
                    | (go_at_call 38; refine (HBy.out _ RR.out).mono ?_; rintro en w6 ⟨v6, rfl, hown, hrd, hfr⟩; obtain ⟨A6, c6, rfl, hq1, hq2, _, _, _⟩ := hown.form; have R6 := hide hrd; have F6 := hide (FF.out.own1 hfr hgw); have hS : ∀ k, Is g k → k < G := (fun k h => by have : k = g := h; omega); have O6 := hide (OO.out.above hfr hS); have P6 := hide (OV.out.above hfr hS); have V6 := hide (VV.out.snoc (VV.out.above hfr hS) hown hGr); have hG6 := Nat.le_trans hGr hfr.size; clear hrd hfr hown hS)
                    | (at_builtin; refine wpList_append_gen _ rfl (.tmp 122) (.tmp 124) 22 22 rfl G 23 i1 (.slice none 0 0) 1 24 Try.underlying22 hi1 hz1 hsz1 hby1 rfl _ j vals rfl (P6.out.fr0 ((Fr.refl No w6).alloc _)) _ 1 _ rfl (src_slice w6 A6 y1.length c6) b1.out b2 (Nat.le_trans hG6 (by simp)) ?_; intro v7 w7 hown hfr hat; have O7 := hide hown; have f7 := (((Fr.refl (fun k => _ = some k) w6).alloc _).ts hfr); have R7 := hide (R6.out.above f7 hgG (fun k e => (P6.out.lt k e).1)); have Z7 := hide (O6.out.fr f7 (fun k hk e => O6.out.apart P6.out (by decide) k hk e)); have V7 := hide (V6.out.other P6.out (by decide) f7); have F7 := hide (F6.out.trans f7 (fun i hi e => by have := (P6.out.lt i e).1; omega)); have hG7 := Nat.le_trans hG6 f7.size; clear hown hfr hat f7))
                  go_roundw
                  case rel => exact ⟨j + 1, y2, y3, _, by omega, by go_num, hide (by rw [HN.out.2]; exact ⟨rfl, rfl⟩), R7, Z7, O7, hide (by rw [HN.out.1]; exact V7.out), F7, hG7⟩
                  case measure => simp [intOf]; omega
                · obtain rfl : k = j := by omega
                  rw [← HA.out.1, ← HA.out.2] at HE
                  have HEn := hide (fun W (h : RS W B g m a' e') => refEnd_any B g m a' e' W h)
                  have HBL := hide (blocksR_len m szs a e k)
                  by_cases hok : e' = 0 ∧ ¬ a' < m.length
                  · have h0 : endE m a' e' = 0 := by unfold endE; rw [if_neg (fun h => hok.2 h.2)]; exact hok.1
                    have h1 : endEP m a' e' = 0 := if_pos hok
                    rw [h0] at HEn
                    rw [h1] at HE
                    rw [HE.out, if_pos rfl] at HEL
                    go_wp2_with (go_at_call 39; refine (HEn.out _ RR.out).mono ?_; rintro en w8 ⟨rfl, hrd, hfr⟩; have hS : ∀ k, Is g k → k < G := (fun k h => by have : k = g := h; omega); have O8 := hide (OV.out.above hfr hS); have V8 := hide (VV.out.above hfr hS); have F8 := hide (FF.out.own1 hfr hgw); clear hrd hfr hS)
                    go_ret2
                    exact open_ok HE.out HEL.out HBL.out hwG O8.out V8.out F8.out
                  · have h0 : (endE m a' e' != 0) = true := by
                      unfold endE
                      by_cases hh : e' = 0 ∧ a' < m.length
                      · rw [if_pos hh]; decide
                      · rw [if_neg hh]
                        simp
                        intro h1
                        exact hok ⟨h1, fun h2 => hh ⟨h1, h2⟩⟩
                    have h1 : endEP m a' e' = 20 := if_neg hok
                    rw [h1] at HE
                    generalize endE m a' e' = ee at HEn h0
                    go_wp2_with (go_at_call 39; refine (HEn.out _ RR.out).mono ?_; rintro en w8 ⟨rfl, hrd, hfr⟩; have F8 := hide (FF.out.own1 hfr hgw); clear hrd hfr)
                    go_ret2
                    exact open_fail HE.out (by decide) F8.out
        · have HE := hide (openE_bad (kind := kind) HBig.out (fun h => hall (HF4.out.1 (of_decide_eq_true (by rw [← HOK.out]; exact h.2.2.2)))))
          have hcs : y0 ≠ z0 ∨ (y0 = z0 ∧ y1 ≠ z1) ∨ (y0 = z0 ∧ y1 = z1 ∧ y2 ≠ z2) ∨ (y0 = z0 ∧ y1 = z1 ∧ y2 = z2 ∧ y3 ≠ z3) := by
            by_cases a : y0 = z0
            · by_cases b : y1 = z1
              · by_cases c : y2 = z2
                · exact .inr (.inr (.inr ⟨a, b, c, fun e => hall ⟨a, b, c, e⟩⟩))
                · exact .inr (.inr (.inl ⟨a, b, c⟩))
              · exact .inr (.inl ⟨a, b⟩)
            · exact .inl a
          clear hall HF4
          rcases hcs with c0 | ⟨rfl, c1⟩ | ⟨rfl, rfl, c2⟩ | ⟨rfl, rfl, rfl, c3⟩
          · have hne : (((y0.toNat : Nat) : Int) != ((z0.toNat : Nat) : Int)) = true := by rw [neq8, decide_eq_false c0]; rfl
            clear c0
            go_enter Try.func18, Try.ntmps18
            go_wp2_with (go_at_call 14; refine HSm.out.mono ?_; rintro en w1 ⟨rfl, nq, rfl⟩)
            go_ret2
            exact open_fail HE.out (by decide) ((Fr.refl _ _).drewN _)
          · have hne : (((y1.toNat : Nat) : Int) != ((z1.toNat : Nat) : Int)) = true := by rw [neq8, decide_eq_false c1]; rfl
            clear c1
            go_enter Try.func18, Try.ntmps18
            go_wp2_with (go_at_call 14; refine HSm.out.mono ?_; rintro en w1 ⟨rfl, nq, rfl⟩)
            go_ret2
            exact open_fail HE.out (by decide) ((Fr.refl _ _).drewN _)
          · have hne : (((y2.toNat : Nat) : Int) != ((z2.toNat : Nat) : Int)) = true := by rw [neq8, decide_eq_false c2]; rfl
            clear c2
            go_enter Try.func18, Try.ntmps18
            go_wp2_with (go_at_call 14; refine HSm.out.mono ?_; rintro en w1 ⟨rfl, nq, rfl⟩)
            go_ret2
            exact open_fail HE.out (by decide) ((Fr.refl _ _).drewN _)
          · have hne : (((y3.toNat : Nat) : Int) != ((z3.toNat : Nat) : Int)) = true := by rw [neq8, decide_eq_false c3]; rfl
            clear c3
            go_enter Try.func18, Try.ntmps18
            go_wp2_with (go_at_call 14; refine HSm.out.mono ?_; rintro en w1 ⟨rfl, nq, rfl⟩)
            go_ret2
            exact open_fail HE.out (by decide) ((Fr.refl _ _).drewN _)
      · have HE := hide (openE_bad (kind := kind) HBig.out (fun h => hhead (HH.out.1 ⟨h.1, h.2.1⟩)))
        have hcs : d.getD 0 0 ≠ 76 ∨ (d.getD 0 0 = 76 ∧ d.getD 1 0 ≠ 84) ∨ (d.getD 0 0 = 76 ∧ d.getD 1 0 = 84 ∧ d.getD 2 0 ≠ 1) ∨ (d.getD 0 0 = 76 ∧ d.getD 1 0 = 84 ∧ d.getD 2 0 = 1 ∧ d.getD 3 0 ≠ kind) := by
          by_cases a : d.getD 0 0 = 76
          · by_cases b : d.getD 1 0 = 84
            · by_cases c : d.getD 2 0 = 1
              · exact .inr (.inr (.inr ⟨a, b, c, fun e => hhead ⟨a, b, c, e⟩⟩))
              · exact .inr (.inr (.inl ⟨a, b, c⟩))
            · exact .inr (.inl ⟨a, b⟩)
          · exact .inl a
        clear hhead HH
        have HT0 := hide t0
        have HT1 := hide t1
        have HT2 := hide t2
        have HT3 := hide t3
        clear t0 t1 t2 t3
        rcases hcs with c0 | ⟨c0, c1⟩ | ⟨c0, c1, c2⟩ | ⟨c0, c1, c2, c3⟩
        · have t0 := HT0.out
          rw [decide_eq_false c0, Bool.not_false] at t0
          clear c0
          generalize d.getD 0 0 = x0 at *
          go_enter Try.func18, Try.ntmps18
          go_wp2
          go_ret2
          exact open_fail HE.out (by decide) (Fr.refl _ _)
        · have t0 := HT0.out
          have t1 := HT1.out
          rw [decide_eq_true c0, Bool.not_true] at t0
          rw [decide_eq_false c1, Bool.not_false] at t1
          clear c0 c1
          generalize d.getD 0 0 = x0 at *
          generalize d.getD 1 0 = x1 at *
          go_enter Try.func18, Try.ntmps18
          go_wp2
          go_ret2
          exact open_fail HE.out (by decide) (Fr.refl _ _)
        · have t0 := HT0.out
          have t1 := HT1.out
          have t2 := HT2.out
          rw [decide_eq_true c0, Bool.not_true] at t0
          rw [decide_eq_true c1, Bool.not_true] at t1
          rw [decide_eq_false c2, Bool.not_false] at t2
          clear c0 c1 c2
          generalize d.getD 0 0 = x0 at *
          generalize d.getD 1 0 = x1 at *
          generalize d.getD 2 0 = x2 at *
          go_enter Try.func18, Try.ntmps18
          go_wp2
          go_ret2
          exact open_fail HE.out (by decide) (Fr.refl _ _)
        · have t0 := HT0.out
          have t1 := HT1.out
          have t2 := HT2.out
          have t3 := HT3.out
          rw [decide_eq_true c0, Bool.not_true] at t0
          rw [decide_eq_true c1, Bool.not_true] at t1
          rw [decide_eq_true c2, Bool.not_true] at t2
          rw [decide_eq_false c3, Bool.not_false] at t3
          clear c0 c1 c2 c3
          generalize d.getD 0 0 = x0 at *
          generalize d.getD 1 0 = x1 at *
          generalize d.getD 2 0 = x2 at *
          generalize d.getD 3 0 = x3 at *
          go_enter Try.func18, Try.ntmps18
          go_wp2
          go_ret2
          exact open_fail HE.out (by decide) (Fr.refl _ _)
    · have HE := hide (openE_bad (kind := kind) HBig.out (fun h => h8 (by rw [← HL.out]; exact h.2.2.1)))
      have h8' : decide ((n : Int) - 4 < 4) = true := by
        apply decide_eq_true
        omega
      go_enter Try.func18, Try.ntmps18
      go_wp2
      go_ret2
      exact open_fail HE.out (by decide) (Fr.refl _ _)
end Go.Proofs.Ytapfbjaopbcgjaa
