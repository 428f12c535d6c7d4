/- The walk of the document's Read of a set. -/
import Derived.Test.YtapfbjaopbcgjaaDoorReadP
import Derived.Test.YtapfbjaopbcgjaaDoorRefN
import Derived.Test.YtapfbjaopbcgjaaDoorRefBy
import Derived.Test.YtapfbjaopbcgjaaDoorVals
namespace Go.Proofs.YtapfbjaopbcgjaaDoor
set_option linter.unusedVariables false
set_option linter.unusedSimpArgs false
open Go.RowKit

theorem RS.born {w : World} {B n c : Nat} {A : Option Addr} {bs : List UInt8} (hl : bs.length = n) (h1 : n ≤ c) (h2 : c ≤ maxLen) (h3 : n ≤ 140737488355328) (hr : Rd w B A (by8 bs)) (hB : B ≤ w.heap.size) :
    RS (w.alloc (.cells #[.slice A n c, .int .i64 0, .int .i64 0] 85)) B w.heap.size bs 0 0 := by
  subst hl
  exact ⟨A, c, heap_alloc_new w _, h1, h2, Nat.zero_le _, h3, hr.fr0 ((Fr.refl _ _).alloc _), hB⟩
theorem bitV {x t : Nat} (hx : x < 256) : (bits .and .u8 ((x : Int) / (2 : Int) ^ t) 1 == 1) = x.testBit t := by
  have e : ((x : Int) / (2 : Int) ^ t) = ((x >>> t : Nat) : Int) := by
    rw [Nat.shiftRight_eq_div_pow]
    simp
  have hlt : x >>> t < 256 := by
    rw [Nat.shiftRight_eq_div_pow]
    exact Nat.lt_of_le_of_lt (Nat.div_le_self _ _) hx
  have h := u8_and_nat (x >>> t) 1 hlt (by omega)
  rw [e, show (1 : Int) = ((1 : Nat) : Int) from rfl, h, nat_mask1]
  have h2 : x.testBit t = decide ((x >>> t) % 2 = 1) := by
    have := Nat.testBit_shiftRight (i := t) (j := 0) x
    rw [Nat.testBit_zero, Nat.add_zero] at this
    exact this.symm
  rw [h2]
  rcases Nat.mod_two_eq_zero_or_one (x >>> t) with h | h <;> rw [h] <;> rfl
theorem Own.btz {w w' : World} {b1 b2 n1 n gw : Nat} {v v2 : Value} {xs xs2 : List Value} (h : Own w b2 5 1 v n xs) (b : Own w b1 4 1 v2 n1 xs2) (hv : v2.ownBlock = some gw) (f : Fr (Is gw) w w') : Own w' b2 5 1 v n xs := by
  refine h.fr f ?_
  intro k hk e
  have e : k = gw := by cases e; rfl
  subst e
  exact h.apart b (by decide) k hk hv
def cleanI (s : List UInt8) (n k : Nat) : Prop := ∀ j, j < k → n ≤ j → bitB s j = false

def GivesRefRead (bs : List UInt8) (w : World) (en : Ending) (w' : World) : Prop := ∃ v e, en = .returned (.tuple #[v, .int .i64 e]) ∧ ((¬ readsB bs ∧ v = .slice none 0 0 ∧ e = 20) ∨ (readsB bs ∧ e = 0 ∧ Own w' w.heap.size 4 1 v (readL bs).length (bz (readL bs)))) ∧ Fr No w w'

set_option maxRecDepth 100000 in
set_option maxHeartbeats 1000000 in
theorem refRead_any (A : Option Addr) (n c B : Nat) (bs : List UInt8) (w : World) (hl : bs.length = n) (hn : n ≤ c) (hc : c ≤ maxLen) (hb : n ≤ 140737488355328) (hB : B ≤ w.heap.size) (hr : Rd w B A (by8 bs)) :
    Calls Tryd.prog 31 #[.slice A n c] w (GivesRefRead bs w) := by
  have D0 := hide (RS.born hl hn hc hb hr hB)
  have F0 := hide ((Fr.refl No w).alloc (.cells #[.slice A n c, .int .i64 0, .int .i64 0] 85))
  have HZ := hide (fun W (h : RS W B w.heap.size bs 0 0) => refN_any B w.heap.size bs 0 0 16384 W h (by omega))
  have HY := hide (fun W (h : RS W B w.heap.size bs (sizeS bs 0 0 16384).2.1 (sizeS bs 0 0 16384).2.2) => refB_any B w.heap.size bs _ _ (((rdN bs + 7) / 8 : Nat) : Int) W h)
  have HE := hide (fun W (h : RS W B w.heap.size bs (rdA bs) (rdE bs)) => refEnd_any B w.heap.size bs (rdA bs) (rdE bs) W h)
  have HN16 := rdN_le bs
  have HSL := hide (rdS_len bs)
  have HSF := hide (rdS_full bs)
  have HEE := hide (rdEnd_e bs)
  have HR : Hid (readsB bs ↔ (rdEnd bs = 0 ∧ clean (rdS bs) (rdN bs) (rdS bs).length)) := hide Iff.rfl
  have HRL : Hid (readL bs = atK (bitB (rdS bs)) (rdN bs) (8 * (rdS bs).length)) := hide rfl
  rw [show (sizeS bs 0 0 16384).1 = rdN bs from rfl] at HZ
  rw [show (bytesS bs (sizeS bs 0 0 16384).2.1 (sizeS bs 0 0 16384).2.2 (((rdN bs + 7) / 8 : Nat) : Int)).1 = rdS bs from rfl, show (bytesS bs (sizeS bs 0 0 16384).2.1 (sizeS bs 0 0 16384).2.2 (((rdN bs + 7) / 8 : Nat) : Int)).2.1 = rdA bs from rfl, show (bytesS bs (sizeS bs 0 0 16384).2.1 (sizeS bs 0 0 16384).2.2 (((rdN bs + 7) / 8 : Nat) : Int)).2.2 = rdE bs from rfl] at HY
  rw [show endE bs (rdA bs) (rdE bs) = rdEnd bs from rfl] at HE
  clear hl hn hc hb hr
  have HN7 : Hid (((rdN bs : Int) + 7) / 8 = (((rdN bs + 7) / 8 : Nat) : Int)) := hide (by omega)
  generalize (rdS bs) = s at HY HSL HSF HR HRL
  generalize (rdN bs) = N at HZ HY HN16 HSL HSF HR HRL HN7
  generalize rdA bs = a2 at HY HE
  generalize rdE bs = e2 at HY HE HSF HEE
  generalize rdEnd bs = eF at HE HEE HR
  generalize (sizeS bs 0 0 16384).2.1 = a1 at HZ HY
  generalize (sizeS bs 0 0 16384).2.2 = e1 at HZ HY
  go_enter Tryd.func31, Tryd.ntmps31
  go_wp2_with (fail)
  refine (HZ.out _ D0.out).mono ?_
  rintro en w2 ⟨rfl, hrd, hfr⟩
  have D2 := hide hrd
  have F2 := hide (F0.out.own1 hfr (Nat.le_refl _))
  clear hrd hfr HZ D0 F0
  go_wp2_with (fail)
  rw [HN7.out]
  refine (HY.out w2 D2.out).mono ?_
  rintro en w4 ⟨v4, rfl, hown, hrd, hfr⟩
  obtain ⟨m, hm⟩ : ∃ m, s.length = m := ⟨_, rfl⟩
  rw [hm] at HSL HSF HR HRL hown
  have HM := hide hm
  clear hm
  have F4 := hide (F2.out.own1 hfr (Nat.le_refl _))
  have D4 := hide hrd
  obtain ⟨A4, c4, rfl, p1, p2, hz, hrd2, hba⟩ := hown.form
  clear hz hrd2 hba
  have O4 := hide hown
  unfold maxLen at p2
  have hm16 : m ≤ 2048 := by
    rcases HSL.out with h | h
    · have := HM.out; rw [h] at this; simp at this; omega
    · omega
  have hlow : w.heap.size < w2.heap.size := D2.out.lt
  clear hown hrd hfr HY D2 F2 HSL
  go_wp2_with (fail)
  refine (HE.out w4 D4.out).mono ?_
  rintro en w5 ⟨rfl, hrd, hfr⟩
  have F5 := hide (F4.out.own1 hfr (Nat.le_refl _))
  have O5 := hide (O4.out.above hfr (fun k h => by have e : k = w.heap.size := by cases h; rfl
                                                   omega))
  clear hrd hfr D4 O4 F4 HE
  by_cases hz : eF = 0
  · subst hz
    have hmk := make_bools N (by omega) w5
    have HO : Hid (Own (w5.alloc (.cells (madeCells #[.bool false] N) 4)) w5.heap.size 4 1 (.slice (some ⟨w5.heap.size, 0, none⟩) N N) N (bz (atK (bitB s) N 0))) := hide (by
      have h := made_own w5 N 4 (.bool false) _ rfl (by unfold maxLen; omega)
      rw [atK_zero, bz, List.map_replicate]
      exact h)
    generalize madeCells #[.bool false] N = z at hmk HO
    have hw5 := F5.out.size
    have F6 := hide (F5.out.alloc (.cells z 4))
    have O6 := hide (O5.out.fr0 ((Fr.refl No _).alloc (.cells z 4)))
    clear F5 O5
    go_wp2_with (fail)
    generalize w5.heap.size = gl at *
    go_loopw [8, 9] (fun i d wr => ∃ k : Nat, k ≤ 8 * m ∧ i = .int .i64 k ∧ Hid (Own wr gl 4 1 (.slice (some ⟨gl, 0, none⟩) N N) N (bz (atK (bitB s) N k))) ∧ Hid (Own wr w2.heap.size 5 1 (.slice A4 m c4) m (by8 s)) ∧ Hid (cleanI s N k) ∧ Hid (Fr No w wr)) (fun i _ _ => 8 * m - (intOf i).toNat)
    case atStart => exact ⟨0, by omega, rfl, HO, O6, hide (fun j h => absurd h (by omega)), F6⟩
    case round =>
      clear HO O6 F6
      obtain ⟨k, hk, rfl, BW, OW, CW, FW⟩ := hrel
      by_cases hlt : k < 8 * m
      · have hq : k / 8 < m := by omega
        have hqi : ((k : Int) / 8) < (m : Int) := by omega
        obtain ⟨ad, rfl, had, hcell⟩ := OW.out.rd.byte (k := k / 8) (by rw [HM.out]; exact hq)
        have hx8 := (s.getD (k / 8) 0).toNat_lt
        have HB : Hid (bitB s k = (s.getD (k / 8) 0).toNat.testBit (k % 8)) := hide rfl
        have hbv := bitV (t := k % 8) hx8
        rw [← HB.out] at hbv
        generalize (s.getD (k / 8) 0).toNat = x at hcell hx8 hbv
        clear HB
        by_cases hin : k < N
        · obtain ⟨g', e, hg1, _, hcell3, hfz, hst⟩ := BW.out.store hin
          have e1 : gl = g' := by injection e with e; injection e
          subst e1
          rw [bz_at _ (by rw [atK_len]; exact hin)] at hcell3
          have HSt := hide (hst (.bool (bitB s k)))
          rw [show (bz (atK (bitB s) N k)).set k (.bool (bitB s k)) = bz (atK (bitB s) N (k + 1)) by rw [← atK_set _ hin]; unfold bz; rw [List.map_set]] at HSt
          generalize hasN (atK (bitB s) N k) k = old at hcell3
          have hge : decide ((N : Int) ≤ (k : Int)) = false := decide_eq_false (by omega)
          generalize bitB s k = b at hbv HSt
          clear hst e
          have HFR : Hid (∀ v, Fr (Is gl) wr (wr.setCell ⟨gl, k, none⟩ v)) := hide (fun v => (Fr.refl (Is gl) wr).setCell (p := ⟨gl, k, none⟩) (fun _ => rfl) v)
          go_wp2_with (fail)
          go_roundw
          case rel => exact ⟨k + 1, by omega, by go_num, HSt, hide (OW.out.btz BW.out rfl (HFR.out _)), hide (fun j h1 h2 => CW.out j (by omega) h2), hide (FW.out.own1 (HFR.out _) (by omega))⟩
          case measure => simp [intOf]; omega
        · have hge : decide ((N : Int) ≤ (k : Int)) = true := decide_eq_true (by omega)
          cases hbb : bitB s k with
          | true =>
            have HNR : Hid (¬ readsB bs) := hide (fun h => by
              have := (HR.out.1 h).2 k (by omega) (by omega)
              rw [hbb] at this
              cases this)
            rw [hbb] at hbv
            clear hbb
            go_wp2_with (fail)
            go_ret2
            exact ⟨_, _, rfl, .inl ⟨HNR.out, rfl, rfl⟩, FW.out⟩
          | false =>
            have HC : Hid (cleanI s N (k + 1)) := hide (fun j h1 h2 => by
              by_cases hj : j = k
              · subst hj; exact hbb
              · exact CW.out j (by omega) h2)
            have HA : Hid (atK (bitB s) N (k + 1) = atK (bitB s) N k) := hide (by
              unfold atK
              apply List.map_congr_left
              intro j hj
              rw [List.mem_range] at hj
              rw [show decide (j < k + 1) = decide (j < k) from decide_eq_decide.2 (by omega)])
            rw [hbb] at hbv
            clear hbb
            go_wp2_with (fail)
            go_roundw
            case rel => exact ⟨k + 1, by omega, by go_num, hide (by rw [HA.out]; exact BW.out), OW, HC, FW⟩
            case measure => simp [intOf]; omega
      · obtain rfl : k = 8 * m := by omega
        have HRY : Hid (readsB bs) := hide (HR.out.2 ⟨trivial, CW.out⟩)
        have HOw : Hid (Own wr w.heap.size 4 1 (.slice (some ⟨gl, 0, none⟩) N N) (readL bs).length (bz (readL bs))) := hide (by
          rw [HRL.out, atK_len]
          exact BW.out.lower hw5)
        go_wp2_with (fail)
        go_ret2
        exact ⟨_, _, rfl, .inr ⟨HRY.out, rfl, HOw.out⟩, FW.out⟩
  · have HNR : Hid (¬ readsB bs) := hide (fun h => hz (HR.out.1 h).1)
    have hb : (eF != 0) = true := by simpa using hz
    clear hz
    go_wp2_with (fail)
    go_ret2
    exact ⟨_, _, rfl, .inl ⟨HNR.out, rfl, rfl⟩, F5.out⟩
end Go.Proofs.YtapfbjaopbcgjaaDoor
