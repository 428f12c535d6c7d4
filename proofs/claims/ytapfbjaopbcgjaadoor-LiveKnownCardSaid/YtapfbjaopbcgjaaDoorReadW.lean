/- The walk of live.Read. -/
import Derived.Test.YtapfbjaopbcgjaaDoorReadP
import Derived.Test.YtapfbjaopbcgjaaDoorTakeN
import Derived.Test.YtapfbjaopbcgjaaDoorTakeB
import Derived.Test.YtapfbjaopbcgjaaDoorVals
import Derived.RegionTactic
import Derived.BigRegion
namespace Go.Proofs.YtapfbjaopbcgjaaDoor
set_option linter.unusedVariables false
set_option linter.unusedSimpArgs false
open Go.RowKit

theorem RD.bt {w w' : World} {g base gb gw a : Nat} {bs : List UInt8} {e : Int} {l : List Bool} (h : RD w g bs a e) (b : BT w base gb gw l) (f : Fr (Is gw) w w') : RD w' g bs a e := by
  obtain ⟨A, c, hh, h1, h2, h3, h4, ho⟩ := h
  refine ⟨A, c, f.blk hh ?_, h1, h2, h3, h4, ho.fr f ?_⟩
  · intro e
    have e : g = gw := by cases e; rfl
    subst e
    exact b.own.ne_blk rfl hh (by decide)
  · intro k hk e
    have e : k = gw := by cases e; rfl
    subst e
    exact ho.apart b.own (by decide) k hk rfl
theorem Own.bt {w w' : World} {base b2 n gb gw : Nat} {v : Value} {l : List Bool} {xs : List Value} (h : Own w b2 5 1 v n xs) (b : BT w base gb gw l) (f : Fr (Is gw) w w') : Own w' b2 5 1 v n xs := by
  refine h.fr f ?_
  intro k hk e
  have e : k = gw := by cases e; rfl
  subst e
  exact h.apart b.own (by decide) k hk rfl

def GivesRead (bs : List UInt8) (w : World) (en : Ending) (w' : World) : Prop := ∃ v e, en = .returned (.tuple #[v, .int .i64 e]) ∧ ((¬ readsB bs ∧ v = .pointer none ∧ e = 20) ∨ (readsB bs ∧ e = 0 ∧ ∃ g gw, v = .pointer (some ⟨g, 0, none⟩) ∧ BT w' w.heap.size g gw (readL bs))) ∧ Fr No w w'

set_option maxRecDepth 100000 in
set_option maxHeartbeats 1000000 in
theorem read_any (A : Option Addr) (n c B : Nat) (bs : List UInt8) (w : World) (hl : bs.length = n) (hn : n ≤ c) (hc : c ≤ maxLen) (hb : n ≤ 140737488355328) (hB : B ≤ w.heap.size) (hr : Rd w B A (by8 bs)) :
    Calls Tryd.prog 30 #[.slice A n c] w (GivesRead bs w) := by
  have HN := hide (newReader_any A n c B bs w hl hn hc hb hB hr)
  have HZ := hide (fun g W (h : RD W g bs 0 0) => size_any g bs 0 0 16384 W h (by omega) (by omega))
  have HW := hide (fun W => new_any (rdN bs : Nat) W (by omega) (by have := rdN_le bs; omega))
  have hk : clampN (rdN bs : Nat) = rdN bs := by have := rdN_le bs; unfold clampN; rw [if_neg (by omega), if_neg (by omega), Int.toNat_natCast]
  rw [hk] at HW
  have HY := hide (fun g W (h : RD W g bs (sizeS bs 0 0 16384).2.1 (sizeS bs 0 0 16384).2.2) => bytes_any g bs _ _ (((rdN bs + 7) / 8 : Nat) : Int) W h)
  have HE := hide (fun g W (h : RD W g bs (rdA bs) (rdE bs)) => end_any g bs (rdA bs) (rdE bs) W h)
  have HN16 := rdN_le bs
  have HSL := hide (rdS_len bs)
  have HSF := hide (rdS_full bs)
  have HEE := hide (rdEnd_e bs)
  have HR : Hid (readsB bs ↔ (rdEnd bs = 0 ∧ clean (rdS bs) (rdN bs) (rdS bs).length)) := hide Iff.rfl
  have HRL : Hid (readL bs = atK (bitB (rdS bs)) (rdN bs) (8 * (rdS bs).length)) := hide rfl
  rw [show (sizeS bs 0 0 16384).1 = rdN bs from rfl] at HZ
  rw [show (bytesS bs (sizeS bs 0 0 16384).2.1 (sizeS bs 0 0 16384).2.2 (((rdN bs + 7) / 8 : Nat) : Int)).1 = rdS bs from rfl, show (bytesS bs (sizeS bs 0 0 16384).2.1 (sizeS bs 0 0 16384).2.2 (((rdN bs + 7) / 8 : Nat) : Int)).2.1 = rdA bs from rfl, show (bytesS bs (sizeS bs 0 0 16384).2.1 (sizeS bs 0 0 16384).2.2 (((rdN bs + 7) / 8 : Nat) : Int)).2.2 = rdE bs from rfl] at HY
  rw [show endE bs (rdA bs) (rdE bs) = rdEnd bs from rfl] at HE
  clear hl hn hc hb hB hr hk
  have HN7 : Hid (((rdN bs : Int) + 7) / 8 = (((rdN bs + 7) / 8 : Nat) : Int)) := hide (by omega)
  generalize (rdS bs) = s at HY HSL HSF HR HRL
  generalize (rdN bs) = N at HZ HW HY HN16 HSL HSF HR HRL HN7
  generalize rdA bs = a2 at HY HE
  generalize rdE bs = e2 at HY HE HSF HEE
  generalize rdEnd bs = eF at HE HEE HR
  generalize (sizeS bs 0 0 16384).2.1 = a1 at HZ HY
  generalize (sizeS bs 0 0 16384).2.2 = e1 at HZ HY
  go_enter Tryd.func30, Tryd.ntmps30
  go_wp2_with (fail)
  refine HN.out.mono ?_
  rintro en w1 ⟨g0, rfl, hg0, hrd, hfr⟩
  have D1 := hide hrd
  have F1 := hide hfr
  clear hrd hfr HN
  go_wp2_with (fail)
  refine (HZ.out g0 w1 D1.out).mono ?_
  rintro en w2 ⟨rfl, hrd, hfr⟩
  have D2 := hide hrd
  have F2 := hide (F1.out.own1 hfr hg0)
  clear hrd hfr HZ D1 F1
  go_wp2_with (fail)
  refine (HW.out w2).mono ?_
  rintro en w3 ⟨g, gw, rfl, hbt, hfr⟩
  have B3 := hide (hbt.lower F2.out.size)
  have D3 := hide (D2.out.fr0 hfr)
  have F3 := hide (F2.out.tr hfr)
  have b1 := hbt.cell1
  rw [List.length_replicate] at b1
  have hgg : g0 < w2.heap.size := D2.out.lt
  have hlow := hide hbt.lt
  clear hbt hfr HW D2 F2
  go_wp2_with (fail)
  rw [HN7.out]
  refine (HY.out g0 w3 D3.out).mono ?_
  rintro en w4 ⟨v4, rfl, hown, hrd, hfr⟩
  obtain ⟨m, hm⟩ : ∃ m, s.length = m := ⟨_, rfl⟩
  rw [hm] at HSL HSF HR HRL hown
  have HM := hide hm
  clear hm
  have hwcl := hlow.out
  have B4 := hide (B3.out.fr hfr (by intro e; have e : g = g0 := by cases e; rfl
                                     omega) (by intro e; have e : gw = g0 := by cases e; rfl
                                                omega))
  have F4 := hide (F3.out.own1 hfr hg0)
  have D4 := hide hrd
  obtain ⟨A4, c4, rfl, p1, p2, hz, hrd2, hba⟩ := hown.form
  clear hz hrd2 hba
  have O4 := hide hown
  have P2 := hide p2
  unfold maxLen at p2
  have hm16 : m ≤ 2048 := by
    rcases HSL.out with h | h
    · have := HM.out; rw [h] at this; simp at this; omega
    · omega
  have HKN : Hid (∀ k, k < m → 8 * k < N) := hide (fun k hk => by
    rcases HSL.out with h | h
    · have := HM.out; rw [h] at this; simp at this; omega
    · omega)
  clear hown hrd hfr HY D3 B3 F3 b1 hlow hwcl HSL
  go_wp2_with (fail)
  go_loopw [6, 7, 22] (fun u6 u7 i wr => ∃ k : Nat, k ≤ m ∧ i = .int .i64 k ∧ Hid (BT wr w.heap.size g gw (atK (bitB s) N (8 * k))) ∧ Hid (RD wr g0 bs a2 e2) ∧ Hid (Own wr w3.heap.size 5 1 (.slice A4 m c4) m (by8 s)) ∧ Hid (clean s N k) ∧ Hid (Fr No w wr)) (fun _ _ i _ => m - (intOf i).toNat)
  case atStart => exact ⟨0, by omega, rfl, hide (by rw [Nat.mul_zero, atK_zero]; exact B4.out), D4, O4, hide (clean_zero _ _), F4⟩
  case round =>
    clear B4 D4 O4 F4
    obtain ⟨k, hk, rfl, BW, DW, OW, CW, FW⟩ := hrel
    by_cases hlt : k < m
    · obtain ⟨ad, rfl, had, hcell⟩ := OW.out.rd.byte (k := k) (by rw [HM.out]; exact hlt)
      have b0 := BW.out.cell0
      have b1 := BW.out.cell1
      rw [atK_len] at b0 b1
      have h8 := HKN.out k hlt
      have hq : k / 8 < wcount N := by unfold wcount; omega
      have hw := BW.out.word (i := k / 8) (by rw [atK_len]; exact hq)
      have hfz := BW.out.frozen (k / 8)
      have hxw := wd_lt (atK (bitB s) N (8 * k)) (k / 8)
      have hkc : ((k : Int) / 8) < ((wcount N : Nat) : Int) := by omega
      have hx8 := (s.getD k 0).toNat_lt
      have HST := hide (fun (hc : cleanB s N k) v (hv : v = wd (atK (bitB s) N (8 * k)) (k / 8) ||| ((s.getD k 0).toNat * 2 ^ (8 * (k % 8)))) => BW.out.put (l' := atK (bitB s) N (8 * (k + 1))) (q := k / 8) (v := v) (by rw [atK_len]; exact hq) (by rw [atK_len, atK_len]) (fun i hi => by rw [Nat.mul_succ]; exact wd_byte_off hi) (by rw [hv, Nat.mul_succ]; exact wd_byte hc))
      have HFR : Hid (∀ v, Fr (Is gw) wr (wr.setCell ⟨gw, k / 8, none⟩ v)) := hide (fun v => (Fr.refl (Is gw) wr).setCell (p := ⟨gw, k / 8, none⟩) (fun _ => rfl) v)
      have HCI := hide (cleanB_iff (s := s) (n := N) (k := k) (by omega))
      have HLO := hide (cleanB_low (s := s) (n := N) (k := k))
      generalize wd (atK (bitB s) N (8 * k)) (k / 8) = y at hw hxw HST
      generalize (s.getD k 0).toNat = x at hcell hx8 HST HCI
      have HQ := hide hq
      have hwm : wcount N ≤ 256 := by unfold wcount; omega
      generalize wcount N = W at b0 hkc hwm HQ
      clear hq
      have hval : bits .or .u64 (y : Int) (IntKind.u64.wrap ((x : Int) * 2 ^ (8 * (k % 8)))) = ((y ||| (x * 2 ^ (8 * (k % 8))) : Nat) : Int) := by
        have h : x * 2 ^ (8 * (k % 8)) < 18446744073709551616 := by
          calc x * 2 ^ (8 * (k % 8)) < 2 ^ 8 * 2 ^ (8 * (k % 8)) := Nat.mul_lt_mul_of_pos_right hx8 (Nat.pow_pos (by omega))
            _ = 2 ^ (8 + 8 * (k % 8)) := (Nat.pow_add ..).symm
            _ ≤ 2 ^ 64 := Nat.pow_le_pow_right (by omega) (by omega)
        have e : ((x : Int) * (2 : Int) ^ (8 * (k % 8))) = ((x * 2 ^ (8 * (k % 8)) : Nat) : Int) := by simp
        rw [e]
        generalize x * 2 ^ (8 * (k % 8)) = p at h ⊢
        rw [show IntKind.u64.wrap (p : Int) = (p : Int) by rw [IntKind.wrap_u64]; omega]
        exact u64_or_nat _ _ hxw h
      have HVA := hide hval
      clear hval
      by_cases hsm : 8 * k + 8 ≤ N
      · have hd : decide ((N : Int) < 8 * (k : Int) + 8) = false := decide_eq_false (by omega)
        have HC := hide (HLO.out hsm)
        clear HLO HCI
        go_wp2_with (fail)
        go_region
        go_wp2_with (fail)
        go_roundw
        case rel =>
          rw [HVA.out]
          have FS := (HFR.out (.int .u64 ((y ||| (x * 2 ^ (8 * (k % 8))) : Nat) : Int)))
          exact ⟨k + 1, by omega, by go_num, hide ((HST.out HC.out _ rfl).fr0 ((Fr.refl No _).drew)), hide (DW.out.bt BW.out FS.drew), hide (OW.out.bt BW.out FS.drew), hide (clean_succ CW.out HC.out), hide (FW.out.own1 FS.drew BW.out.lt.2.2.1)⟩
        case measure => simp [intOf]; omega
      · have hd : decide ((N : Int) < 8 * (k : Int) + 8) = true := decide_eq_true (by omega)
        have hcast : ((x : Int) / (2 : Int) ^ (N - 8 * k)) = ((x / 2 ^ (N - 8 * k) : Nat) : Int) := by simp
        by_cases hz : x / 2 ^ (N - 8 * k) = 0
        · have HC := hide (HCI.out.2 hz)
          have hb : ((x : Int) / (2 : Int) ^ (N - 8 * k) != 0) = false := by rw [hcast, hz]; rfl
          clear HLO HCI hz hcast
          go_wp2_with (fail)
          go_region
          go_wp2_with (fail)
          go_roundw
          case rel =>
            rw [HVA.out]
            have FS := (HFR.out (.int .u64 ((y ||| (x * 2 ^ (8 * (k % 8))) : Nat) : Int)))
            exact ⟨k + 1, by omega, by go_num, hide ((HST.out HC.out _ rfl).fr0 ((Fr.refl No _).drew)), hide (DW.out.bt BW.out FS.drew), hide (OW.out.bt BW.out FS.drew), hide (clean_succ CW.out HC.out), hide (FW.out.own1 FS.drew BW.out.lt.2.2.1)⟩
          case measure => simp [intOf]; omega
        · have HNR : Hid (¬ readsB bs) := hide (fun h => hz (HCI.out.1 (fun j h1 h2 h3 => (HR.out.1 h).2 j (by omega) h3)))
          have hb : ((x : Int) / (2 : Int) ^ (N - 8 * k) != 0) = true := by rw [hcast]; simp; omega
          clear HLO HCI hz hcast
          go_wp2_with (fail)
          go_ret2
          exact ⟨_, _, rfl, .inl ⟨HNR.out, rfl, rfl⟩, FW.out⟩
    · obtain rfl : k = m := by omega
      go_wp2_with (fail)
      refine (HE.out g0 wr DW.out).mono ?_
      rintro en w5 ⟨rfl, hrd, hfr⟩
      by_cases hz : eF = 0
      · have HRY : Hid (readsB bs) := hide (HR.out.2 ⟨hz, CW.out⟩)
        subst hz
        have F5 := hide (FW.out.own1 hfr hg0)
        have B5 : Hid (BT w5 w.heap.size g gw (readL bs)) := hide (by
          rw [HRL.out]
          refine BW.out.fr hfr ?_ ?_
          · intro e
            have e : g = g0 := by cases e; rfl
            subst e
            obtain ⟨_, _, hh, _⟩ := DW.out
            have h2 := BW.out.blk
            rw [hh] at h2
            injection h2 with h2
            injection h2 with _ h2 _
            exact absurd h2 (by decide)
          · intro e
            have e : gw = g0 := by cases e; rfl
            subst e
            obtain ⟨_, _, hh, _⟩ := DW.out
            exact BW.out.own.ne_blk rfl hh (by decide))
        clear hrd hfr
        go_wp2_with (fail)
        go_ret2
        exact ⟨_, _, rfl, .inr ⟨HRY.out, rfl, g, gw, rfl, B5.out⟩, F5.out⟩
      · have HNR : Hid (¬ readsB bs) := hide (fun h => hz (HR.out.1 h).1)
        have hb : (eF != 0) = true := by simpa using hz
        have F5 := hide (FW.out.own1 hfr hg0)
        clear hrd hfr hz
        go_wp2_with (fail)
        go_ret2
        exact ⟨_, _, rfl, .inl ⟨HNR.out, rfl, rfl⟩, F5.out⟩
end Go.Proofs.YtapfbjaopbcgjaaDoor
