/- The walk of LiveAt: it answers true; nothing that was there has changed. Condition: the library's table lies as laid. -/
import Derived.Test.YtapfbjaopbcgjaaDoorAwake14
import Derived.Test.YtapfbjaopbcgjaaDoorRefAt
import Derived.Test.YtapfbjaopbcgjaaDoorKitU64
namespace Go.Proofs.YtapfbjaopbcgjaaDoor
set_option linter.unusedVariables false
set_option linter.unusedSimpArgs false
open Go.RowKit

theorem Own.lentU {w : World} {base n c : Nat} {A : Option Addr} {xs : List Int} {m : Int} (hl : xs.length = n) (h : Own w base 23 1 (.slice A (n + 1) c) (n + 1) (iz .u64 (xs ++ [m]))) : Rd w w.heap.size A (iz .u64 xs) := by
  have h1 := h.rd.tk xs.length
  rw [← iz_take, List.take_left] at h1
  exact h1

set_option maxRecDepth 100000 in
set_option maxHeartbeats 2000000 in
theorem liveAt_any (A1 A2 : Option Addr) (n c1 m c2 : Nat) (seqs dead : List Int) (s : Int) (w : World) (hT : Tab w) (h1 : seqs.length = n) (h2 : dead.length = m) (q1 : n ≤ c1) (q2 : c1 ≤ maxLen) (q3 : m ≤ c2) (q4 : c2 ≤ maxLen) (hr1 : Rd w w.heap.size A1 (iz .u64 seqs)) (hr2 : Rd w w.heap.size A2 (iz .u64 dead)) :
    Calls Tryd.prog 3 #[.slice A1 n c1, .slice A2 m c2, .int .u64 s] w (RetB true w) := by
  have HAw := hide (fun W (f : Fr No w W) => awake14_any W (hT.fr0 f))
  have HL1 := hide h1
  have HL2 := hide h2
  have R1 := hide hr1
  have R2 := hide hr2
  have HT := hide hT
  have HQ2 := hide q2
  have HQ4 := hide q4
  unfold maxLen at q2 q4
  clear h1 h2 hr1 hr2 hT
  by_cases hbig : 5000 < n ∨ 5000 < m
  · rcases hbig with hb | hb
    · have hd : decide ((5000 : Int) < (n : Int)) = true := decide_eq_true (by omega)
      go_enter Tryd.func3, Tryd.ntmps3
      go_wp2_with (go_at_call 9; refine (HAw.out w (Fr.refl _ _)).mono ?_; rintro en w1 ⟨rfl, hfr⟩; have F1 := hide hfr; clear hfr)
      go_ret
      exact ⟨rfl, F1.out⟩
    · by_cases hn : 5000 < n
      · have hd : decide ((5000 : Int) < (n : Int)) = true := decide_eq_true (by omega)
        go_enter Tryd.func3, Tryd.ntmps3
        go_wp2_with (go_at_call 9; refine (HAw.out w (Fr.refl _ _)).mono ?_; rintro en w1 ⟨rfl, hfr⟩; have F1 := hide hfr; clear hfr)
        go_ret
        exact ⟨rfl, F1.out⟩
      · have hd : decide ((5000 : Int) < (n : Int)) = false := decide_eq_false (by omega)
        have hd2 : decide ((5000 : Int) < (m : Int)) = true := decide_eq_true (by omega)
        go_enter Tryd.func3, Tryd.ntmps3
        go_wp2_with (go_at_call 9; refine (HAw.out w (Fr.refl _ _)).mono ?_; rintro en w1 ⟨rfl, hfr⟩; have F1 := hide hfr; clear hfr)
        go_ret
        exact ⟨rfl, F1.out⟩
  · have hn : n ≤ 5000 := by omega
    have hm : m ≤ 5000 := by omega
    have hd : decide ((5000 : Int) < (n : Int)) = false := decide_eq_false (by omega)
    have hd2 : decide ((5000 : Int) < (m : Int)) = false := decide_eq_false (by omega)
    have HLe1 := hide (lentU64_any A1 n c1 w.heap.size seqs w HL1.out (by omega) R1.out)
    have HLe2 := hide (fun W (f : Fr No w W) => lentU64_any A2 m c2 w.heap.size dead W HL2.out (by omega) (R2.out.fr0 f))
    have hal : (atB seqs dead s).length = n := by simp [atB, HL1.out]
    have HA := hide (fun W X1 k1 X2 k2 (a1 : n ≤ k1) (a2 : k1 ≤ maxLen) (a3 : m ≤ k2) (a4 : k2 ≤ maxLen) (h1 : Rd W W.heap.size X1 (iz .u64 seqs)) (h2 : Rd W W.heap.size X2 (iz .u64 dead)) => at_any X1 X2 n k1 m k2 _ _ seqs dead s W HL1.out HL2.out a1 a2 a3 a4 (by omega) (Nat.le_refl _) (Nat.le_refl _) h1 h2)
    have HRA := hide (fun W (f : Fr No w W) => refAt_any A1 A2 n c1 m c2 w.heap.size w.heap.size seqs dead s W HL1.out HL2.out q1 HQ2.out q3 HQ4.out (by omega) f.size f.size (R1.out.fr0 f) (R2.out.fr0 f))
    have HSa := hide (fun W B p A c (hb : BV W B (.pointer p) (atB seqs dead s)) (f : Fr No w W) (a1 : n ≤ c) (a2 : c ≤ maxLen) (hr : Rd W W.heap.size A (bz (atB seqs dead s))) => same_any B p _ A n c W hb (HT.out.fr0 f) hal a1 a2 (by omega) hr)
    have HAl := hide hal
    generalize atB seqs dead s = at0 at HA HRA HSa HAl
    have HK1 := hide (fun W X k (a1 : n + 1 ≤ k) (a2 : k ≤ maxLen) (h : Rd W W.heap.size X (iz .u64 (seqs ++ [7171]))) (f : Fr No w W) => retB_of (keptU64_any X A1 n k n c1 W.heap.size w.heap.size seqs W HL1.out HL1.out a1 a2 q1 HQ2.out h (R1.out.fr0 f)))
    have HK2 := hide (fun W X k (a1 : m + 1 ≤ k) (a2 : k ≤ maxLen) (h : Rd W W.heap.size X (iz .u64 (dead ++ [7171]))) (f : Fr No w W) => retB_of (keptU64_any X A2 m k m c2 W.heap.size w.heap.size dead W HL2.out HL2.out a1 a2 q3 HQ4.out h (R2.out.fr0 f)))
    clear hal hbig
    go_enter Tryd.func3, Tryd.ntmps3
    go_wp2_with (fail)
    refine HLe1.out.mono ?_
    rintro en w1 ⟨X1, k1, rfl, hown, hfr⟩
    rw [HL1.out] at hown ⊢
    have O1 := hide hown
    have F1 := hide hfr
    have a1 := hown.le.2.1
    have a2 := hide hown.le.2.2
    clear hown hfr HLe1
    go_wp2_with (fail)
    refine (HLe2.out w1 F1.out).mono ?_
    rintro en w2 ⟨X2, k2, rfl, hown, hfr⟩
    rw [HL2.out] at hown ⊢
    have O2 := hide hown
    have F2 := hide (F1.out.tr hfr)
    have O12 := hide (O1.out.fr0 hfr)
    have a3 := hown.le.2.1
    have a4 := hide hown.le.2.2
    clear hown hfr HLe2
    go_wp2_with (fail)
    refine (HA.out w2 X1 k1 X2 k2 (by omega) a2.out (by omega) a4.out (Own.lentU HL1.out O12.out) (Own.lentU HL2.out O2.out)).mono ?_
    rintro en w3 ⟨g, gw, rfl, hbt, hfr⟩
    have B3 := hide hbt
    have F3 := hide (F2.out.tr hfr)
    have O13 := hide (O12.out.fr0 hfr)
    have O23 := hide (O2.out.fr0 hfr)
    clear hbt hfr HA O1 O12 O2
    go_wp2_with (fail)
    refine (HRA.out w3 F3.out).mono ?_
    rintro en w4 ⟨v4, rfl, hown, hfr⟩
    rw [HAl.out] at hown
    have R4 := hide hown
    obtain ⟨A4, c4, rfl, p1, p2, _⟩ := hown.form
    have F4 := hide (F3.out.tr hfr)
    have f4 := hide hfr
    have B4 := hide (B3.out.fr0 hfr)
    clear hown hfr HRA
    go_wp2_with (fail)
    refine (HSa.out w4 _ _ A4 c4 (.inr ⟨g, gw, rfl, B4.out⟩) F4.out p1 p2 R4.out.rd).mono ?_
    rintro en w5 ⟨rfl, hfr⟩
    have F5 := hide (F4.out.tr hfr)
    have O15 := hide ((O13.out.fr0 f4.out).fr0 hfr)
    have O25 := hide ((O23.out.fr0 f4.out).fr0 hfr)
    clear hfr HSa R4 B3 B4 O13 O23 f4
    go_wp2_with (fail)
    refine (HK1.out w5 X1 k1 a1 a2.out O15.out.rd F5.out).mono ?_
    rintro en w6 ⟨rfl, hfr⟩
    have F6 := hide (F5.out.tr hfr)
    have O26 := hide (O25.out.fr0 hfr)
    clear hfr
    clear HK1 O25
    go_wp2_with (fail)
    refine (HK2.out _ X2 k2 a3 a4.out O26.out.rd F6.out).mono ?_
    rintro en w7 ⟨rfl, hfr⟩
    have F7 := hide (F6.out.tr hfr)
    clear hfr
    clear HK2 O26
    go_wp2_with (fail)
    refine (HAw.out _ F7.out).mono ?_
    rintro en w8 ⟨rfl, hfr⟩
    have F8 := hide (F7.out.tr hfr)
    clear hfr HAw
    go_wp2
    go_ret
    exact ⟨rfl, F8.out⟩
end Go.Proofs.YtapfbjaopbcgjaaDoor
