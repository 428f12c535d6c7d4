/- The walk of LiveReads: it answers true; nothing that was there has changed. Condition: the library's table lies as laid. -/
import Derived.Test.YtapfbjaopbcgjaaDoorAwake14
import Derived.Test.YtapfbjaopbcgjaaDoorReadW
import Derived.Test.YtapfbjaopbcgjaaDoorRefReadW
import Derived.Test.YtapfbjaopbcgjaaDoorLent8
namespace Go.Proofs.YtapfbjaopbcgjaaDoor
set_option linter.unusedVariables false
set_option linter.unusedSimpArgs false
open Go.RowKit

theorem Own.lentB {w : World} {base n c : Nat} {A : Option Addr} {xs : List UInt8} {m : UInt8} (hl : xs.length = n) (h : Own w base 5 1 (.slice A (n + 1) c) (n + 1) (by8 (xs ++ [m]))) : Rd w w.heap.size A (by8 xs) := by
  have h1 := h.rd.tk xs.length
  rw [← by8_take, List.take_left] at h1
  exact h1

set_option maxRecDepth 100000 in
set_option maxHeartbeats 2000000 in
theorem liveReads_any (A : Option Addr) (n c : Nat) (bs : List UInt8) (w : World) (hT : Tab w) (h1 : bs.length = n) (q1 : n ≤ c) (q2 : c ≤ maxLen) (hr : Rd w w.heap.size A (by8 bs)) :
    Calls Tryd.prog 6 #[.slice A n c] w (RetB true w) := by
  have HAw := hide (fun W (f : Fr No w W) => awake14_any W (hT.fr0 f))
  have HL1 := hide h1
  have R1 := hide hr
  have HT := hide hT
  have HQ2 := hide q2
  unfold maxLen at q2
  clear h1 hr hT
  by_cases hbig : 5000 < n
  · have hd : decide ((5000 : Int) < (n : Int)) = true := decide_eq_true (by omega)
    go_enter Tryd.func6, Tryd.ntmps6
    go_wp2_with (fail)
    refine (HAw.out w (Fr.refl _ _)).mono ?_
    rintro en w1 ⟨rfl, hfr⟩
    have F1 := hide hfr
    clear hfr
    go_wp2_with (fail)
    go_ret
    exact ⟨rfl, F1.out⟩
  · have hd : decide ((5000 : Int) < (n : Int)) = false := decide_eq_false (by omega)
    have hn5 : n ≤ 5000 := by omega
    have HLe := hide (lent8_any A n c w.heap.size bs w HL1.out (by omega) R1.out)
    have HRd := hide (fun W X k (a1 : n ≤ k) (a2 : k ≤ maxLen) (h : Rd W W.heap.size X (by8 bs)) => read_any X n k W.heap.size bs W HL1.out a1 a2 (by omega) (Nat.le_refl _) h)
    have HRR := hide (fun W (f : Fr No w W) => refRead_any A n c w.heap.size bs W HL1.out q1 HQ2.out (by omega) f.size (R1.out.fr0 f))
    have hrl : (readL bs).length = rdN bs := atK_len _ _ _
    have hrn := rdN_le bs
    have HSa := hide (fun W B p X k (hb : BV W B (.pointer p) (readL bs)) (f : Fr No w W) (a1 : rdN bs ≤ k) (a2 : k ≤ maxLen) (hr : Rd W W.heap.size X (bz (readL bs))) => same_any B p _ X (rdN bs) k W hb (HT.out.fr0 f) hrl a1 a2 (by omega) hr)
    have HS0 := hide (fun W (f : Fr No w W) => same_any 0 none [] none 0 0 W (.inl ⟨rfl, rfl⟩) (HT.out.fr0 f) rfl (by omega) (by unfold maxLen; omega) (by omega) (Rd.nil _ _ _))
    have HK := hide (fun W X k (a1 : n + 1 ≤ k) (a2 : k ≤ maxLen) (h : Rd W W.heap.size X (by8 (bs ++ [201]))) (f : Fr No w W) => retB_of (kept8_any X A n k n c W.heap.size w.heap.size bs W HL1.out HL1.out a1 a2 q1 HQ2.out h (R1.out.fr0 f)))
    have HRL := hide hrl
    generalize rdN bs = N at HSa HRL hrn
    clear hbig hrl
    go_enter Tryd.func6, Tryd.ntmps6
    go_wp2_with (fail)
    refine HLe.out.mono ?_
    rintro en w1 ⟨X1, k1, rfl, hown, hfr⟩
    rw [HL1.out] at hown ⊢
    have O1 := hide hown
    have F1 := hide hfr
    have a1 := hown.le.2.1
    have a2 := hide hown.le.2.2
    clear hown hfr HLe
    go_wp2_with (fail)
    refine (HRd.out w1 X1 k1 (by omega) a2.out (Own.lentB HL1.out O1.out)).mono ?_
    rintro en w2 ⟨v, e, rfl, hv, hfr⟩
    have F2 := hide (F1.out.tr hfr)
    have O2 := hide (O1.out.fr0 hfr)
    have HV := hide hv
    clear hfr HRd hv O1
    go_wp2_with (fail)
    refine (HRR.out w2 F2.out).mono ?_
    rintro en w3 ⟨v3, e3, rfl, hv, hfr⟩
    have F3 := hide (F2.out.tr hfr)
    have O3 := hide (O2.out.fr0 hfr)
    have f3 := hide hfr
    have HV3 := hide hv
    clear hfr HRR hv
    by_cases hok : readsB bs
    · obtain ⟨g, gw, rfl, BT2, rfl⟩ : ∃ g gw, v = .pointer (some ⟨g, 0, none⟩) ∧ Hid (BT w3 w1.heap.size g gw (readL bs)) ∧ e = 0 := by
        rcases HV.out with ⟨h, _⟩ | ⟨_, he, g, gw, hv, hb⟩
        · exact absurd hok h
        · exact ⟨g, gw, hv, hide (hb.fr0 f3.out), he⟩
      obtain ⟨O33, rfl⟩ : Hid (Own w3 w2.heap.size 4 1 v3 N (bz (readL bs))) ∧ e3 = 0 := by
        rcases HV3.out with ⟨h, _⟩ | ⟨_, he, h⟩
        · exact absurd hok h
        · rw [HRL.out] at h
          exact ⟨hide h, he⟩
      obtain ⟨A4, c4, rfl, p1, p2, _⟩ := O33.out.form
      have P2 := hide p2
      unfold maxLen at p2
      clear HV HV3
      go_wp2_with (fail)
      refine (HSa.out w3 _ _ A4 c4 (.inr ⟨g, gw, rfl, BT2.out⟩) F3.out p1 P2.out O33.out.rd).mono ?_
      rintro en w4 ⟨rfl, hfr⟩
      have F4 := hide (F3.out.tr hfr)
      have O4 := hide (O3.out.fr0 hfr)
      clear hfr
      go_wp2_with (fail)
      refine (HK.out w4 X1 k1 a1 a2.out O4.out.rd F4.out).mono ?_
      rintro en w5 ⟨rfl, hfr⟩
      have F5 := hide (F4.out.tr hfr)
      clear hfr
      go_wp2_with (fail)
      refine (HAw.out w5 F5.out).mono ?_
      rintro en w6 ⟨rfl, hfr⟩
      have F6 := hide (F5.out.tr hfr)
      clear hfr
      go_wp2_with (fail)
      go_ret
      exact ⟨rfl, F6.out⟩
    · obtain ⟨rfl, rfl⟩ : v = .pointer none ∧ e = 20 := by
        rcases HV.out with ⟨_, h⟩ | ⟨h, _⟩
        · exact h
        · exact absurd h hok
      obtain ⟨rfl, rfl⟩ : v3 = .slice none 0 0 ∧ e3 = 20 := by
        rcases HV3.out with ⟨_, h⟩ | ⟨h, _⟩
        · exact h
        · exact absurd h hok
      clear HV HV3
      go_wp2_with (fail)
      refine (HS0.out w3 F3.out).mono ?_
      rintro en w4 ⟨rfl, hfr⟩
      have F4 := hide (F3.out.tr hfr)
      have O4 := hide (O3.out.fr0 hfr)
      clear hfr
      go_wp2_with (fail)
      refine (HK.out w4 X1 k1 a1 a2.out O4.out.rd F4.out).mono ?_
      rintro en w5 ⟨rfl, hfr⟩
      have F5 := hide (F4.out.tr hfr)
      clear hfr
      go_wp2_with (fail)
      refine (HAw.out w5 F5.out).mono ?_
      rintro en w6 ⟨rfl, hfr⟩
      have F6 := hide (F5.out.tr hfr)
      clear hfr
      go_wp2_with (fail)
      go_ret
      exact ⟨rfl, F6.out⟩
end Go.Proofs.YtapfbjaopbcgjaaDoor
