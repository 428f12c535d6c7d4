/- The statements' own kit at files: are lists of bytes the same? sealed; bad. -/
import Derived.Test.YtapfbjaopbcgjaaOpenW
import Derived.Test.YtapfbjaopbcgjaaKit8
namespace Go.Proofs.Ytapfbjaopbcgjaa
set_option linter.unusedVariables false
set_option linter.unusedSimpArgs false
open Go.RowKit

theorem take_succ_bl {xs ys : List (List UInt8)} {k : Nat} {x y : List UInt8} (h1 : xs[k]? = some x) (h2 : ys[k]? = some y) (h : xs.take k = ys.take k) (he : x = y) : xs.take (k + 1) = ys.take (k + 1) := by
  obtain ⟨a, rfl⟩ := List.getElem?_eq_some_iff.1 h1
  obtain ⟨b, rfl⟩ := List.getElem?_eq_some_iff.1 h2
  rw [List.take_succ_eq_append_getElem a, List.take_succ_eq_append_getElem b, h, he]

set_option maxRecDepth 100000 in
set_option maxHeartbeats 1600000 in
theorem kblocks_any (A B : Option Addr) (n c m d b1 b2 : Nat) (xs ys : List (List UInt8)) (w : World) (hx : xs.length = n) (hy : ys.length = m) (hn : n ≤ c) (hc : c ≤ maxLen) (hm : m ≤ d) (hd : d ≤ maxLen) (hr : BSl w b1 A xs) (hs : BSl w b2 B ys) :
    Calls Try.prog 21 #[.slice A n c, .slice B m d] w (RetQ (.bool (decide (xs = ys))) w) := by
  unfold maxLen at hc hd
  have HX := hide hx
  have HY := hide hy
  have HR := hide hr
  have HS := hide hs
  clear hx hy hr hs
  by_cases hnm : n = m
  · subst hnm
    have hb : ((n : Int) != n) = false := by simp
    go_enter Try.func21, Try.ntmps21
    go_wp2
    go_loopw [5] (fun i wr => ∃ k nq : Nat, k ≤ n ∧ i = .int .i64 k ∧ wr = w.drewN nq ∧ Hid (xs.take k = ys.take k)) (fun i _ => n - (intOf i).toNat)
    case atStart => exact ⟨0, 0, by omega, rfl, rfl, hide rfl⟩
    case round =>
      obtain ⟨k, nq, hk, rfl, rfl, HT⟩ := hrel
      by_cases hlt : k < n
      · obtain ⟨x, hx⟩ : ∃ x, xs[k]? = some x := ⟨_, List.getElem?_eq_getElem (by rw [HX.out]; exact hlt)⟩
        obtain ⟨y, hy⟩ : ∃ y, ys[k]? = some y := ⟨_, List.getElem?_eq_getElem (by rw [HY.out]; exact hlt)⟩
        obtain ⟨ad, Aj, cj, rfl, _, hcell, hj1, hj2, hrj⟩ := HR.out k x hx
        obtain ⟨bd, Bj, dj, rfl, _, hcell2, hi1, hi2, hsj⟩ := HS.out k y hy
        have HE := hide (fun he => take_succ_bl hx hy HT.out he)
        have HN := hide (show x ≠ y → xs ≠ ys from fun h e => h (by rw [e, hy] at hx; exact (Option.some.inj hx).symm))
        have HB := hide (fun q => kbytes_any Aj Bj x.length cj y.length dj b1 b2 x y ((w.drewN nq).drewN q) rfl rfl hj1 hj2 hi1 hi2 (hrj.fr0 (((Fr.refl No w).drewN nq).drewN q)) (hsj.fr0 (((Fr.refl No w).drewN nq).drewN q)))
        have hcell' : (w.drewN nq).cell? (ad.add k) = some (.slice Aj x.length cj) := hcell
        have hcell2' : (w.drewN nq).cell? (bd.add k) = some (.slice Bj y.length dj) := hcell2
        obtain ⟨wo, hwo⟩ : ∃ wo, wo = w.drewN nq := ⟨_, rfl⟩
        rw [← hwo] at HB hcell' hcell2'
        rw [← hwo]
        have HWO := hide hwo
        clear hx hy hrj hsj hj1 hj2 hi1 hi2 hcell hcell2 hwo
        by_cases he : x = y
        · have HE' := hide (HE.out he)
          rw [decide_eq_true he] at HB
          clear HE HN he
          go_wp2
          go_quiet ((go_at_call 12; exact Calls.quiet_of (HB.out _)))
          go_wp2
          go_round
          case rel => exact ⟨k + 1, _, by omega, by go_num, by rw [HWO.out]; exact World.drewN_drewN _ _ _, HE'⟩
          case measure => simp [intOf]; omega
        · rw [decide_eq_false he] at HB
          have HF := hide (HN.out he)
          clear HE HN he
          go_wp2
          go_quiet ((go_at_call 12; exact Calls.quiet_of (HB.out _)))
          go_wp2
          go_ret
          exact ⟨by simp [HF.out], _, by rw [HWO.out]; exact World.drewN_drewN _ _ _⟩
      · have HF := hide (show xs = ys by
          have h := HT.out
          rwa [List.take_of_length_le (by rw [HX.out]; omega), List.take_of_length_le (by rw [HY.out]; omega)] at h)
        go_wp2
        go_ret
        exact ⟨by simp [HF.out], _, rfl⟩
  · have hb : ((n : Int) != m) = true := by simp; omega
    have HF := hide (show xs ≠ ys from fun e => hnm (by rw [← HX.out, ← HY.out, e]))
    go_enter Try.func21, Try.ntmps21
    go_wp2
    go_ret
    exact ⟨by simp [HF.out], 0, rfl⟩

set_option maxRecDepth 100000 in
set_option maxHeartbeats 1600000 in
theorem sealedL_any (v : Value) (n : Nat) (bs : List UInt8) (base : Nat) (w : World) (hl : bs.length = n) (ho : Own w base 5 1 v n (by8 bs)) (hb : n ≤ 140737488350000) (hB : base ≤ w.heap.size) :
    Calls Try.prog 22 #[v] w (fun en w' => ∃ v', en = .returned v' ∧ Own w' base 5 1 v' (n + 4) (by8 (bs ++ fourB (crcOf bs))) ∧ Fr (fun k => v.ownBlock = some k) w w') := by
  obtain ⟨i0, hi, hz, hsz, hby⟩ := info_parts Try.info5
  obtain ⟨A, c, rfl, hq1, hq2, _, hq3, _⟩ := ho.form
  have HCB := hide (show [bs].flatten = bs by simp)
  have HS := hide (sum_any (some ⟨w.heap.size, 0, none⟩) 1 1 (w.heap.size + 1) [bs] (w.alloc (.cells #[.slice A n c] 23)) rfl (Nat.le_refl _) (by unfold maxLen; omega) (by simp) (BSl.single hl hq1 hq2 hq3 (Nat.le_refl _)))
  rw [HCB.out] at HS
  have hcr := crcOf_lt bs
  generalize crcOf bs = cr at HS hcr
  have O := hide (ho.fr0 ((Fr.refl No w).alloc (.cells #[.slice A n c] 23)))
  clear ho hq3 HCB
  unfold maxLen at hq2
  have b4 : (n + 4) * 1 ≤ 140737488355328 := by omega
  have b5 : n + 4 ≤ maxLen := by unfold maxLen; omega
  go_enter Try.func22, Try.ntmps22
  go_wp2_with (first
    | (go_at_call 13; refine HS.out.mono ?_; rintro en w1 ⟨rfl, hfr⟩; have O1 := hide (O.out.fr0 hfr); have F1 : Hid (Fr No w w1) := hide (((Fr.refl No w).alloc _).tr hfr); have hw1 := F1.out.size; clear hfr)
    | (at_builtin; refine wpList_append_gen _ rfl (.tmp 7) (.tmp 19) 23 23 rfl base 5 i0 (.int .u8 0) 1 1 Try.underlying23 hi hz hsz hby rfl _ n (by8 bs) rfl (O1.out.fr0 ((Fr.refl _ _).alloc _)) _ 4 (by8 (fourB cr)) rfl (lit_src w1 _ 4 (fourB cr) (four_cells cr hcr) rfl) b4 b5 (by simp; omega) ?_; intro v2 w2 hown hfr hat; have O2 := hide hown; have F2 := hide hfr; clear hown hfr hat))
  go_ret
  refine ⟨_, rfl, by rw [by8_append]; exact O2.out, ?_⟩
  refine Fr.trans (T := fun k => (Value.slice A n c).ownBlock = some k) ((F1.out.any _).alloc _) F2.out (fun _ _ h => h)

theorem openL_bad {kind : UInt8} {d : List UInt8} (h : openE kind d ≠ 0) : openL kind d = [] := by unfold openL; rw [if_neg h]

set_option maxRecDepth 100000 in
set_option maxHeartbeats 800000 in
theorem bad_any (kind : UInt8) (A : Option Addr) (n c B : Nat) (d : List UInt8) (w : World) (hl : d.length = n) (hn : n ≤ c) (hc : c ≤ maxLen) (hB : B ≤ w.heap.size) (hr : Rd w B A (by8 d)) :
    Calls Try.prog 23 #[.int .u8 (kind.toNat : Nat), .slice A n c] w (RetB (decide (openE kind d = 20)) w) := by
  have HO := hide (open_any kind A n c B d w hl hn hc hB hr)
  clear hl hn hc hr
  by_cases he : openE kind d = 20
  · have HL := hide (openL_bad (kind := kind) (d := d) (by rw [he]; decide))
    have HD := hide (decide_eq_true he)
    unfold GivesOpen at HO
    rw [he, HL.out] at HO
    go_enter Try.func23, Try.ntmps23
    go_wp2_with (go_at_call 17; refine HO.out.mono ?_; rintro en w1 ⟨v, vals, rfl, hown, hvals, hfr⟩; have F1 := hide hfr; obtain ⟨A1, c1, rfl, _⟩ := hown.form; clear hown hvals hfr)
    go_ret
    exact ⟨by rw [HD.out]; rfl, F1.out⟩
  · have HD := hide (decide_eq_false he)
    have hb : (openE kind d == 20) = false := by simpa using he
    unfold GivesOpen at HO
    clear he
    generalize openE kind d = e at HO hb HD
    go_enter Try.func23, Try.ntmps23
    go_wp2_with (go_at_call 17; refine HO.out.mono ?_; rintro en w1 ⟨v, vals, rfl, hown, hvals, hfr⟩; have F1 := hide hfr; obtain ⟨A1, c1, rfl, _⟩ := hown.form; clear hown hvals hfr)
    go_ret
    exact ⟨by rw [HD.out]; rfl, F1.out⟩
end Go.Proofs.Ytapfbjaopbcgjaa
