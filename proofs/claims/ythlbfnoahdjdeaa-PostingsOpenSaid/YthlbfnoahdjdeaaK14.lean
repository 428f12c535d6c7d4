/- Several texts in one: PoPs, RdEnd, TakeN, PoOpP, PoOpS. -/
import Derived.Test.YthlbfnoahdjdeaaK13
import Derived.BigQuiet
import Derived.Deep.RegionWith
namespace Go.Proofs.Ythlbfnoahdjdeaa
set_option linter.unusedVariables false
set_option linter.unusedSimpArgs false
open Go.RowKit

def PostsQ (w : World) (a last : Int) (n : Nat) (b : List UInt8) (en : Ending) (w' : World) : Prop :=
  Fr No w w' ∧ ∃ v ps ok, en = .returned (.tuple #[v, .bool ok]) ∧ OwnPs w' w.heap.size v ps ∧ (∀ blk, GoodB a blk n → b = rowsB a blk → ps.map (·.1) = blk ∧ (ok = true ↔ lastOr a blk = last)) ∧ ps.length ≤ n
theorem posts_no {w w' : World} {a last : Int} {n : Nat} {b : List UInt8} (f : Fr No w w') (h : ∀ blk, GoodB a blk n → b = rowsB a blk → False) : PostsQ w a last n b (.returned (.tuple #[.slice none 0 0, .bool false])) w' :=
  ⟨f, _, [], _, rfl, OwnPs.nil _ _, fun blk h1 h2 => (h blk h1 h2).elim, Nat.zero_le _⟩
theorem freq_in {blk : List Po} {a : Int} (h : RowOk a blk) {i : Nat} (hi : i < (freqsL blk).length) : 0 ≤ (freqsL blk).getD i 0 ∧ sumF ((freqsL blk).take i) + ((freqsL blk).getD i 0 + 1).toNat ≤ 1048576 := by
  have hi2 : i < blk.length := by rwa [freqsL_len] at hi
  have e : (freqsL blk).getD i 0 = ((blk[i]).2.length : Int) - 1 := by
    simp [freqsL, List.getElem?_eq_getElem hi2]
  have hm : blk[i] ∈ blk := List.getElem_mem hi2
  have h1 : 0 < (blk[i]).2.length := List.length_pos_iff.2 (h.d _ hm).2.2.1
  refine ⟨by rw [e]; omega, ?_⟩
  have h2 : sumF ((freqsL blk).take (i + 1)) ≤ sumF (freqsL blk) := sumF_le _
  rw [List.take_succ_eq_append_getElem hi, sumF_snoc] at h2
  have h3 : (freqsL blk)[i] = (freqsL blk).getD i 0 := by rw [List.getD, List.getElem?_eq_getElem hi]; rfl
  rw [h3, sumF_freqs blk (fun x hx => (h.d x hx).2.2.1)] at h2
  have := h.s
  omega

set_option maxRecDepth 100000 in
set_option maxHeartbeats 400000 in
theorem clipN_any (A : Option Addr) (n c : Nat) (w : World) (hn : n ≤ c) (hc : c ≤ maxLen) :
    Calls Try.prog 80 #[.slice A n c] w (Ret (.slice A n n) w) := by
  unfold maxLen at hc
  go_enter Try.func80, Try.ntmps80
  go_wp2
  go_ret
  exact ⟨by simp, rfl⟩
set_option maxRecDepth 100000 in
set_option maxHeartbeats 16000000 in
theorem posts_any (A : Option Addr) (m c B : Nat) (b : List UInt8) (a last : Int) (n : Nat) (w : World) (hl : b.length = m) (hm : m ≤ c) (hc : c ≤ maxLen) (hb : m ≤ 140737488355328) (hB : B ≤ w.heap.size) (hr : Rd w B A (by8 b)) (hn : n ≤ 8) (ha : -1 ≤ a ∧ a ≤ 1099511627776) :
    Calls Try.prog 52 #[.agg #[.slice A m c, .int .i64 a, .int .i64 last, .int .i64 (n : Nat)]] w (PostsQ w a last n b) := by
  obtain ⟨w2, hw2⟩ : ∃ W, W = (w.alloc (.cells #[.slice A m c, .int .i64 a, .int .i64 last, .int .i64 (n : Nat)] 90)).alloc (.cells #[.slice A m c] 25) := ⟨_, rfl⟩
  obtain ⟨E1, hE1⟩ : ∃ E1, E1 = w.heap.size := ⟨_, rfl⟩
  obtain ⟨g, hg⟩ : ∃ g, g = w.heap.size + 1 := ⟨_, rfl⟩
  have HF2 : Hid (Fr No w w2) := hide (by rw [hw2]; exact ((Fr.refl No w).alloc _).alloc _)
  have HE2 : Hid (w2.heap[E1]? = some (.cells #[.slice A m c, .int .i64 a, .int .i64 last, .int .i64 (n : Nat)] 90 (0, 0))) := hide (by
    rw [hw2, hE1]
    exact ((Fr.refl No _).alloc _).blk (heap_alloc_new w _) (fun h => h))
  have HB2 : Hid (BxB w2 w.heap.size g b) := hide (by
    refine ⟨⟨A, m, c, ?_, hl, hm, hc, hb, (hr.fr0 HF2.out).more hB⟩, by omega⟩
    rw [hw2, hg]
    have := heap_alloc_new (w.alloc (.cells #[.slice A m c, .int .i64 a, .int .i64 last, .int .i64 (n : Nat)] 90)) (.cells #[.slice A m c] 25)
    rw [show (w.alloc (.cells #[.slice A m c, .int .i64 a, .int .i64 last, .int .i64 (n : Nat)] 90)).heap.size = w.heap.size + 1 by simp] at this
    exact this)
  have k0 : (w.alloc (.cells #[.slice A m c, .int .i64 a, .int .i64 last, .int .i64 (n : Nat)] 90)).cell? ⟨w.heap.size, 0, none⟩ = some (.slice A m c) := cell_of_row _ _ 0 _ _ _ (heap_alloc_new w _)
  have HW2 := hide hw2
  have HE1 := hide hE1
  have HG := hide hg
  have HA := hide ha
  obtain ⟨ii, hii, hiz, hisz, hiby⟩ := info_parts Try.infoIn
  obtain ⟨ip, hip, hipz, hipsz, hipby⟩ := info_parts Try.infoPo
  have hne : g ≠ E1 := by omega
  have HNe := hide hne
  unfold maxLen at hc
  clear hw2 hl hr ha hB hne
  go_enter Try.func52, Try.ntmps52
  go_upto_region 2 with (fail)
  rw [← HW2.out, ← hg, ← hE1]
  clear k0 hg hE1
  obtain ⟨D, b1, hz1⟩ : ∃ D b1, takeZ b (n : Nat) = (D, b1) := ⟨_, _, rfl⟩
  obtain ⟨F, b2, hz2⟩ : ∃ F b2, takeZ b1 (n : Nat) = (F, b2) := ⟨_, _, rfl⟩
  have HT1 := hide (take_any w.heap.size g b (n : Nat) w2 HB2.out)
  unfold TakeQ at HT1
  rw [hz1] at HT1
  dsimp only at HT1
  have HCon : Hid (∀ blk, GoodB a blk n → b = rowsB a blk → D = docsL a blk ∧ F = freqsL blk ∧ b2 = putR (placesL blk)) := hide (fun blk h1 h2 => by
    obtain ⟨t1, t2, _⟩ := take_rows h1
    rw [← h2, hz1] at t1
    injection t1 with t1 t3
    rw [t3] at hz2
    rw [t2] at hz2
    injection hz2 with e1 e2
    exact ⟨t1, e1.symm, e2.symm⟩)
  have k1 : w2.cell? ⟨E1, 3, none⟩ = some (.int .i64 (n : Nat)) := cell_of_row _ _ 3 _ _ _ HE2.out
  go_wp2_with (fail)
  refine HT1.out.mono ?_
  rintro en w3 ⟨v3, rfl, hown, hbx, hfr⟩
  have HF3 := hide (HF2.out.trans hfr (fun i hi e => by have e : i = g := e; have := HG.out; omega))
  have HE3 := hide (hfr.blk HE2.out (fun e => HNe.out e.symm))
  have HD3 := hide (hown.lower HF2.out.size)
  have HT2 := hide (take_any w.heap.size g b1 (n : Nat) w3 hbx)
  unfold TakeQ at HT2
  rw [hz2] at HT2
  dsimp only at HT2
  have k2 : w3.cell? ⟨E1, 3, none⟩ = some (.int .i64 (n : Nat)) := cell_of_row _ _ 3 _ _ _ HE3.out
  have HBx3 := hide hbx
  clear hown hbx hfr k1 HT1
  go_wp2_with (fail)
  refine HT2.out.mono ?_
  rintro en w4 ⟨v4, rfl, hown, hbx, hfr⟩
  have HF4 := hide (HF3.out.trans hfr (fun i hi e => by have e : i = g := e; have := HG.out; omega))
  have HE4 := hide (hfr.blk HE3.out (fun e => HNe.out e.symm))
  have HB4 := hide hbx
  have HFq := hide (hown.lower HF3.out.size)
  have HDq : Hid (Own w4 w.heap.size 2 1 v3 D.length (iz .i64 D)) := hide (by
    exact HD3.out.fr hfr (fun k h1 e => by
      have e : k = g := e
      subst e
      obtain ⟨_, _, _, hh0, _⟩ := HBx3.out.ex
      exact HD3.out.ne_blk h1 hh0 (by decide)))
  have k3 : w4.cell? ⟨E1, 3, none⟩ = some (.int .i64 (n : Nat)) := cell_of_row _ _ 3 _ _ _ HE4.out
  obtain ⟨ld, hld⟩ : ∃ ld, D.length = ld := ⟨_, rfl⟩
  obtain ⟨lf, hlf⟩ : ∃ lf, F.length = lf := ⟨_, rfl⟩
  have hDI : InI D := by have := takeZ_in b (n : Nat); rw [hz1] at this; exact this
  have hFI : InI F := by have := takeZ_in b1 (n : Nat); rw [hz2] at this; exact this
  have HDI := hide hDI
  have HFI := hide hFI
  have HDq' := HDq.out
  rw [hld] at HDq'
  obtain ⟨A3, c3, rfl, d1, d2, _, d4, _⟩ := HDq'.form
  have HFq' := HFq.out
  rw [hlf] at HFq'
  obtain ⟨A4, c4, rfl, f1, f2, _, f4, _⟩ := HFq'.form
  have HLd := hide hld
  have HLf := hide hlf
  have HRd := hide d4
  have HRf := hide f4
  clear HDq' HFq' hown hbx hfr hz1 hz2 HT2 k2 hld hlf hDI hFI d4 f4
  by_cases hln : ld = n
  rotate_left
  · have e1 : ((ld : Int) != (n : Int)) = true := by simp; omega
    have HNo : Hid (∀ blk, GoodB a blk n → b = rowsB a blk → False) := hide (fun blk h1 h2 => hln (by rw [← HLd.out, (HCon.out blk h1 h2).1, docsL_len]; exact h1.len))
    clear hln
    go_wp2_with (fail)
    go_ret2
    exact posts_no HF4.out HNo.out
  subst hln
  have e1 : ((ld : Int) != (ld : Int)) = false := by simp
  by_cases hln : lf = ld
  rotate_left
  · have e2 : ((lf : Int) != (ld : Int)) = true := by simp; omega
    have HNo : Hid (∀ blk, GoodB a blk ld → b = rowsB a blk → False) := hide (fun blk h1 h2 => hln (by rw [← HLf.out, (HCon.out blk h1 h2).2.1, freqsL_len]; exact h1.len))
    clear hln
    go_wp2_with (fail)
    go_ret2
    exact posts_no HF4.out HNo.out
  subst hln
  go_wp2_with (fail)
  go_loopw [45, 8] (fun ix ax wr => ∃ (i all : Nat), i ≤ lf ∧ ix = .int .i64 i ∧ ax = .int .i64 all ∧ all ≤ 1048576 ∧ Hid (all = sumF (F.take i)) ∧ Hid (∀ j, j < i → 0 ≤ F.getD j 0) ∧ wr = w4) (fun ix _ _ => lf - (intOf ix).toNat)
  case atStart => exact ⟨0, 0, Nat.zero_le _, rfl, rfl, Nat.zero_le _, hide rfl, hide (fun j h => by omega), rfl⟩
  case round =>
    obtain ⟨i, all, hin, rfl, rfl, hal, HAl, HPo, rfl⟩ := hrel
    by_cases hlt : i < lf
    · have hiF : i < F.length := by rw [HLf.out]; exact hlt
      obtain ⟨ad, rfl, _, kf⟩ := cellInt HRf.out hiF
      have hfi := HFI.out _ (getZ_mem hiF)
      have HTk : Hid (F.take (i + 1) = F.take i ++ [F.getD i 0]) := hide (take_getZ hiF)
      obtain ⟨f, hf⟩ : ∃ f, F.getD i 0 = f := ⟨_, rfl⟩
      rw [hf] at kf hfi HTk
      have HFf := hide hf
      obtain ⟨r2, hr2⟩ : ∃ r2 : Nat, 1048576 - all = r2 := ⟨_, rfl⟩
      have hr3 : (1048576 : Int) - (all : Int) = (r2 : Int) := by omega
      have HR2 := hide hr2
      have i0 : (0 : Int) ≤ (i : Int) := by omega
      have i1 : (i : Int) < (lf : Int) := by omega
      obtain ⟨hfi1, hfi2⟩ := hfi
      clear hf hiF hr2
      by_cases hbad : f < 0 ∨ (r2 : Int) ≤ f
      · have HNo : Hid (∀ blk, GoodB a blk lf → b = rowsB a blk → False) := hide (fun blk h1 h2 => by
          have h3 := (HCon.out blk h1 h2).2.1
          have h4 := freq_in h1.row (i := i) (by rw [← h3, HLf.out]; exact hlt)
          rw [← h3, HFf.out, ← HAl.out] at h4
          have h5 := HR2.out
          rcases hbad with h | h <;> omega)
        by_cases hb1 : f < 0
        · have e3 : decide (f < 0) = true := decide_eq_true hb1
          clear hbad hb1
          go_wp2_with (fail)
          go_ret2
          exact posts_no HF4.out HNo.out
        · have e3 : decide (f < 0) = false := decide_eq_false hb1
          have e4 : decide ((r2 : Int) ≤ f) = true := decide_eq_true (by omega)
          clear hbad hb1
          go_wp2_with (fail)
          go_ret2
          exact posts_no HF4.out HNo.out
      · have e3 : decide (f < 0) = false := decide_eq_false (by omega)
        have e4 : decide ((r2 : Int) ≤ f) = false := decide_eq_false (by omega)
        obtain ⟨f1, hf1⟩ : ∃ f1 : Nat, f = (f1 : Int) := ⟨f.toNat, by omega⟩
        subst hf1
        have HA2 : Hid (all + (f1 + 1) = sumF (F.take (i + 1))) := hide (by rw [HTk.out, sumF_snoc, ← HAl.out]; omega)
        have hab : all + (f1 + 1) ≤ 1048576 := by have := HR2.out; omega
        have HP2 : Hid (∀ j, j < i + 1 → 0 ≤ F.getD j 0) := hide (fun j hj => by
          by_cases e : j = i
          · rw [e, HFf.out]; omega
          · exact HPo.out j (by omega))
        clear hbad
        go_wp2_with (fail)
        go_roundw
        case rel => exact ⟨i + 1, all + (f1 + 1), by omega, by go_num, by go_num, hab, HA2, HP2, trivial⟩
        case measure => simp [intOf]; omega
    · have hie : i = lf := by omega
      subst hie
      have HAf : Hid (all = sumF F) := hide (by rw [HAl.out, List.take_of_length_le (by rw [HLf.out]; exact Nat.le_refl _)])
      clear hlt
      have HConR : Hid (ConR a i b D F) := hide (fun blk h1 h2 => ⟨(HCon.out blk h1 h2).1, (HCon.out blk h1 h2).2.1⟩)
      obtain ⟨P, b3, hz3⟩ : ∃ P b3, takeZ b2 (all : Nat) = (P, b3) := ⟨_, _, rfl⟩
      have HConP : Hid (∀ blk, GoodB a blk i → b = rowsB a blk → P = placesL blk ∧ b3 = [] ∧ P.length = all) := hide (fun blk h1 h2 => by
        obtain ⟨_, c2, c3⟩ := HCon.out blk h1 h2
        obtain ⟨_, _, t3⟩ := take_rows h1
        have e1 : sumF F = sumP blk := by rw [c2]; exact sumF_freqs blk (fun x hx => (h1.row.d x hx).2.2.1)
        rw [c3, HAf.out, e1, t3] at hz3
        injection hz3 with e2 e3
        exact ⟨e2.symm, e3.symm, by rw [← e2, placesL_len, HAf.out, e1]⟩)
      have HT3 := hide (take_any w.heap.size g b2 (all : Nat) wr HB4.out)
      unfold TakeQ at HT3
      rw [hz3] at HT3
      dsimp only at HT3
      have d5 : decide ((i : Int) < (i : Int)) = false := by simp
      have HZ3 := hide hz3
      clear hz3
      go_wp2_with (fail)
      refine HT3.out.mono ?_
      rintro en w5 ⟨v5, rfl, hown, hbx, hfr⟩
      have HF5 := hide (HF4.out.trans hfr (fun i hi e => by have e : i = g := e; have := HG.out; omega))
      have HE5 := hide (hfr.blk HE4.out (fun e => HNe.out e.symm))
      have HPq := hide (hown.lower HF4.out.size)
      have hh4 : ∃ bs, wr.heap[g]? = some (.cells #[bs] 25 (0, 0)) := by obtain ⟨_, _, _, hh0, _⟩ := HB4.out.ex; exact ⟨_, hh0⟩
      obtain ⟨_, hh4⟩ := hh4
      have HDq5 : Hid (Own w5 w.heap.size 2 1 (.slice A3 i c3) D.length (iz .i64 D)) := hide (HDq.out.fr hfr (fun k h1 e => by
        have e : k = g := e
        subst e
        exact HDq.out.ne_blk h1 hh4 (by decide)))
      have HFq5 : Hid (Own w5 w.heap.size 2 1 (.slice A4 i c4) F.length (iz .i64 F)) := hide (HFq.out.fr hfr (fun k h1 e => by
        have e : k = g := e
        subst e
        exact HFq.out.ne_blk h1 hh4 (by decide)))
      obtain ⟨lp, hlp⟩ : ∃ lp, P.length = lp := ⟨_, rfl⟩
      have HPq' := HPq.out
      rw [hlp] at HPq'
      obtain ⟨A5, c5, rfl, p1, p2, _, p4, _⟩ := HPq'.form
      obtain ⟨Ab, mb, cb, hb1, hb2, hb3, hb4, hb5, hb6⟩ := hbx.ex
      have HLp := hide hlp
      have HBm := hide hb2
      have k5 : w5.cell? ⟨g, 0, none⟩ = some (.slice Ab mb cb) := cell_of_row _ _ 0 _ _ _ hb1
      have HRp := hide p4
      unfold maxLen at hb4 p2
      clear hown hbx hfr HPq' hh4 hlp hb1 hb2 hb5 hb6 p4 HT3
      by_cases hpa : lp = all
      rotate_left
      · have e6 : ((lp : Int) != (all : Int)) = true := by simp; omega
        have HNo : Hid (∀ blk, GoodB a blk i → b = rowsB a blk → False) := hide (fun blk h1 h2 => hpa (by rw [← HLp.out]; exact (HConP.out blk h1 h2).2.2))
        clear hpa
        go_wp2_with (fail)
        go_ret2
        exact posts_no HF5.out HNo.out
      subst hpa
      have e6 : ((lp : Int) != (lp : Int)) = false := by simp
      by_cases hm0 : mb = 0
      rotate_left
      · have e8 : 0 < mb := by omega
        have e7 : decide ((0 : Int) < (mb : Int)) = true := by simp; omega
        have HNo : Hid (∀ blk, GoodB a blk i → b = rowsB a blk → False) := hide (fun blk h1 h2 => hm0 (by rw [← HBm.out, (HConP.out blk h1 h2).2.1]; rfl))
        clear hm0
        go_wp2_with (fail)
        go_ret2
        exact posts_no HF5.out HNo.out
      subst hm0
      have k6 : w5.cell? ⟨E1, 1, none⟩ = some (.int .i64 a) := cell_of_row _ _ 1 _ _ _ HE5.out
      have HO0 : Hid (OutR a i b [] 0 a (P.drop 0)) := hide (out_nil (fun blk h1 h2 => by rw [List.drop_zero]; exact (HConP.out blk h1 h2).1))
      have HRd5 : Hid (Rd w5 w5.heap.size A3 (iz .i64 D)) := hide (by have h := HDq5.out; rw [HLd.out] at h; exact h.rd)
      have HRf5 : Hid (Rd w5 w5.heap.size A4 (iz .i64 F)) := hide (by have h := HFq5.out; rw [HLf.out] at h; exact h.rd)
      have HPI : Hid (InI P) := hide (by have := takeZ_in b2 (lp : Nat); rw [HZ3.out] at this; exact this)
      have HP0 : Hid (Rd w5 w5.heap.size A5 (iz .i64 (P.drop 0))) := hide (by rw [List.drop_zero]; exact HRp.out)
      have hha := HA.out
      have ha1 : -1 ≤ a := hha.1
      have ha2 : a ≤ 1099511627776 := hha.2
      clear hha
      have HFw0 := hide (Fr.refl No w5)
      go_wp2_with (fail)
      go_loopw [78, 13, 11, 12] (fun ix lx px ox wz => ∃ (j : Nat) (la : Int) (Aq : Option Addr) (nq cq t : Nat) (ps : List PoL), j ≤ i ∧ ix = .int .i64 j ∧ lx = .int .i64 la ∧ px = .slice Aq nq cq ∧ nq ≤ cq ∧ cq ≤ 2 ^ 63 - 1 ∧ -1 ≤ la ∧ la ≤ 1099511627776 + 16384 * (j : Int) ∧ ps.length = j ∧ nq + t = lp ∧ Hid (t = sumF (F.take j)) ∧ Hid (Rd w5 w5.heap.size Aq (iz .i64 (P.drop t))) ∧ Hid (OutR a i b (ps.map (·.1)) j la (P.drop t)) ∧ Hid (OwnPs wz w5.heap.size ox ps) ∧ Hid (Fr No w5 wz)) (fun ix _ _ _ _ => i - (intOf ix).toNat)
      case atStart => exact ⟨0, a, A5, lp, c5, 0, [], Nat.zero_le _, rfl, rfl, rfl, p1, p2, ha1, by omega, rfl, rfl, hide rfl, HP0, HO0, hide (OwnPs.nil _ _), HFw0⟩
      case round =>
        obtain ⟨wo, rfl⟩ : ∃ wo : World, wo = wr := ⟨_, rfl⟩
        obtain ⟨j, la, Aq, nq, cq, t, ps, hji, rfl, rfl, rfl, q1, q2, la1, la2, hps, hqt, HT, HRq, HOu, HPs, HFr⟩ := hrel
        clear HP0 HO0 HFw0
        by_cases hlt : j < i
        · have hjD : j < D.length := by rw [HLd.out]; exact hlt
          have hjF : j < F.length := by rw [HLf.out]; exact hlt
          obtain ⟨adD, hadD, _, kD⟩ := cellInt (HRd5.out.fr0 HFr.out) hjD
          obtain ⟨adF, hadF, _, kF⟩ := cellInt (HRf5.out.fr0 HFr.out) hjF
          have hdi := HDI.out _ (getZ_mem hjD)
          have hfi := HFI.out _ (getZ_mem hjF)
          have hf0 := HPo.out j hlt
          have hsum : sumF (F.take (j + 1)) = t + (F.getD j 0 + 1).toNat := by rw [take_getZ hjF, sumF_snoc, ← HT.out]
          have hsl := sumF_le (F := F) (j + 1)
          rw [← HAf.out, hsum] at hsl
          obtain ⟨d, hd⟩ : ∃ d, D.getD j 0 = d := ⟨_, rfl⟩
          obtain ⟨f, hf⟩ : ∃ f, F.getD j 0 = f := ⟨_, rfl⟩
          rw [hd] at kD hdi
          rw [hf] at kF hfi hf0 hsl hsum
          obtain ⟨q, hq⟩ : ∃ q : Nat, (q : Int) = f + 1 := ⟨(f + 1).toNat, by omega⟩
          have hqn : (f + 1).toNat = q := by omega
          rw [hqn] at hsl hsum
          have HD1 := hide hd
          have HQn : Hid ((F.getD j 0 + 1).toNat = q) := hide (by rw [hf]; exact hqn)
          have HSum := hide hsum
          have hqq : q ≤ nq := by omega
          subst hadD
          subst hadF
          obtain ⟨hd1, hd2⟩ := hdi
          obtain ⟨hf1, hf2⟩ := hfi
          have i0 : (0 : Int) ≤ (j : Int) := by omega
          have i1 : (j : Int) < (i : Int) := by omega
          have e9 : decide ((j : Int) < (i : Int)) = true := decide_eq_true i1
          clear hjD hjF hsum hsl hqn hd hf
          by_cases hbad : d < 0 ∨ 16384 ≤ d
          · have HNo : Hid (∀ blk, GoodB a blk i → b = rowsB a blk → False) := hide (out_bad_d HOu.out HConR.out hlt HD1.out hbad)
            by_cases hb1 : d < 0
            · have e3 : decide (d < 0) = true := decide_eq_true hb1
              clear hbad hb1
              go_wp2_with (fail)
              go_ret2
              exact posts_no (HF5.out.tr HFr.out) HNo.out
            · have e3 : decide (d < 0) = false := decide_eq_false hb1
              have e4 : decide ((16384 : Int) ≤ d) = true := decide_eq_true (by omega)
              clear hbad hb1
              go_wp2_with (fail)
              go_ret2
              exact posts_no (HF5.out.tr HFr.out) HNo.out
          · have e3 : decide (d < 0) = false := decide_eq_false (by omega)
            have e4 : decide ((16384 : Int) ≤ d) = false := decide_eq_false (by omega)
            have d0 : 0 ≤ d := by omega
            have d1' : d < 16384 := by omega
            clear hbad
            obtain ⟨x1, hx1⟩ : ∃ x1, la + 1 = x1 := ⟨_, rfl⟩
            obtain ⟨y, hy⟩ : ∃ y, x1 + d = y := ⟨_, rfl⟩
            have hy1 : -1 ≤ y ∧ y ≤ 1099511627776 + 16384 * ((j + 1 : Nat) : Int) := by omega
            have hx2 : -1 ≤ x1 ∧ x1 ≤ 1099511758848 := by omega
            go_upto_region 26 with (fail)
            obtain ⟨w6, hw6⟩ : ∃ W, W = wo.alloc (.cells #[.int .i64 y, .slice none 0 0] 58) := ⟨_, rfl⟩
            obtain ⟨E, hE⟩ : ∃ E, E = wo.heap.size := ⟨_, rfl⟩
            have hqE : w6.heap[E]? = some (.cells #[.int .i64 y, .slice none 0 0] 58 (0, 0)) := by rw [hw6, hE]; exact heap_alloc_new wo _
            have fa : Fr No wo w6 := by rw [hw6]; exact (Fr.refl No wo).alloc _
            have HQ6 := hide hqE
            have HF6 := hide fa
            have HE := hide hE
            have kE0 : w6.cell? ⟨E, 0, none⟩ = some (.int .i64 y) := cell_of_row _ _ 0 _ _ _ hqE
            have HKF := hide kF
            replace kF := fa.cell kF (fun h => h)
            rw [← hw6, ← hE]
            have hfq : f + 1 = (q : Int) := hq.symm
            have j0 : (0 : Int) ≤ (q : Int) := by omega
            have j1 : (q : Int) ≤ (cq : Int) := by omega
            have j2 : (q : Int) ≤ (nq : Int) := by omega
            have HIn0 : Hid (InnR (P.drop t) [] 0 0) := hide (InnR.nil _)
            have HOn0 : Hid (Own w6 (E + 1) 3 1 (.slice none 0 0) 0 (iz .i64 [])) := hide (Own.nil _ _ _ _)
            have HLq : Hid ((P.drop t).length = nq) := hide (by rw [List.length_drop, HLp.out]; omega)
            have HRq6 := hide (HRq.out.fr0 HFr.out)
            have hq20 : q ≤ 1048576 := by omega
            clear hw6 hE hqE fa kD hq
            go_wp2_with (fail)
            go_loopw [104, 17] (fun kx sx wz => ∃ (k : Nat) (s : Int) (vp : Value) (Ps : List Int), k ≤ q ∧ kx = .int .i64 k ∧ sx = .int .i64 s ∧ Hid (InnR (P.drop t) Ps k s) ∧ Hid (wz.heap[E]? = some (.cells #[.int .i64 y, vp] 58 (0, 0))) ∧ Hid (Own wz (E + 1) 3 1 vp k (iz .i64 Ps)) ∧ Hid (Fr No wo wz)) (fun kx _ _ => q - (intOf kx).toNat)
            case atStart => exact ⟨0, 0, _, [], Nat.zero_le _, rfl, rfl, HIn0, HQ6, HOn0, HF6⟩
            case round =>
              obtain ⟨wz, rfl⟩ : ∃ wz : World, wz = wr := ⟨_, rfl⟩
              obtain ⟨k, s, vp, Ps, hkq, rfl, rfl, HIn, HQz, HOn, HFz⟩ := hrel
              clear HIn0 HOn0
              by_cases hkl : k < q
              · have hkP : k < (P.drop t).length := by rw [HLq.out]; omega
                obtain ⟨adP, hadP, _, kP⟩ := cellInt (HRq6.out.fr0 HFz.out) hkP
                have hxi := HPI.out _ (List.mem_of_mem_drop (getZ_mem hkP))
                obtain ⟨x, hx⟩ : ∃ x, (P.drop t).getD k 0 = x := ⟨_, rfl⟩
                rw [hx] at kP hxi
                have hsb := HIn.out.sb
                have HX := hide hx
                obtain ⟨hxi1, hxi2⟩ := hxi
                obtain ⟨hs1, hs2⟩ := hsb
                subst hadP
                have i3 : (0 : Int) ≤ (k : Int) := by omega
                have i4 : (k : Int) < (q : Int) := by omega
                clear hx
                by_cases hbad : x < 0 ∨ 1048576 < x
                · have HNo : Hid (∀ blk, GoodB a blk i → b = rowsB a blk → False) := hide (out_bad_n HOu.out HConR.out hlt HQn.out hkl HX.out hbad)
                  by_cases hb1 : x < 0
                  · have e13 : decide (x < 0) = true := decide_eq_true hb1
                    clear hbad hb1
                    go_wp2_with (fail)
                    go_ret2
                    exact posts_no ((HF5.out.tr HFr.out).tr HFz.out) HNo.out
                  · have e13 : decide (x < 0) = false := decide_eq_false hb1
                    have e14 : decide ((1048576 : Int) < x) = true := decide_eq_true (by omega)
                    clear hbad hb1
                    go_wp2_with (fail)
                    go_ret2
                    exact posts_no ((HF5.out.tr HFr.out).tr HFz.out) HNo.out
                · have e13 : decide (x < 0) = false := decide_eq_false (by omega)
                  have e14 : decide ((1048576 : Int) < x) = false := decide_eq_false (by omega)
                  have hx0 : 0 ≤ x := by omega
                  have hx9 : x ≤ 1048576 := by omega
                  clear hbad
                  obtain ⟨s1, hs3⟩ : ∃ s1, s + x = s1 := ⟨_, rfl⟩
                  have hs4 : 0 ≤ s1 ∧ s1 ≤ 1099512676352 := by omega
                  have HIn2 : Hid (InnR (P.drop t) (Ps ++ [s1]) (k + 1) s1) := hide (by have := HIn.out.snoc hkP (by rw [HX.out]; omega); rw [HX.out, hs3] at this; exact this)
                  have fb : Fr No wz (wz.alloc (.cells #[.int .i64 s1] 3)) := (Fr.refl No wz).alloc _
                  have cz : wz.cell? ⟨E, 1, none⟩ = some vp := cell_of_row _ _ 1 _ _ _ HQz.out
                  have HO8 := hide (HOn.out.fr0 fb)
                  have HS8 : Hid (Src Try.prog 1 52 (.slice (some ⟨wz.heap.size, 0, none⟩) 1 1) 1 [.int .i64 s1] (wz.alloc (.cells #[.int .i64 s1] 3))) := hide (Src.one (P := Try.prog) wz (e := 3) Try.underlying52 (.int .i64 s1) rfl)
                  have HQ8 := hide (fb.blk HQz.out (fun h => h))
                  have b5 : (k + 1) * 8 ≤ 140737488355328 := by omega
                  have b6 : k + 1 ≤ maxLen := by unfold maxLen; omega
                  have b7 : E + 1 ≤ (wz.alloc (.cells #[.int .i64 s1] 3)).heap.size := (Array.getElem?_eq_some_iff.1 HQ8.out).1
                  have HF8 := hide (HFz.out.tr fb)
                  clear fb hkP
                  go_wp2_with (first | (at_builtin; refine wpList_append_gen _ rfl (.tmp 118) (.tmp 120) 52 52 rfl (E + 1) 3 ii (.int .i64 0) 1 8 Try.underlying52 hii hiz hisz hiby rfl vp k (iz .i64 Ps) rfl HO8.out _ 1 [.int .i64 s1] rfl HS8.out b5 b6 b7 ?_; intro v9 w9 hown hfr hat; obtain ⟨A9, q9, rfl, _, _, _, _, _⟩ := hown.form; have HO9 := hide hown; have HF9 := hide hfr; have HQ9 := hide (hfr.blk HQ8.out (fun e => HO8.out.ne_blk e HQ8.out (by decide))); have c9 : w9.cell? ⟨E, 1, none⟩ = some vp := cell_of_row _ _ 1 _ _ _ HQ9.out; have z9 : w9.frozen? ⟨E, 1, none⟩ = false := frozen_of_row _ _ _ _ _ HQ9.out; clear hown hfr hat) | fail)
                  have hq10 : (w9.setCell ⟨E, 1, none⟩ (.slice A9 (k + 1) q9)).heap[E]? = some (.cells #[.int .i64 y, (.slice A9 (k + 1) q9)] 58 (0, 0)) := by
                    have := heap_setCell_same w9 E 1 #[.int .i64 y, vp] 58 (.slice A9 (k + 1) q9) HQ9.out
                    simpa using this
                  have hf10 : Fr (Is E) w9 (w9.setCell ⟨E, 1, none⟩ (.slice A9 (k + 1) q9)) := (Fr.refl (Is E) w9).put 1 _
                  have HO10 : Hid (Own (w9.setCell ⟨E, 1, none⟩ (.slice A9 (k + 1) q9)) (E + 1) 3 1 (.slice A9 (k + 1) q9) (k + 1) (iz .i64 (Ps ++ [s1]))) := hide (by
                    rw [iz_snoc]
                    exact HO9.out.fr hf10 (fun k hk e => by have e : k = E := e; subst e; exact HO9.out.ne_blk hk HQ9.out (by decide)))
                  have HF10 : Hid (Fr No wo (w9.setCell ⟨E, 1, none⟩ (.slice A9 (k + 1) q9))) := hide ((HF8.out.own HF9.out (fun k hk => .inl (by have := (HO8.out.lt k hk).1; have := HE.out; omega))).trans hf10 (fun i hi e => by have e : i = E := e; have := HE.out; omega))
                  have HQ10 := hide hq10
                  clear hq10 hf10
                  go_roundw
                  case rel => exact ⟨k + 1, s1, (.slice A9 (k + 1) q9), Ps ++ [s1], by omega, by go_num, rfl, HIn2, HQ10, HO10, HF10⟩
                  case measure => simp [intOf]; omega
              · obtain rfl : k = q := by omega
                obtain ⟨Av, cv, rfl, v1, v2, _, _, _⟩ := HOn.out.form
                have hnk : (Ps.length : Nat) = k := HIn.out.l
                have kFz := HFz.out.cell HKF.out (fun h => h)
                have cz0 : wz.cell? ⟨E, 0, none⟩ = some (.int .i64 y) := cell_of_row _ _ 0 _ _ _ HQz.out
                have cz1 : wz.cell? ⟨E, 1, none⟩ = some (.slice Av k cv) := cell_of_row _ _ 1 _ _ _ HQz.out
                have zz1 : wz.frozen? ⟨E, 1, none⟩ = false := frozen_of_row _ _ _ _ _ HQz.out
                obtain ⟨wc, hwc⟩ : ∃ W, W = wz.setCell ⟨E, 1, none⟩ (.slice Av k k) := ⟨_, rfl⟩
                have hfc : Fr (Is E) wz wc := by rw [hwc]; exact (Fr.refl (Is E) wz).put 1 _
                have HQc : Hid (wc.heap[E]? = some (.cells #[.int .i64 y, .slice Av k k] 58 (0, 0))) := hide (by
                  have := heap_setCell_same wz E 1 #[.int .i64 y, .slice Av k cv] 58 (.slice Av k k) HQz.out
                  rw [hwc]
                  simpa using this)
                have HOc : Hid (Own wc (E + 1) 3 1 (.slice Av k k) k (iz .i64 Ps)) := hide (HOn.out.clip.fr hfc (fun k hk e => by have e : k = E := e; subst e; exact HOn.out.clip.ne_blk hk HQz.out (by decide)))
                have HFc : Hid (Fr No wo wc) := hide (HFz.out.trans hfc (fun i hi e => by have e : i = E := e; have := HE.out; omega))
                have cc0 : wc.cell? ⟨E, 0, none⟩ = some (.int .i64 y) := cell_of_row _ _ 0 _ _ _ HQc.out
                have cc1 : wc.cell? ⟨E, 1, none⟩ = some (.slice Av k k) := cell_of_row _ _ 1 _ _ _ HQc.out
                have HWc := hide hwc
                have fd : Fr No wc (wc.alloc (.cells #[.int .i64 y, .slice Av k k] 58)) := (Fr.refl No wc).alloc _
                obtain ⟨wd, hwd⟩ : ∃ W, W = wc.alloc (.cells #[.int .i64 y, .slice Av k k] 58) := ⟨_, rfl⟩
                have hrd : Rd wd (wc.heap.size + 1) (some ⟨wc.heap.size, 0, none⟩) [.int .i64 y, .slice Av k k] := by rw [hwd]; exact Rd.block (heap_alloc_new wc (.cells #[.int .i64 y, .slice Av k k] 58))
                have HSd : Hid (Src Try.prog 2 22 (.slice (some ⟨wc.heap.size, 0, none⟩) 1 1) 1 [.int .i64 y, .slice Av k k] wd) := hide (Src.ofRd (P := Try.prog) (size := 2) _ Try.underlying22 (some ⟨wc.heap.size, 0, none⟩) 1 1 [.int .i64 y, .slice Av k k] rfl (by omega) hrd (by simp [Value.oneCell']))
                rw [← hwd] at fd
                have fod : Fr No wo wd := HFc.out.tr fd
                have HFd : Hid (Fr No w5 wd) := hide (HFr.out.tr fod)
                have HPd := hide (HPs.out.fr0 fod)
                have HOd : Hid (Own wd w5.heap.size 58 2 u12 j (pFlat ps)) := hide (by have := HPd.out.row; rwa [hps] at this)
                have hlo : w5.heap.size ≤ E + 1 := by have := HFr.out.size; have := HE.out; omega
                have HPnd : Hid (PoN wd w5.heap.size ((y, Ps), Av, k)) := hide (by
                  unfold PoN pVal
                  dsimp only
                  rw [hnk]
                  exact (HOc.out.fr0 fd).lower hlo)
                have HApt : Hid (∀ p ∈ ps, Apt (pVal p) (pVal ((y, Ps), Av, k))) := hide (fun p hp kk h1 h2 => by
                  have a1 := PoN.lt (HPs.out.ns p hp) kk h1
                  unfold pVal at h2
                  dsimp only at h2
                  rw [hnk] at h2
                  have a2 := (HOn.out.clip.lt kk h2).1
                  have := HE.out
                  omega)
                have HPb : Hid (PoB (y, Ps)) := hide ⟨⟨by omega, by dsimp only; omega⟩, by dsimp only; omega, fun z hz => by have := HIn.out.b z hz; omega⟩
                have HBd : Hid (w5.heap.size ≤ wd.heap.size) := hide HFd.out.size
                have HOu2 : Hid (OutR a i b ((ps ++ [((y, Ps), Av, k)]).map (·.1)) (j + 1) y (P.drop (t + k))) := hide (by
                  have := out_step HOu.out HConR.out hlt HQn.out HD1.out HIn.out
                  rw [hx1, hy, List.drop_drop] at this
                  simpa using this)
                have HCut := hide (HRq.out.cut (k := k) (cap := cq) (by rw [iz_len, HLq.out]; exact q1))
                have HDr : Hid ((iz .i64 (P.drop t)).drop k = iz .i64 (P.drop (t + k))) := hide (by rw [← List.drop_drop]; simp [iz])
                rw [HDr.out] at HCut
                have hfk : f + 1 = (k : Int) := hfq
                clear hwc hfc fd fod hrd hlo kF kE0
                subst hwd
                by_cases hck : cq = k
                · have HRq2 : Hid (Rd w5 w5.heap.size Aq (iz .i64 (P.drop (t + k)))) := hide (by have h := HCut.out; rwa [if_pos hck] at h)
                  clear HCut
                  have m0 : nq - k = 0 := by omega
                  have b8 : (j + 1) * 32 ≤ 140737488355328 := by omega
                  have b9 : j + 1 ≤ maxLen := by unfold maxLen; omega
                  go_upto_region 38 with (go_at_call 80; refine (clipN_any Av k cv wz v1 v2).mono ?_; rintro en w11 ⟨rfl, rfl⟩)
                  rw [← HWc.out]
                  clear cz0 cz1 zz1 kFz
                  go_wp2_with (first | (at_builtin; refine wpList_append_gen _ rfl (.tmp 135) (.tmp 137) 22 22 rfl w5.heap.size 58 ip (.agg #[.int .i64 0, .slice none 0 0]) 2 32 Try.underlying22 hip hipz hipsz hipby rfl u12 j (pFlat ps) rfl HOd.out _ 1 [.int .i64 y, .slice Av k k] rfl HSd.out b8 b9 HBd.out ?_; intro v12 w12 hown hfr hat; have HO12 := hide hown; have HF12 := hide hfr; clear hown hfr hat) | fail)
                  have HP12 : Hid (OwnPs w12 w5.heap.size v12 (ps ++ [((y, Ps), Av, k)])) := hide (HPd.out.snoc HPnd.out HApt.out HPb.out HF12.out (by unfold pRow; dsimp only; rw [hps, hnk]; exact HO12.out))
                  have HFr12 : Hid (Fr No w5 w12) := hide (HFd.out.own HF12.out (fun k hk => .inl (HPd.out.row.lt k hk).1))
                  go_roundw
                  case rel => exact ⟨j + 1, y, Aq, nq - k, (cq - k), t + k, ps ++ [((y, Ps), Av, k)], by omega, by go_num, rfl, by simp [m0, hck], by omega, by omega, hy1.1, hy1.2, by rw [List.length_append, hps]; rfl, by omega, hide HSum.out.symm, HRq2, HOu2, HP12, HFr12⟩
                  case measure => simp [intOf]; omega
                · have HRq2 : Hid (Rd w5 w5.heap.size (Aq.map (·.add k)) (iz .i64 (P.drop (t + k)))) := hide (by have h := HCut.out; rwa [if_neg hck] at h)
                  clear HCut
                  have b8 : (j + 1) * 32 ≤ 140737488355328 := by omega
                  have b9 : j + 1 ≤ maxLen := by unfold maxLen; omega
                  go_upto_region 38 with (go_at_call 80; refine (clipN_any Av k cv wz v1 v2).mono ?_; rintro en w11 ⟨rfl, rfl⟩)
                  rw [← HWc.out]
                  clear cz0 cz1 zz1 kFz
                  go_wp2_with (first | (at_builtin; refine wpList_append_gen _ rfl (.tmp 135) (.tmp 137) 22 22 rfl w5.heap.size 58 ip (.agg #[.int .i64 0, .slice none 0 0]) 2 32 Try.underlying22 hip hipz hipsz hipby rfl u12 j (pFlat ps) rfl HOd.out _ 1 [.int .i64 y, .slice Av k k] rfl HSd.out b8 b9 HBd.out ?_; intro v12 w12 hown hfr hat; have HO12 := hide hown; have HF12 := hide hfr; clear hown hfr hat) | fail)
                  have HP12 : Hid (OwnPs w12 w5.heap.size v12 (ps ++ [((y, Ps), Av, k)])) := hide (HPd.out.snoc HPnd.out HApt.out HPb.out HF12.out (by unfold pRow; dsimp only; rw [hps, hnk]; exact HO12.out))
                  have HFr12 : Hid (Fr No w5 w12) := hide (HFd.out.own HF12.out (fun k hk => .inl (HPd.out.row.lt k hk).1))
                  go_roundw
                  case rel => exact ⟨j + 1, y, Aq.map (·.add k), nq - k, (cq - k), t + k, ps ++ [((y, Ps), Av, k)], by omega, by go_num, rfl, by simp, by omega, by omega, hy1.1, hy1.2, by rw [List.length_append, hps]; rfl, by omega, hide HSum.out.symm, HRq2, HOu2, HP12, HFr12⟩
                  case measure => simp [intOf]; omega
        · obtain rfl : j = i := by omega
          have k7 : wo.cell? ⟨E1, 2, none⟩ = some (.int .i64 last) := cell_of_row _ _ 2 _ _ _ (HFr.out.blk HE5.out (fun h => h))
          go_wp2_with (fail)
          go_quiet (fail)
          go_wp2_with (fail)
          go_ret2
          have hend := out_end (last := last) HOu.out rfl
          refine ⟨((HF5.out.tr HFr.out).drewN _), u12, ps, (la == last), rfl, ?_, fun blk h1 h2 => ?_, by omega⟩
          · exact (HPs.out.lower HF5.out.size).fr0 ((Fr.refl No wo).drewN _)
          · obtain ⟨g1, g2⟩ := hend blk h1 h2
            refine ⟨g1, ?_⟩
            rw [← g2]
            simp
end Go.Proofs.Ythlbfnoahdjdeaa
namespace Go.Proofs.Ythlbfnoahdjdeaa
set_option linter.unusedVariables false
set_option linter.unusedSimpArgs false
open Go.RowKit

set_option maxRecDepth 100000 in
set_option maxHeartbeats 400000 in
theorem end_any (g : Nat) (bs : List UInt8) (a : Nat) (e : Int) (w : World) (h : RD w g bs a e) :
    Calls Try.prog 54 #[.pointer (some ⟨g, 0, none⟩)] w (RDRet (.int .i64 (endE bs a e)) w g bs a (endE bs a e)) := by
  obtain ⟨A, c, ⟨c0, c1, c2⟩, hf, h1, h2, h3, h4, hr⟩ := h.parts
  have H := hide h
  clear h hr
  by_cases he : e = 0
  · subst he
    by_cases hlt : a < bs.length
    · have HE := hide (show endE bs a 0 = 20 from if_pos ⟨rfl, hlt⟩)
      have hpos : 0 < bs.length - a := by omega
      go_enter Try.func54, Try.ntmps54
      go_wp2_with (first | (go_at_call 81; refine (left_any g bs a 0 _ H.out).mono ?_; rintro en w' ⟨rfl, nq, rfl⟩) | (go_at_call 53; refine (err_any g bs a 20 _ ((H.out.drewN nq).set2 20)).mono ?_; rintro en w' ⟨rfl, rfl⟩))
      go_ret
      refine ⟨by rw [HE.out]; rfl, ?_, ((Fr.refl _ _).drewN _).put _ _⟩
      rw [HE.out]
      exact (H.out.drewN _).set2 20
    · have HE := hide (show endE bs a 0 = 0 from if_neg (fun h => hlt h.2))
      have hpos : bs.length - a = 0 := by omega
      go_enter Try.func54, Try.ntmps54
      go_wp2_with (first | (go_at_call 81; refine (left_any g bs a 0 _ H.out).mono ?_; rintro en w' ⟨rfl, nq, rfl⟩) | (go_at_call 53; refine (err_any g bs a 0 _ (H.out.drewN nq)).mono ?_; rintro en w' ⟨rfl, rfl⟩))
      go_ret
      refine ⟨by rw [HE.out]; rfl, ?_, (Fr.refl _ _).drewN _⟩
      rw [HE.out]
      exact H.out.drewN _
  · have HE := hide (show endE bs a e = e from if_neg (fun h => he h.1))
    have hb : (e == 0) = false := by simpa using he
    go_enter Try.func54, Try.ntmps54
    go_wp2_with (go_at_call 53; refine (err_any g bs a e _ H.out).mono ?_; rintro en w' ⟨rfl, rfl⟩)
    go_ret
    refine ⟨by rw [HE.out]; rfl, ?_, Fr.refl _ _⟩
    rw [HE.out]
    exact H.out

set_option maxRecDepth 100000 in
set_option maxHeartbeats 400000 in
theorem end_nil (w : World) : Calls Try.prog 54 #[.pointer none] w (Ret (.int .i64 20) w) := by
  go_enter Try.func54, Try.ntmps54
  go_wp2_with (go_at_call 53; refine (err_nil _).mono ?_; rintro en w' ⟨rfl, rfl⟩)
  go_ret
  exact ⟨rfl, rfl⟩

end Go.Proofs.Ythlbfnoahdjdeaa
namespace Go.Proofs.Ythlbfnoahdjdeaa
set_option linter.unusedVariables false
set_option linter.unusedSimpArgs false
open Go.RowKit

set_option maxRecDepth 100000 in
set_option maxHeartbeats 800000 in
theorem size1_any (r : Value) (b1 b2 : Nat) (most : Int) (A : Option Addr) (n c B : Nat) (bs : List UInt8) (W : World) (hl : bs.length = n) (hn : n ≤ c) (hc : c ≤ maxLen) (hm1 : -9223372036854775808 ≤ most) (hm2 : most ≤ 9223372036854775807) (hr : Rd W B A (by8 bs)) (c1 : W.cell? ⟨b1, 0, none⟩ = some r) (c2 : W.cell? ⟨b2, 0, none⟩ = some (.int .i64 most)) :
    Calls Try.prog 74 #[.slice A n c, .pointer (some ⟨b1, 0, none⟩), .pointer (some ⟨b2, 0, none⟩)] W (Ret (sizeV (sizeR bs most)) W) := by
  have HN := hide (number_any r A n c B bs W hl hn hc hr)
  cases hd : dec 0 0 bs with
  | none =>
    have HT := hide (sizeR_none (most := most) hd)
    rw [hd] at HN
    simp only [numV] at HN
    clear hr hl hd
    go_enter Try.func74, Try.ntmps74
    go_wp2_with (go_at_call 75; refine HN.out.mono ?_; rintro en w' ⟨rfl, rfl⟩)
    go_ret2
    exact ⟨by rw [HT.out]; rfl, rfl⟩
  | some x =>
    obtain ⟨u, k⟩ := x
    rw [hd] at HN
    simp only [numV] at HN
    have hk := dec_le _ _ _ _ _ hd
    have hu := dec_lt _ 0 0 u k (by decide) hd
    by_cases hneg : most < 0
    · have HT := hide (sizeR_no (most := most) hd (.inl hneg))
      clear hr hl hd hk
      go_enter Try.func74, Try.ntmps74
      go_wp2_with (go_at_call 75; refine HN.out.mono ?_; rintro en w' ⟨rfl, rfl⟩)
      go_ret2
      exact ⟨by rw [HT.out]; rfl, rfl⟩
    · obtain ⟨m, rfl⟩ := Int.eq_ofNat_of_zero_le (a := most) (by omega)
      clear hm1 hneg
      by_cases hum : m < u
      · have HT := hide (sizeR_no (most := m) hd (.inr (by omega)))
        clear hr hl hd hk
        go_enter Try.func74, Try.ntmps74
        go_wp2_with (go_at_call 75; refine HN.out.mono ?_; rintro en w' ⟨rfl, rfl⟩)
        go_ret2
        exact ⟨by rw [HT.out]; rfl, rfl⟩
      · have HT := hide (sizeR_ok (most := m) hd (by omega))
        have hu2 : u ≤ m := by omega
        clear hr hl hd hk hum hu
        go_enter Try.func74, Try.ntmps74
        go_wp2_with (go_at_call 75; refine HN.out.mono ?_; rintro en w' ⟨rfl, rfl⟩)
        go_ret2
        exact ⟨by rw [HT.out]; simp [sizeV], rfl⟩

theorem size_cut {w : World} {B : Nat} {A : Option Addr} {bs : List UInt8} {c at_ b1 b2 : Nat} {most : Int} (r : Value) (hm1 : -9223372036854775808 ≤ most) (hm2 : most ≤ 9223372036854775807) (hr : Rd w B A (by8 bs)) (h1 : bs.length ≤ c) (h2 : c ≤ maxLen) (h3 : at_ ≤ bs.length) (c1 : w.cell? ⟨b1, 0, none⟩ = some r) (c2 : w.cell? ⟨b2, 0, none⟩ = some (.int .i64 most)) (nq : Nat) :
    Calls Try.prog 74 #[.slice (if c = at_ then A else A.map (·.add at_)) (bs.length - at_) (c - at_), .pointer (some ⟨b1, 0, none⟩), .pointer (some ⟨b2, 0, none⟩)] (w.drewN nq) fun e w' => e = .returned (sizeV (sizeR (bs.drop at_) most)) ∧ w' = w.drewN nq :=
  (size1_any r b1 b2 most _ _ _ B (bs.drop at_) (w.drewN nq) (by simp) (by omega) (by omega) hm1 hm2 (by rw [by8_drop]; exact Rd.cut (w := w) hr (by rw [by8_length]; exact h1)) c1 c2).mono fun _ _ ⟨a, b⟩ => ⟨a, b.symm⟩

section
variable (g : Nat) (bs : List UInt8) (at_ : Nat) (w : World) (b1 b2 : Nat) (most : Int) (hm1 : -9223372036854775808 ≤ most) (hm2 : most ≤ 9223372036854775807) (c1 : w.cell? ⟨b1, 0, none⟩ = some (.pointer (some ⟨g, 0, none⟩))) (c2 : w.cell? ⟨b2, 0, none⟩ = some (.int .i64 most))
include hm1 hm2 c1 c2
set_option maxRecDepth 100000 in
set_option maxHeartbeats 400000 in
theorem takeN_bad (h : RD w g bs at_ 0) (hd : sizeR (bs.drop at_) most = none) :
    Calls Try.prog 73 #[.pointer (some ⟨g, 0, none⟩), .func (.func 74) #[] #[.pointer (some ⟨b1, 0, none⟩), .pointer (some ⟨b2, 0, none⟩)]] w (RDRet (.int .i64 0) w g bs at_ 20) := by
  obtain ⟨A, c, ⟨d0, d1, d2⟩, hf, h1, h2, h3, h4, hr⟩ := h.parts
  have HN := hide (size_cut (.pointer (some ⟨g, 0, none⟩)) hm1 hm2 hr h1 h2 h3 c1 c2)
  rw [hd] at HN
  simp only [sizeV] at HN
  have H := hide h
  clear h hr hd c1 c2
  go_enter Try.func73, Try.ntmps73
  go_wp2_with (fail)
  go_quiet ((go_at_call 74; exact Calls.quiet_of_same (HN.out _)))
  go_wp2
  all_goals
    go_ret
    exact ⟨rfl, (H.out.drewN _).set2 20, ((Fr.refl _ _).drewN _).put _ _⟩

set_option maxRecDepth 100000 in
set_option maxHeartbeats 400000 in
theorem takeN_ok (u k : Nat) (h : RD w g bs at_ 0) (hd : sizeR (bs.drop at_) most = some (u, k)) (hk1 : at_ + k ≤ bs.length) :
    Calls Try.prog 73 #[.pointer (some ⟨g, 0, none⟩), .func (.func 74) #[] #[.pointer (some ⟨b1, 0, none⟩), .pointer (some ⟨b2, 0, none⟩)]] w (RDRet (.int .i64 u) w g bs (at_ + k) 0) := by
  obtain ⟨A, c, ⟨d0, d1, d2⟩, hf, h1, h2, h3, h4, hr⟩ := h.parts
  have HN := hide (size_cut (.pointer (some ⟨g, 0, none⟩)) hm1 hm2 hr h1 h2 h3 c1 c2)
  rw [hd] at HN
  simp only [sizeV] at HN
  have H := hide h
  clear h hr hd c1 c2
  go_enter Try.func73, Try.ntmps73
  go_wp2_with (fail)
  go_quiet ((go_at_call 74; exact Calls.quiet_of_same (HN.out _)))
  go_wp2
  all_goals
    go_ret
    exact ⟨rfl, (H.out.drewN _).set1 _ hk1, ((Fr.refl _ _).drewN _).put _ _⟩
end

set_option maxRecDepth 100000 in
set_option maxHeartbeats 400000 in
theorem takeN_off (g : Nat) (bs : List UInt8) (at_ : Nat) (e : Int) (w : World) (f : Value) (h : RD w g bs at_ e) (he : e ≠ 0) :
    Calls Try.prog 73 #[.pointer (some ⟨g, 0, none⟩), f] w (RDRet (.int .i64 0) w g bs at_ e) := by
  obtain ⟨A, c, ⟨c0, c1, c2⟩, hf, h1, h2, h3, h4, hr⟩ := h.parts
  have hb : (e != 0) = true := by simpa using he
  have H := hide h
  clear h hr he
  go_enter Try.func73, Try.ntmps73
  go_wp2_with (fail)
  go_ret
  exact ⟨rfl, H.out, Fr.refl _ _⟩

set_option maxRecDepth 100000 in
set_option maxHeartbeats 400000 in
theorem takeN_nil (w : World) (f : Value) :
    Calls Try.prog 73 #[.pointer none, f] w (Ret (.int .i64 0) w) := by
  go_enter Try.func73, Try.ntmps73
  go_wp2_with (fail)
  go_ret
  exact ⟨rfl, rfl⟩

theorem takeN_all (g : Nat) (bs : List UInt8) (a : Nat) (e : Int) (w : World) (b1 b2 : Nat) (most : Int) (hm1 : -9223372036854775808 ≤ most) (hm2 : most ≤ 9223372036854775807) (c1 : w.cell? ⟨b1, 0, none⟩ = some (.pointer (some ⟨g, 0, none⟩))) (c2 : w.cell? ⟨b2, 0, none⟩ = some (.int .i64 most)) (h : RD w g bs a e) :
    Calls Try.prog 73 #[.pointer (some ⟨g, 0, none⟩), .func (.func 74) #[] #[.pointer (some ⟨b1, 0, none⟩), .pointer (some ⟨b2, 0, none⟩)]] w (RDRet (.int .i64 (sizeS bs a e most).1) w g bs (sizeS bs a e most).2.1 (sizeS bs a e most).2.2) := by
  unfold sizeS
  by_cases he : e = 0
  · subst he
    rw [if_pos rfl]
    cases hd : sizeR (bs.drop a) most with
    | none => exact takeN_bad g bs a w b1 b2 most hm1 hm2 c1 c2 h hd
    | some x => exact takeN_ok g bs a w b1 b2 most hm1 hm2 c1 c2 x.1 x.2 h hd (by
        have h1 := sizeR_le (u := x.1) (k := x.2) hd
        obtain ⟨_, _, _, _, _, h3, _⟩ := h
        simp at h1
        omega)
  · rw [if_neg he]
    exact takeN_off g bs a e w _ h he

set_option maxRecDepth 100000 in
set_option maxHeartbeats 400000 in
theorem sizeN_any (g : Nat) (bs : List UInt8) (a : Nat) (e most : Int) (w : World) (h : RD w g bs a e) (hm1 : -9223372036854775808 ≤ most) (hm2 : most ≤ 9223372036854775807) :
    Calls Try.prog 50 #[.pointer (some ⟨g, 0, none⟩), .int .i64 most] w (RDRet (.int .i64 (sizeS bs a e most).1) w g bs (sizeS bs a e most).2.1 (sizeS bs a e most).2.2) := by
  have H := hide (fun t1 t2 => takeN_all g bs a e _ w.heap.size (w.heap.size + 1) most hm1 hm2 (box1 w (.pointer (some ⟨g, 0, none⟩)) (.int .i64 most) t1 t2) (box2 w (.pointer (some ⟨g, 0, none⟩)) (.int .i64 most) t1 t2) (h.fr0 (((Fr.refl No w).alloc _).alloc _)))
  clear h
  generalize sizeS bs a e most = x at H
  go_enter Try.func50, Try.ntmps50
  go_wp2_with (go_at_call 73; refine (H.out _ _).mono ?_; rintro en w' ⟨rfl, hq⟩; have HQ := hide hq; clear hq)
  go_ret
  exact ⟨rfl, HQ.out.1, (((Fr.refl (Is g) w).alloc _).alloc _).ts HQ.out.2⟩

set_option maxRecDepth 100000 in
set_option maxHeartbeats 400000 in
theorem size_nil (most : Int) (w : World) :
    Calls Try.prog 50 #[.pointer none, .int .i64 most] w (fun en w' => en = .returned (.int .i64 0) ∧ Fr No w w') := by
  go_enter Try.func50, Try.ntmps50
  go_wp2_with (go_at_call 73; refine (takeN_nil _ _).mono ?_; rintro en w' ⟨rfl, rfl⟩)
  go_ret
  exact ⟨rfl, ((Fr.refl No w).alloc _).alloc _⟩

end Go.Proofs.Ythlbfnoahdjdeaa
namespace Go.Proofs.Ythlbfnoahdjdeaa
set_option linter.unusedVariables false
set_option linter.unusedSimpArgs false
open Go.RowKit

/-- a block: its rows' bytes, what is ahead, its last one, how many. -/
abbrev Bk := List UInt8 × Int × Int × Nat
abbrev BkL := Bk × Option Addr × Nat
def bRow (p : BkL) : List Value := [.slice p.2.1 p.1.1.length p.2.2, .int .i64 p.1.2.1, .int .i64 p.1.2.2.1, .int .i64 (p.1.2.2.2 : Nat)]
def bkFlat (l : List BkL) : List Value := l.flatMap bRow
theorem bkFlat_snoc (l : List BkL) (p : BkL) : bkFlat (l ++ [p]) = bkFlat l ++ bRow p := by simp [bkFlat, List.flatMap_append]
theorem bkFlat_len (l : List BkL) : (bkFlat l).length = l.length * 4 := by
  induction l with
  | nil => rfl
  | cons x r ih => simp only [bkFlat, List.flatMap_cons, List.length_append, bRow, List.length_cons, List.length_nil] at ih ⊢; omega
def bk1 (l : List Po) (i : Nat) : Bk := (rowsB (aheadPo l i) (blkPo l i), aheadPo l i, lastD (l.take (8 * (i + 1))), min 8 (l.length - 8 * i))
def bksOf (l : List Po) (j : Nat) : List Bk := (List.range j).map (bk1 l)
theorem bksOf_succ (l : List Po) (j : Nat) : bksOf l (j + 1) = bksOf l j ++ [bk1 l j] := by simp [bksOf, List.range_succ]
theorem bksOf_len (l : List Po) (j : Nat) : (bksOf l j).length = j := by simp [bksOf]
/-- where the reader stands ahead of block j, whatever form the bytes are. -/
def PoI (bs : List UInt8) (n j a : Nat) (e la : Int) (all : List Po) (bks : List Bk) : Prop :=
  ∀ l, FormP bs l → e = 0 ∧ l.length = n ∧ j ≤ nbP n ∧ all = l.take (8 * j) ∧ la = aheadPo l j ∧ bs.drop a = tailP l j ∧ bks = bksOf l j
theorem ahead_zero (l : List Po) : aheadPo l 0 = -1 := by simp [aheadPo, lastD]
theorem drop_of_preP {bs s t : List UInt8} {a : Nat} (h : bs.drop a = s ++ t) : s <+: bs.drop a ∧ bs.drop (a + s.length) = t := by
  refine ⟨by rw [h]; exact List.prefix_append _ _, ?_⟩
  rw [← List.drop_drop, h, List.drop_left]
theorem po_start {bs : List UInt8} {n a : Nat} {e : Int} (h : sizeS bs 0 0 16384 = (n, a, e)) : PoI bs n 0 a e (-1) [] [] := by
  intro l ⟨h1, h2⟩
  have h3 := right_16 h1
  have hd : bs.drop 0 = enc l.length ++ tailP l 0 := by rw [List.drop_zero, ← h2, buildP_tail]
  obtain ⟨p1, p2⟩ := drop_of_preP hd
  rw [size_has (u := l.length) (most := 16384) (by omega) (by omega) p1] at h
  injection h with e1 h
  injection h with e2 e3
  subst e1 e2 e3
  exact ⟨rfl, rfl, Nat.zero_le _, by simp, (ahead_zero l).symm, p2, by simp [bksOf]⟩
theorem blk_last {l : List Po} {j : Nat} (hj : 8 * j < l.length) : lastOr (aheadPo l j) (blkPo l j) = lastD (l.take (8 * (j + 1))) := by
  have e : l.take (8 * (j + 1)) = l.take (8 * j) ++ blkPo l j := by
    unfold blkPo
    rw [show 8 * (j + 1) = 8 * j + 8 by omega, List.take_add]
  rw [e]
  rcases List.eq_nil_or_concat (blkPo l j) with h2 | ⟨m, x, h2⟩
  · rw [h2, List.append_nil]; rfl
  · rw [h2, List.concat_eq_append, lastOr_snoc, ← List.append_assoc, lastD_snoc]
/-- a block's head and bytes, read. -/
theorem po_read {bs row : List UInt8} {n j a a1 a2 a3 sz d : Nat} {e e1 e2 e3 la : Int} {all : List Po} {bks : List Bk} (h : PoI bs n j a e la all bks) (hj : 8 * j < n)
    (h1 : sizeS bs a e (bs.length : Nat) = (sz, a1, e1)) (h2 : sizeS bs a1 e1 16384 = (d, a2, e2)) (h3 : bytesS bs a2 e2 (sz : Nat) = (row, a3, e3)) {l : List Po} (hf : FormP bs l) :
    e3 = 0 ∧ row = rowsB (aheadPo l j) (blkPo l j) ∧ la + (d : Int) = lastD (l.take (8 * (j + 1))) ∧ bs.drop a3 = tailP l (j + 1) := by
  obtain ⟨rfl, rfl, hn, rfl, rfl, hd, rfl⟩ := h l hf
  have hjb : j < nbP l.length := by unfold nbP; omega
  rw [tailP_step hjb, pieceP, List.append_assoc, List.append_assoc] at hd
  obtain ⟨p1, q1⟩ := drop_of_preP hd
  obtain ⟨p2, q2⟩ := drop_of_preP q1
  obtain ⟨p3, q3⟩ := drop_of_preP q2
  obtain ⟨u1, u2⟩ := end_up hf.1 hjb
  have u3 := right_last (rightP_take hf.1 (8 * j))
  have hlen : (rowsB (aheadPo l j) (blkPo l j)).length ≤ bs.length := by
    have := p3.length_le
    rw [List.length_drop] at this
    omega
  have hr := rowsB_le (right_row hf.1 j)
  rw [size_has (most := (bs.length : Nat)) (by omega) (by omega) p1] at h1
  injection h1 with r1 h1
  injection h1 with r2 r3
  subst r1 r2 r3
  have u4 : -1 ≤ aheadPo l j := u3.1
  rw [size_has (most := 16384) (by omega) (by omega) p2] at h2
  injection h2 with r1 h2
  injection h2 with r2 r3
  subst r1 r2 r3
  rw [bytes_has p3] at h3
  injection h3 with r1 h3
  injection h3 with r2 r3
  subst r1 r2 r3
  exact ⟨rfl, rfl, by omega, q3⟩
/-- what a block's posts are. -/
def PsR (la : Int) (row : List UInt8) (k : Nat) (last : Int) (ps : List Po) (ok : Bool) : Prop := ∀ blk, GoodB la blk k → row = rowsB la blk → ps = blk ∧ (ok = true ↔ lastOr la blk = last)
theorem po_ok {bs row : List UInt8} {n j a a1 a2 a3 sz d : Nat} {e e1 e2 e3 la : Int} {all : List Po} {bks : List Bk} (h : PoI bs n j a e la all bks) (hj : 8 * j < n)
    (h1 : sizeS bs a e (bs.length : Nat) = (sz, a1, e1)) (h2 : sizeS bs a1 e1 16384 = (d, a2, e2)) (h3 : bytesS bs a2 e2 (sz : Nat) = (row, a3, e3)) {ps : List Po} {ok : Bool} (hp : PsR la row (min 8 (n - 8 * j)) (la + d) ps ok) (hbad : ¬ (e3 = 0 ∧ ok = true)) :
    ∀ l, ¬ FormP bs l := by
  intro l hf
  obtain ⟨r1, r2, r3, r4⟩ := po_read h hj h1 h2 h3 hf
  obtain ⟨_, rfl, _, _, rfl, _⟩ := h l hf
  obtain ⟨_, q2⟩ := hp _ (good_of hf.1 hj) r2
  exact hbad ⟨r1, q2.2 (by rw [r3, blk_last hj])⟩
theorem po_step {bs row : List UInt8} {n j a a1 a2 a3 sz d : Nat} {e e1 e2 e3 la : Int} {all : List Po} {bks : List Bk} (h : PoI bs n j a e la all bks) (hj : 8 * j < n)
    (h1 : sizeS bs a e (bs.length : Nat) = (sz, a1, e1)) (h2 : sizeS bs a1 e1 16384 = (d, a2, e2)) (h3 : bytesS bs a2 e2 (sz : Nat) = (row, a3, e3)) {ps : List Po} {ok : Bool} (hp : PsR la row (min 8 (n - 8 * j)) (la + d) ps ok) :
    PoI bs n (j + 1) a3 e3 (la + d) (all ++ ps) (bks ++ [(row, la, la + d, min 8 (n - 8 * j))]) := by
  intro l hf
  obtain ⟨r1, r2, r3, r4⟩ := po_read h hj h1 h2 h3 hf
  obtain ⟨_, rfl, _, rfl, rfl, _, rfl⟩ := h l hf
  obtain ⟨q1, _⟩ := hp _ (good_of hf.1 hj) r2
  refine ⟨r1, rfl, by unfold nbP; omega, ?_, r3, r4, ?_⟩
  · rw [q1]
    unfold blkPo
    rw [show 8 * (j + 1) = 8 * j + 8 by omega, List.take_add]
  · rw [bksOf_succ, r2, r3]
    rfl
theorem po_end {bs : List UInt8} {n j a : Nat} {e la : Int} {all : List Po} {bks : List Bk} (h : PoI bs n j a e la all bks) (hj : ¬ 8 * j < n) {l : List Po} (hf : FormP bs l) : all = l ∧ endE bs a e = 0 ∧ bks = bksOf l (nbP l.length) := by
  obtain ⟨rfl, rfl, hn, rfl, rfl, hd, rfl⟩ := h l hf
  have e1 : j = nbP l.length := by unfold nbP at hn ⊢; omega
  rw [tailP_end (by omega)] at hd
  have h2 := List.drop_eq_nil_iff.1 hd
  refine ⟨List.take_of_length_le (by omega), ?_, by rw [e1]⟩
  unfold endE
  rw [if_neg (by omega)]
/-- the blocks of a list, in memory. -/
structure BksM (w : World) (base : Nat) (v : Value) (bs : List BkL) : Prop where
  row : Own w base 90 4 v bs.length (bkFlat bs)
  by' : ∀ p ∈ bs, Own w base 5 1 (.slice p.2.1 p.1.1.length p.2.2) p.1.1.length (by8 p.1.1)
theorem BksM.nil (w : World) (base : Nat) : BksM w base (.slice none 0 0) [] := ⟨Own.nil _ _ _ _, fun p hp => nomatch hp⟩
theorem BksM.off {S : Nat → Prop} {w w' : World} {base : Nat} {v : Value} {bs : List BkL} (h : BksM w base v bs) (f : Fr S w w') (h1 : Off S w 90) (h2 : Off S w 5) : BksM w' base v bs := ⟨h.row.off f h1, fun p hp => (h.by' p hp).off f h2⟩
theorem BksM.fr0 {w w' : World} {base : Nat} {v : Value} {bs : List BkL} (h : BksM w base v bs) (f : Fr No w w') : BksM w' base v bs := h.off f (fun _ _ _ _ h => h) (fun _ _ _ _ h => h)
theorem BksM.above {S : Nat → Prop} {w w' : World} {base : Nat} {v : Value} {bs : List BkL} (h : BksM w base v bs) (f : Fr S w w') (hS : ∀ k, S k → k < base) : BksM w' base v bs := ⟨h.row.above f hS, fun p hp => (h.by' p hp).above f hS⟩
/-- a list behind a pointer. -/
structure LstM (w : World) (base G : Nat) (bks : List Bk) (n : Nat) : Prop where
  ex : ∃ v bs, w.heap[G]? = some (.cells #[v, .int .i64 (n : Nat)] 87 (0, 0)) ∧ bs.map (·.1) = bks ∧ BksM w base v bs
  lo : base ≤ G
theorem LstM.off {S : Nat → Prop} {w w' : World} {base G n : Nat} {bks : List Bk} (h : LstM w base G bks n) (f : Fr S w w') (h0 : ¬ S G) (h1 : Off S w 90) (h2 : Off S w 5) : LstM w' base G bks n := by
  obtain ⟨v, bs, q1, q2, q3⟩ := h.ex
  exact ⟨⟨v, bs, f.blk q1 h0, q2, q3.off f h1 h2⟩, h.lo⟩
theorem LstM.fr0 {w w' : World} {base G n : Nat} {bks : List Bk} (h : LstM w base G bks n) (f : Fr No w w') : LstM w' base G bks n := h.off f (fun h => h) (fun _ _ _ _ h => h) (fun _ _ _ _ h => h)
theorem LstM.above {S : Nat → Prop} {w w' : World} {base G n : Nat} {bks : List Bk} (h : LstM w base G bks n) (f : Fr S w w') (hS : ∀ k, S k → k < base) : LstM w' base G bks n := by
  obtain ⟨v, bs, q1, q2, q3⟩ := h.ex
  exact ⟨⟨v, bs, f.blk q1 (fun e => by have := hS _ e; have := h.lo; omega), q2, q3.above f hS⟩, h.lo⟩
theorem Try.infoBk : (Try.prog.info? 90).map (fun i => (i.zero, i.size, i.bytes)) = some (some (.agg #[.slice none 0 0, .int .i64 0, .int .i64 0, .int .i64 0]), 4, 48) := by kernel_rfl
end Go.Proofs.Ythlbfnoahdjdeaa
namespace Go.Proofs.Ythlbfnoahdjdeaa
set_option linter.unusedVariables false
set_option linter.unusedSimpArgs false
open Go.RowKit

theorem bytesS_le {bs : List UInt8} {a : Nat} {e x : Int} : (bytesS bs a e x).1.length ≤ bs.length := by
  unfold bytesS
  split
  · cases h : bytesR (bs.drop a) x with
    | none => simp
    | some s =>
      simp only
      unfold bytesR at h
      split at h
      · cases h
      · injection h with h
        subst h
        simp
        omega
  · simp
theorem OwnPs.app {w w' : World} {base base2 : Nat} {v v2 v' : Value} {ps qs : List PoL} (h : OwnPs w base v ps) (h2 : OwnPs w base2 v2 qs) (hb : base ≤ base2) (hap : ∀ p ∈ ps, ∀ q ∈ qs, Apt (pVal p) (pVal q)) (f : Fr (fun k => v.ownBlock = some k) w w')
    (ho : Own w' base 58 2 v' (ps.length + qs.length) (pFlat ps ++ pFlat qs)) : OwnPs w' base v' (ps ++ qs) := by
  have hoff : Off (fun k => v.ownBlock = some k) w 3 := fun k cs fz hk e => by
    obtain ⟨_, cs2, fz2, h2⟩ := h.row.cellsT e
    rw [hk] at h2
    injection h2 with h2
    injection h2 with _ h2 _
    revert h2
    decide
  refine ⟨by rw [List.length_append, show pFlat (ps ++ qs) = pFlat ps ++ pFlat qs by simp [pFlat]]; exact ho, fun q hq => ?_, ?_, fun q hq => ?_⟩
  · rcases List.mem_append.1 hq with hq | hq
    · exact Own.off (h.ns q hq) f hoff
    · exact Own.lower (Own.off (h2.ns q hq) f hoff) hb
  · rw [List.pairwise_append]
    exact ⟨h.ap, h2.ap, hap⟩
  · rcases List.mem_append.1 hq with hq | hq
    · exact h.bd q hq
    · exact h2.bd q hq
/-- the state between two blocks. -/
structure PoO (w W : World) (g G : Nat) (bs : List UInt8) (a : Nat) (e : Int) (n : Nat) (vb : Value) (bks : List BkL) (vo : Value) (ps : List PoL) : Prop where
  rd : RD W g bs a e
  gB : w.heap.size ≤ g
  lst : W.heap[G]? = some (.cells #[vb, .int .i64 (n : Nat)] 87 (0, 0))
  lo : w.heap.size ≤ G
  bk : BksM W w.heap.size vb bks
  po : OwnPs W w.heap.size vo ps
  fr : Fr No w W
theorem RD.blkP {w : World} {g : Nat} {bs : List UInt8} {a : Nat} {e : Int} (h : RD w g bs a e) : ∃ cs fz, w.heap[g]? = some (.cells cs 111 fz) := by
  obtain ⟨A, c, hh, _⟩ := h
  exact ⟨_, _, hh⟩
theorem PoO.read {w W W' : World} {g G : Nat} {bs : List UInt8} {a a' : Nat} {e e' : Int} {n : Nat} {vb vo : Value} {bks : List BkL} {ps : List PoL} (h : PoO w W g G bs a e n vb bks vo ps) (f : Fr (Is g) W W') (hr : RD W' g bs a' e') : PoO w W' g G bs a' e' n vb bks vo ps := by
  obtain ⟨cs, fz, hh⟩ := h.rd.blkP
  refine ⟨hr, h.gB, f.blk h.lst (fun e => ?_), h.lo, h.bk.off f (off_is hh (by decide)) (off_is hh (by decide)), h.po.off f (off_is hh (by decide)) (off_is hh (by decide)), h.fr.trans f (fun i hi e => by have e : i = g := e; have := h.gB; omega)⟩
  have e : G = g := e
  have hl := h.lst
  rw [e, hh] at hl
  injection hl with hl
  injection hl with _ hl _
  revert hl
  decide
theorem PoO.fr0 {w W W' : World} {g G : Nat} {bs : List UInt8} {a : Nat} {e : Int} {n : Nat} {vb vo : Value} {bks : List BkL} {ps : List PoL} (h : PoO w W g G bs a e n vb bks vo ps) (f : Fr No W W') : PoO w W' g G bs a e n vb bks vo ps :=
  ⟨h.rd.fr0 f, h.gB, f.blk h.lst (fun h => h), h.lo, h.bk.fr0 f, h.po.fr0 f, h.fr.tr f⟩
def POpenP (w : World) (bs : List UInt8) (en : Ending) (w' : World) : Prop :=
  Fr No w w' ∧ ((∃ G l, FormP bs l ∧ en = .returned (.tuple #[.pointer (some ⟨G, 0, none⟩), .int .i64 0]) ∧ LstM w' w.heap.size G (bksOf l (nbP l.length)) l.length) ∨ ((∀ l, ¬ FormP bs l) ∧ en = .returned (.tuple #[.pointer none, .int .i64 20])))
end Go.Proofs.Ythlbfnoahdjdeaa
