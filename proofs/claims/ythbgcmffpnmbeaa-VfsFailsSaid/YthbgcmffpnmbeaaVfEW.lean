/- VfsFails, walked. -/
import Derived.Test.YthbgcmffpnmbeaaVfEp
import Derived.BigQuiet
import Derived.IntWalk
import Derived.Test.YthbgcmffpnmbeaaVfBy
import Derived.Test.YthbgcmffpnmbeaaKitS
namespace Go.Proofs.Ythbgcmffpnmbeaa
set_option linter.unusedVariables false
set_option linter.unusedSimpArgs false
open Go.RowKit Go.Maps Go.BigFrame

theorem fcalls {w0 w : World} {d N : Nat} {S : Di} (h : Fsh w0 w d S N) : Calls Try.prog 21 #[.pointer (some ⟨d, 0, none⟩)] w (Ret (.int .i64 (S.calls : Nat)) w) := by
  obtain ⟨Z, ⟨p, hd⟩, hz, hf⟩ := h
  exact calls_any hd
theorem nine {w : World} {g : Nat} {t : TypeId} {a0 a1 a2 a3 a4 a5 a6 a7 a8 : Value} (h : w.heap[g]? = some (.cells #[a0, a1, a2, a3, a4, a5, a6, a7, a8] t (0, 0))) :
    w.cell? ⟨g, 0, none⟩ = some a0 ∧ w.cell? ⟨g, 1, none⟩ = some a1 ∧ w.cell? ⟨g, 2, none⟩ = some a2 ∧ w.cell? ⟨g, 3, none⟩ = some a3 ∧ w.cell? ⟨g, 4, none⟩ = some a4 ∧ w.cell? ⟨g, 5, none⟩ = some a5 ∧ w.cell? ⟨g, 6, none⟩ = some a6 ∧ w.cell? ⟨g, 7, none⟩ = some a7 ∧ w.cell? ⟨g, 8, none⟩ = some a8 := by
  refine ⟨?_, ?_, ?_, ?_, ?_, ?_, ?_, ?_, ?_⟩ <;> (rw [cell_of_row w g _ _ _ (0, 0) h]; rfl)
theorem Fsh.callsN {w0 w : World} {d N : Nat} {S : Di} (h : Fsh w0 w d S N) : S.calls ≤ N := by
  obtain ⟨Z, ⟨p, hd⟩, hz, hf⟩ := h
  exact hd.calls
/-- sure, of one step that was laid just ahead. -/
theorem fsure1 {w9 : World} {Z9 : Nat → Prop} {d N B : Nat} {F : Di} {v : StpV} (hd : DirM w9 Z9 d F N) (hN : N < 1099511626000) (ho : StO w9 B v) (hB : B ≤ w9.heap.size) (hZ : ∀ k, k < B → ¬ Z9 k) (hp : F.part ≤ 9223372036854775807) :
    Calls Try.prog 10 #[.pointer (some ⟨d, 0, none⟩), .slice (some ⟨w9.heap.size, 0, none⟩) 1 1] (w9.alloc (.cells v.cells.toArray 40)) (fun en w' => en = .returned (.tuple #[]) ∧ ∃ S', Su1 F v.s S' ∧ Step w9 w' Z9 d S' (N + 3)) := by
  have f1 : Fr No w9 (w9.alloc (.cells v.cells.toArray 40)) := (Fr.refl No w9).alloc _
  have hlt : ∀ k, Z9 k → k < w9.heap.size := fun k hk => by obtain ⟨p, h⟩ := hd; exact h.lt k hk
  refine (sure2_any _ Z9 (fun k => k < B ∨ k = w9.heap.size) d N F (some ⟨w9.heap.size, 0, none⟩) 1 1 B [v] (hd.fr0 f1) (by simp; omega) rfl (Nat.le_refl _) (by unfold maxLen; omega) (StT.one (ho.fr f1 (fun _ _ h => h)) (heap_alloc_new w9 _) (.inr rfl)) (fun k hk => .inl hk)
    (fun k hk => by simp only [World.size_alloc]; omega) (fun k hk hz => by
      rcases hk with hk | hk
      · exact hZ k hk hz
      · have := hlt k hz; omega) hp).mono fun en w' hq => ?_
  obtain ⟨h1, S', ⟨Sa, h2, h3⟩, h4⟩ := hq
  obtain rfl : S' = Sa := h3
  exact ⟨h1, S', h2, h4.ahead (f1.any _)⟩
theorem fai_calls (S : Di) (n e p : Int) : (faiS S n e p).calls = S.calls := by unfold faiS; split <;> rfl
theorem fai_part {S : Di} {e p : Int} (h : p ≤ 9223372036854775807) : (faiS S 1 e p).part ≤ 9223372036854775807 := by
  unfold faiS
  split
  · exact h
  · show (0 : Int) ≤ _
    omega
set_option maxRecDepth 100000 in
set_option maxHeartbeats 6400000 in
theorem vfsFails_any (w : World) (A : Option Addr) (n c : Nat) (l : List StpV) (v : StpV) (e p : Int) (hl : l.length = n) (hn : n ≤ c) (hc : c ≤ maxLen) (hr : StR w w.heap.size A l) (hv : StO w w.heap.size v)
    (he : -9223372036854775808 ≤ e ∧ e ≤ 9223372036854775807) (hp : -9223372036854775808 ≤ p ∧ p ≤ 9223372036854775807) :
    Calls Try.prog 5 #[.slice A n c, .agg v.cells.toArray, .int .i64 e, .int .i64 p] w (fun en w' => en = .returned (.bool true) ∧ Fr No w w') := by
  have HAw := hide (fun W => awake_any W)
  have HL := hide hl
  have HR := hide hr
  have HC := hide hc
  have HV := hide hv
  have HP := hide hp
  have HE := hide he
  obtain ⟨Y, hY⟩ : ∃ Y : ByteArray, Y = ⟨v.s.name.toArray⟩ := ⟨_, rfl⟩
  have hYl : Y.toList = v.s.name := by rw [hY]; exact tx_list _
  have hcv : v.cells.toArray = #[.int .i64 v.s.kind, .int .i64 v.s.who, .int .i64 v.s.n, .int .i64 v.s.e, .int .i64 v.s.part, .string Y, sv v.s.other, .slice v.A1 v.s.bytes.length v.c1, .slice v.A2 v.s.cs.length v.c2] := by rw [hY]; rfl
  rw [hcv]
  have hb0 : (w.alloc (.cells v.cells.toArray 40)).heap[w.heap.size]? = some (.cells v.cells.toArray 40 (0, 0)) := heap_alloc_new w _
  have HBx := hide hb0
  rw [hcv] at HBx
  have HF0 : Hid (Fr No w (w.alloc (.cells v.cells.toArray 40))) := hide ((Fr.refl No w).alloc _)
  rw [hcv] at HF0
  unfold maxLen at hc
  have HYl := hide hYl
  have HCv := hide hcv
  clear hYl hY hl hr hv hp he hb0 hcv
  obtain ⟨κ, hκ⟩ : ∃ κ, κ = v.s.kind := ⟨_, rfl⟩
  obtain ⟨n7, hn7⟩ : ∃ k, k = v.s.bytes.length := ⟨_, rfl⟩
  obtain ⟨n8, hn8⟩ : ∃ k, k = v.s.cs.length := ⟨_, rfl⟩
  by_cases hstop : 200 < n ∨ e = 0 ∨ κ < 0 ∨ 5 < κ
  · rw [← hκ, ← hn7, ← hn8] at HF0
    rw [← hκ, ← hn7, ← hn8]
    clear hκ hn7 hn8
    by_cases h1 : 200 < n
    · have hd1 : decide ((200 : Int) < (n : Int)) = true := decide_eq_true (by omega)
      clear hstop
      go_enter Try.func5, Try.ntmps5
      go_wp2_with (go_at_call 8; refine (HAw.out _).mono ?_; rintro en w1 ⟨rfl, hfr⟩; have F1 := hide (HF0.out.tr hfr); clear hfr)
      go_ret
      exact ⟨rfl, F1.out⟩
    · have hd1 : decide ((200 : Int) < (n : Int)) = false := decide_eq_false (by omega)
      by_cases h2 : e = 0
      · have hd2 : (e == 0) = true := by simp [h2]
        clear hstop h2
        go_enter Try.func5, Try.ntmps5
        go_wp2_with (go_at_call 8; refine (HAw.out _).mono ?_; rintro en w1 ⟨rfl, hfr⟩; have F1 := hide (HF0.out.tr hfr); clear hfr)
        go_ret
        exact ⟨rfl, F1.out⟩
      · have hd2 : (e == 0) = false := by simp [h2]
        by_cases h3 : κ < 0
        · have hd3 : decide (κ < 0) = true := decide_eq_true h3
          clear hstop h2
          go_enter Try.func5, Try.ntmps5
          go_wp2_with (go_at_call 8; refine (HAw.out _).mono ?_; rintro en w1 ⟨rfl, hfr⟩; have F1 := hide (HF0.out.tr hfr); clear hfr)
          go_ret
          exact ⟨rfl, F1.out⟩
        · have hd3 : decide (κ < 0) = false := decide_eq_false h3
          have h4 : 5 < κ := by
            rcases hstop with h | h | h | h
            · exact (h1 h).elim
            · exact (h2 h).elim
            · exact (h3 h).elim
            · exact h
          have hd4 : decide (5 < κ) = true := decide_eq_true h4
          clear hstop h2
          go_enter Try.func5, Try.ntmps5
          go_wp2_with (go_at_call 8; refine (HAw.out _).mono ?_; rintro en w1 ⟨rfl, hfr⟩; have F1 := hide (HF0.out.tr hfr); clear hfr)
          go_ret
          exact ⟨rfl, F1.out⟩
  · have hs1 : ¬ 200 < n := fun h => hstop (.inl h)
    have hs2 : ¬ e = 0 := fun h => hstop (.inr (.inl h))
    have hs3 : ¬ κ < 0 := fun h => hstop (.inr (.inr (.inl h)))
    have hs4 : ¬ 5 < κ := fun h => hstop (.inr (.inr (.inr h)))
    have hd1 : decide ((200 : Int) < (n : Int)) = false := decide_eq_false (by omega)
    have hd2 : (e == 0) = false := by simp [hs2]
    have hd3 : decide (κ < 0) = false := decide_eq_false hs3
    have hd4 : decide (5 < κ) = false := decide_eq_false hs4
    have HS1 := hide hs1
    have HS2 := hide hs2
    have HS3 := hide hs3
    have HS4 := hide hs4
    have HNew := hide (fun W => new_any W)
    have HSu := hide (fun (wa W : World) (d : Nat) (f1 : Fr No w wa) (h : Fsh wa W d newD 0) => fsure (l := l) h (by rw [HL.out]; omega) HL.out hn HC.out (HR.out.fr f1 (fun _ _ h => h)) f1.size (by show (0 : Int) ≤ _; omega))
    have HN9 := hide (show 0 + 3 * l.length ≤ 900 by rw [HL.out]; omega)
    rw [← hκ, ← hn7, ← hn8] at HBx HF0
    rw [← hκ, ← hn7, ← hn8]
    have HK := hide hκ
    have HN7 := hide hn7
    have HN8 := hide hn8
    clear hstop hs1 hs2 hs3 hs4 hκ hn7 hn8
    go_enter Try.func5, Try.ntmps5
    go_wp2_with (first
      | (go_at_call 11; refine (flist F3.out (by have := HN9.out; omega)).mono ?_; rintro en w6 ⟨A6, c6, ks, rfl, hk6, hkl6, ho6, hf6⟩; have HO6 := hide ho6; have HF6 := hide hf6; have HK6 := hide hk6; have HKl6 := hide hkl6; have hle6 := ho6.le.2.1; have hm6 := ho6.le.2.2; clear ho6 hf6 hk6 hkl6)
      | (go_at_call 10; refine (HSu.out w1 _ _ F1.out F2.out).mono ?_; rintro en w3 ⟨rfl, S, hsu, hfs⟩; have HS := hide hsu; have F3 := hide hfs; clear hsu hfs)
      | (go_at_call 9; refine (HNew.out w1).mono ?_; rintro en w2 ⟨rfl, hf2, hd2⟩; have F2 := hide (Fsh.of_new hf2 hd2); clear hf2 hd2)
      | (go_at_call 8; refine (HAw.out _).mono ?_; rintro en w1 ⟨rfl, hfr⟩; have F01 := hide hfr; have F1 := hide (HF0.out.tr hfr); have HBx1 := hide (hfr.blk HBx.out (fun h => h)); clear hfr))
    have HInv := hide (Inv.new.run HS.out)
    have HKs := hide (show KeysL S.now ks by have h := HK6.out; rw [HInv.out.off, if_neg (by simp)] at h; exact h)
    have hm6' := hm6
    unfold maxLen at hm6'
    have F6 := hide (F3.out.fr0 HF6.out)
    have HKc := hide (show ks.length ≤ 900 by have := F6.out.count HKs.out; have := HN9.out; omega)
    have HKc2 := HKc.out
    obtain ⟨i0, z0, hi, hz, hsz, hby, hzs⟩ := Try.infoBy
    have HSr := hide (fun W (v : Value) (h1 : v.oneCell' = true) => Src.one (P := Try.prog) W (e := 35) Try.underlying34 v h1)
    go_loopw [11, 12] (fun v i wr => ∃ (k : Nat) (bss : List (List UInt8)), k ≤ ks.length ∧ i = .int .i64 k ∧ bss.length = k ∧ Hid (bss = bytesOf S (ks.take k)) ∧ Hid (Fr No w6 wr) ∧ Hid (Bys wr w6.heap.size v bss)) (fun _ i _ => ks.length - (intOf i).toNat)
    case atStart => exact ⟨0, [], by omega, rfl, rfl, hide rfl, hide (Fr.refl _ _), hide (Bys.nil _ _)⟩
    case round =>
      obtain ⟨k, bss, hk, rfl, hbl, HBs, HW, HB⟩ := hrel
      by_cases hlt : k < ks.length
      · obtain ⟨ad, X, rfl, _, hcell, hX, _, _⟩ := cellStr ((HO6.out.fr0 HW.out).rd) hlt
        have ev : Value.string X = sv (ks.getD k []) := by unfold sv; rw [← hX]
        obtain ⟨t, ht⟩ : ∃ t, t = ks.getD k [] := ⟨_, rfl⟩
        rw [← ht] at ev
        have htk : ks[k]? = some t := by rw [ht, List.getD, List.getElem?_eq_getElem hlt]; rfl
        have htl := HKl6.out t (List.mem_of_getElem? htk)
        have HRd := hide (fread (F6.out.fr0 HW.out) htl)
        obtain ⟨⟨bs, eS⟩, hbS⟩ : ∃ r, r = reaS S t := ⟨_, rfl⟩
        rw [← hbS, ← ev] at HRd
        unfold RetR at HRd
        simp only at HRd
        have HBn := hide (show bss ++ [bs] = bytesOf S (ks.take (k + 1)) by
          rw [HBs.out, List.take_add_one, htk]
          simp only [bytesOf, Option.toList_some, List.map_append, List.map_cons, List.map_nil, ← hbS])
        obtain ⟨vs, hov, hcv⟩ := HB.out
        rw [hbl] at hov
        have HVs := hide hov
        have HCv2 := hide hcv
        have HBl := hide hbl
        obtain ⟨Av, cv, hvv, -⟩ := hov.form
        clear ev htk htl ht hX hbS hov hcv hbl
        subst hvv
        have hk9 : (k + 1) * 24 ≤ 140737488355328 := by omega
        have hk8 : k + 1 ≤ maxLen := by unfold maxLen; omega
        go_wp2_with (first
          | (go_at_call 15; refine HRd.out.mono ?_; rintro en w9 ⟨v7, rfl, ho7, hf7⟩; obtain ⟨A7, c7, rfl, hl7, hm7, -⟩ := ho7.form; have HO7 := hide ho7; have HF7 := hide hf7; have HS9 := hide (HSr.out w9 (.slice A7 bs.length c7) rfl); have HV9 := hide ((HVs.out.fr0 HF7.out).fr0 ((Fr.refl No w9).alloc (.cells #[.slice A7 bs.length c7] 35))); have HB9 : Hid (w6.heap.size ≤ (w9.alloc (.cells #[.slice A7 bs.length c7] 35)).heap.size) := hide (Nat.le_trans (HW.out.tr HF7.out).size (by simp)); clear ho7 hf7)
          | (at_builtin; refine wpList_append_gen _ rfl (.tmp 62) (.tmp 64) 34 34 rfl w6.heap.size 35 i0 z0 1 24 Try.underlying34 hi hz hsz hby hzs (.slice Av k cv) k vs rfl HV9.out _ 1 [.slice A7 bs.length c7] rfl HS9.out hk9 hk8 HB9.out ?_; intro v' w10 hown hfr hat; obtain ⟨A9, c9, rfl, -⟩ := hown.form; have HOw := hide hown; have HFr := hide hfr; clear hown hfr hat))
        have HB2 := hide (Bys.snoc (HVs.out.fr0 (HF7.out.tr ((Fr.refl No w9).alloc (.cells #[.slice A7 bs.length c7] 35)))) HBl.out (fun j b u h1 h2 => (HCv2.out j b u h1 h2).fr0 (HF7.out.tr ((Fr.refl No w9).alloc _))) ((HO7.out.fr0 ((Fr.refl No w9).alloc _)).lower HW.out.size) HOw.out HFr.out)
        have HW2 := hide (((HW.out.tr HF7.out).tr ((Fr.refl No w9).alloc (.cells #[.slice A7 bs.length c7] 35))).trans HFr.out (fun i hi hz => by have := (HVs.out.lt i hz).1; omega))
        go_round
        case rel => exact ⟨k + 1, bss ++ [bs], by omega, by go_num, by rw [List.length_append, HBl.out]; rfl, HBn, HW2, HB2⟩
        case measure => simp [intOf]; omega
      · obtain rfl : k = ks.length := by omega
        obtain ⟨wc, rfl⟩ : ∃ W : World, W = wr := ⟨_, rfl⟩
        have ht : ks.take ks.length = ks := List.take_length
        rw [ht] at HBs
        clear ht hlt
        obtain ⟨vs, hov, hcv⟩ := HB.out
        rw [hbl] at hov
        obtain ⟨Av, cv, hvv, hvl, hvm, -⟩ := hov.form
        clear hov hcv
        subst hvv
        have HBl := hide hbl
        have hvm' := hvm
        unfold maxLen at hvm'
        obtain ⟨Z, ⟨p3, hd3⟩, hz3, hf3⟩ := F3.out
        have HZ := hide (fun k (hk : Z k) => show w1.heap.size ≤ k ∧ k < w3.heap.size from ⟨hz3 k hk, hd3.lt k hk⟩)
        have hdc := hd3.fr0 (HF6.out.tr HW.out)
        have HFa := hide (fail_any wc Z (w1.heap.size + 2) _ S p3 1 e p hdc (by have := HN9.out; omega))
        have hw01 : w.heap.size < w1.heap.size := Nat.lt_of_lt_of_le (by simp) F01.out.size
        have HTT : Hid (∀ g, g < wc.heap.size → (g < w1.heap.size ∨ w3.heap.size ≤ g) → ¬ (fun k => Z k ∨ wc.heap.size ≤ k) g) := hide fun g hg h hh => by
          rcases hh with hh | hh
          · have := HZ.out g hh
            rcases h with h | h <;> omega
          · omega
        have HWc := hide (show w1.heap.size ≤ w3.heap.size ∧ w3.heap.size ≤ w6.heap.size ∧ w6.heap.size ≤ wc.heap.size from ⟨F3.out.frame.size, HF6.out.size, HW.out.size⟩)
        have HBxc := hide ((((F3.out.frame.tr HF6.out).tr HW.out)).blk HBx1.out (fun h => h))
        have HVc := hide ((((HF0.out.tr F01.out).tr F3.out.frame).tr HF6.out).tr HW.out)
        obtain ⟨cn, hcn⟩ : ∃ k, k = S.calls := ⟨_, rfl⟩
        have hcl : cn ≤ 900 := by have := hd3.calls; have := HN9.out; omega
        have HCn := hide hcn
        have HVw := hide ((HV.out.fr HVc.out (fun _ _ h => h)) : StO wc w.heap.size v)
        clear hcn hbl hd3 hz3 hf3 hdc
        have HNm := hide (fun (W : World) (f : Fr (fun k => Z k ∨ wc.heap.size ≤ k) wc W) => (HO6.out.fr0 HW.out).fr f (fun g hg => HTT.out g (Nat.lt_of_lt_of_le (HO6.out.lt g hg).2 HWc.out.2.2) (.inr (HO6.out.lt g hg).1)))
        have HBb := hide (fun (W : World) (f : Fr (fun k => Z k ∨ wc.heap.size ≤ k) wc W) => HB.out.fr2 f (fun k h1 h2 => HTT.out k h2 (.inr (by have := HWc.out; omega))))
        have HVt := hide (fun (W : World) (f : Fr (fun k => Z k ∨ wc.heap.size ≤ k) wc W) => HVw.out.fr f (fun k hk => HTT.out k (by have := HWc.out; omega) (.inl (by omega))))
        go_wp2_with (first
          | (go_at_call 19; refine (sameS_any A12 A6 _ c12 _ c6 _ _ ks ks w12 rfl rfl HO12.out.le.2.1 HO12.out.le.2.2 hle6 hm6 HO12.out.rd (HO11.out.fr0 HF12.out).rd).mono ?_; rw [decide_eq_true rfl]; rintro en w13 ⟨rfl, q13, rfl⟩)
          | (go_at_call 11; refine (flist F11.out (by omega)).mono ?_; rintro en w12 ⟨A12, c12, ks12, rfl, hk12, hkl12, ho12, hf12⟩; have hks : ks = ks12 := (by rw [off_neg HFd.out.halt, if_neg (by simp)] at hk12; exact (HFd.out.keys HKs.out).uniq hk12); subst hks; have HO12 := hide ho12; have HF12 := hide hf12; clear ho12 hf12 hk12 hkl12)
          | (go_at_call 21; refine (fcalls F11.out).mono ?_; rw [show ((S1.calls : Nat) : Int) = (cn : Int) + 1 by rw [HFd.out.calls, HCn.out]; rfl]; rintro en w14 ⟨rfl, rfl⟩)
          | (go_at_call 10; refine HSu9.out.mono ?_; rintro en w11 ⟨rfl, S1, hsu, hst⟩; have HFd := hide (failed_of HInv.out HS2.out (by have := HS3.out; have := HK.out; omega) (by have := HS4.out; have := HK.out; omega) hsu); obtain ⟨q1, q2⟩ := HN11.out w11 S1 hst; have F11 := hide q1; have HF11 := hide q2; have HO11 := hide (HNm.out w11 q2); have HB11 := hide (HBb.out w11 q2); have HBx11 := hide (q2.blk HBxc.out (HTT.out w.heap.size (by have := HWc.out; omega) (.inl hw01))); have HV11 := hide (HVt.out w11 q2); clear hsu hst q1 q2)
          | (go_at_call 20; refine HFa.out.mono ?_; rintro en w9 ⟨rfl, hst⟩; obtain ⟨Z9, hd9, f9, y1, y2⟩ := hst; have hf9 := f9.mono (T := fun k => Z k ∨ wc.heap.size ≤ k) (fun i _ h => .inl h); have hbx9 := hf9.blk HBxc.out (HTT.out w.heap.size (by have := HWc.out; omega) (.inl hw01)); obtain ⟨k0, k1, k2, k3, k4, k5, k6, k7, k8⟩ := nine hbx9; have HBx9 := hide hbx9; have HF9 := hide hf9; have F9 := hide (Fsh.step (w0 := w1) (fun k hk => (HZ.out k hk).1) ((F3.out.frame.tr HF6.out).tr HW.out) ⟨Z9, hd9, f9, y1, y2⟩); have HSu9 := hide (fsure1 (v := v) (B := w.heap.size) hd9 (by have := HN9.out; omega) (HVw.out.fr hf9 (fun k hk => HTT.out k (by have := HWc.out; omega) (.inl (by omega)))) (Nat.le_trans HVc.out.size hf9.size) (fun k hk hz => by rcases y2 k hz with h | h; (have := (HZ.out k h).1; omega); (have := HWc.out; omega)) (fai_part HP.out.2)); rw [HCv.out, ← HK.out, ← HN7.out, ← HN8.out] at HSu9; have HN11 := hide (fun (w11 : World) (S1 : Di) (hst : Step w9 w11 Z9 (w1.heap.size + 2) S1 (0 + 3 * l.length + 3)) => show Fsh w1 w11 (w1.heap.size + 2) S1 1000 ∧ Fr (fun k => Z k ∨ wc.heap.size ≤ k) wc w11 from ⟨(Fsh.step (fun k hk => by rcases y2 k hk with h | h; exact (HZ.out k h).1; (have := HWc.out; omega)) F9.out.frame hst).mono (by have := HN9.out; omega), hf9.ts (by obtain ⟨_, _, f, _⟩ := hst; exact f.mono (fun i _ h => y2 i h))⟩); clear hd9 f9 y1 y2 hf9 hbx9)
          | (go_at_call 21; refine (fcalls F9.out).mono ?_; rw [fai_calls, ← HCn.out]; rintro en w10 ⟨rfl, rfl⟩))
        have HF13 := hide (HF12.out.drewN q13)
        obtain ⟨w13, hw13⟩ : ∃ W, W = w12.drewN q13 := ⟨_, rfl⟩
        rw [← hw13] at HF13
        rw [← hw13]
        have HO13 := hide (HO11.out.fr0 HF13.out)
        have HB13 := hide (HB11.out.fr0 HF13.out)
        have HBx13 := hide (HF13.out.blk HBx11.out (fun h => h))
        have HV13 := hide ((HV11.out.fr HF13.out (fun _ _ h => h)) : StO w13 w.heap.size v)
        have F13 := hide (F11.out.fr0 HF13.out)
        clear hw13
        go_loopw [16] (fun i wr => ∃ k : Nat, k ≤ ks.length ∧ i = .int .i64 k ∧ Hid (Fr No w13 wr)) (fun i _ => ks.length - (intOf i).toNat)
        case atStart => exact ⟨0, by omega, rfl, hide (Fr.refl _ _)⟩
        case round =>
          obtain ⟨k, hk, rfl, HWr⟩ := hrel
          by_cases hlt : k < ks.length
          · obtain ⟨ad, X, rfl, _, hcell, hX, hX2, _⟩ := cellStr ((HO13.out.fr0 HWr.out).rd) hlt
            have ev : Value.string X = sv (ks.getD k []) := by unfold sv; rw [← hX]
            obtain ⟨t, ht⟩ : ∃ t, t = ks.getD k [] := ⟨_, rfl⟩
            rw [← ht] at ev hX2
            have htk : ks[k]? = some t := by rw [ht, List.getD, List.getElem?_eq_getElem hlt]; rfl
            have htl := HKl6.out t (List.mem_of_getElem? htk)
            obtain ⟨f, hf⟩ := Option.isSome_iff_exists.1 ((HKs.out.2 t).1 (List.mem_of_getElem? htk))
            obtain ⟨bs, tl, e1, e2, e3, e4, e5⟩ := HFd.out.read HInv.out hf
            have hbk : bss[k]? = some bs := by rw [HBs.out, bytesOf, List.getElem?_map, htk, Option.map_some, e1]
            obtain ⟨bB, Aj, cj, rfl, _, hcB, hj1, hj2, hrB⟩ := (HB13.out.fr0 HWr.out).bsl HBl.out k bs hbk
            have HRb := hide hrB
            obtain ⟨n0, hn0⟩ : ∃ k, k = bs.length := ⟨_, rfl⟩
            obtain ⟨n1, hn1⟩ : ∃ k, k = (bs ++ tl).length := ⟨_, rfl⟩
            rw [← hn0] at hcB hj1
            have hn01 : n1 = n0 + tl.length := by rw [hn1, List.length_append, hn0]
            have hn0le : n0 ≤ n1 := by omega
            have HRd := hide (fread (F13.out.fr0 HWr.out) htl)
            rw [e2, ← ev] at HRd
            unfold RetR at HRd
            simp only [← hn1] at HRd
            obtain ⟨k0, -, -, -, -, k5, -, k7, -⟩ := nine (HWr.out.blk HBx13.out (fun h => h))
            have HBg1 := hide (fun (A7 : Option Addr) (c7 b1 b2 : Nat) (W : World) (q3 : n1 ≤ c7) (q4 : c7 ≤ maxLen) (r1 : Rd W b1 Aj (by8 bs)) (r2 : Rd W b2 A7 (by8 (bs ++ tl))) =>
              show Calls Try.prog 17 #[.slice Aj n0 cj, .slice A7 n1 c7] W (RetQ (.bool true) W) by
                have h := begins_any Aj A7 n0 cj n1 c7 b1 b2 bs (bs ++ tl) W hn0.symm hn1.symm hj1 hj2 q3 q4 r1 r2
                rw [decide_eq_true hn0le, hn0, List.take_left' rfl, decide_eq_true rfl] at h
                rw [hn0]
                exact h)
            have HBg2 := hide (fun (A7 : Option Addr) (c7 b1 : Nat) (W : World) (q3 : n1 - n0 ≤ c7) (q4 : c7 ≤ maxLen) (r1 : Rd W b1 A7 (by8 tl)) (r2 : StO W w.heap.size v) =>
              show Calls Try.prog 17 #[.slice A7 (n1 - n0) c7, .slice v.A1 n7 v.c1] W (RetQ (.bool true) W) by
                have ho := r2
                have h := begins_any A7 v.A1 (n1 - n0) c7 n7 v.c1 b1 w.heap.size tl v.s.bytes W (by omega) HN7.out.symm q3 q4 (by rw [HN7.out]; exact ho.l1) ho.m1 r1 ho.r1
                rw [decide_eq_true (show n1 - n0 ≤ n7 by rw [HN7.out]; omega), decide_eq_true (show tl = v.s.bytes.take (n1 - n0) by rw [show n1 - n0 = tl.length by omega]; exact e5)] at h
                exact h)
            have HVr := hide ((HV13.out.fr HWr.out (fun _ _ h => h)) : StO wr w.heap.size v)
            have hX3 : (X.toList != Y.toList) = decide (¬ t = v.s.name) := by
              rw [hX2, HYl.out]
              by_cases h : t = v.s.name <;> simp [h]
            have HE3 := hide e3
            have HTl := hide hn01
            have HLen := hide (show n0 = bs.length ∧ n1 = (bs ++ tl).length from ⟨hn0, hn1⟩)
            have hlen : (κ ≠ 1 ∨ ¬ t = v.s.name) → n1 = n0 := fun h => by
              rcases e3 with e3 | ⟨h1, h2⟩
              · rw [hn01, e3]; rfl
              · rcases h with h | h
                · exact (h (HK.out.trans h1)).elim
                · exact (h h2.symm).elim
            have HLn := hide hlen
            have HX3 := hide hX3
            clear hX3 hlen e1 e2 e3 e4 e5 htk htl hf hbk hrB hn0 hn1 hn01 ht ev hX hX2
            go_upto_region 21 with (go_at_call 15; refine HRd.out.mono ?_; rintro en w14 ⟨v7, rfl, ho7, hf7⟩; obtain ⟨A7, c7, rfl, hl7, hm7, hnil, hrd7, -⟩ := ho7.form; have HR7 := hide hrd7; have HF7 := hide hf7; have hcell7 := hf7.cell hcell (fun h => h); have hcB7 := hf7.cell hcB (fun h => h); have p0 := hf7.cell k0 (fun h => h); have p5 := hf7.cell k5 (fun h => h); have p7 := hf7.cell k7 (fun h => h); have HRb7 := hide (HRb.out.fr0 hf7); have HV7 := hide ((HVr.out.fr hf7 (fun _ _ h => h)) : StO w14 w.heap.size v); clear ho7 hf7 hrd7)
            have hm7' := hm7
            unfold maxLen at hm7'
            clear hcell hcB k0 k5 k7
            have HB1 := hide (fun q => HBg1.out A7 c7 _ _ (w14.drewN q) hl7 hm7 (HRb7.out.fr0 ((Fr.refl No w14).drewN q)) (HR7.out.fr0 ((Fr.refl No w14).drewN q)))
            have HWn := hide (fun q => (HWr.out.tr HF7.out).drewN q)
            have z1 : (0 : Int) ≤ (n0 : Int) := by omega
            have z2 : (n0 : Int) ≤ (n1 : Int) := by omega
            have z3 : (n1 : Int) ≤ (c7 : Int) := by omega
            have z4 : n0 ≤ c7 := by omega
            have HRt := hide (fun q => (HR7.out.fr0 ((Fr.refl No w14).drewN q)).cut (k := n0) (cap := c7) (by rw [by8_length, ← HLen.out.2]; exact hl7))
            have HDr := hide (show (by8 (bs ++ tl)).drop n0 = by8 tl by rw [by8_append, List.drop_left' (by rw [by8_length]; exact HLen.out.1.symm)])
            rw [HDr.out] at HRt
            cases A7 with
            | none =>
              have hc0 : c7 = 0 := hnil rfl
              subst hc0
              have hn1 : n1 = 0 := by omega
              have hn0 : n0 = 0 := by omega
              subst hn1 hn0
              have HB2 := hide (fun q => HBg2.out none 0 _ (w14.drewN q) (by omega) (Nat.zero_le _) (by have := HRt.out q; simpa using this) ((HV7.out.fr ((Fr.refl No w14).drewN q) (fun _ _ h => h)) : StO (w14.drewN q) w.heap.size v))
              simp only [Nat.sub_self] at HB2
              have HQ1 := hide (fun q => Calls.quiet_of (v := .bool true) (HB1.out q))
              have HQ2 := hide (fun q => Calls.quiet_of (v := .bool true) (HB2.out q))
              clear HAw HL HR HC HV HP HE HYl HCv HF0 HBx HS1 HS2 HNew HSu HN9 HK HN7 HN8 F01 F1 HBx1 HS3 HS4 F2 HS F3 HF6 HK6 HKl6 HInv HKs F6 HKc HSr HBs HW HBl HZ HFa HTT HWc HBxc HVc HCn HVw HVt HBx9 HF9 F9 HSu9 HN11 HFd F11 HF11 HBx11 HV11 HO12 HF12 HF13 HBx13 HV13 F13 HWr HO6 HNm HO11 HO13 HB HBb HB11 HB13 HRb HRd HBg1 HBg2 HVr HE3 HTl HLen HF7 HRb7 HV7 HDr HR7 HB1 HRt HB2 hd1 hd2 hd3 hd4 hi hz hsz hby hzs k0 k1 k2 k3 k4 k5 k6 k7 k8 hw01 hn hc hcl
              by_cases hκ1 : κ = 1
              · have bκ : (κ != 1) = false := by simp [hκ1]
                have bκ2 : (κ == 1) = true := by simp [hκ1]
                by_cases ht : t = v.s.name
                · have bX : (X.toList == Y.toList) = true := by have h := HX3.out; simp [ht] at h; simp [h]
                  clear hκ1 ht
                  go_big_quiet ((go_at_call 17; first | with_reducible exact HQ1.out _ | with_reducible exact HQ2.out _))
                  go_wp2
                  go_round
                  case rel => exact ⟨k + 1, by omega, by go_num, hide (HWn.out _)⟩
                  case measure => simp [intOf]; omega
                · have bX : (X.toList == Y.toList) = false := by have h := HX3.out; simp [ht] at h; simp [h]
                  clear hκ1 ht
                  go_big_quiet ((go_at_call 17; first | with_reducible exact HQ1.out _ | with_reducible exact HQ2.out _))
                  go_wp2
                  go_round
                  case rel => exact ⟨k + 1, by omega, by go_num, hide (HWn.out _)⟩
                  case measure => simp [intOf]; omega
              · have bκ : (κ != 1) = true := by simp [hκ1]
                have bκ2 : (κ == 1) = false := by simp [hκ1]
                by_cases ht : t = v.s.name
                · have bX : (X.toList == Y.toList) = true := by have h := HX3.out; simp [ht] at h; simp [h]
                  clear hκ1 ht
                  go_big_quiet ((go_at_call 17; first | with_reducible exact HQ1.out _ | with_reducible exact HQ2.out _))
                  go_wp2
                  go_round
                  case rel => exact ⟨k + 1, by omega, by go_num, hide (HWn.out _)⟩
                  case measure => simp [intOf]; omega
                · have bX : (X.toList == Y.toList) = false := by have h := HX3.out; simp [ht] at h; simp [h]
                  clear hκ1 ht
                  go_big_quiet ((go_at_call 17; first | with_reducible exact HQ1.out _ | with_reducible exact HQ2.out _))
                  go_wp2
                  go_round
                  case rel => exact ⟨k + 1, by omega, by go_num, hide (HWn.out _)⟩
                  case measure => simp [intOf]; omega
            | some a7 =>
              by_cases hcap : c7 = n0
              · subst hcap
                obtain rfl : c7 = n1 := by omega
                have HB2 := hide (fun q => HBg2.out (some a7) (c7 - c7) _ (w14.drewN q) (by omega) (by unfold maxLen; omega) (by have := HRt.out q; rw [if_pos rfl] at this; exact this) ((HV7.out.fr ((Fr.refl No w14).drewN q) (fun _ _ h => h)) : StO (w14.drewN q) w.heap.size v))
                simp only [Nat.sub_self] at HB2
                have HQ1 := hide (fun q => Calls.quiet_of (v := .bool true) (HB1.out q))
                have HQ2 := hide (fun q => Calls.quiet_of (v := .bool true) (HB2.out q))
                clear HAw HL HR HC HV HP HE HYl HCv HF0 HBx HS1 HS2 HNew HSu HN9 HK HN7 HN8 F01 F1 HBx1 HS3 HS4 F2 HS F3 HF6 HK6 HKl6 HInv HKs F6 HKc HSr HBs HW HBl HZ HFa HTT HWc HBxc HVc HCn HVw HVt HBx9 HF9 F9 HSu9 HN11 HFd F11 HF11 HBx11 HV11 HO12 HF12 HF13 HBx13 HV13 F13 HWr HO6 HNm HO11 HO13 HB HBb HB11 HB13 HRb HRd HBg1 HBg2 HVr HE3 HTl HLen HF7 HRb7 HV7 HDr HR7 HB1 HRt HB2 hd1 hd2 hd3 hd4 hi hz hsz hby hzs k0 k1 k2 k3 k4 k5 k6 k7 k8 hw01 hn hc hcl
                by_cases hκ1 : κ = 1
                · have bκ : (κ != 1) = false := by simp [hκ1]
                  have bκ2 : (κ == 1) = true := by simp [hκ1]
                  by_cases ht : t = v.s.name
                  · have bX : (X.toList == Y.toList) = true := by have h := HX3.out; simp [ht] at h; simp [h]
                    clear hκ1 ht
                    go_big_quiet ((go_at_call 17; first | with_reducible exact HQ1.out _ | with_reducible exact HQ2.out _))
                    go_wp2
                    go_round
                    case rel => exact ⟨k + 1, by omega, by go_num, hide (HWn.out _)⟩
                    case measure => simp [intOf]; omega
                  · have bX : (X.toList == Y.toList) = false := by have h := HX3.out; simp [ht] at h; simp [h]
                    clear hκ1 ht
                    go_big_quiet ((go_at_call 17; first | with_reducible exact HQ1.out _ | with_reducible exact HQ2.out _))
                    go_wp2
                    go_round
                    case rel => exact ⟨k + 1, by omega, by go_num, hide (HWn.out _)⟩
                    case measure => simp [intOf]; omega
                · have bκ : (κ != 1) = true := by simp [hκ1]
                  have bκ2 : (κ == 1) = false := by simp [hκ1]
                  by_cases ht : t = v.s.name
                  · have bX : (X.toList == Y.toList) = true := by have h := HX3.out; simp [ht] at h; simp [h]
                    clear hκ1 ht
                    go_big_quiet ((go_at_call 17; first | with_reducible exact HQ1.out _ | with_reducible exact HQ2.out _))
                    go_wp2
                    go_round
                    case rel => exact ⟨k + 1, by omega, by go_num, hide (HWn.out _)⟩
                    case measure => simp [intOf]; omega
                  · have bX : (X.toList == Y.toList) = false := by have h := HX3.out; simp [ht] at h; simp [h]
                    clear hκ1 ht
                    go_big_quiet ((go_at_call 17; first | with_reducible exact HQ1.out _ | with_reducible exact HQ2.out _))
                    go_wp2
                    go_round
                    case rel => exact ⟨k + 1, by omega, by go_num, hide (HWn.out _)⟩
                    case measure => simp [intOf]; omega
              · have HB2 := hide (fun q => HBg2.out (some (a7.add n0)) (c7 - n0) _ (w14.drewN q) (by omega) (by unfold maxLen; omega) (by have := HRt.out q; rw [if_neg hcap] at this; exact this) ((HV7.out.fr ((Fr.refl No w14).drewN q) (fun _ _ h => h)) : StO (w14.drewN q) w.heap.size v))
                have HQ1 := hide (fun q => Calls.quiet_of (v := .bool true) (HB1.out q))
                have HQ2 := hide (fun q => Calls.quiet_of (v := .bool true) (HB2.out q))
                clear HAw HL HR HC HV HP HE HYl HCv HF0 HBx HS1 HS2 HNew HSu HN9 HK HN7 HN8 F01 F1 HBx1 HS3 HS4 F2 HS F3 HF6 HK6 HKl6 HInv HKs F6 HKc HSr HBs HW HBl HZ HFa HTT HWc HBxc HVc HCn HVw HVt HBx9 HF9 F9 HSu9 HN11 HFd F11 HF11 HBx11 HV11 HO12 HF12 HF13 HBx13 HV13 F13 HWr HO6 HNm HO11 HO13 HB HBb HB11 HB13 HRb HRd HBg1 HBg2 HVr HE3 HTl HLen HF7 HRb7 HV7 HDr HR7 HB1 HRt HB2 hd1 hd2 hd3 hd4 hi hz hsz hby hzs k0 k1 k2 k3 k4 k5 k6 k7 k8 hw01 hn hc hcl
                by_cases hκ1 : κ = 1
                · have bκ : (κ != 1) = false := by simp [hκ1]
                  have bκ2 : (κ == 1) = true := by simp [hκ1]
                  by_cases ht : t = v.s.name
                  · have bX : (X.toList == Y.toList) = true := by have h := HX3.out; simp [ht] at h; simp [h]
                    clear hκ1 ht
                    go_big_quiet ((go_at_call 17; first | with_reducible exact HQ1.out _ | with_reducible exact HQ2.out _))
                    go_wp2
                    go_round
                    case rel => exact ⟨k + 1, by omega, by go_num, hide (HWn.out _)⟩
                    case measure => simp [intOf]; omega
                  · have bX : (X.toList == Y.toList) = false := by have h := HX3.out; simp [ht] at h; simp [h]
                    have hl := HLn.out (.inr ht)
                    have bl : ((n1 : Int) != (n0 : Int)) = false := by simp [hl]
                    clear hκ1 ht hl
                    go_big_quiet ((go_at_call 17; first | with_reducible exact HQ1.out _ | with_reducible exact HQ2.out _))
                    go_wp2
                    go_round
                    case rel => exact ⟨k + 1, by omega, by go_num, hide (HWn.out _)⟩
                    case measure => simp [intOf]; omega
                · have bκ : (κ != 1) = true := by simp [hκ1]
                  have bκ2 : (κ == 1) = false := by simp [hκ1]
                  have hl := HLn.out (.inl hκ1)
                  have bl : ((n1 : Int) != (n0 : Int)) = false := by simp [hl]
                  by_cases ht : t = v.s.name
                  · have bX : (X.toList == Y.toList) = true := by have h := HX3.out; simp [ht] at h; simp [h]
                    clear hκ1 ht hl
                    go_big_quiet ((go_at_call 17; first | with_reducible exact HQ1.out _ | with_reducible exact HQ2.out _))
                    go_wp2
                    go_round
                    case rel => exact ⟨k + 1, by omega, by go_num, hide (HWn.out _)⟩
                    case measure => simp [intOf]; omega
                  · have bX : (X.toList == Y.toList) = false := by have h := HX3.out; simp [ht] at h; simp [h]
                    clear hκ1 ht hl
                    go_big_quiet ((go_at_call 17; first | with_reducible exact HQ1.out _ | with_reducible exact HQ2.out _))
                    go_wp2
                    go_round
                    case rel => exact ⟨k + 1, by omega, by go_num, hide (HWn.out _)⟩
                    case measure => simp [intOf]; omega
          · obtain rfl : k = ks.length := by omega
            have HSd := hide (fsyncdir (F13.out.fr0 HWr.out) (by omega))
            rw [HFd.out.sync] at HSd
            clear hlt
            go_wp2_with (go_at_call 13; refine HSd.out.mono ?_; rintro en w14 ⟨rfl, h14⟩; have F14 := hide h14; clear h14)
            go_ret
            exact ⟨rfl, F1.out.tr F14.out.frame⟩
end Go.Proofs.Ythbgcmffpnmbeaa
