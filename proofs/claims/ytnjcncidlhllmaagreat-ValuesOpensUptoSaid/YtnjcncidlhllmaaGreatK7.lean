/- Several texts in one: TakeN, StepA, RefPut03, MemIn, ChunkW, PutI. -/
import Derived.Test.YtnjcncidlhllmaaGreatK6
import Derived.Deep.RegionWith
import Derived.RegionTactic
import Derived.BigRegion
import Derived.RangeFuncNested
import Derived.RangeFuncBound
import Derived.RangeFuncCalls
import Derived.RangeFuncLeaves
import Derived.Shelf.Abstract
import Derived.Shelf.RegionOpen
import Derived.OwnWalkIn
import Derived.TacticsInMore
import Derived.LoopNIn
import Derived.LoopIn
namespace Go.Proofs.YtnjcncidlhllmaaGreat
set_option linter.unusedVariables false
set_option linter.unusedSimpArgs false
open Go.RowKit

set_option maxRecDepth 100000 in
set_option maxHeartbeats 800000 in
theorem size1_any (r : Value) (b1 b2 : Nat) (most : Int) (A : Option Addr) (n c B : Nat) (bs : List UInt8) (W : World) (hl : bs.length = n) (hn : n ≤ c) (hc : c ≤ maxLen) (hm1 : -9223372036854775808 ≤ most) (hm2 : most ≤ 9223372036854775807) (hr : Rd W B A (by8 bs)) (c1 : W.cell? ⟨b1, 0, none⟩ = some r) (c2 : W.cell? ⟨b2, 0, none⟩ = some (.int .i64 most)) :
    Calls Tryz.prog 79 #[.slice A n c, .pointer (some ⟨b1, 0, none⟩), .pointer (some ⟨b2, 0, none⟩)] W (Ret (sizeV (sizeR bs most)) W) := by
  have HN := hide (number_any r A n c B bs W hl hn hc hr)
  cases hd : dec 0 0 bs with
  | none =>
    have HT := hide (sizeR_none (most := most) hd)
    rw [hd] at HN
    simp only [numV] at HN
    clear hr hl hd
    go_enter Tryz.func79, Tryz.ntmps79
    go_wp2_with (go_at_call 80; refine HN.out.mono ?_; rintro en w' ⟨rfl, rfl⟩)
    go_ret2
    exact ⟨by rw [HT.out]; rfl, rfl⟩
  | some x =>
    obtain ⟨u, k⟩ := x
    rw [hd] at HN
    simp only [numV] at HN
    have hk := dec_le _ _ _ _ _ hd
    have hu := dec_lt _ 0 0 u k (by decide) hd
    by_cases hneg : most < 0
    · have HT := hide (sizeR_no (most := most) hd (.inl hneg))
      clear hr hl hd hk
      go_enter Tryz.func79, Tryz.ntmps79
      go_wp2_with (go_at_call 80; refine HN.out.mono ?_; rintro en w' ⟨rfl, rfl⟩)
      go_ret2
      exact ⟨by rw [HT.out]; rfl, rfl⟩
    · obtain ⟨m, rfl⟩ := Int.eq_ofNat_of_zero_le (a := most) (by omega)
      clear hm1 hneg
      by_cases hum : m < u
      · have HT := hide (sizeR_no (most := m) hd (.inr (by omega)))
        clear hr hl hd hk
        go_enter Tryz.func79, Tryz.ntmps79
        go_wp2_with (go_at_call 80; refine HN.out.mono ?_; rintro en w' ⟨rfl, rfl⟩)
        go_ret2
        exact ⟨by rw [HT.out]; rfl, rfl⟩
      · have HT := hide (sizeR_ok (most := m) hd (by omega))
        have hu2 : u ≤ m := by omega
        clear hr hl hd hk hum hu
        go_enter Tryz.func79, Tryz.ntmps79
        go_wp2_with (go_at_call 80; refine HN.out.mono ?_; rintro en w' ⟨rfl, rfl⟩)
        go_ret2
        exact ⟨by rw [HT.out]; simp [sizeV], rfl⟩

theorem size_cut {w : World} {B : Nat} {A : Option Addr} {bs : List UInt8} {c at_ b1 b2 : Nat} {most : Int} (r : Value) (hm1 : -9223372036854775808 ≤ most) (hm2 : most ≤ 9223372036854775807) (hr : Rd w B A (by8 bs)) (h1 : bs.length ≤ c) (h2 : c ≤ maxLen) (h3 : at_ ≤ bs.length) (c1 : w.cell? ⟨b1, 0, none⟩ = some r) (c2 : w.cell? ⟨b2, 0, none⟩ = some (.int .i64 most)) (nq : Nat) :
    Calls Tryz.prog 79 #[.slice (if c = at_ then A else A.map (·.add at_)) (bs.length - at_) (c - at_), .pointer (some ⟨b1, 0, none⟩), .pointer (some ⟨b2, 0, none⟩)] (w.drewN nq) fun e w' => e = .returned (sizeV (sizeR (bs.drop at_) most)) ∧ w' = w.drewN nq :=
  (size1_any r b1 b2 most _ _ _ B (bs.drop at_) (w.drewN nq) (by simp) (by omega) (by omega) hm1 hm2 (by rw [by8_drop]; exact Rd.cut (w := w) hr (by rw [by8_length]; exact h1)) c1 c2).mono fun _ _ ⟨a, b⟩ => ⟨a, b.symm⟩

section
variable (g : Nat) (bs : List UInt8) (at_ : Nat) (w : World) (b1 b2 : Nat) (most : Int) (hm1 : -9223372036854775808 ≤ most) (hm2 : most ≤ 9223372036854775807) (c1 : w.cell? ⟨b1, 0, none⟩ = some (.pointer (some ⟨g, 0, none⟩))) (c2 : w.cell? ⟨b2, 0, none⟩ = some (.int .i64 most))
include hm1 hm2 c1 c2
set_option maxRecDepth 100000 in
set_option maxHeartbeats 400000 in
theorem takeN_bad (h : RD w g bs at_ 0) (hd : sizeR (bs.drop at_) most = none) :
    Calls Tryz.prog 78 #[.pointer (some ⟨g, 0, none⟩), .func (.func 79) #[] #[.pointer (some ⟨b1, 0, none⟩), .pointer (some ⟨b2, 0, none⟩)]] w (RDRet (.int .i64 0) w g bs at_ 20) := by
  obtain ⟨A, c, ⟨d0, d1, d2⟩, hf, h1, h2, h3, h4, hr⟩ := h.parts
  have HN := hide (size_cut (.pointer (some ⟨g, 0, none⟩)) hm1 hm2 hr h1 h2 h3 c1 c2)
  rw [hd] at HN
  simp only [sizeV] at HN
  have H := hide h
  clear h hr hd c1 c2
  go_enter Tryz.func78, Tryz.ntmps78
  go_wp2_with (fail)
  go_quiet ((go_at_call 79; exact Calls.quiet_of_same (HN.out _)))
  go_wp2
  all_goals
    go_ret
    exact ⟨rfl, (H.out.drewN _).set2 20, ((Fr.refl _ _).drewN _).put _ _⟩

set_option maxRecDepth 100000 in
set_option maxHeartbeats 400000 in
theorem takeN_ok (u k : Nat) (h : RD w g bs at_ 0) (hd : sizeR (bs.drop at_) most = some (u, k)) (hk1 : at_ + k ≤ bs.length) :
    Calls Tryz.prog 78 #[.pointer (some ⟨g, 0, none⟩), .func (.func 79) #[] #[.pointer (some ⟨b1, 0, none⟩), .pointer (some ⟨b2, 0, none⟩)]] w (RDRet (.int .i64 u) w g bs (at_ + k) 0) := by
  obtain ⟨A, c, ⟨d0, d1, d2⟩, hf, h1, h2, h3, h4, hr⟩ := h.parts
  have HN := hide (size_cut (.pointer (some ⟨g, 0, none⟩)) hm1 hm2 hr h1 h2 h3 c1 c2)
  rw [hd] at HN
  simp only [sizeV] at HN
  have H := hide h
  clear h hr hd c1 c2
  go_enter Tryz.func78, Tryz.ntmps78
  go_wp2_with (fail)
  go_quiet ((go_at_call 79; exact Calls.quiet_of_same (HN.out _)))
  go_wp2
  all_goals
    go_ret
    exact ⟨rfl, (H.out.drewN _).set1 _ hk1, ((Fr.refl _ _).drewN _).put _ _⟩
end

set_option maxRecDepth 100000 in
set_option maxHeartbeats 400000 in
theorem takeN_off (g : Nat) (bs : List UInt8) (at_ : Nat) (e : Int) (w : World) (f : Value) (h : RD w g bs at_ e) (he : e ≠ 0) :
    Calls Tryz.prog 78 #[.pointer (some ⟨g, 0, none⟩), f] w (RDRet (.int .i64 0) w g bs at_ e) := by
  obtain ⟨A, c, ⟨c0, c1, c2⟩, hf, h1, h2, h3, h4, hr⟩ := h.parts
  have hb : (e != 0) = true := by simpa using he
  have H := hide h
  clear h hr he
  go_enter Tryz.func78, Tryz.ntmps78
  go_wp2_with (fail)
  go_ret
  exact ⟨rfl, H.out, Fr.refl _ _⟩

set_option maxRecDepth 100000 in
set_option maxHeartbeats 400000 in
theorem takeN_nil (w : World) (f : Value) :
    Calls Tryz.prog 78 #[.pointer none, f] w (Ret (.int .i64 0) w) := by
  go_enter Tryz.func78, Tryz.ntmps78
  go_wp2_with (fail)
  go_ret
  exact ⟨rfl, rfl⟩

theorem takeN_all (g : Nat) (bs : List UInt8) (a : Nat) (e : Int) (w : World) (b1 b2 : Nat) (most : Int) (hm1 : -9223372036854775808 ≤ most) (hm2 : most ≤ 9223372036854775807) (c1 : w.cell? ⟨b1, 0, none⟩ = some (.pointer (some ⟨g, 0, none⟩))) (c2 : w.cell? ⟨b2, 0, none⟩ = some (.int .i64 most)) (h : RD w g bs a e) :
    Calls Tryz.prog 78 #[.pointer (some ⟨g, 0, none⟩), .func (.func 79) #[] #[.pointer (some ⟨b1, 0, none⟩), .pointer (some ⟨b2, 0, none⟩)]] w (RDRet (.int .i64 (sizeS bs a e most).1) w g bs (sizeS bs a e most).2.1 (sizeS bs a e most).2.2) := by
  unfold sizeS
  by_cases he : e = 0
  · subst he
    rw [if_pos rfl]
    cases hd : sizeR (bs.drop a) most with
    | none => exact takeN_bad g bs a w b1 b2 most hm1 hm2 c1 c2 h hd
    | some x => exact takeN_ok g bs a w b1 b2 most hm1 hm2 c1 c2 x.1 x.2 h hd (by
        have h1 := sizeR_le (u := x.1) (k := x.2) hd
        obtain ⟨_, _, _, _, _, h3, _⟩ := h
        simp at h1
        omega)
  · rw [if_neg he]
    exact takeN_off g bs a e w _ h he

set_option maxRecDepth 100000 in
set_option maxHeartbeats 400000 in
theorem sizeN_any (g : Nat) (bs : List UInt8) (a : Nat) (e most : Int) (w : World) (h : RD w g bs a e) (hm1 : -9223372036854775808 ≤ most) (hm2 : most ≤ 9223372036854775807) :
    Calls Tryz.prog 49 #[.pointer (some ⟨g, 0, none⟩), .int .i64 most] w (RDRet (.int .i64 (sizeS bs a e most).1) w g bs (sizeS bs a e most).2.1 (sizeS bs a e most).2.2) := by
  have H := hide (fun t1 t2 => takeN_all g bs a e _ w.heap.size (w.heap.size + 1) most hm1 hm2 (box1 w (.pointer (some ⟨g, 0, none⟩)) (.int .i64 most) t1 t2) (box2 w (.pointer (some ⟨g, 0, none⟩)) (.int .i64 most) t1 t2) (h.fr0 (((Fr.refl No w).alloc _).alloc _)))
  clear h
  generalize sizeS bs a e most = x at H
  go_enter Tryz.func49, Tryz.ntmps49
  go_wp2_with (go_at_call 78; refine (H.out _ _).mono ?_; rintro en w' ⟨rfl, hq⟩; have HQ := hide hq; clear hq)
  go_ret
  exact ⟨rfl, HQ.out.1, (((Fr.refl (Is g) w).alloc _).alloc _).ts HQ.out.2⟩

set_option maxRecDepth 100000 in
set_option maxHeartbeats 400000 in
theorem size_nil (most : Int) (w : World) :
    Calls Tryz.prog 49 #[.pointer none, .int .i64 most] w (fun en w' => en = .returned (.int .i64 0) ∧ Fr No w w') := by
  go_enter Tryz.func49, Tryz.ntmps49
  go_wp2_with (go_at_call 78; refine (takeN_nil _ _).mono ?_; rintro en w' ⟨rfl, rfl⟩)
  go_ret
  exact ⟨rfl, ((Fr.refl No w).alloc _).alloc _⟩

end Go.Proofs.YtnjcncidlhllmaaGreat
namespace Go.Proofs.YtnjcncidlhllmaaGreat
set_option linter.unusedVariables false
set_option linter.unusedSimpArgs false
open Go.RowKit

/-- append inside a region that draws its order. -/
theorem step_append_any {P : Program} {ops : Array Oper} {o : Oper} {a : Act} {w : World} {K : Act → World → Prop} {Q : Exit → Act → World → Prop} {E : Prop} (hgd : o.guard = none) (s x : Operand) (t tx : TypeId)
    (ho : o.op = .call { callee := .builtin .append, args := #[s, x], argTypes := #[t, tx] })
    (base : Nat) (e : TypeId) (i : TypeInfo) (z : Value) (size bytes : Nat) (ht : P.underlying t = some (.slice e)) (hi : P.info? e = some i) (hz : i.zero = some z)
    (hsize : i.size = size) (hby : i.bytes = bytes) (hzs : z.cells.size = size)
    (v : Value) (n : Nat) (xs : List Value) (hs : a.eval s = v) (hown : Own w base e size v n xs)
    (y : Value) (m : Nat) (news : List Value) (hx : a.eval x = y) (hsrc : Src P size tx y m news w)
    (hbytes : (n + m) * bytes ≤ 140737488355328) (h63 : n + m ≤ maxLen) (hbase : base ≤ w.heap.size)
    (h : ∀ v' w', Own w' base e size v' (n + m) (xs ++ news) → Fr (fun k => v.ownBlock = some k) w w' → K (a.put o.dst v') w') :
    if Region.wanted o (yielded ops a.tmps) = true then Oper.wp P o a w K Q else E := by
  have hw : Region.wanted o (yielded ops a.tmps) = true := by simp [Region.wanted, hgd]
  rw [if_pos hw]
  exact wp_append_gen w s x t tx ho base e i z size bytes ht hi hz hsize hby hzs v n xs hs hown y m news hx hsrc hbytes h63 hbase fun v' w' h2 h3 _ => h v' w' h2 h3

end Go.Proofs.YtnjcncidlhllmaaGreat
namespace Go.Proofs.YtnjcncidlhllmaaGreat
set_option linter.unusedVariables false
set_option linter.unusedSimpArgs false
open Go.RowKit

theorem chunk_len (l : List Int) (j : Nat) : (chunkL l j).length = min 128 (l.length - 128 * j) := by simp [chunkL]
theorem chunk_in {l : List Int} (h : InI l) (j : Nat) : InI (chunkL l j) := (h.drop _).take _
theorem Rd.chunk {w : World} {B : Nat} {ad : Addr} {l : List Int} (h : Rd w B (some ad) (iz .i64 l)) (j : Nat) : Rd w B (some (ad.add (128 * j))) (iz .i64 (chunkL l j)) := by
  unfold chunkL
  rw [iz_take, iz_drop]
  exact (h.dr _).tk _
theorem oneB_le {l : List Int} (h : InI l) : (oneB l).length ≤ 8 * l.length + 12 := by
  have h1 := psz_le (w := wid (aboveL l)) (n := l.length) (wid_above h)
  have h2 := (enc_len (zz (minL l))).2
  rw [oneB_len]
  omega
theorem putUp_le {l : List Int} (h : InI l) : ∀ i, (putUp l i).length ≤ 1036 * i
  | 0 => by simp [putUp]
  | i + 1 => by
    have h1 := putUp_le h i
    have h2 := oneB_le (chunk_in h i)
    have h3 := chunk_len l i
    rw [putUp_succ, List.length_append]
    omega

set_option maxRecDepth 100000 in
set_option maxHeartbeats 1000000 in
theorem refPut_any (A : Option Addr) (n c B : Nat) (l : List Int) (w : World) (hl : l.length = n) (hi : InI l) (hn : n ≤ c) (hc : c ≤ maxLen) (hb : n ≤ 1048576) (hB : B ≤ w.heap.size) (hr : Rd w B A (iz .i64 l)) :
    Calls Tryz.prog 120 #[.slice A n c] w (GivesB w (putR l)) := by
  obtain ⟨j0, hj0, jz, jsz, jby⟩ := info_parts Tryz.info5
  have HC := hide hc
  unfold maxLen at hc
  have HR := hide hr
  have HL := hide hl
  have HI := hide hi
  clear hr hl hi
  obtain ⟨wo, hwo⟩ : ∃ wo : World, wo = w := ⟨_, rfl⟩
  go_enter Tryz.func120, Tryz.ntmps120
  go_wp2
  go_loopw [3, 4, 5, 6] (fun v i e x wr => ∃ (j i' m : Nat), Hid (i' = 128 * j) ∧ i' ≤ n + 127 ∧ i = .int .i64 i' ∧ Hid (m = (putUp l j).length) ∧ Hid (Own wr w.heap.size 5 1 v m (by8 (putUp l j))) ∧ Hid (Fr No w wr)) (fun _ i _ _ _ => n + 127 - (intOf i).toNat)
  case atStart => exact ⟨0, 0, 0, hide rfl, by omega, rfl, hide rfl, hide (Own.nil _ _ _ _), hide (Fr.refl _ _)⟩
  case round =>
    obtain ⟨j, i', m, HJ, hij, rfl, HM, HOw, HFr⟩ := hrel
    have hgw := HFr.out.size
    by_cases hlt : i' < n
    · have h1 : i' < l.length := by rw [HL.out]; exact hlt
      obtain ⟨ad, rfl, _, _⟩ := HR.out.intAt h1
      have hbd := putUp_le HI.out j
      rw [← HM.out] at hbd
      have hmb : m ≤ 1100000000 := by have := HJ.out; omega
      have HRc := hide ((HR.out.fr0 HFr.out).chunk j)
      rw [← HJ.out] at HRc
      have hk := chunk_len l j
      rw [← HJ.out, HL.out] at hk
      obtain ⟨k, hkk⟩ : ∃ k, k = (chunkL l j).length := ⟨_, rfl⟩
      rw [← hkk] at hk
      have HK := hide hkk
      have hol := oneB_le (chunk_in HI.out j)
      rw [← hkk] at hol
      obtain ⟨q, hq⟩ : ∃ q, q = (oneB (chunkL l j)).length := ⟨_, rfl⟩
      rw [← hq] at hol
      have HQ := hide hq
      have HS := hide (putUp_succ l j)
      have hcc : c - i' ≤ maxLen := by have := HC.out; omega
      have HOne := hide (refOne_any (some (ad.add i')) k (c - i') B (chunkL l j) wr HK.out.symm (by omega) (chunk_in HI.out j) (by omega) hcc (by omega) (by omega) HRc.out)
      have hci : (c = i') = False := by simp; omega
      clear h1 hkk hq hbd hcc
      by_cases hfull : n < i' + 128
      · have e1 : (n : Int) - (i' : Int) = (k : Int) := by omega
        have e2 : n - i' = k := by omega
        clear hk
        have b1 : (m + q) * 1 ≤ 140737488355328 := by omega
        have b2 : m + q ≤ maxLen := by unfold maxLen; omega
        go_wp2_with (first
          | (go_at_call 119; refine HOne.out.mono ?_; rintro en1 w1 ⟨v1, rfl, hown, hfr⟩; rw [← HQ.out] at hown; obtain ⟨A3, c3, rfl, _⟩ := hown.form; have HS3 := hide (Src.ofRd (P := Tryz.prog) (size := 1) w1 Tryz.underlying25 A3 q c3 (by8 (oneB (chunkL l j))) (by rw [by8_length, HQ.out]; omega) (by omega) hown.rd (by8_one _)); have HO1 := hide (HOw.out.fr0 hfr); have HF1 := hide (HFr.out.tr hfr); have hg1 := hfr.size; have b3 : w.heap.size ≤ w1.heap.size := (by omega); clear hown hfr)
          | (at_builtin; refine wpList_append_gen _ rfl (.tmp 26) (.tmp 27) 25 25 rfl w.heap.size 5 j0 (.int .u8 0) 1 1 Tryz.underlying25 hj0 jz jsz jby rfl u3 m _ rfl HO1.out _ q (by8 (oneB (chunkL l j))) rfl HS3.out b1 b2 b3 ?_; intro v4 w4 hown hfr hat; have HO4 := hide hown; have HF4 : Hid (Fr No w w4) := hide (HF1.out.own hfr (fun g hg => .inl (HO1.out.lt g hg).1)); clear hown hfr hat))
        go_roundw
        case rel => exact ⟨j + 1, i' + 128, m + q, hide (by rw [HJ.out]; omega), by omega, by go_num, hide (by rw [HS.out, List.length_append, ← HM.out, ← HQ.out]), hide (by rw [HS.out, by8_append]; exact HO4.out), HF4⟩
        case measure => simp [intOf]; omega
      · obtain rfl : k = 128 := by omega
        have hfl : i' + 128 ≤ n := by omega
        clear hk hfull
        have b1 : (m + q) * 1 ≤ 140737488355328 := by omega
        have b2 : m + q ≤ maxLen := by unfold maxLen; omega
        go_wp2_with (first
          | (go_at_call 119; refine HOne.out.mono ?_; rintro en1 w1 ⟨v1, rfl, hown, hfr⟩; rw [← HQ.out] at hown; obtain ⟨A3, c3, rfl, _⟩ := hown.form; have HS3 := hide (Src.ofRd (P := Tryz.prog) (size := 1) w1 Tryz.underlying25 A3 q c3 (by8 (oneB (chunkL l j))) (by rw [by8_length, HQ.out]; omega) (by omega) hown.rd (by8_one _)); have HO1 := hide (HOw.out.fr0 hfr); have HF1 := hide (HFr.out.tr hfr); have hg1 := hfr.size; have b3 : w.heap.size ≤ w1.heap.size := (by omega); clear hown hfr)
          | (at_builtin; refine wpList_append_gen _ rfl (.tmp 26) (.tmp 27) 25 25 rfl w.heap.size 5 j0 (.int .u8 0) 1 1 Tryz.underlying25 hj0 jz jsz jby rfl u3 m _ rfl HO1.out _ q (by8 (oneB (chunkL l j))) rfl HS3.out b1 b2 b3 ?_; intro v4 w4 hown hfr hat; have HO4 := hide hown; have HF4 : Hid (Fr No w w4) := hide (HF1.out.own hfr (fun g hg => .inl (HO1.out.lt g hg).1)); clear hown hfr hat))
        go_roundw
        case rel => exact ⟨j + 1, i' + 128, m + q, hide (by rw [HJ.out]; omega), by omega, by go_num, hide (by rw [HS.out, List.length_append, ← HM.out, ← HQ.out]), hide (by rw [HS.out, by8_append]; exact HO4.out), HF4⟩
        case measure => simp [intOf]; omega
    · have HN : Hid (putR l = putUp l j) := hide (by
        unfold putR
        rw [HL.out]
        have h1 := HJ.out
        by_cases e : chunks n = j
        · rw [e]
        · exfalso
          unfold chunks at e
          omega)
      go_wp2
      go_ret
      exact ⟨_, rfl, by rw [HN.out, ← HM.out]; exact HOw.out, HFr.out⟩
end Go.Proofs.YtnjcncidlhllmaaGreat
namespace Go.Proofs.YtnjcncidlhllmaaGreat
set_option linter.unusedVariables false
set_option linter.unusedSimpArgs false
open Go.RowKit

theorem wpListIn_append_gen {F : Fence} {n' : Nat} {P : Program} (w : World) {ops : Array Oper} {rest : List Oper} {o : Oper} {a : Act} {Q : Exit → Act → World → Prop} (hgd : o.guard = none) (s x : Operand) (t tx : TypeId)
    (ho : o.op = .call { callee := .builtin .append, args := #[s, x], argTypes := #[t, tx] })
    (base : Nat) (e : TypeId) (i : TypeInfo) (z : Value) (size bytes : Nat) (ht : P.underlying t = some (.slice e)) (hi : P.info? e = some i) (hz : i.zero = some z)
    (hsize : i.size = size) (hby : i.bytes = bytes) (hzs : z.cells.size = size)
    (v : Value) (n : Nat) (xs : List Value) (hs : a.eval s = v) (hown : Own w base e size v n xs)
    (y : Value) (m : Nat) (news : List Value) (hx : a.eval x = y) (hsrc : Src P size tx y m news w)
    (hbytes : (n + m) * bytes ≤ 140737488355328) (h63 : n + m ≤ maxLen) (hbase : base ≤ w.heap.size)
    (h : ∀ v' w', Own w' base e size v' (n + m) (xs ++ news) → Fr (fun k => v.ownBlock = some k) w w' → (v'.ownBlock = v.ownBlock ∨ v'.ownBlock = some w.heap.size) → wpListIn F n' P ops Q rest (a.put o.dst v') w') : wpListIn F n' P ops Q (o :: rest) a w := by
  refine wpListIn_plain hgd fun K hK' => ?_
  obtain ⟨v', w', hrun, h2, h3, h4⟩ := run_append_gen (P := P) w base t tx o.type e i z size bytes ht hi hz hsize hby hzs v n xs hown y m news hsrc hbytes h63 hbase
  unfold Oper.wpIn
  refine ⟨?_, ?_⟩
  · simp [Oper.about, ho, resolve, Target.leads, Sem.run_pure]
  · rw [Oper.semAt_plain F _ _ (by rw [ho]; intro c hc'; cases hc')]
    simp [execOp, ho, resolve, invoke, builtin, hs, hx, hrun, Result.andThen]
    exact hK' _ _ (h v' w' h2 h3 h4)

/-- a block of cells is left as it was. -/
theorem blk_kept {W W' : World} {row : Option Nat} {k : Nat} {o : Obj} (hk : W.heap[k]? = some o) (hc : o.isCells = true) (hg : W.grownBy W' row) (hr : ∀ r, row = some r → ∃ o : Obj, W.heap[r]? = some o ∧ o.isCells = false) : W'.heap[k]? = some o := by
  refine (Fr.of_grown hg).blk hk (fun e => ?_)
  obtain ⟨o', h1, h2⟩ := hr k e
  rw [hk] at h1
  injection h1 with h1
  subst h1
  rw [hc] at h2
  cases h2
theorem own_kept {W W' : World} {row : Option Nat} {base e size n : Nat} {v : Value} {xs : List Value} (h : Own W base e size v n xs) (hg : W.grownBy W' row) (hr : ∀ r, row = some r → ∃ o : Obj, W.heap[r]? = some o ∧ o.isCells = false) : Own W' base e size v n xs := by
  obtain ⟨hl, A, c, rfl, hc, hm, hA⟩ := h
  refine ⟨hl, A, c, rfl, hc, hm, ?_⟩
  rcases hA with hA | ⟨g, cur, rfl, hb, hh, r⟩
  · exact .inl hA
  · exact .inr ⟨g, cur, rfl, hb, blk_kept hh rfl hg hr, r⟩
/-- a write to blocks of cells alone leaves all that is no cells. -/
theorem keeps_of_fr {S : Nat → Prop} {W W' : World} (f : Fr S W W') (hS : ∀ k o, S k → W.heap[k]? = some o → o.isCells = true) : KeepsOthers W W' :=
  ⟨f.size, fun k o hk ho => (f.blk hk (fun h => by have := hS k o h hk; rw [ho] at this; cases this))⟩
theorem own_cells {W : World} {base e size n : Nat} {v : Value} {xs : List Value} (h : Own W base e size v n xs) : ∀ k o, v.ownBlock = some k → W.heap[k]? = some o → o.isCells = true := by
  intro k o hk ho
  obtain ⟨hl, A, c, rfl, hc, hm, hA⟩ := h
  rcases hA with ⟨rfl, _⟩ | ⟨g, cur, rfl, hb, hh, r⟩
  · cases hk
  · have e : g = k := Option.some.inj hk
    subst e
    rw [hh] at ho
    injection ho with ho
    subst ho
    rfl

/-- a region that draws, inside a round: as outside of it. -/
theorem wpAnyIn_round {F : Fence} {n : Nat} {P : Program} {md : Region.Mode} {ops : Array Oper} {Q : Exit → Act → World → Prop} (l : Nat) (hd : ∀ (i : Nat) (o : Oper), ops[i]? = some o → ∀ c, o.op ≠ .defer c) (hro : F.round = none) :
    ∀ (fuel : Nat) (listed : Array Bool) (a : Act) (w : World), wpAnyIn F n P md ops Q fuel listed a w → wpAnyIn (F.inRound l) n P md ops Q fuel listed a w := by
  intro fuel
  induction fuel with
  | zero => exact fun listed a w h => h
  | succ fuel ih =>
    intro listed a w h
    refine ⟨h.1, fun i hi => ?_⟩
    have h2 := wpOpIn_mono (fun a w => ih (listed.setIfInBounds i true) a w) (h.2 i hi)
    unfold wpOpIn at h2 ⊢
    cases ho : ops[i]? with
    | none => rw [ho] at h2; exact h2
    | some o =>
      rw [ho] at h2
      dsimp only at h2 ⊢
      split
      · rename_i hw
        rw [if_pos hw] at h2
        unfold Oper.wpIn at h2 ⊢
        rw [hro, Oper.semAt_none] at h2
        rw [Fence.inRound_round, Oper.semAt_some l _ _ (hd i o ho)]
        exact h2
      · rename_i hw
        rw [if_neg hw] at h2
        exact h2
theorem wpIn_region_round {n : Nat} {P : Program} {ops : Array Oper} {Q : Exit → Act → World → Prop} {id : Nat} {a : Act} {w : World} (l : Nat) (hm : P.follows .mixedOrders = true) (hd : ops.toList.all (fun o => match o.op with | .defer _ => false | _ => true) = true)
    (h : wpAnyIn Fence.wide n P .any ops Q ops.size (Array.replicate ops.size false) a w.drew) : (Code.region id ops true).wpIn (Fence.wide.inRound l) n P Q a w :=
  wpIn_region_any hm (wpAnyIn_round l (fun i o ho c e => by
    have := List.all_eq_true.1 hd o (by rw [Array.mem_toList_iff]; exact Array.mem_of_getElem? ho)
    rw [e] at this
    cases this) rfl _ _ _ _ h)
end Go.Proofs.YtnjcncidlhllmaaGreat
namespace Go.Proofs.YtnjcncidlhllmaaGreat
set_option linter.unusedVariables false
set_option linter.unusedSimpArgs false
open Go.RowKit Go.Shelf
attribute [local go_sem] Oper.semAt_some

/-- a region that reads: what it leaves. -/
def RgnD (A : Value → Value → Value → Value → Value → Value → Act) (W : World) : Exit → Act → World → Prop
  | .normal, a, w => (∃ v1 v2 v3 v4 v5 v6, a = A v1 v2 v3 v4 v5 v6) ∧ ∃ nq, w = W.drewN nq
  | _, _, _ => False
theorem box_h (w : World) (v : Value) (t : TypeId) : (w.alloc (.cells #[v] t)).heap[w.heap.size]? = some (.cells #[v] t (0, 0)) := heap_alloc_new w _

set_option maxRecDepth 100000 in
theorem chunkF_any (A : Option Addr) (n c : Nat) (w : World) : Calls Tryz.prog 96 #[.slice A n c, .int .i64 128] w fun e w' =>
    e = .returned (.func (.func 131) #[] #[.pointer (some ⟨w.heap.size, 0, none⟩), .pointer (some ⟨w.heap.size + 1, 0, none⟩)]) ∧ w' = (w.alloc (.cells #[.slice A n c] 41)).alloc (.cells #[.int .i64 128] 3) := by
  have h1 : ((w.alloc (.cells #[.slice A n c] 41)).alloc (.cells #[.int .i64 128] 3)).cell? ⟨w.heap.size + 1, 0, none⟩ = some (.int .i64 128) := box2 w (.slice A n c) (.int .i64 128) _ _
  go_enter Tryz.func96, Tryz.ntmps96
  go_wp2
  go_ret
  exact ⟨by simp, by simp⟩

/-- the chunks, by number. -/
def allC (n : Nat) : List Nat := List.range (chunks n)
def chV (A : Option Addr) (n j : Nat) : Value := .slice (A.map fun ad => ad.add (128 * j)) (min 128 (n - 128 * j)) (min 128 (n - 128 * j))
def ChunkPost (n : Nat) (J Jx : List Nat → World → Prop) (e : Ending) (W' : World) : Prop := (∃ v, e = .returned v) ∧ (J (allC n) W' ∨ (∃ pre, pre <+: allC n ∧ Jx pre W'))
theorem range_prefix {j k : Nat} (h : j ≤ k) : List.range j <+: List.range k := by
  obtain ⟨d, rfl⟩ : ∃ d, k = j + d := ⟨k - j, by omega⟩
  rw [List.range_add]
  exact List.prefix_append _ _

set_option maxRecDepth 100000 in
set_option maxHeartbeats 1000000 in
theorem chunk1_in (fr : Nat) (hn : 1 ≤ fr) (l B1 B2 : Nat) (Kp : World → World → Prop) (hKr : ∀ W, Kp W W) (hKt : ∀ {X Y Z : World}, Kp X Y → Kp Y Z → Kp X Z) (A : Option Addr) (n c : Nat) (hA : 0 < n → ∃ ad, A = some ad) (hnc : n ≤ c) (hc : c ≤ maxLen) (hnb : n ≤ 1048576) (J Jx : List Nat → World → Prop)
    (hY : ∀ pre j W, J pre W → pre.length < chunks n → j < chunks n → YieldAt Fence.wide (fr - 1) Tryz.prog l #[chV A n j] W fun e W' =>
      (e = .returned (.bool true) ∧ J (pre ++ [j]) W' ∧ Kp W W') ∨ (e = .returned (.bool false) ∧ Jx (pre ++ [j]) W'))
    (W : World) (hBn : ∀ W', Kp W W' → W'.cell? ⟨B1, 0, none⟩ = some (.slice A n c) ∧ W'.cell? ⟨B2, 0, none⟩ = some (.int .i64 128)) (h0 : J [] W) (hKd : ∀ (W : World) (nq : Nat), Kp W (W.drewN nq)) (hJd : ∀ pre (W : World) (nq : Nat), J pre W → J pre (W.drewN nq)) :
    CallsIn Fence.wide fr Tryz.prog 131 #[.func (.yield l) #[] #[], .pointer (some ⟨B1, 0, none⟩), .pointer (some ⟨B2, 0, none⟩)] W (ChunkPost n J Jx) := by
  obtain ⟨hc1, hc2⟩ := hBn W (hKr _)
  unfold maxLen at hc
  have HB := hide hBn
  have HY := hide hY
  have HJ := hide h0
  have HA := hide hA
  have HKd := hide hKd
  have HJd := hide hJd
  have hcn : ∀ j, 128 * j < n ↔ j < chunks n := fun j => by unfold chunks; omega
  have HCn := hide hcn
  clear hBn hY h0 hA hKd hJd hcn
  refine callsIn_of_wp Tryz.func131 rfl trivial ?_ rfl
  simp only [Tryz.ntmps131, List.size_toArray, List.length_cons, List.length_nil, Nat.reduceAdd, Nat.reduceSub, Array.replicate_succ, Array.replicate_zero, List.push_toArray, List.append_toArray, List.nil_append, List.cons_append]
  gi_wp2
  gi_loopw [4, 5] (fun i e wr => ∃ (j i' : Nat), i = .int .i64 (i' : Nat) ∧ i' = 128 * j ∧ j ≤ chunks n ∧ Hid (J (List.range j) wr) ∧ Hid (Kp W wr)) (fun i _ _ => n + 128 - (intOf i).toNat)
  case atStart => exact ⟨0, 0, rfl, rfl, Nat.zero_le _, HJ, hide (hKr _)⟩
  case round =>
    obtain ⟨j, i', rfl, hij, hjc, HJ1, HKw⟩ := hrel
    have HIJ := hide hij
    obtain ⟨c1, c2⟩ := HB.out wr HKw.out
    by_cases hlt : i' < n
    · obtain ⟨ad, rfl⟩ := HA.out (by omega)
      have hjl : j < chunks n := (HCn.out j).1 (by omega)
      obtain ⟨k, hk⟩ : ∃ k, k = min 128 (n - i') := ⟨_, rfl⟩
      have hk1 : 1 ≤ k ∧ k ≤ 128 ∧ i' + k ≤ n := by omega
      clear hij
      gi_wp2
      refine wpIn_wide.2 (Code.wp_mono (Q := RgnD (fun v1 v2 v3 v4 v5 v6 => { tmps := #[.func (.yield l) #[] #[], .pointer (some ⟨B1, 0, none⟩), .pointer (some ⟨B2, 0, none⟩), undef, .int .i64 (i' : Nat), .int .i64 (k : Nat), .int .i64 (i' : Nat), .slice (some ad) n c, .int .i64 (n : Nat), .bool true, u10, u11, u12, v1, v2, v3, v4, v5, v6, u19, u20, u21, u22, u23, u24, u25, u26, u27, u28, u29, u30], defers := [] }) wr) ?_ ?_)
      rotate_left
      · have HKK := hide hk
        by_cases h128 : 128 ≤ n - i'
        · obtain rfl : k = 128 := by omega
          clear hk
          go_quiet (fail)
          exact ⟨⟨_, _, _, _, _, _, rfl⟩, _, rfl⟩
        · obtain rfl : k = n - i' := by omega
          have h3 : ((n - i' : Nat) : Int) < 128 := by omega
          clear hk
          go_quiet (fail)
          exact ⟨⟨_, _, _, _, _, _, rfl⟩, _, rfl⟩
      rintro (_ | _) a' w' hRQ <;> try exact hRQ.elim
      obtain ⟨⟨v1, v2, v3, v4, v5, v6, rfl⟩, nq, rfl⟩ := hRQ
      show Exit.then _ _ _ _ _
      dsimp only
      have hJ2 := HJd.out _ _ nq HJ1.out
      have hK2 := hKt HKw.out (HKd.out wr nq)
      obtain ⟨fn, tmps, assign, body, hy, hR⟩ := HY.out (List.range j) j (wr.drewN nq) hJ2 (by rw [List.length_range]; exact hjl) hjl
      have hv : chV (some ad) n j = .slice (some (ad.add i')) k k := by
        unfold chV
        rw [← HIJ.out, hk]
        rfl
      rw [hv] at hy
      have HKK := hide hk
      have HR2 := hide hR
      obtain ⟨c1', c2'⟩ := HB.out (wr.drewN nq) hK2
      have HK2 := hide hK2
      obtain ⟨z, hz⟩ : ∃ z, z = i' + k := ⟨_, rfl⟩
      have hz2 : (i' : Int) + (k : Int) = (z : Int) := by omega
      have hz3 : z - i' = k := by omega
      have hz4 : i' ≤ z ∧ z ≤ n := by omega
      have HZ := hide hz
      have hJR : ∀ k', List.range k' ++ [k'] = List.range (k' + 1) := fun k' => List.range_succ.symm
      clear hk hv hR hJ2 hK2 c1 c2 hz
      gi_wp2
      refine HR2.out.mono ?_
      rintro e W3 (⟨rfl, hJ3, hk3⟩ | ⟨rfl, hJx3⟩)
      · have HK3 := hide (hKt HK2.out hk3)
        have HJ3 : Hid (J (List.range (j + 1)) W3) := hide (by rw [← hJR]; exact hJ3)
        obtain ⟨c31, c32⟩ := HB.out W3 HK3.out
        clear hy hJ3 hk3 hJR
        gi_wp2
        go_roundw
        case rel => exact ⟨j + 1, i' + 128, by go_num, by rw [HIJ.out]; omega, by omega, HJ3, HK3⟩
        case measure => simp [intOf]; omega
      · have HX := hide hJx3
        have HP : Hid (List.range j ++ [j] <+: allC n) := hide (by rw [hJR]; exact range_prefix (by omega))
        clear hy hJx3 hJR
        gi_wp2
        refine bodyPost_ret (results_none rfl _ _ _) rfl ?_
        exact ⟨⟨_, rfl⟩, .inr ⟨_, HP.out, HX.out⟩⟩
    · have HE : Hid (List.range j = allC n) := hide (by
        unfold allC
        have : ¬ j < chunks n := fun h => hlt (by rw [hij]; exact (HCn.out j).2 h)
        congr 1
        omega)
      clear hij
      gi_wp2
      go_end0
      exact ⟨⟨_, rfl⟩, .inl (by rw [← HE.out]; exact HJ1.out)⟩
end Go.Proofs.YtnjcncidlhllmaaGreat
namespace Go.Proofs.YtnjcncidlhllmaaGreat
set_option linter.unusedVariables false
set_option linter.unusedSimpArgs false
open Go.RowKit

set_option maxHeartbeats 400000 in
theorem formI_any (n : Int) (w : World) (h1 : -9223372036854775808 ≤ n) (h2 : n ≤ 9223372036854775807) : Calls Tryz.prog 133 #[.int .i64 n] w (Ret (.int .u64 (zz n)) w) := by
  have HZ := hide (zz_bits h1 h2)
  go_enter Tryz.func133, Tryz.ntmps133
  go_wp2
  go_ret
  exact ⟨by rw [← HZ.out]; rfl, rfl⟩

set_option maxRecDepth 100000 in
set_option maxHeartbeats 1000000 in
theorem putI_loop (A : Option Addr) (n c B : Nat) (bs : List UInt8) (u : Nat) (x : Int) (w : World) (hl : bs.length = n) (hn : n ≤ c) (hc : c ≤ maxLen) (hb : n ≤ 140737488350000) (hB : B ≤ w.heap.size) (hr : Rd w B A (by8 bs)) (hu : u < 18446744073709551616)
    (hform : ∀ W, Calls Tryz.prog 133 #[.int .i64 x] W (Ret (.int .u64 u) W)) :
    Calls Tryz.prog 132 #[.slice A n c, .int .i64 x, .func (.func 133) #[] #[]] w (GivesB w (bs ++ enc u)) := by
  have H := hide (clone_any A n c B bs w hl hn hc (by omega) hB hr)
  have HFo := hide hform
  have HL := hide hl
  clear hr hl hform
  obtain ⟨i0, hi, hz, hsz, hby⟩ := info_parts Tryz.info5
  go_enter Tryz.func132, Tryz.ntmps132
  go_wp2_with (first | (go_at_call 77; refine H.out.mono ?_; rintro en w1 ⟨v1, rfl, hown, hfr⟩; have HO := hide hown; have HF := hide hfr; clear hown hfr) | (go_at_call 133; refine (HFo.out _).mono ?_; rintro en w2 ⟨rfl, rfl⟩))
  clear H HFo
  go_loopw [7, 8] (fun v y wr => ∃ (f k : Nat) (done : List UInt8), y = .int .u64 (k : Nat) ∧ Hid (Own wr w.heap.size 5 1 v done.length (by8 done)) ∧ Hid (done ++ encF f k = bs ++ enc u) ∧ Hid (Fr No w wr) ∧ Hid (f ≤ 9 ∧ done.length ≤ n + 9 - f ∧ k * 2 ^ (7 * (9 - f)) < 18446744073709551616)) (fun _ y _ => (intOf y).toNat)
  case atStart => exact ⟨9, u, bs, rfl, HO, hide rfl, HF, hide ⟨Nat.le_refl _, by rw [HL.out]; omega, by simpa using hu⟩⟩
  case round =>
    obtain ⟨f, k, done, rfl, HOw, HE, HFr, HB⟩ := hrel
    clear HO HF HL
    obtain ⟨hf9, hdl, hk⟩ := HB.out
    have hgw := HFr.out.size
    by_cases hbig : 127 < k
    · obtain ⟨f', rfl⟩ : ∃ f', f = f' + 1 := by
        cases f with
        | zero => exfalso; have e : (2 : Nat) ^ (7 * (9 - 0)) = 9223372036854775808 := by decide
                  rw [e] at hk; omega
        | succ f' => exact ⟨f', rfl⟩
      have HK := hide hk; clear hk
      have ho := or_128 k
      have HD := hide (show encF (f' + 1) k = UInt8.ofNat (k % 128 + 128) :: encF f' (k / 128) by rw [encF, if_pos hbig])
      generalize UInt8.ofNat (k % 128 + 128) = b at ho HD
      have HS := hide (Src.one (P := Tryz.prog) wr (e := 5) Tryz.underlying25 (.int .u8 b.toNat) rfl)
      have HOw' := hide (HOw.out.fr0 ((Fr.refl No wr).alloc (.cells #[.int .u8 b.toNat] 5)))
      have b1 : (done.length + 1) * 1 ≤ 140737488355328 := by omega
      have b2 : done.length + 1 ≤ maxLen := by unfold maxLen; omega
      have b3 : w.heap.size ≤ (wr.alloc (.cells #[.int .u8 b.toNat] 5)).heap.size := by simp; omega
      have HR := hide (show Own wr w.heap.size 5 1 u7 done.length (by8 done) → ∀ k, u7.ownBlock = some k → w.heap.size ≤ k from fun h k hk => (h.lt k hk).1)
      go_wp2_with (at_builtin; refine wpList_append_gen _ rfl (.tmp 18) (.tmp 22) 25 25 rfl w.heap.size 5 i0 (.int .u8 0) 1 1 Tryz.underlying25 hi hz hsz hby rfl u7 done.length (by8 done) rfl HOw'.out _ 1 [.int .u8 b.toNat] rfl HS.out b1 b2 b3 ?_; intro v' w' hown hfr hat; have HOn := hide hown; have HFn := hide hfr; clear hown hfr hat)
      go_roundw
      case rel =>
        refine ⟨f', k / 128, done ++ [b], by go_num, hide (by simpa [by8] using HOn.out), hide ?_, hide ((HFr.out.alloc _).own HFn.out (fun g hg => .inl (HOw.out.lt g hg).1)), hide ⟨by omega, by simp; omega, ?_⟩⟩
        · rw [← HE.out, HD.out]; simp
        · have e : 7 * (9 - f') = 7 * ((9 - (f' + 1)) + 1) := by omega
          rw [e, pow7, ← Nat.mul_assoc]
          exact Nat.lt_of_le_of_lt (Nat.mul_le_mul_right _ (by omega)) HK.out
      case measure => simp [intOf]; omega
    · obtain ⟨b, rfl⟩ : ∃ b : UInt8, k = b.toNat := ⟨UInt8.ofNat k, (ofNat_toNat (by omega)).symm⟩
      have HD := hide (show encF f b.toNat = [b] by cases f with
        | zero => simp [encF]
        | succ f => rw [encF, if_neg hbig]; simp)
      clear hk
      have HS := hide (Src.one (P := Tryz.prog) wr (e := 5) Tryz.underlying25 (.int .u8 b.toNat) rfl)
      have HOw' := hide (HOw.out.fr0 ((Fr.refl No wr).alloc (.cells #[.int .u8 b.toNat] 5)))
      have b1 : (done.length + 1) * 1 ≤ 140737488355328 := by omega
      have b2 : done.length + 1 ≤ maxLen := by unfold maxLen; omega
      have b3 : w.heap.size ≤ (wr.alloc (.cells #[.int .u8 b.toNat] 5)).heap.size := by simp; omega
      go_wp2_with (first | (at_builtin; refine wpList_append_gen _ rfl (.tmp 24) (.tmp 27) 25 25 rfl w.heap.size 5 i0 (.int .u8 0) 1 1 Tryz.underlying25 hi hz hsz hby rfl u7 done.length (by8 done) rfl HOw'.out _ 1 [.int .u8 b.toNat] rfl HS.out b1 b2 b3 ?_; intro v' w' hown hfr hat; obtain ⟨A1, c1, rfl, hc1, hc2, _⟩ := hown.form; have HOn := hide hown; have HFn := hide hfr; clear hown hfr hat) | (go_at_call 74; refine (clip_any _ _ _ _ hc1 hc2).mono ?_; rintro en w2 ⟨rfl, rfl⟩))
      go_ret
      refine ⟨_, rfl, ?_, (HFr.out.alloc _).own HFn.out (fun g hg => .inl (HOw.out.lt g hg).1)⟩
      rw [← HE.out, HD.out, by8_append, List.length_append]
      exact HOn.out.clip

theorem putI_any (A : Option Addr) (n c B : Nat) (bs : List UInt8) (x : Int) (w : World) (hl : bs.length = n) (hn : n ≤ c) (hc : c ≤ maxLen) (hb : n ≤ 140737488350000) (hB : B ≤ w.heap.size) (hr : Rd w B A (by8 bs)) (h1 : -9223372036854775808 ≤ x) (h2 : x ≤ 9223372036854775807) :
    Calls Tryz.prog 99 #[.slice A n c, .int .i64 x] w (GivesB w (bs ++ enc (zz x))) := by
  have H := hide (putI_loop A n c B bs (zz x) x w hl hn hc hb hB hr (zz_lt h1 h2) (fun W => formI_any _ W h1 h2))
  clear hr hl
  go_enter Tryz.func99, Tryz.ntmps99
  go_wp2_with (go_at_call 132; refine H.out.mono ?_; rintro en w1 ⟨v1, rfl, hown, hfr⟩; have HO := hide hown; have HF := hide hfr; clear hown hfr)
  go_ret
  exact ⟨_, rfl, HO.out, HF.out⟩

end Go.Proofs.YtnjcncidlhllmaaGreat
