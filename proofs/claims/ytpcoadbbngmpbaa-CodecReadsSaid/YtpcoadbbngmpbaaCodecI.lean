/- PutText, signed, Size, Bytes: their walks. -/
import Derived.Test.YtpcoadbbngmpbaaCodecOneW
import Derived.Deep.AppendSrc
namespace Go.Proofs.Ytpcoadbbngmpbaa
open Go.RowKit

theorem byteCells_by8 (s : ByteArray) : (byteCells s : List Value) = by8 s.data.toList := by simp [byteCells, by8]

set_option maxRecDepth 100000 in
set_option maxHeartbeats 800000 in
theorem putText_any (A : Option Addr) (n c B : Nat) (bs : List UInt8) (s : ByteArray) (w : World) (hl : bs.length = n) (hn : n ≤ c) (hc : c ≤ maxLen) (hb : n + s.size ≤ 140737488350000) (hB : B ≤ w.heap.size) (hr : Rd w B A (by8 bs)) :
    Calls Try.prog 18 #[.slice A n c, .string s] w (GivesB w (bs ++ enc s.size ++ s.data.toList)) := by
  have H := hide (putU_any A n c B bs s.size w hl hn hc (by omega) hB hr (by omega))
  obtain ⟨i0, hi, hz, hsz, hby⟩ := info_parts Try.info5
  have hlen : (bs ++ enc s.size).length ≤ n + 10 := by
    have := (encF_len 9 s.size).2
    rw [List.length_append, hl]
    unfold enc
    omega
  generalize bs ++ enc s.size = xs at H hlen
  have hs : s.size ≤ 9223372036854775807 := by omega
  clear hr hl hn hc
  generalize hm : s.size = m at *
  have HS := fun W => Src.ofString (P := Try.prog) (w := W) Try.underlying9 s
  rw [hm, byteCells_by8] at HS
  have HS' := hide HS
  have hsl : s.data.toList.length = m := by rw [← hm, Array.length_toList]; rfl
  generalize s.data.toList = t at HS' hsl
  have b1 : (xs.length + m) * 1 ≤ 140737488355328 := by omega
  have b2 : xs.length + m ≤ maxLen := by unfold maxLen; omega
  clear HS
  go_enter Try.func18, Try.ntmps18
  go_wp2_with (first | (go_at_call 15; refine H.out.mono ?_; rintro en w1 ⟨v1, rfl, hown, hfr⟩; have HO := hide hown; have HF := hide hfr; have b3 := hfr.size; clear hown hfr) | (at_builtin; refine wpList_append_gen _ rfl (.tmp 9) (.tmp 10) 22 9 rfl w.heap.size 5 i0 (.int .u8 0) 1 1 Try.underlying22 hi hz hsz hby rfl v1 xs.length (by8 xs) rfl HO.out _ m (by8 t) rfl (HS'.out w1) b1 b2 b3 ?_; intro v' w' hown hfr hat; obtain ⟨A1, c1, rfl, hc1, hc2, _⟩ := hown.form; have HOn := hide hown; have HFn := hide hfr; clear hown hfr hat) | (go_at_call 42; refine (clip_any _ _ _ _ hc1 hc2).mono ?_; rintro en w2 ⟨rfl, rfl⟩))
  go_ret
  refine ⟨_, rfl, ?_, HF.out.own HFn.out (fun g hg => .inl (HO.out.lt g hg).1)⟩
  rw [by8_append, List.length_append, hsl]
  exact HOn.out.clip

set_option maxRecDepth 100000 in
set_option maxHeartbeats 400000 in
theorem signed_any (x : Int) (B : Option Addr) (m d b2 : Nat) (ys : List UInt8) (w : World) (h1 : -9223372036854775808 ≤ x) (h2 : x ≤ 9223372036854775807) (hy : ys.length = m) (hm : m ≤ d) (hd : d ≤ maxLen) (hs : Rd w b2 B (by8 ys)) :
    Calls Try.prog 31 #[.int .i64 x, .slice B m d] w (RetB (decide (enc (zz x) = ys)) w) := by
  have H := hide (putI_any none 0 0 0 [] x w rfl (Nat.le_refl _) (Nat.zero_le _) (by omega) (Nat.zero_le _) (Rd.nil _ _ _) h1 h2)
  have HS := hide hs
  clear hs
  generalize zz x = u at H
  go_enter Try.func31, Try.ntmps31
  go_wp2_with (first | (go_at_call 16; refine H.out.mono ?_; rintro en w1 ⟨v1, rfl, hown, hfr⟩; obtain ⟨A1, k1, rfl, hq1, hq2, _, hq3, _⟩ := hown.form; have HQ := hide hq3; have HF := hide hfr; clear hown hfr hq3) | (go_at_call 14; refine (kbytes_any A1 B _ k1 m d _ b2 ([] ++ enc u) ys w1 rfl hy hq1 hq2 hm hd HQ.out (HS.out.fr0 HF.out)).mono ?_; rintro en w2 ⟨rfl, nq, rfl⟩))
  go_ret
  exact ⟨by simp, HF.out.drewN _⟩

/-! Size -/
def sizeR (bs : List UInt8) (most : Int) : Option (Nat × Nat) :=
  match dec 0 0 bs with
  | none => none
  | some (u, k) => if most < 0 ∨ most < (u : Int) then none else some (u, k)
def sizeV : Option (Nat × Nat) → Value
  | none => .tuple #[.int .i64 0, .int .i64 (-1)]
  | some (u, k) => .tuple #[.int .i64 u, .int .i64 k]
theorem sizeR_none {bs : List UInt8} {most : Int} (hd : dec 0 0 bs = none) : sizeR bs most = none := by unfold sizeR; rw [hd]
theorem sizeR_no {bs : List UInt8} {most : Int} {u k : Nat} (hd : dec 0 0 bs = some (u, k)) (h : most < 0 ∨ most < (u : Int)) : sizeR bs most = none := by
  unfold sizeR; rw [hd]; exact if_pos h
theorem sizeR_ok {bs : List UInt8} {most : Int} {u k : Nat} (hd : dec 0 0 bs = some (u, k)) (h : ¬ (most < 0 ∨ most < (u : Int))) : sizeR bs most = some (u, k) := by
  unfold sizeR; rw [hd]; exact if_neg h

set_option maxRecDepth 100000 in
set_option maxHeartbeats 800000 in
theorem size1_any (r : Value) (b1 b2 : Nat) (most : Int) (A : Option Addr) (n c B : Nat) (bs : List UInt8) (W : World) (hl : bs.length = n) (hn : n ≤ c) (hc : c ≤ maxLen) (hm1 : -9223372036854775808 ≤ most) (hm2 : most ≤ 9223372036854775807) (hr : Rd W B A (by8 bs)) (c1 : W.cell? ⟨b1, 0, none⟩ = some r) (c2 : W.cell? ⟨b2, 0, none⟩ = some (.int .i64 most)) :
    Calls Try.prog 54 #[.slice A n c, .pointer (some ⟨b1, 0, none⟩), .pointer (some ⟨b2, 0, none⟩)] W (Ret (sizeV (sizeR bs most)) W) := by
  have HN := hide (number_any r A n c B bs W hl hn hc hr)
  cases hd : dec 0 0 bs with
  | none =>
    have HT := hide (sizeR_none (most := most) hd)
    rw [hd] at HN
    simp only [numV] at HN
    clear hr hl hd
    go_enter Try.func54, Try.ntmps54
    go_wp2_with (go_at_call 37; refine HN.out.mono ?_; rintro en w' ⟨rfl, rfl⟩)
    go_ret2
    exact ⟨by rw [HT.out]; rfl, rfl⟩
  | some x =>
    obtain ⟨u, k⟩ := x
    rw [hd] at HN
    simp only [numV] at HN
    have hk := dec_le _ _ _ _ _ hd
    have hu := dec_lt _ 0 0 u k (by decide) hd
    by_cases hneg : most < 0
    · have HT := hide (sizeR_no (most := most) hd (.inl hneg))
      clear hr hl hd hk
      go_enter Try.func54, Try.ntmps54
      go_wp2_with (go_at_call 37; refine HN.out.mono ?_; rintro en w' ⟨rfl, rfl⟩)
      go_ret2
      exact ⟨by rw [HT.out]; rfl, rfl⟩
    · obtain ⟨m, rfl⟩ := Int.eq_ofNat_of_zero_le (a := most) (by omega)
      clear hm1 hneg
      by_cases hum : m < u
      · have HT := hide (sizeR_no (most := m) hd (.inr (by omega)))
        clear hr hl hd hk
        go_enter Try.func54, Try.ntmps54
        go_wp2_with (go_at_call 37; refine HN.out.mono ?_; rintro en w' ⟨rfl, rfl⟩)
        go_ret2
        exact ⟨by rw [HT.out]; rfl, rfl⟩
      · have HT := hide (sizeR_ok (most := m) hd (by omega))
        have hu2 : u ≤ m := by omega
        clear hr hl hd hk hum hu
        go_enter Try.func54, Try.ntmps54
        go_wp2_with (go_at_call 37; refine HN.out.mono ?_; rintro en w' ⟨rfl, rfl⟩)
        go_ret2
        exact ⟨by rw [HT.out]; simp [sizeV], rfl⟩

theorem size_cut {w : World} {B : Nat} {A : Option Addr} {bs : List UInt8} {c at_ b1 b2 : Nat} {most : Int} (r : Value) (hm1 : -9223372036854775808 ≤ most) (hm2 : most ≤ 9223372036854775807) (hr : Rd w B A (by8 bs)) (h1 : bs.length ≤ c) (h2 : c ≤ maxLen) (h3 : at_ ≤ bs.length) (c1 : w.cell? ⟨b1, 0, none⟩ = some r) (c2 : w.cell? ⟨b2, 0, none⟩ = some (.int .i64 most)) (nq : Nat) :
    Calls Try.prog 54 #[.slice (if c = at_ then A else A.map (·.add at_)) (bs.length - at_) (c - at_), .pointer (some ⟨b1, 0, none⟩), .pointer (some ⟨b2, 0, none⟩)] (w.drewN nq) fun e w' => e = .returned (sizeV (sizeR (bs.drop at_) most)) ∧ w' = w.drewN nq :=
  (size1_any r b1 b2 most _ _ _ B (bs.drop at_) (w.drewN nq) (by simp) (by omega) (by omega) hm1 hm2 (by rw [by8_drop]; exact Rd.cut (w := w) hr (by rw [by8_length]; exact h1)) c1 c2).mono fun _ _ ⟨a, b⟩ => ⟨a, b.symm⟩

section
variable (g : Nat) (bs : List UInt8) (at_ : Nat) (w : World) (b1 b2 : Nat) (most : Int) (hm1 : -9223372036854775808 ≤ most) (hm2 : most ≤ 9223372036854775807) (c1 : w.cell? ⟨b1, 0, none⟩ = some (.pointer (some ⟨g, 0, none⟩))) (c2 : w.cell? ⟨b2, 0, none⟩ = some (.int .i64 most))
include hm1 hm2 c1 c2
set_option maxRecDepth 100000 in
set_option maxHeartbeats 400000 in
theorem takeN_bad (h : RD w g bs at_ 0) (hd : sizeR (bs.drop at_) most = none) :
    Calls Try.prog 53 #[.pointer (some ⟨g, 0, none⟩), .func (.func 54) #[] #[.pointer (some ⟨b1, 0, none⟩), .pointer (some ⟨b2, 0, none⟩)]] w (RDRet (.int .i64 0) w g bs at_ 20) := by
  obtain ⟨A, c, ⟨d0, d1, d2⟩, hf, h1, h2, h3, h4, hr⟩ := h.parts
  have HN := hide (size_cut (.pointer (some ⟨g, 0, none⟩)) hm1 hm2 hr h1 h2 h3 c1 c2)
  rw [hd] at HN
  simp only [sizeV] at HN
  have H := hide h
  clear h hr hd c1 c2
  go_enter Try.func53, Try.ntmps53
  go_wp2_with (fail)
  go_quiet ((go_at_call 54; exact Calls.quiet_of_same (HN.out _)))
  go_wp2
  all_goals
    go_ret
    exact ⟨rfl, (H.out.drewN _).set2 20, ((Fr.refl _ _).drewN _).put _ _⟩

set_option maxRecDepth 100000 in
set_option maxHeartbeats 400000 in
theorem takeN_ok (u k : Nat) (h : RD w g bs at_ 0) (hd : sizeR (bs.drop at_) most = some (u, k)) (hk1 : at_ + k ≤ bs.length) :
    Calls Try.prog 53 #[.pointer (some ⟨g, 0, none⟩), .func (.func 54) #[] #[.pointer (some ⟨b1, 0, none⟩), .pointer (some ⟨b2, 0, none⟩)]] w (RDRet (.int .i64 u) w g bs (at_ + k) 0) := by
  obtain ⟨A, c, ⟨d0, d1, d2⟩, hf, h1, h2, h3, h4, hr⟩ := h.parts
  have HN := hide (size_cut (.pointer (some ⟨g, 0, none⟩)) hm1 hm2 hr h1 h2 h3 c1 c2)
  rw [hd] at HN
  simp only [sizeV] at HN
  have H := hide h
  clear h hr hd c1 c2
  go_enter Try.func53, Try.ntmps53
  go_wp2_with (fail)
  go_quiet ((go_at_call 54; exact Calls.quiet_of_same (HN.out _)))
  go_wp2
  all_goals
    go_ret
    exact ⟨rfl, (H.out.drewN _).set1 _ hk1, ((Fr.refl _ _).drewN _).put _ _⟩
end

set_option maxRecDepth 100000 in
set_option maxHeartbeats 400000 in
theorem takeN_off (g : Nat) (bs : List UInt8) (at_ : Nat) (e : Int) (w : World) (f : Value) (h : RD w g bs at_ e) (he : e ≠ 0) :
    Calls Try.prog 53 #[.pointer (some ⟨g, 0, none⟩), f] w (RDRet (.int .i64 0) w g bs at_ e) := by
  obtain ⟨A, c, ⟨c0, c1, c2⟩, hf, h1, h2, h3, h4, hr⟩ := h.parts
  have hb : (e != 0) = true := by simpa using he
  have H := hide h
  clear h hr he
  go_enter Try.func53, Try.ntmps53
  go_wp2_with (fail)
  go_ret
  exact ⟨rfl, H.out, Fr.refl _ _⟩

set_option maxRecDepth 100000 in
set_option maxHeartbeats 400000 in
theorem takeN_nil (w : World) (f : Value) :
    Calls Try.prog 53 #[.pointer none, f] w (Ret (.int .i64 0) w) := by
  go_enter Try.func53, Try.ntmps53
  go_wp2_with (fail)
  go_ret
  exact ⟨rfl, rfl⟩

def sizeS (bs : List UInt8) (a : Nat) (e most : Int) : Nat × Nat × Int :=
  if e = 0 then (match sizeR (bs.drop a) most with | none => (0, a, 20) | some (u, k) => (u, a + k, 0)) else (0, a, e)

theorem sizeR_le {bs : List UInt8} {most : Int} {u k : Nat} (h : sizeR bs most = some (u, k)) : k ≤ bs.length := by
  cases hd : dec 0 0 bs with
  | none => rw [sizeR_none hd] at h; cases h
  | some x =>
    obtain ⟨u', j⟩ := x
    have hk := dec_le _ _ _ _ _ hd
    by_cases hb : most < 0 ∨ most < (u' : Int)
    · rw [sizeR_no hd hb] at h; cases h
    · rw [sizeR_ok hd hb] at h
      injection h with h
      injection h with _ h
      omega

theorem takeN_all (g : Nat) (bs : List UInt8) (a : Nat) (e : Int) (w : World) (b1 b2 : Nat) (most : Int) (hm1 : -9223372036854775808 ≤ most) (hm2 : most ≤ 9223372036854775807) (c1 : w.cell? ⟨b1, 0, none⟩ = some (.pointer (some ⟨g, 0, none⟩))) (c2 : w.cell? ⟨b2, 0, none⟩ = some (.int .i64 most)) (h : RD w g bs a e) :
    Calls Try.prog 53 #[.pointer (some ⟨g, 0, none⟩), .func (.func 54) #[] #[.pointer (some ⟨b1, 0, none⟩), .pointer (some ⟨b2, 0, none⟩)]] w (RDRet (.int .i64 (sizeS bs a e most).1) w g bs (sizeS bs a e most).2.1 (sizeS bs a e most).2.2) := by
  unfold sizeS
  by_cases he : e = 0
  · subst he
    rw [if_pos rfl]
    cases hd : sizeR (bs.drop a) most with
    | none => exact takeN_bad g bs a w b1 b2 most hm1 hm2 c1 c2 h hd
    | some x => exact takeN_ok g bs a w b1 b2 most hm1 hm2 c1 c2 x.1 x.2 h hd (by
        have h1 := sizeR_le (u := x.1) (k := x.2) hd
        obtain ⟨_, _, _, _, _, h3, _⟩ := h
        simp at h1
        omega)
  · rw [if_neg he]
    exact takeN_off g bs a e w _ h he

set_option maxRecDepth 100000 in
set_option maxHeartbeats 400000 in
theorem size_any (g : Nat) (bs : List UInt8) (a : Nat) (e most : Int) (w : World) (h : RD w g bs a e) (hm1 : -9223372036854775808 ≤ most) (hm2 : most ≤ 9223372036854775807) :
    Calls Try.prog 33 #[.pointer (some ⟨g, 0, none⟩), .int .i64 most] w (RDRet (.int .i64 (sizeS bs a e most).1) w g bs (sizeS bs a e most).2.1 (sizeS bs a e most).2.2) := by
  have H := hide (fun t1 t2 => takeN_all g bs a e _ w.heap.size (w.heap.size + 1) most hm1 hm2 (box1 w (.pointer (some ⟨g, 0, none⟩)) (.int .i64 most) t1 t2) (box2 w (.pointer (some ⟨g, 0, none⟩)) (.int .i64 most) t1 t2) (h.fr0 (((Fr.refl No w).alloc _).alloc _)))
  clear h
  generalize sizeS bs a e most = x at H
  go_enter Try.func33, Try.ntmps33
  go_wp2_with (go_at_call 53; refine (H.out _ _).mono ?_; rintro en w' ⟨rfl, hq⟩; have HQ := hide hq; clear hq)
  go_ret
  exact ⟨rfl, HQ.out.1, (((Fr.refl (Is g) w).alloc _).alloc _).ts HQ.out.2⟩

set_option maxRecDepth 100000 in
set_option maxHeartbeats 400000 in
theorem size_nil (most : Int) (w : World) :
    Calls Try.prog 33 #[.pointer none, .int .i64 most] w (fun en w' => en = .returned (.int .i64 0) ∧ Fr No w w') := by
  go_enter Try.func33, Try.ntmps33
  go_wp2_with (go_at_call 53; refine (takeN_nil _ _).mono ?_; rintro en w' ⟨rfl, rfl⟩)
  go_ret
  exact ⟨rfl, ((Fr.refl No w).alloc _).alloc _⟩
end Go.Proofs.Ytpcoadbbngmpbaa
