/- What CodecKnown calls: times, bad; and each call at bytes that are laid anew. -/
import Derived.Test.YtpcoadbbngmpbaaCodecI
import Derived.Test.YtpcoadbbngmpbaaCodecJ
namespace Go.Proofs.Ytpcoadbbngmpbaa
open Go.RowKit

set_option maxRecDepth 100000 in
set_option maxHeartbeats 1000000 in
theorem times_any (n : Nat) (x : UInt8) (A : Option Addr) (m c B : Nat) (ys : List UInt8) (w : World) (hn : n ≤ 1000) (hl : ys.length = m) (hm : m ≤ 1000) (hB : B ≤ w.heap.size) (hr : Rd w B A (by8 ys)) :
    Calls Try.prog 30 #[.int .i64 n, .int .u8 x.toNat, .slice A m c] w (GivesB w (List.replicate n x ++ ys)) := by
  obtain ⟨i0, hi, hz, hsz, hby⟩ := info_parts Try.info5
  have HR := hide hr
  have HL := hide hl
  have HB := hide hB
  clear hr hl hB
  go_enter Try.func30, Try.ntmps30
  go_wp2
  go_loopw [7, 8] (fun v i wr => ∃ (k : Nat) (done : List UInt8), k ≤ n ∧ i = .int .i64 k ∧ done.length = k ∧ Hid (done = List.replicate k x) ∧ Hid (Own wr w.heap.size 5 1 v done.length (by8 done)) ∧ Hid (Fr No w wr)) (fun _ i _ => n - (intOf i).toNat)
  case atStart => exact ⟨0, [], by omega, rfl, rfl, hide rfl, hide (Own.nil _ _ _ _), hide (Fr.refl _ _)⟩
  case round =>
    obtain ⟨k, done, hk, rfl, hdl, HD, HOw, HFr⟩ := hrel
    have hgw := HFr.out.size
    by_cases hlt : k < n
    · have HS := hide (Src.one (P := Try.prog) wr (e := 5) Try.underlying22 (.int .u8 x.toNat) rfl)
      have HOw' := hide (HOw.out.fr0 ((Fr.refl No wr).alloc (.cells #[.int .u8 x.toNat] 5)))
      have b1 : (done.length + 1) * 1 ≤ 140737488355328 := by omega
      have b2 : done.length + 1 ≤ maxLen := by unfold maxLen; omega
      have b3 : w.heap.size ≤ (wr.alloc (.cells #[.int .u8 x.toNat] 5)).heap.size := by simp; omega
      go_wp2_with (at_builtin; refine wpList_append_gen _ rfl (.tmp 14) (.tmp 16) 22 22 rfl w.heap.size 5 i0 (.int .u8 0) 1 1 Try.underlying22 hi hz hsz hby rfl u7 done.length (by8 done) rfl HOw'.out _ 1 [.int .u8 x.toNat] rfl HS.out b1 b2 b3 ?_; intro v' w' hown hfr hat; have HOn := hide hown; have HFn := hide hfr; clear hown hfr hat)
      go_roundw
      case rel =>
        refine ⟨k + 1, done ++ [x], by omega, by go_num, by simp; omega, hide ?_, hide (by simpa [by8] using HOn.out), hide ((HFr.out.alloc _).own HFn.out (fun g hg => .inl (HOw.out.lt g hg).1))⟩
        rw [HD.out, List.replicate_succ']
      case measure => simp [intOf]; omega
    · have hkn : k = n := by omega
      have HS := hide (Src.ofRd (P := Try.prog) (size := 1) wr Try.underlying22 A m c (by8 ys) (by rw [by8_length, HL.out]; omega) (by omega) (HR.out.fr0 HFr.out) (by8_one _))
      have b1 : (done.length + m) * 1 ≤ 140737488355328 := by omega
      have b2 : done.length + m ≤ maxLen := by unfold maxLen; omega
      have HE := hide (show List.replicate n x ++ ys = done ++ ys by rw [HD.out, hkn])
      go_wp2_with (at_builtin; refine wpList_append_gen _ rfl (.tmp 18) (.tmp 19) 22 22 rfl w.heap.size 5 i0 (.int .u8 0) 1 1 Try.underlying22 hi hz hsz hby rfl u7 done.length (by8 done) rfl HOw.out _ m (by8 ys) rfl HS.out b1 b2 hgw ?_; intro v' w' hown hfr hat; have HOn := hide hown; have HFn := hide hfr; clear hown hfr hat)
      go_ret
      refine ⟨_, rfl, ?_, HFr.out.own HFn.out (fun g hg => .inl (HOw.out.lt g hg).1)⟩
      rw [HE.out, by8_append, List.length_append, HL.out]
      exact HOn.out

set_option maxRecDepth 100000 in
set_option maxHeartbeats 800000 in
theorem bad_any (A : Option Addr) (n c B : Nat) (bs : List UInt8) (W : World) (hl : bs.length = n) (hn : n ≤ c) (hc : c ≤ maxLen) (hb : n ≤ 140737488355328) (hB : B ≤ W.heap.size) (hr : Rd W B A (by8 bs)) (hd : dec 0 0 bs = none) :
    Calls Try.prog 34 #[.slice A n c] W (RetB true W) := by
  have hd0 : dec 0 0 (bs.drop 0) = none := by simpa using hd
  have HU : Hid (∀ w g, RD w g bs 0 0 → Calls Try.prog 9 #[.pointer (some ⟨g, 0, none⟩)] w (RDRet (.int .u64 0) w g bs 0 20)) := by
    intro w g h
    have h1 := uint_any g bs 0 0 w h
    rw [uintR_none hd0] at h1
    exact h1
  have HLf : Hid (∀ w g, RD w g bs 0 20 → Calls Try.prog 10 #[.pointer (some ⟨g, 0, none⟩)] w (RetQ (.int .i64 (n : Int)) w)) := by
    intro w g h
    have h1 := left_any g bs 0 20 w h
    rw [hl, Nat.sub_zero] at h1
    exact h1
  have HL := hide hl
  have HR := hide hr
  have HB := hide hB
  clear hl hr hd hd0 hB
  go_enter Try.func34, Try.ntmps34
  go_wp2_with (first
    | (go_at_call 8; refine (newReader_any A n c B bs _ HL.out hn hc hb HB.out HR.out).mono ?_; rintro en w1 ⟨g1, rfl, hg1, hrd, hfr⟩; have R1 := hide hrd; have FW1 := hide hfr; have HG1 := hide hg1; clear hrd hfr hg1)
    | (go_at_call 9; refine (HU.out _ _ R1.out).mono ?_; rintro en w2 ⟨rfl, hrd, hfr⟩; have R2 := hide hrd; have FW2 := hide (FW1.out.own1 hfr HG1.out); clear hrd hfr)
    | (go_at_call 12; refine (err_any g1 bs 0 20 _ R2.out).mono ?_; rintro en w6 ⟨rfl, rfl⟩)
    | (go_at_call 10; refine (HLf.out _ _ R2.out).mono ?_; rintro en w3 ⟨rfl, nq, rfl⟩))
  go_ret
  exact ⟨by simp, FW2.out.drewN _⟩

theorem maxLen_ge (n : Nat) (h : n ≤ 1000) : n ≤ maxLen := by unfold maxLen; omega

section
variable (W : World) (cs : Array Value) (ys : List UInt8) (m : Nat) (hcs : cs.toList = by8 ys) (hm : ys.length = m) (hm2 : m ≤ 1000)
include hcs hm hm2
theorem unsigned_new (u : Nat) (z : Int) (hz : z = u) (hu : u < 18446744073709551616) (he : enc u = ys) :
    Calls Try.prog 29 #[.int .u64 z, .slice (some ⟨W.heap.size, 0, none⟩) m m] (W.alloc (.cells cs 5)) (RetB true W) := by
  subst hz
  have h := unsigned_any u (some ⟨W.heap.size, 0, none⟩) m m _ ys _ hu hm (Nat.le_refl _) (maxLen_ge m hm2) (Rd.new8 W cs ys 5 hcs)
  rw [decide_eq_true he] at h
  exact h.mono fun _ _ h => ⟨h.1, ((Fr.refl No W).alloc _).tr h.2⟩
theorem signed_new (x : Int) (h1 : -9223372036854775808 ≤ x) (h2 : x ≤ 9223372036854775807) (he : enc (zz x) = ys) :
    Calls Try.prog 31 #[.int .i64 x, .slice (some ⟨W.heap.size, 0, none⟩) m m] (W.alloc (.cells cs 5)) (RetB true W) := by
  have h := signed_any x (some ⟨W.heap.size, 0, none⟩) m m _ ys _ h1 h2 hm (Nat.le_refl _) (maxLen_ge m hm2) (Rd.new8 W cs ys 5 hcs)
  rw [decide_eq_true he] at h
  exact h.mono fun _ _ h => ⟨h.1, ((Fr.refl No W).alloc _).tr h.2⟩
theorem bad_new (hd : dec 0 0 ys = none) :
    Calls Try.prog 34 #[.slice (some ⟨W.heap.size, 0, none⟩) m m] (W.alloc (.cells cs 5)) (RetB true W) :=
  (bad_any (some ⟨W.heap.size, 0, none⟩) m m _ ys _ hm (Nat.le_refl _) (maxLen_ge m hm2) (by omega) (Nat.le_refl _) (Rd.new8 W cs ys 5 hcs) hd).mono fun _ _ h => ⟨h.1, ((Fr.refl No W).alloc _).tr h.2⟩
theorem reader_new : Calls Try.prog 8 #[.slice (some ⟨W.heap.size, 0, none⟩) m m] (W.alloc (.cells cs 5)) (GivesRD W ys) :=
  (newReader_any (some ⟨W.heap.size, 0, none⟩) m m _ ys _ hm (Nat.le_refl _) (maxLen_ge m hm2) (by omega) (Nat.le_refl _) (Rd.new8 W cs ys 5 hcs)).mono fun _ _ h => by
    obtain ⟨g, h1, h2, h3, h4⟩ := h
    exact ⟨g, h1, by simp at h2; omega, h3, ((Fr.refl No W).alloc _).tr h4⟩
/-- bytes handed out, of known length. -/
theorem times_new (n l : Nat) (z y : Int) (x : UInt8) (hz : z = n) (hy : y = x.toNat) (hn : n ≤ 1000) (hl : n + m = l) :
    Calls Try.prog 30 #[.int .i64 z, .int .u8 y, .slice (some ⟨W.heap.size, 0, none⟩) m m] (W.alloc (.cells cs 5)) (fun en w' => ∃ A1 c1, en = .returned (.slice A1 l c1) ∧ l ≤ c1 ∧ c1 ≤ maxLen ∧ Rd w' w'.heap.size A1 (by8 (List.replicate n x ++ ys)) ∧ Fr No W w') := by
  subst hz
  subst hy
  exact (times_any n x (some ⟨W.heap.size, 0, none⟩) m m _ ys _ hn hm hm2 (Nat.le_refl _) (Rd.new8 W cs ys 5 hcs)).mono fun _ _ h => by
    obtain ⟨A1, c1, h1, h2, h3, h4, h5⟩ := give_slice (k := l) (by simp; omega) h
    exact ⟨A1, c1, h1, h2, h3, h4, ((Fr.refl No W).alloc _).tr h5⟩
theorem kbytes_new (A : Option Addr) (c b1 : Nat) (hn : m ≤ c) (hc : c ≤ maxLen) (hr : Rd W b1 A (by8 ys)) :
    Calls Try.prog 14 #[.slice A m c, .slice (some ⟨W.heap.size, 0, none⟩) m m] (W.alloc (.cells cs 5)) (RetB true W) := by
  have h := kbytes_any A (some ⟨W.heap.size, 0, none⟩) m c m m b1 _ ys ys (W.alloc (.cells cs 5)) hm hm hn hc (Nat.le_refl _) (maxLen_ge m hm2) (hr.fr0 ((Fr.refl No W).alloc _)) (Rd.new8 W cs ys 5 hcs)
  rw [decide_eq_true rfl] at h
  exact h.mono fun _ _ h => by
    obtain ⟨h1, nq, rfl⟩ := h
    exact ⟨h1, ((Fr.refl No W).alloc _).drewN _⟩
theorem putText_new (s : ByteArray) (l : Nat) (zs : List UInt8) (hs : s.size ≤ 1000) (he : ys ++ enc s.size ++ s.data.toList = zs) (hl : zs.length = l) :
    Calls Try.prog 18 #[.slice (some ⟨W.heap.size, 0, none⟩) m m, .string s] (W.alloc (.cells cs 5)) (fun en w' => ∃ A1 c1, en = .returned (.slice A1 l c1) ∧ l ≤ c1 ∧ c1 ≤ maxLen ∧ Rd w' w'.heap.size A1 (by8 zs) ∧ Fr No W w') := by
  have h := putText_any (some ⟨W.heap.size, 0, none⟩) m m _ ys s _ hm (Nat.le_refl _) (maxLen_ge m hm2) (by omega) (Nat.le_refl _) (Rd.new8 W cs ys 5 hcs)
  rw [he] at h
  exact h.mono fun _ _ h => by
    obtain ⟨A1, c1, h1, h2, h3, h4, h5⟩ := give_slice hl h
    exact ⟨A1, c1, h1, h2, h3, h4, ((Fr.refl No W).alloc _).tr h5⟩
end
theorem times_nil (W : World) (n : Nat) (z y : Int) (x : UInt8) (hz : z = n) (hy : y = x.toNat) (hn : n ≤ 1000) :
    Calls Try.prog 30 #[.int .i64 z, .int .u8 y, .slice none 0 0] W (fun en w' => ∃ A1 c1, en = .returned (.slice A1 n c1) ∧ n ≤ c1 ∧ c1 ≤ maxLen ∧ Rd w' w'.heap.size A1 (by8 (List.replicate n x)) ∧ Fr No W w') := by
  subst hz
  subst hy
  have h := times_any n x none 0 0 0 [] W hn rfl (by omega) (Nat.zero_le _) (Rd.nil _ _ _)
  rw [List.append_nil] at h
  exact h.mono fun _ _ h => give_slice (by simp) h
theorem unsigned_true (W : World) (A : Option Addr) (m c b : Nat) (ys : List UInt8) (u : Nat) (z : Int) (hz : z = u) (hu : u < 18446744073709551616) (hm : ys.length = m) (hn : m ≤ c) (hc : c ≤ maxLen) (hr : Rd W b A (by8 ys)) (he : enc u = ys) :
    Calls Try.prog 29 #[.int .u64 z, .slice A m c] W (RetB true W) := by
  subst hz
  have h := unsigned_any u A m c b ys W hu hm hn hc hr
  rwa [decide_eq_true he] at h
theorem signed_true (W : World) (A : Option Addr) (m c b : Nat) (ys : List UInt8) (x : Int) (h1 : -9223372036854775808 ≤ x) (h2 : x ≤ 9223372036854775807) (hm : ys.length = m) (hn : m ≤ c) (hc : c ≤ maxLen) (hr : Rd W b A (by8 ys)) (he : enc (zz x) = ys) :
    Calls Try.prog 31 #[.int .i64 x, .slice A m c] W (RetB true W) := by
  have h := signed_any x A m c b ys W h1 h2 hm hn hc hr
  rwa [decide_eq_true he] at h
end Go.Proofs.Ytpcoadbbngmpbaa
