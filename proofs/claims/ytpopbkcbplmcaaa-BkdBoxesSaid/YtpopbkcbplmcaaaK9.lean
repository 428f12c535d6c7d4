/- Several texts in one: PutU, PutI, BkF, BkG. -/
import Derived.Test.YtpopbkcbplmcaaaK8
import Derived.Deep.RegionLaw
namespace Go.Proofs.Ytpopbkcbplmcaaa
set_option linter.unusedVariables false
set_option linter.unusedSimpArgs false
open Go.RowKit

set_option maxHeartbeats 400000 in
theorem formU_any (u : Int) (w : World) : Calls Try.prog 57 #[.int .u64 u] w (Ret (.int .u64 u) w) := by
  go_enter Try.func57, Try.ntmps57
  go_wp2
  go_ret
  exact ⟨rfl, rfl⟩

set_option maxRecDepth 100000 in
set_option maxHeartbeats 1000000 in
theorem putU_loop (A : Option Addr) (n c B : Nat) (bs : List UInt8) (u : Nat) (x : Int) (w : World) (hl : bs.length = n) (hn : n ≤ c) (hc : c ≤ maxLen) (hb : n ≤ 140737488350000) (hB : B ≤ w.heap.size) (hr : Rd w B A (by8 bs)) (hu : u < 18446744073709551616)
    (hform : ∀ W, Calls Try.prog 57 #[.int .u64 x] W (Ret (.int .u64 u) W)) :
    Calls Try.prog 56 #[.slice A n c, .int .u64 x, .func (.func 57) #[] #[]] w (GivesB w (bs ++ enc u)) := by
  have H := hide (clone_any A n c B bs w hl hn hc (by omega) hB hr)
  have HFo := hide hform
  have HL := hide hl
  clear hr hl hform
  obtain ⟨i0, hi, hz, hsz, hby⟩ := info_parts Try.info5
  go_enter Try.func56, Try.ntmps56
  go_wp2_with (first | (go_at_call 45; refine H.out.mono ?_; rintro en w1 ⟨v1, rfl, hown, hfr⟩; have HO := hide hown; have HF := hide hfr; clear hown hfr) | (go_at_call 57; refine (HFo.out _).mono ?_; rintro en w2 ⟨rfl, rfl⟩))
  clear H HFo
  go_loopw [7, 8] (fun v y wr => ∃ (f k : Nat) (done : List UInt8), y = .int .u64 (k : Nat) ∧ Hid (Own wr w.heap.size 5 1 v done.length (by8 done)) ∧ Hid (done ++ encF f k = bs ++ enc u) ∧ Hid (Fr No w wr) ∧ Hid (f ≤ 9 ∧ done.length ≤ n + 9 - f ∧ k * 2 ^ (7 * (9 - f)) < 18446744073709551616)) (fun _ y _ => (intOf y).toNat)
  case atStart => exact ⟨9, u, bs, rfl, HO, hide rfl, HF, hide ⟨Nat.le_refl _, by rw [HL.out]; omega, by simpa using hu⟩⟩
  case round =>
    obtain ⟨f, k, done, rfl, HOw, HE, HFr, HB⟩ := hrel
    clear HO HF HL
    obtain ⟨hf9, hdl, hk⟩ := HB.out
    have hgw := HFr.out.size
    by_cases hbig : 127 < k
    · obtain ⟨f', rfl⟩ : ∃ f', f = f' + 1 := by
        cases f with
        | zero => exfalso; have e : (2 : Nat) ^ (7 * (9 - 0)) = 9223372036854775808 := by decide
                  rw [e] at hk; omega
        | succ f' => exact ⟨f', rfl⟩
      have HK := hide hk; clear hk
      have ho := or_128 k
      have HD := hide (show encF (f' + 1) k = UInt8.ofNat (k % 128 + 128) :: encF f' (k / 128) by rw [encF, if_pos hbig])
      generalize UInt8.ofNat (k % 128 + 128) = b at ho HD
      have HS := hide (Src.one (P := Try.prog) wr (e := 5) Try.underlying33 (.int .u8 b.toNat) rfl)
      have HOw' := hide (HOw.out.fr0 ((Fr.refl No wr).alloc (.cells #[.int .u8 b.toNat] 5)))
      have b1 : (done.length + 1) * 1 ≤ 140737488355328 := by omega
      have b2 : done.length + 1 ≤ maxLen := by unfold maxLen; omega
      have b3 : w.heap.size ≤ (wr.alloc (.cells #[.int .u8 b.toNat] 5)).heap.size := by simp; omega
      have HR := hide (show Own wr w.heap.size 5 1 u7 done.length (by8 done) → ∀ k, u7.ownBlock = some k → w.heap.size ≤ k from fun h k hk => (h.lt k hk).1)
      go_wp2_with (at_builtin; refine wpList_append_gen _ rfl (.tmp 18) (.tmp 22) 33 33 rfl w.heap.size 5 i0 (.int .u8 0) 1 1 Try.underlying33 hi hz hsz hby rfl u7 done.length (by8 done) rfl HOw'.out _ 1 [.int .u8 b.toNat] rfl HS.out b1 b2 b3 ?_; intro v' w' hown hfr hat; have HOn := hide hown; have HFn := hide hfr; clear hown hfr hat)
      go_roundw
      case rel =>
        refine ⟨f', k / 128, done ++ [b], by go_num, hide (by simpa [by8] using HOn.out), hide ?_, hide ((HFr.out.alloc _).own HFn.out (fun g hg => .inl (HOw.out.lt g hg).1)), hide ⟨by omega, by simp; omega, ?_⟩⟩
        · rw [← HE.out, HD.out]; simp
        · have e : 7 * (9 - f') = 7 * ((9 - (f' + 1)) + 1) := by omega
          rw [e, pow7, ← Nat.mul_assoc]
          exact Nat.lt_of_le_of_lt (Nat.mul_le_mul_right _ (by omega)) HK.out
      case measure => simp [intOf]; omega
    · obtain ⟨b, rfl⟩ : ∃ b : UInt8, k = b.toNat := ⟨UInt8.ofNat k, (ofNat_toNat (by omega)).symm⟩
      have HD := hide (show encF f b.toNat = [b] by cases f with
        | zero => simp [encF]
        | succ f => rw [encF, if_neg hbig]; simp)
      clear hk
      have HS := hide (Src.one (P := Try.prog) wr (e := 5) Try.underlying33 (.int .u8 b.toNat) rfl)
      have HOw' := hide (HOw.out.fr0 ((Fr.refl No wr).alloc (.cells #[.int .u8 b.toNat] 5)))
      have b1 : (done.length + 1) * 1 ≤ 140737488355328 := by omega
      have b2 : done.length + 1 ≤ maxLen := by unfold maxLen; omega
      have b3 : w.heap.size ≤ (wr.alloc (.cells #[.int .u8 b.toNat] 5)).heap.size := by simp; omega
      go_wp2_with (first | (at_builtin; refine wpList_append_gen _ rfl (.tmp 24) (.tmp 27) 33 33 rfl w.heap.size 5 i0 (.int .u8 0) 1 1 Try.underlying33 hi hz hsz hby rfl u7 done.length (by8 done) rfl HOw'.out _ 1 [.int .u8 b.toNat] rfl HS.out b1 b2 b3 ?_; intro v' w' hown hfr hat; obtain ⟨A1, c1, rfl, hc1, hc2, _⟩ := hown.form; have HOn := hide hown; have HFn := hide hfr; clear hown hfr hat) | (go_at_call 63; refine (clip_any _ _ _ _ hc1 hc2).mono ?_; rintro en w2 ⟨rfl, rfl⟩))
      go_ret
      refine ⟨_, rfl, ?_, (HFr.out.alloc _).own HFn.out (fun g hg => .inl (HOw.out.lt g hg).1)⟩
      rw [← HE.out, HD.out, by8_append, List.length_append]
      exact HOn.out.clip

theorem putU_any (A : Option Addr) (n c B : Nat) (bs : List UInt8) (u : Nat) (w : World) (hl : bs.length = n) (hn : n ≤ c) (hc : c ≤ maxLen) (hb : n ≤ 140737488350000) (hB : B ≤ w.heap.size) (hr : Rd w B A (by8 bs)) (hu : u < 18446744073709551616) :
    Calls Try.prog 38 #[.slice A n c, .int .u64 u] w (GivesB w (bs ++ enc u)) := by
  have H := hide (putU_loop A n c B bs u u w hl hn hc hb hB hr hu (fun W => formU_any _ W))
  clear hr hl
  go_enter Try.func38, Try.ntmps38
  go_wp2_with (go_at_call 56; refine H.out.mono ?_; rintro en w1 ⟨v1, rfl, hown, hfr⟩; have HO := hide hown; have HF := hide hfr; clear hown hfr)
  go_ret
  exact ⟨_, rfl, HO.out, HF.out⟩

end Go.Proofs.Ytpopbkcbplmcaaa
namespace Go.Proofs.Ytpopbkcbplmcaaa
set_option linter.unusedVariables false
set_option linter.unusedSimpArgs false
open Go.RowKit

set_option maxHeartbeats 400000 in
theorem formI_any (n : Int) (w : World) (h1 : -9223372036854775808 ≤ n) (h2 : n ≤ 9223372036854775807) : Calls Try.prog 72 #[.int .i64 n] w (Ret (.int .u64 (zz n)) w) := by
  have HZ := hide (zz_bits h1 h2)
  go_enter Try.func72, Try.ntmps72
  go_wp2
  go_ret
  exact ⟨by rw [← HZ.out]; rfl, rfl⟩

set_option maxRecDepth 100000 in
set_option maxHeartbeats 1000000 in
theorem putI_loop (A : Option Addr) (n c B : Nat) (bs : List UInt8) (u : Nat) (x : Int) (w : World) (hl : bs.length = n) (hn : n ≤ c) (hc : c ≤ maxLen) (hb : n ≤ 140737488350000) (hB : B ≤ w.heap.size) (hr : Rd w B A (by8 bs)) (hu : u < 18446744073709551616)
    (hform : ∀ W, Calls Try.prog 72 #[.int .i64 x] W (Ret (.int .u64 u) W)) :
    Calls Try.prog 71 #[.slice A n c, .int .i64 x, .func (.func 72) #[] #[]] w (GivesB w (bs ++ enc u)) := by
  have H := hide (clone_any A n c B bs w hl hn hc (by omega) hB hr)
  have HFo := hide hform
  have HL := hide hl
  clear hr hl hform
  obtain ⟨i0, hi, hz, hsz, hby⟩ := info_parts Try.info5
  go_enter Try.func71, Try.ntmps71
  go_wp2_with (first | (go_at_call 45; refine H.out.mono ?_; rintro en w1 ⟨v1, rfl, hown, hfr⟩; have HO := hide hown; have HF := hide hfr; clear hown hfr) | (go_at_call 72; refine (HFo.out _).mono ?_; rintro en w2 ⟨rfl, rfl⟩))
  clear H HFo
  go_loopw [7, 8] (fun v y wr => ∃ (f k : Nat) (done : List UInt8), y = .int .u64 (k : Nat) ∧ Hid (Own wr w.heap.size 5 1 v done.length (by8 done)) ∧ Hid (done ++ encF f k = bs ++ enc u) ∧ Hid (Fr No w wr) ∧ Hid (f ≤ 9 ∧ done.length ≤ n + 9 - f ∧ k * 2 ^ (7 * (9 - f)) < 18446744073709551616)) (fun _ y _ => (intOf y).toNat)
  case atStart => exact ⟨9, u, bs, rfl, HO, hide rfl, HF, hide ⟨Nat.le_refl _, by rw [HL.out]; omega, by simpa using hu⟩⟩
  case round =>
    obtain ⟨f, k, done, rfl, HOw, HE, HFr, HB⟩ := hrel
    clear HO HF HL
    obtain ⟨hf9, hdl, hk⟩ := HB.out
    have hgw := HFr.out.size
    by_cases hbig : 127 < k
    · obtain ⟨f', rfl⟩ : ∃ f', f = f' + 1 := by
        cases f with
        | zero => exfalso; have e : (2 : Nat) ^ (7 * (9 - 0)) = 9223372036854775808 := by decide
                  rw [e] at hk; omega
        | succ f' => exact ⟨f', rfl⟩
      have HK := hide hk; clear hk
      have ho := or_128 k
      have HD := hide (show encF (f' + 1) k = UInt8.ofNat (k % 128 + 128) :: encF f' (k / 128) by rw [encF, if_pos hbig])
      generalize UInt8.ofNat (k % 128 + 128) = b at ho HD
      have HS := hide (Src.one (P := Try.prog) wr (e := 5) Try.underlying33 (.int .u8 b.toNat) rfl)
      have HOw' := hide (HOw.out.fr0 ((Fr.refl No wr).alloc (.cells #[.int .u8 b.toNat] 5)))
      have b1 : (done.length + 1) * 1 ≤ 140737488355328 := by omega
      have b2 : done.length + 1 ≤ maxLen := by unfold maxLen; omega
      have b3 : w.heap.size ≤ (wr.alloc (.cells #[.int .u8 b.toNat] 5)).heap.size := by simp; omega
      have HR := hide (show Own wr w.heap.size 5 1 u7 done.length (by8 done) → ∀ k, u7.ownBlock = some k → w.heap.size ≤ k from fun h k hk => (h.lt k hk).1)
      go_wp2_with (at_builtin; refine wpList_append_gen _ rfl (.tmp 18) (.tmp 22) 33 33 rfl w.heap.size 5 i0 (.int .u8 0) 1 1 Try.underlying33 hi hz hsz hby rfl u7 done.length (by8 done) rfl HOw'.out _ 1 [.int .u8 b.toNat] rfl HS.out b1 b2 b3 ?_; intro v' w' hown hfr hat; have HOn := hide hown; have HFn := hide hfr; clear hown hfr hat)
      go_roundw
      case rel =>
        refine ⟨f', k / 128, done ++ [b], by go_num, hide (by simpa [by8] using HOn.out), hide ?_, hide ((HFr.out.alloc _).own HFn.out (fun g hg => .inl (HOw.out.lt g hg).1)), hide ⟨by omega, by simp; omega, ?_⟩⟩
        · rw [← HE.out, HD.out]; simp
        · have e : 7 * (9 - f') = 7 * ((9 - (f' + 1)) + 1) := by omega
          rw [e, pow7, ← Nat.mul_assoc]
          exact Nat.lt_of_le_of_lt (Nat.mul_le_mul_right _ (by omega)) HK.out
      case measure => simp [intOf]; omega
    · obtain ⟨b, rfl⟩ : ∃ b : UInt8, k = b.toNat := ⟨UInt8.ofNat k, (ofNat_toNat (by omega)).symm⟩
      have HD := hide (show encF f b.toNat = [b] by cases f with
        | zero => simp [encF]
        | succ f => rw [encF, if_neg hbig]; simp)
      clear hk
      have HS := hide (Src.one (P := Try.prog) wr (e := 5) Try.underlying33 (.int .u8 b.toNat) rfl)
      have HOw' := hide (HOw.out.fr0 ((Fr.refl No wr).alloc (.cells #[.int .u8 b.toNat] 5)))
      have b1 : (done.length + 1) * 1 ≤ 140737488355328 := by omega
      have b2 : done.length + 1 ≤ maxLen := by unfold maxLen; omega
      have b3 : w.heap.size ≤ (wr.alloc (.cells #[.int .u8 b.toNat] 5)).heap.size := by simp; omega
      go_wp2_with (first | (at_builtin; refine wpList_append_gen _ rfl (.tmp 24) (.tmp 27) 33 33 rfl w.heap.size 5 i0 (.int .u8 0) 1 1 Try.underlying33 hi hz hsz hby rfl u7 done.length (by8 done) rfl HOw'.out _ 1 [.int .u8 b.toNat] rfl HS.out b1 b2 b3 ?_; intro v' w' hown hfr hat; obtain ⟨A1, c1, rfl, hc1, hc2, _⟩ := hown.form; have HOn := hide hown; have HFn := hide hfr; clear hown hfr hat) | (go_at_call 63; refine (clip_any _ _ _ _ hc1 hc2).mono ?_; rintro en w2 ⟨rfl, rfl⟩))
      go_ret
      refine ⟨_, rfl, ?_, (HFr.out.alloc _).own HFn.out (fun g hg => .inl (HOw.out.lt g hg).1)⟩
      rw [← HE.out, HD.out, by8_append, List.length_append]
      exact HOn.out.clip

theorem putI_any (A : Option Addr) (n c B : Nat) (bs : List UInt8) (x : Int) (w : World) (hl : bs.length = n) (hn : n ≤ c) (hc : c ≤ maxLen) (hb : n ≤ 140737488350000) (hB : B ≤ w.heap.size) (hr : Rd w B A (by8 bs)) (h1 : -9223372036854775808 ≤ x) (h2 : x ≤ 9223372036854775807) :
    Calls Try.prog 54 #[.slice A n c, .int .i64 x] w (GivesB w (bs ++ enc (zz x))) := by
  have H := hide (putI_loop A n c B bs (zz x) x w hl hn hc hb hB hr (zz_lt h1 h2) (fun W => formI_any _ W h1 h2))
  clear hr hl
  go_enter Try.func54, Try.ntmps54
  go_wp2_with (go_at_call 71; refine H.out.mono ?_; rintro en w1 ⟨v1, rfl, hown, hfr⟩; have HO := hide hown; have HF := hide hfr; clear hown hfr)
  go_ret
  exact ⟨_, rfl, HO.out, HF.out⟩

end Go.Proofs.Ytpopbkcbplmcaaa
namespace Go.Proofs.Ytpopbkcbplmcaaa
set_option linter.unusedVariables false
set_option linter.unusedSimpArgs false
open Go.RowKit

set_option maxRecDepth 100000 in
set_option maxHeartbeats 400000 in
theorem order_any (d : Nat) (w : World) : Calls Try.prog 53 #[.int .i64 (d : Nat)] w (fun en w' => en = .returned (.func (.func 66) #[] #[.pointer (some ⟨w.heap.size, 0, none⟩)]) ∧ w' = w.alloc (.cells #[.int .i64 (d : Nat)] 3)) := by
  go_enter Try.func53, Try.ntmps53
  go_wp2
  go_ret
  exact ⟨rfl, rfl⟩
theorem ArrP.fr {S : Nat → Prop} {w w' : World} {G off : Nat} {ps : List PoL} (h : ArrP w G off ps) (f : Fr S w w') (hS : ¬ S G) : ArrP w' G off ps := by
  refine ⟨fun j u hu => ?_, Nat.lt_of_lt_of_le h.lt f.size⟩
  obtain ⟨h1, h2⟩ := h.cell j u hu
  refine ⟨f.cell h1 hS, ?_⟩
  have hb := f.block G h.lt hS
  unfold World.frozen? at h2 ⊢
  dsimp only at h2 ⊢
  rw [hb]
  exact h2
theorem Apart2.fr {w w' w'' : World} {G lo hi : Nat} {S : Nat → Prop} (h : Apart2 w w' G lo hi) (f : Fr S w' w'') (hS : ¬ S G) (hG : G < w'.heap.size) : Apart2 w w'' G lo hi := fun i hi => by
  have hb := f.block G hG hS
  have h1 := h i hi
  constructor
  · rw [← h1.1]; unfold World.cell?; dsimp only; rw [hb]
  · rw [← h1.2]; unfold World.frozen?; dsimp only; rw [hb]
theorem Apart2.fr0 {w w' : World} {G lo hi : Nat} (f : Fr No w w') (hG : G < w.heap.size) : Apart2 w w' G lo hi := fun i hi => by
  have hb := f.block G hG (fun h => h)
  constructor
  · unfold World.cell?; dsimp only; rw [hb]
  · unfold World.frozen?; dsimp only; rw [hb]
theorem Apart2.tr {w w' w'' : World} {G lo hi : Nat} (h : Apart2 w w' G lo hi) (k : Apart2 w' w'' G lo hi) : Apart2 w w'' G lo hi := fun i hi => ⟨((k i hi).1).trans (h i hi).1, ((k i hi).2).trans (h i hi).2⟩
theorem Apart2.wide {w w' : World} {G lo hi lo' hi' : Nat} (h : Apart2 w w' G lo hi) (h1 : lo' ≤ lo) (h2 : hi ≤ hi') : Apart2 w w' G lo' hi' := fun i hi => h i (by omega)
theorem ArrP.rd {w : World} {G off B dims : Nat} {ps : List PoL} (h : ArrP w G off ps) (hok : ∀ p ∈ ps, OkPt w B dims p) (hB : B ≤ w.heap.size) : RdPo w w.heap.size (some ⟨G, off, none⟩) (ps.map (·.1)) := by
  refine ⟨ps, rfl, fun j u hu => ⟨_, rfl, h.lt, ?_⟩, fun p hp => ⟨(hok p hp).2.1, (hok p hp).2.2.1, (hok p hp).2.2.2.more hB⟩⟩
  rw [Addr.add_lit]
  exact (h.cell j u hu).1
/-- what form is given. -/
structure FormH (w : World) (G off n c B dims : Nat) (ps : List PoL) : Prop where
  len : ps.length = n
  n1 : 1 ≤ n
  n2 : n ≤ 1048576
  cap : n ≤ c
  cap2 : c ≤ maxLen
  ok : ∀ p ∈ ps, OkPt w B dims p
  fit : ∀ p ∈ ps, InI p.1.2 ∧ 0 ≤ p.1.1 ∧ p.1.1 < 16384
  arr : ArrP w G off ps
  low : B ≤ G
  dm : 1 ≤ dims ∧ dims ≤ 4
/-- what form answers. -/
def FormQ (w : World) (G off n dims : Nat) (l : List Pt) (en : Ending) (w' : World) : Prop := (∃ v, en = .returned v ∧ Own w' w.heap.size 5 1 v (treeP dims l).length (by8 (treeP dims l))) ∧ Fr (Is G) w w' ∧ Apart2 w w' G off (off + n * 2)
theorem take_1 {l : List Int} {k : Nat} (h : k < l.length) : l.take (k + 1) = l.take k ++ [l.getD k 0] := by
  rw [List.take_succ_eq_append_getElem h, List.getD, List.getElem?_eq_getElem h]
  rfl
theorem ptsB_snoc (l : List Pt) (p : Pt) : ptsB (l ++ [p]) = ptsB l ++ ptB p := by simp [ptsB]
def zzs (l : List Int) : List UInt8 := (l.map (fun v => enc (zz v))).flatten
theorem zzs_snoc (l : List Int) (x : Int) : zzs (l ++ [x]) = zzs l ++ enc (zz x) := by simp [zzs]
theorem zzs_le : ∀ l : List Int, (zzs l).length ≤ 10 * l.length
  | [] => by simp [zzs]
  | x :: r => by
    have h1 := zzs_le r
    have h2 := (enc_len (zz x)).2
    have e : zzs (x :: r) = enc (zz x) ++ zzs r := by simp [zzs]
    rw [e, List.length_append, List.length_cons]
    omega
set_option maxRecDepth 100000 in
set_option maxHeartbeats 4000000 in
theorem form_leaf (ad : Addr) (G off n c B dims : Nat) (ps : List PoL) (w : World) (had : ad = ⟨G, off, none⟩) (H : FormH w G off n c B dims ps) (h8 : n ≤ 8) :
    Calls Try.prog 36 #[.int .i64 (dims : Nat), .slice (some ad) n c] w (FormQ w G off n dims (ps.map (·.1))) := by
  obtain ⟨i5, hi5, hz5, hsz5, hby5⟩ := info_parts Try.info5
  have HH := hide H
  have HAd := hide had
  have hn1 := H.n1
  have hnc := H.cap
  have hc := H.cap2
  have hd := H.dm
  obtain ⟨w1, hw1⟩ : ∃ x, x = w.alloc (.cells #[.int .i64 ((0 : Nat) : Int)] 3) := ⟨_, rfl⟩
  obtain ⟨bx, hbx⟩ : ∃ x, x = w.heap.size := ⟨_, rfl⟩
  have f1 : Fr No w w1 := by rw [hw1]; exact (Fr.refl No w).alloc _
  have hOr := order_any 0 w
  rw [← hw1, ← hbx] at hOr
  have HOr := hide hOr
  have hcx : w1.cell? ⟨bx, 0, none⟩ = some (.int .i64 ((0 : Nat) : Int)) := by rw [hw1, hbx]; exact cell_of_row _ _ 0 _ _ _ (heap_alloc_new w _)
  have HSo := hide (sortPts_any 0 dims bx G off n c B ps w1 H.len hn1 (by have := H.n2; omega) (by omega) (fun p hp => (H.ok p hp).fr f1 (fun _ _ h => h)) (H.arr.fr f1 (fun h => h)) H.low hcx (by have := H.arr.lt; omega))
  rw [← had] at HSo
  have HF1 := hide f1
  unfold maxLen at hc
  clear hw1 hbx hOr hcx f1 H had
  go_enter Try.func36, Try.ntmps36
  go_wp2_with (fail)
  refine HOr.out.mono ?_
  rintro en wz ⟨rfl, rfl⟩
  go_wp2_with (fail)
  refine HSo.out.mono ?_
  rintro en w2 ⟨rfl, ps2, hperm, hmap, harr, hfr, hap⟩
  obtain ⟨l2, hl2⟩ : ∃ x, x = ps2.map (·.1) := ⟨_, rfl⟩
  have hB2 : ∀ k, k < B → ¬ Is G k := fun k hk e => by have e : k = G := e; have := HH.out.low; omega
  have hfw : Fr (Is G) w w2 := (HF1.out.any (Is G)).trans hfr (fun i hi e => e)
  have hok2 : ∀ p ∈ ps2, OkPt w2 B dims p := fun p hp => (HH.out.ok p (hperm.mem_iff.1 hp)).fr hfw hB2
  have hl2n : l2.length = n := by rw [hl2, List.length_map, hperm.length_eq, HH.out.len]
  have hrd : RdPo w2 w2.heap.size (some ad) l2 := by
    rw [HAd.out, hl2]
    exact harr.rd hok2 (by have := harr.lt; have := HH.out.low; omega)
  have hmem : ∀ p ∈ l2, p.2.length = dims ∧ InI p.2 ∧ 0 ≤ p.1 ∧ p.1 < 16384 := fun p hp => by
    rw [hl2] at hp
    obtain ⟨q, hq, rfl⟩ := List.mem_map.1 hp
    exact ⟨(hok2 q hq).1, HH.out.fit q (hperm.mem_iff.1 hq)⟩
  have HM : Hid (l2 = sortP 0 (ps.map (·.1))) := hide (hl2.trans hmap)
  have HL2 := hide hl2n
  have HRd := hide hrd
  have HMem := hide hmem
  have HF2 := hide hfw
  have HGl := hide harr.lt
  have HAp : Hid (Apart2 w w2 G off (off + n * 2)) := hide ((Apart2.fr0 HF1.out HH.out.arr.lt).tr hap)
  have HPu := hide (fun (u : Nat) (hu : u < 18446744073709551616) W => putU_any none 0 0 0 [] u W rfl (Nat.le_refl _) (Nat.zero_le _) (by omega) (Nat.zero_le _) (fun j u hu => by simp [by8] at hu) hu)
  have HPn := hide (HPu.out n (by omega))
  obtain ⟨en0, hen⟩ : ∃ x, x = (enc n).length := ⟨_, rfl⟩
  have he10 := (enc_len n).2
  rw [← hen] at he10
  have HEn := hide hen
  have b1 : (1 + en0) * 1 ≤ 140737488355328 := by omega
  have b2 : 1 + en0 ≤ maxLen := by unfold maxLen; omega
  clear hl2 hB2 hfw hok2 hl2n hrd hmem hperm hmap harr hfr hap hen HSo HOr
  go_wp2_with (first
    | (go_at_call 38; refine (HPn.out _).mono ?_; rintro en w3 ⟨v3, rfl, hown, hfr⟩; rw [List.nil_append, ← HEn.out] at hown; obtain ⟨A3, c3, rfl, p1, p2, _, p3, _⟩ := hown.form; have HS3 := hide (Src.ofRd (P := Try.prog) (size := 1) w3 Try.underlying33 A3 en0 c3 (by8 (enc n)) (by rw [by8_length, ← HEn.out, Nat.mul_one]) (by omega) p3 (by8_one _)); have HO3 := hide ((own_new8 w2 #[.int .u8 0] 1 [0] 5 rfl rfl (by decide)).fr0 hfr); have HF3 : Hid (Fr No w2 w3) := hide (((Fr.refl No w2).alloc _).tr hfr); have hz3 := HF3.out.size; unfold maxLen at p2; clear hown hfr p3)
    | (at_builtin; refine wpList_append_gen _ rfl (.tmp 21) (.tmp 25) 33 33 rfl w2.heap.size 5 i5 (.int .u8 0) 1 1 Try.underlying33 hi5 hz5 hsz5 hby5 rfl (.slice (some ⟨w2.heap.size, 0, none⟩) 1 1) 1 (by8 [0]) rfl HO3.out _ en0 (by8 (enc n)) rfl HS3.out b1 b2 hz3 ?_; intro v4 w4 hown hfr hat; have HO4 := hide hown; have HF4 : Hid (Fr No w2 w4) := hide (HF3.out.own hfr (fun g hg => .inl (HO3.out.lt g hg).1)); clear hown hfr hat))
  go_loopw [5, 7, 9, 29] (fun vb _ _ i wr => ∃ (k bn : Nat), k ≤ n ∧ i = .int .i64 (k : Nat) ∧ bn ≤ 11 + 50 * k ∧ Hid (Fr No w2 wr) ∧ Hid (bn = ((0 : UInt8) :: (enc n ++ ptsB (l2.take k))).length) ∧ Hid (Own wr w2.heap.size 5 1 vb bn (by8 ((0 : UInt8) :: (enc n ++ ptsB (l2.take k)))))) (fun _ _ _ i _ => n - (intOf i).toNat)
  case atStart => exact ⟨0, 1 + en0, by omega, by go_num, by omega, HF4, hide (by simp [ptsB, HEn.out]; omega), hide (by simpa [ptsB, by8] using HO4.out)⟩
  case round =>
    clear HO4 HF4
    obtain ⟨wo, rfl⟩ : ∃ wo : World, wo = wr := ⟨_, rfl⟩
    obtain ⟨k, bn, hk, rfl, hbn, HFk, HBn, HOk⟩ := hrel
    by_cases hlk : k < n
    · have hk1 : k < l2.length := by rw [HL2.out]; exact hlk
      obtain ⟨ad', A1, c1, e, _, k0', k1', g1, g2, hrk⟩ := HRd.out.at hk1
      cases e
      have k0 := HFk.out.cell k0' (fun h => h)
      have k1 := HFk.out.cell k1' (fun h => h)
      clear k0' k1'
      have hpk := HMem.out _ (getP_mem hk1)
      have htk := take_snocP hk1
      obtain ⟨pk, hpke⟩ : ∃ x, x = l2.getD k noPo := ⟨_, rfl⟩
      rw [← hpke] at k0 k1 g1 hrk hpk htk
      rw [hpk.1] at k1 g1
      obtain ⟨dn, hdn⟩ : ∃ m : Nat, pk.1 = (m : Int) := ⟨pk.1.toNat, by omega⟩
      rw [hdn] at k0 hpk
      have hdn16 : dn < 16384 := by omega
      have HDn := hide hdn
      have HPk := hide hpk
      have HTk := hide htk
      have HRk := hide hrk
      have HPd := hide (HPu.out dn (by omega))
      obtain ⟨ed, hed⟩ : ∃ x, x = (enc dn).length := ⟨_, rfl⟩
      have hed10 := (enc_len dn).2
      rw [← hed] at hed10
      have HEd := hide hed
      have b1 : (bn + ed) * 1 ≤ 140737488355328 := by omega
      have b2 : bn + ed ≤ maxLen := by unfold maxLen; omega
      unfold maxLen at g2
      clear hk1 hpk htk hpke hrk hdn hed
      go_upto_region 7 with (fail)
      obtain ⟨w5, hw5⟩ : ∃ x, x = wo.alloc (.cells #[.int .i64 dn, .slice A1 dims c1] 44) := ⟨_, rfl⟩
      obtain ⟨g, hg⟩ : ∃ x, x = wo.heap.size := ⟨_, rfl⟩
      have hb5 : w5.heap[g]? = some (.cells #[.int .i64 dn, .slice A1 dims c1] 44 (0, 0)) := by rw [hw5, hg]; exact heap_alloc_new wo _
      have f5 : Fr No wo w5 := by rw [hw5]; exact (Fr.refl No wo).alloc _
      have q0 := cell_of_row _ _ 0 _ _ _ hb5
      have HQ1 := hide (cell_of_row _ _ 1 _ _ _ hb5)
      have HB5 := hide hb5
      have HF5 := hide (HFk.out.tr f5)
      have HO5 := hide (HOk.out.fr0 f5)
      rw [← hw5, ← hg]
      clear hw5 hg hb5 f5 k0 k1
      have hz5b := HF5.out.size
      obtain ⟨X, hX⟩ : ∃ X, X = (0 : UInt8) :: (enc n ++ ptsB (l2.take k)) := ⟨_, rfl⟩
      rw [← hX] at HBn HO5
      have HX := hide hX
      obtain ⟨at_, hat_⟩ : ∃ x, x = pk.2 := ⟨_, rfl⟩
      rw [← hat_] at HRk HPk
      have HAt := hide hat_
      clear hX hat_
      go_wp2_with (first
        | (go_at_call 38; refine (HPd.out _).mono ?_; rintro en w6 ⟨v6, rfl, hown, hfr⟩; rw [List.nil_append, ← HEd.out] at hown; obtain ⟨A6, c6, rfl, p1, p2, _, p3, _⟩ := hown.form; have HS6 := hide (Src.ofRd (P := Try.prog) (size := 1) w6 Try.underlying33 A6 ed c6 (by8 (enc dn)) (by rw [by8_length, ← HEd.out, Nat.mul_one]) (by omega) p3 (by8_one _)); have HO6 := hide (HO5.out.fr0 hfr); have HF6 : Hid (Fr No w2 w6) := hide (HF5.out.tr hfr); have hz6 := HF6.out.size; have HQ6 := hide (hfr.cell HQ1.out (fun h => h)); have HB6 := hide (hfr.blk HB5.out (fun h => h)); unfold maxLen at p2; clear hown hfr p3 q0)
        | (at_builtin; refine wpList_append_gen _ rfl (.tmp 33) (.tmp 37) 33 33 rfl w2.heap.size 5 i5 (.int .u8 0) 1 1 Try.underlying33 hi5 hz5 hsz5 hby5 rfl u5 bn (by8 X) rfl HO6.out _ ed (by8 (enc dn)) rfl HS6.out b1 b2 hz6 ?_; intro v7 w7 hown hfr hat; have HO7 := hide hown; have HF7 : Hid (Fr No w2 w7) := hide (HF6.out.own hfr (fun g hg => .inl (HO6.out.lt g hg).1)); have q7 := hfr.cell (p := ⟨g, 1, none⟩) HQ6.out (off_own HO6.out (by decide) _ _ _ HB6.out); clear hown hfr hat))
      go_loopw [5, 9, 42] (fun vb _ i wr => ∃ (q bm : Nat), q ≤ dims ∧ i = .int .i64 (q : Nat) ∧ bm ≤ bn + ed + 10 * q ∧ Hid (Fr No w2 wr) ∧ Hid (bm = (X ++ enc dn ++ zzs (at_.take q)).length) ∧ Hid (Own wr w2.heap.size 5 1 vb bm (by8 (X ++ enc dn ++ zzs (at_.take q))))) (fun _ _ i _ => dims - (intOf i).toNat)
      case atStart => exact ⟨0, bn + ed, by omega, by go_num, by omega, HF7, hide (by rw [List.take_zero]; simp [zzs, ← HBn.out, HEd.out]), hide (by rw [List.take_zero]; have h := HO7.out; rw [← by8_append] at h; simpa [zzs] using h)⟩
      case round =>
        clear HO7 HF7 q7
        obtain ⟨wx, rfl⟩ : ∃ wo : World, wo = wr := ⟨_, rfl⟩
        obtain ⟨q, bm, hq, rfl, hbm, HFq, HBm, HOq⟩ := hrel
        by_cases hlq : q < dims
        · have hq1 : q < at_.length := by rw [HPk.out.1]; exact hlq
          obtain ⟨ad1, rfl, _, hx2⟩ := (HRk.out.fr0 HFq.out).intAt hq1
          have hxI := HPk.out.2.1 (at_.getD q 0) (by rw [List.getD, List.getElem?_eq_getElem hq1]; exact List.getElem_mem hq1)
          have htq : at_.take (q + 1) = at_.take q ++ [at_.getD q 0] := take_1 hq1
          obtain ⟨x, hxe⟩ : ∃ x, x = at_.getD q 0 := ⟨_, rfl⟩
          rw [← hxe] at hx2 hxI htq
          have HTq := hide htq
          have HPi := hide (fun W => putI_any none 0 0 0 [] x W rfl (Nat.le_refl _) (Nat.zero_le _) (by omega) (Nat.zero_le _) (fun j u hu => by simp [by8] at hu) hxI.1 hxI.2)
          obtain ⟨ez, hez⟩ : ∃ y, y = (enc (zz x)).length := ⟨_, rfl⟩
          have hez10 := (enc_len (zz x)).2
          rw [← hez] at hez10
          have HEz := hide hez
          have b1 : (bm + ez) * 1 ≤ 140737488355328 := by omega
          have b2 : bm + ez ≤ maxLen := by unfold maxLen; omega
          obtain ⟨Y, hY⟩ : ∃ Y, Y = X ++ enc dn ++ zzs (at_.take q) := ⟨_, rfl⟩
          rw [← hY] at HBm HOq
          have HY := hide hY
          clear hq1 htq hxe hez hY
          go_wp2_with (first
            | (go_at_call 54; refine (HPi.out _).mono ?_; rintro en w8 ⟨v8, rfl, hown, hfr⟩; rw [List.nil_append, ← HEz.out] at hown; obtain ⟨A8, c8, rfl, p1, p2, _, p3, _⟩ := hown.form; have HS8 := hide (Src.ofRd (P := Try.prog) (size := 1) w8 Try.underlying33 A8 ez c8 (by8 (enc (zz x))) (by rw [by8_length, ← HEz.out, Nat.mul_one]) (by omega) p3 (by8_one _)); have HO8 := hide (HOq.out.fr0 hfr); have HF8 : Hid (Fr No w2 w8) := hide (HFq.out.tr hfr); have hz8 := HF8.out.size; unfold maxLen at p2; clear hown hfr p3)
            | (at_builtin; refine wpList_append_gen _ rfl (.tmp 46) (.tmp 48) 33 33 rfl w2.heap.size 5 i5 (.int .u8 0) 1 1 Try.underlying33 hi5 hz5 hsz5 hby5 rfl u5 bm (by8 Y) rfl HO8.out _ ez (by8 (enc (zz x))) rfl HS8.out b1 b2 hz8 ?_; intro v9 w9 hown hfr hat; have HO9 := hide hown; have HF9 : Hid (Fr No w2 w9) := hide (HF8.out.own hfr (fun g hg => .inl (HO8.out.lt g hg).1)); clear hown hfr hat))
          go_roundw
          case rel =>
            have hY1 : X ++ enc dn ++ zzs (at_.take (q + 1)) = Y ++ enc (zz x) := by rw [HTq.out, zzs_snoc, HY.out, List.append_assoc (X ++ enc dn)]
            refine ⟨q + 1, bm + ez, by omega, by go_num, by omega, HF9, hide ?_, hide ?_⟩
            · rw [hY1, List.length_append, ← HBm.out, ← HEz.out]
            · rw [hY1, by8_append]; exact HO9.out
          case measure => simp [intOf]; omega
        · obtain rfl : q = dims := by omega
          have hall : at_.take q = at_ := List.take_of_length_le (by rw [HPk.out.1]; exact Nat.le_refl _)
          rw [hall] at HBm HOq
          have hE : X ++ enc dn ++ zzs at_ = (0 : UInt8) :: (enc n ++ ptsB (l2.take (k + 1))) := by
            rw [HTk.out, ptsB_snoc, HX.out, ptB, HDn.out, Int.toNat_natCast, HAt.out]
            simp [zzs]
          rw [hE] at HBm HOq
          clear hall hE hlq
          go_wp2_with (fail)
          go_roundw
          case rel => exact ⟨k + 1, bm, by omega, by go_num, by omega, HFq, HBm, HOq⟩
          case measure => simp [intOf]; omega
    · obtain rfl : k = n := by omega
      have hall : l2.take k = l2 := List.take_of_length_le (by rw [HL2.out]; exact Nat.le_refl _)
      rw [hall] at HBn HOk
      have HT : Hid (treeP dims (ps.map (·.1)) = (0 : UInt8) :: (enc k ++ ptsB l2)) := hide (by rw [treeP_leaf (by rw [List.length_map, HH.out.len]; exact h8), List.length_map, HH.out.len, HM.out])
      clear hall hlk
      go_wp2_with (fail)
      go_ret
      refine ⟨⟨u5, rfl, ?_⟩, ?_, ?_⟩
      · rw [HT.out, ← HBn.out]; exact HOk.out.lower HF2.out.size
      · exact HF2.out.trans HFk.out (fun i hi e => e.elim)
      · exact HAp.out.fr HFk.out (fun h => h) HGl.out
end Go.Proofs.Ytpopbkcbplmcaaa
namespace Go.Proofs.Ytpopbkcbplmcaaa
set_option linter.unusedVariables false
set_option linter.unusedSimpArgs false
open Go.RowKit

theorem pFlat_take (ps : List PoL) (k : Nat) : pFlat (ps.take k) = (pFlat ps).take (k * 2) := by
  induction ps generalizing k with
  | nil => simp [pFlat]
  | cons p r ih =>
    cases k with
    | zero => simp [pFlat]
    | succ k =>
      have e : pFlat (p :: r) = pRow p ++ pFlat r := rfl
      have e2 : pFlat (p :: r.take k) = pRow p ++ pFlat (r.take k) := rfl
      rw [List.take_succ_cons, e, e2, ih, show (k + 1) * 2 = (pRow p).length + k * 2 by simp [pRow]; omega, List.take_length_add_append]
theorem pFlat_drop (ps : List PoL) (k : Nat) : pFlat (ps.drop k) = (pFlat ps).drop (k * 2) := by
  induction ps generalizing k with
  | nil => simp [pFlat]
  | cons p r ih =>
    cases k with
    | zero => simp
    | succ k =>
      have e : pFlat (p :: r) = pRow p ++ pFlat r := rfl
      rw [List.drop_succ_cons, e, ih, show (k + 1) * 2 = (pRow p).length + k * 2 by simp [pRow]; omega, List.drop_length_add_append]
theorem ArrP.take {w : World} {G off : Nat} {ps : List PoL} (h : ArrP w G off ps) (k : Nat) : ArrP w G off (ps.take k) := by
  refine ⟨fun j u hu => ?_, h.lt⟩
  rw [pFlat_take, List.getElem?_take] at hu
  split at hu
  · exact h.cell j u hu
  · cases hu
theorem ArrP.drop {w : World} {G off : Nat} {ps : List PoL} (h : ArrP w G off ps) (k : Nat) : ArrP w G (off + k * 2) (ps.drop k) := by
  refine ⟨fun j u hu => ?_, h.lt⟩
  rw [pFlat_drop, List.getElem?_drop] at hu
  have h1 := h.cell _ u hu
  rw [Nat.add_assoc]
  exact h1
/-- points outside a part that changes. -/
theorem ArrP.apart {w w' : World} {G off lo hi : Nat} {ps : List PoL} (h : ArrP w G off ps) (ha : Apart2 w w' G lo hi) (hs : w.heap.size ≤ w'.heap.size) (hd : hi ≤ off ∨ off + ps.length * 2 ≤ lo) : ArrP w' G off ps := by
  refine ⟨fun j u hu => ?_, Nat.lt_of_lt_of_le h.lt hs⟩
  have hj := (List.getElem?_eq_some_iff.1 hu).1
  rw [pFlat_len] at hj
  have h1 := h.cell j u hu
  have h2 := ha (off + j) (by omega)
  rw [h2.1, h2.2]
  exact h1
theorem FormH.fr {S : Nat → Prop} {w w' : World} {G off n c B dims : Nat} {ps : List PoL} (h : FormH w G off n c B dims ps) (f : Fr S w w') (hG : ¬ S G) (hB : ∀ k, k < B → ¬ S k) : FormH w' G off n c B dims ps :=
  ⟨h.len, h.n1, h.n2, h.cap, h.cap2, fun p hp => (h.ok p hp).fr f hB, h.fit, h.arr.fr f hG, h.low, h.dm⟩
theorem add_lit2 (G off k : Nat) : (⟨G, off, none⟩ : Addr).add (k * 2) = ⟨G, off + k * 2, none⟩ := Addr.add_lit _ _ _
set_option maxRecDepth 100000 in
set_option maxHeartbeats 8000000 in
theorem form_any (dims B : Nat) : ∀ (n : Nat) (ad : Addr) (G off c : Nat) (ps : List PoL) (w : World), ad = ⟨G, off, none⟩ → FormH w G off n c B dims ps →
    Calls Try.prog 36 #[.int .i64 (dims : Nat), .slice (some ad) n c] w (FormQ w G off n dims (ps.map (·.1))) := by
  intro n
  induction n using Nat.strongRecOn with
  | ind n ih =>
    intro ad G off c ps w had H
    by_cases h8 : n ≤ 8
    · exact form_leaf ad G off n c B dims ps w had H h8
    obtain ⟨i5, hi5, hz5, hsz5, hby5⟩ := info_parts Try.info5
    have HIh := hide ih
    have HH := hide H
    have HAd := hide had
    have hn2 := H.n2
    have hnc := H.cap
    have hc := H.cap2
    have hdm := H.dm
    obtain ⟨l, hl⟩ : ∃ x, x = ps.map (·.1) := ⟨_, rfl⟩
    have hln : l.length = n := by rw [hl, List.length_map, H.len]
    have hB1 : B ≤ w.heap.size := by have := H.arr.lt; have := H.low; omega
    have hrd : RdPo w w.heap.size (some ad) l := by rw [had, hl]; exact H.arr.rd H.ok hB1
    have hmem : ∀ p ∈ l, p.2.length = dims ∧ InI p.2 := fun p hp => by
      rw [hl] at hp
      obtain ⟨q, hq, rfl⟩ := List.mem_map.1 hp
      exact ⟨(H.ok q hq).1, (H.fit q hq).1⟩
    have HWi := hide (widest_any (some ad) n c w.heap.size dims l w hln (by omega) hnc hc (Nat.le_refl _) hmem hdm.2 hrd)
    obtain ⟨d, hd⟩ : ∃ x, x = widF l dims := ⟨_, rfl⟩
    have hdd : d < dims := by rw [hd]; exact widF_lt l dims (by omega)
    rw [← hd] at HWi
    have HD := hide hd
    have HLl := hide hl
    have HLn := hide hln
    obtain ⟨k, hk⟩ : ∃ k, k = (n + 1) / 2 := ⟨_, rfl⟩
    have ek : ((n : Int) + 1) / 2 = (k : Int) := by omega
    have hkn : k < n := by omega
    have hk1 : 1 ≤ k := by omega
    have HK := hide hk
    unfold maxLen at hc
    clear hl hln hB1 hrd hmem hd hk ih H had
    go_enter Try.func36, Try.ntmps36
    go_wp2_with (fail)
    refine HWi.out.mono ?_
    rintro en w1 ⟨rfl, hf⟩
    have HF1 := hide hf
    clear hf HWi
    go_wp2_with (fail)
    have hOr := order_any d w1
    obtain ⟨w2, hw2⟩ : ∃ x, x = w1.alloc (.cells #[.int .i64 (d : Nat)] 3) := ⟨_, rfl⟩
    obtain ⟨bx, hbx⟩ : ∃ x, x = w1.heap.size := ⟨_, rfl⟩
    rw [← hw2, ← hbx] at hOr
    have f2 : Fr No w1 w2 := by rw [hw2]; exact (Fr.refl No w1).alloc _
    have hcx : w2.cell? ⟨bx, 0, none⟩ = some (.int .i64 (d : Nat)) := by rw [hw2, hbx]; exact cell_of_row _ _ 0 _ _ _ (heap_alloc_new w1 _)
    have HF2 := hide (HF1.out.tr f2)
    have HH2 := hide (HH.out.fr HF2.out (fun h => h) (fun _ _ h => h))
    have HSo := hide (sortPts_any d dims bx G off n c B ps w2 HH2.out.len (by omega) (by omega) hdd HH2.out.ok HH2.out.arr HH2.out.low hcx (by have := HH.out.arr.lt; have := HF1.out.size; omega))
    rw [← HAd.out] at HSo
    clear hw2 hbx f2 hcx
    refine hOr.mono ?_
    rintro en wz ⟨rfl, rfl⟩
    clear hOr
    go_wp2_with (fail)
    refine HSo.out.mono ?_
    rintro en w3 ⟨rfl, ps2, hperm, hmap, harr, hfr, hap⟩
    rw [← HLl.out] at hmap
    have hB2 : ∀ k, k < B → ¬ Is G k := fun k hk e => by have e : k = G := e; have := HH.out.low; omega
    have HH3 : Hid (FormH w3 G off n c B dims ps2) := hide ⟨by rw [hperm.length_eq, HH.out.len], HH.out.n1, HH.out.n2, HH.out.cap, HH.out.cap2, fun p hp => (HH2.out.ok p (hperm.mem_iff.1 hp)).fr hfr hB2, fun p hp => HH.out.fit p (hperm.mem_iff.1 hp), harr, HH.out.low, HH.out.dm⟩
    have HF3 : Hid (Fr (Is G) w w3) := hide ((HF2.out.any (Is G)).trans hfr (fun i hi e => e))
    have HA3 : Hid (Apart2 w w3 G off (off + n * 2)) := hide ((Apart2.fr0 HF2.out HH.out.arr.lt).tr hap)
    have HMap := hide hmap
    clear hperm hmap harr hfr hap HSo hB2
    -- the number at the cut
    have hB3 : B ≤ w3.heap.size := by have := HH3.out.arr.lt; have := HH3.out.low; omega
    have hrd : RdPo w3 w3.heap.size (some ad) (ps2.map (·.1)) := by rw [HAd.out]; exact HH3.out.arr.rd HH3.out.ok hB3
    have hl2n : (ps2.map (·.1)).length = n := by rw [List.length_map, HH3.out.len]
    obtain ⟨ad', Ak, ck, e, _, k0, k1, g1, g2, hrk⟩ := hrd.at (k := k) (by rw [hl2n]; exact hkn)
    cases e
    have hpk : ((ps2.map (·.1)).getD k noPo).2.length = dims ∧ InI ((ps2.map (·.1)).getD k noPo).2 := by
      obtain ⟨q, hq, e⟩ := List.mem_map.1 (getP_mem (b := ps2.map (·.1)) (i := k) (by rw [hl2n]; exact hkn))
      rw [← e]
      exact ⟨(HH3.out.ok q hq).1, (HH3.out.fit q hq).1⟩
    obtain ⟨pk, hpke⟩ : ∃ x, x = (ps2.map (·.1)).getD k noPo := ⟨_, rfl⟩
    rw [← hpke] at k0 k1 g1 hrk hpk
    rw [hpk.1] at k1 g1
    obtain ⟨ad1, rfl, _, hx⟩ := hrk.intAt (j := d) (by rw [hpk.1]; exact hdd)
    have hxI := hpk.2 (pk.2.getD d 0) (by rw [List.getD, List.getElem?_eq_getElem (by rw [hpk.1]; exact hdd)]; exact List.getElem_mem _)
    obtain ⟨x, hxe⟩ : ∃ x, x = pk.2.getD d 0 := ⟨_, rfl⟩
    rw [← hxe] at hx hxI
    have HXe : Hid (x = ((sortP d l).getD k noPt).2.getD d 0) := hide (by rw [hxe, hpke, HMap.out]; rfl)
    have HXi := hide hxI
    unfold maxLen at g2
    clear hB3 hrd hl2n hpk hpke hrk hxe hxI
    go_wp2_with (fail)
    have HH4 : Hid (FormH w3 G off k c B dims (ps2.take k)) := hide ⟨by rw [List.length_take, HH3.out.len]; omega, hk1, by have := HH3.out.n2; omega, by have := HH3.out.cap; omega, HH3.out.cap2, fun p hp => HH3.out.ok p (List.mem_of_mem_take hp), fun p hp => HH3.out.fit p (List.mem_of_mem_take hp), HH3.out.arr.take k, HH3.out.low, HH3.out.dm⟩
    refine (HIh.out k hkn ad G off c (ps2.take k) w3 HAd.out HH4.out).mono ?_
    rintro en w4 ⟨⟨vL, rfl, hown⟩, hfr, hap⟩
    have hmt : (ps2.take k).map (·.1) = (sortP d l).take k := by rw [List.map_take, HMap.out]
    have hmd : (ps2.drop k).map (·.1) = (sortP d l).drop k := by rw [List.map_drop, HMap.out]
    rw [hmt] at hown
    have HMd := hide hmd
    have hL := treeP_le dims k ((sortP d l).take k) (by rw [List.length_take, sortP_len, HLn.out]; omega) hk1 (fun p hp => by
      have := List.mem_of_mem_take hp
      rw [← HMap.out] at this
      obtain ⟨q, hq, rfl⟩ := List.mem_map.1 this
      rw [(HH3.out.ok q hq).1]; exact hdm.2)
    obtain ⟨L, hLe⟩ : ∃ x, x = treeP dims ((sortP d l).take k) := ⟨_, rfl⟩
    rw [← hLe] at hown hL
    obtain ⟨ln, hln⟩ : ∃ x, x = L.length := ⟨_, rfl⟩
    rw [← hln] at hown hL
    obtain ⟨AL, cL, rfl, z1, z2, _, z3, _⟩ := hown.form
    have HOL := hide hown
    have HLe := hide hLe
    have HLnn := hide hln
    have HF4 : Hid (Fr (Is G) w w4) := hide (HF3.out.trans hfr (fun i hi e => e))
    have HA4 : Hid (Apart2 w w4 G off (off + n * 2)) := hide (HA3.out.tr (hap.wide (Nat.le_refl _) (by omega)))
    have hB2 : ∀ k, k < B → ¬ Is G k := fun k hk e => by have e : k = G := e; have := HH.out.low; omega
    have HH5 : Hid (FormH w4 G (off + k * 2) (n - k) (c - k) B dims (ps2.drop k)) := hide ⟨by rw [List.length_drop, HH3.out.len], by omega, by have := HH3.out.n2; omega, by have := HH3.out.cap; omega, by have := HH3.out.cap2; omega, fun p hp => (HH3.out.ok p (List.mem_of_mem_drop hp)).fr hfr hB2, fun p hp => HH3.out.fit p (List.mem_of_mem_drop hp), (HH3.out.arr.drop k).apart hap hfr.size (.inl (Nat.le_refl _)), HH3.out.low, HH3.out.dm⟩
    have ho1 := own_new8 w4 #[.int .u8 1] 1 [1] 5 rfl rfl (by decide)
    obtain ⟨w5, hw5⟩ : ∃ x, x = w4.alloc (.cells #[.int .u8 1] 5) := ⟨_, rfl⟩
    obtain ⟨g5, hg5⟩ : ∃ x, x = w4.heap.size := ⟨_, rfl⟩
    rw [← hw5, ← hg5] at ho1
    have HPu := hide (putU_any (some ⟨g5, 0, none⟩) 1 1 w5.heap.size [1] d w5 rfl (Nat.le_refl _) (by decide) (by omega) (Nat.le_refl _) ho1.rd (by omega))
    have f5 : Fr No w4 w5 := by rw [hw5]; exact (Fr.refl No w4).alloc _
    have HF45 := hide f5
    unfold maxLen at z2
    have HW5 := hide hw5
    have HG5 := hide hg5
    clear hmt hmd hLe hln hown hfr hap hB2 ho1 f5 hw5 hg5
    go_wp2_with (fail)
    rw [← HW5.out, ← HG5.out]
    refine HPu.out.mono ?_
    rintro en w6 ⟨v6, rfl, hown, hfr⟩
    obtain ⟨n6, hn6⟩ : ∃ x, x = ([1] ++ enc d : List UInt8).length := ⟨_, rfl⟩
    have hn6b : n6 ≤ 11 := by have := (enc_len d).2; rw [hn6, List.length_append]; simp; omega
    rw [← hn6] at hown
    obtain ⟨A6, c6, rfl, y1, y2, _, y3, _⟩ := hown.form
    have HPi := hide (putI_any A6 n6 c6 w6.heap.size ([1] ++ enc d) x w6 hn6.symm y1 y2 (by omega) (Nat.le_refl _) y3 HXi.out.1 HXi.out.2)
    have HF46 := hide (HF45.out.tr hfr)
    have HN6 := hide hn6
    unfold maxLen at y2
    clear hown hfr hn6 y3 HPu HF45
    go_wp2_with (fail)
    refine HPi.out.mono ?_
    rintro en w7 ⟨v7, rfl, hown, hfr⟩
    obtain ⟨X, hX⟩ : ∃ X, X = ([1] ++ enc d : List UInt8) ++ enc (zz x) := ⟨_, rfl⟩
    obtain ⟨n7, hn7⟩ : ∃ y, y = X.length := ⟨_, rfl⟩
    rw [← hX, ← hn7] at hown
    have hn7b : n7 ≤ 21 := by have := (enc_len (zz x)).2; rw [hn7, hX, List.length_append, ← HN6.out]; omega
    have HO7 := hide hown
    have HF47 := hide (HF46.out.tr hfr)
    have HX := hide hX
    have HN7 := hide hn7
    have HPn := hide (fun W => putU_any none 0 0 0 [] ln W rfl (Nat.le_refl _) (Nat.zero_le _) (by omega) (Nat.zero_le _) (fun j u hu => by simp [by8] at hu) (by omega))
    obtain ⟨el, hel⟩ : ∃ y, y = (enc ln).length := ⟨_, rfl⟩
    have hel10 := (enc_len ln).2
    rw [← hel] at hel10
    have HEl := hide hel
    have b1 : (n7 + el) * 1 ≤ 140737488355328 := by omega
    have b2 : n7 + el ≤ maxLen := by unfold maxLen; omega
    obtain ⟨base, hbase⟩ : ∃ y, y = w6.heap.size := ⟨_, rfl⟩
    rw [← hbase] at HO7
    have hz7 : base ≤ w7.heap.size := by rw [hbase]; exact hfr.size
    have hbase4 : w4.heap.size ≤ base := by rw [hbase]; exact HF46.out.size
    clear hown hfr hX hn7 hel hbase HPi HF46
    go_wp2_with (first
      | (go_at_call 38; refine (HPn.out _).mono ?_; rintro en w8 ⟨v8, rfl, hown, hfr⟩; rw [List.nil_append, ← HEl.out] at hown; obtain ⟨A8, c8, rfl, p1, p2, _, p3, _⟩ := hown.form; have HS8 := hide (Src.ofRd (P := Try.prog) (size := 1) w8 Try.underlying33 A8 el c8 (by8 (enc ln)) (by rw [by8_length, ← HEl.out, Nat.mul_one]) (by omega) p3 (by8_one _)); have HO8 := hide (HO7.out.fr0 hfr); have HF48 : Hid (Fr No w4 w8) := hide (HF47.out.tr hfr); have hz8 : base ≤ w8.heap.size := Nat.le_trans hz7 hfr.size; unfold maxLen at p2; clear hown hfr p3)
      | (at_builtin; refine wpList_append_gen _ rfl (.tmp 83) (.tmp 87) 33 33 rfl base 5 i5 (.int .u8 0) 1 1 Try.underlying33 hi5 hz5 hsz5 hby5 rfl v7 n7 (by8 X) rfl HO8.out _ el (by8 (enc ln)) rfl HS8.out b1 b2 hz8 ?_; intro v9 w9 hown hfr hat; have HO9 := hide hown; have HZb := hide (Nat.le_trans hz8 hfr.size); have HF49 : Hid (Fr No w4 w9) := hide (HF48.out.own hfr (fun g hg => .inl (Nat.le_trans hbase4 (HO8.out.lt g hg).1))); clear hown hfr hat))
    obtain ⟨Y, hY⟩ : ∃ Y, Y = X ++ enc ln := ⟨_, rfl⟩
    obtain ⟨n9, hn9⟩ : ∃ y, y = n7 + el := ⟨_, rfl⟩
    have hYl : Y.length = n9 := by rw [hY, List.length_append, ← HN7.out, ← HEl.out, hn9]
    have ho9 := HO9.out
    rw [← hn9, ← by8_append, ← hY] at ho9
    have HY := hide hY
    have HYl := hide hYl
    have hn9b : n9 ≤ 31 := by omega
    have HOd := hide (ho9.fr0 (Fr.refl No w9).drew)
    have HLd := hide ((HOL.out.fr0 HF49.out).fr0 (Fr.refl No w9).drew)
    obtain ⟨_, _, eL, _, _, _, zL, _⟩ := HLd.out.form
    cases eL
    have HSL := hide (Src.ofRd (P := Try.prog) (size := 1) w9.drew Try.underlying33 AL ln cL (by8 L) (by rw [by8_length, ← HLnn.out, Nat.mul_one]) (by omega) zL (by8_one _))
    have b1 : (n9 + ln) * 1 ≤ 140737488355328 := by omega
    have b2 : n9 + ln ≤ maxLen := by unfold maxLen; omega
    have hz9 : base ≤ w9.drew.heap.size := by
      have h1 := (HOd.out.lt)
      have h2 := HF49.out.size
      have h3 := HZb.out
      exact h3
    have hR := treeP_le dims (n - k) ((sortP d l).drop k) (by rw [List.length_drop, sortP_len, HLn.out]) (by omega) (fun p hp => by
      have := List.mem_of_mem_drop hp
      rw [← HMap.out] at this
      obtain ⟨q, hq, rfl⟩ := List.mem_map.1 this
      rw [(HH3.out.ok q hq).1]; exact hdm.2)
    obtain ⟨R, hRe⟩ : ∃ x, x = treeP dims ((sortP d l).drop k) := ⟨_, rfl⟩
    rw [← hRe] at hR
    obtain ⟨rn, hrn⟩ : ∃ x, x = R.length := ⟨_, rfl⟩
    rw [← hrn] at hR
    have HRe := hide hRe
    have HRn := hide hrn
    have b3 : (n9 + ln + rn) * 1 ≤ 140737488355328 := by omega
    have b4 : n9 + ln + rn ≤ maxLen := by unfold maxLen; omega
    have HRc := hide (fun (W : World) (f : Fr No w4 W) => HIh.out (n - k) (by omega) (ad.add (k * 2)) G (off + k * 2) (c - k) (ps2.drop k) W (by rw [HAd.out]; exact add_lit2 G off k) (HH5.out.fr f (fun h => h) (fun _ _ h => h)))
    have HGb : Hid (G < base) := hide (Nat.lt_of_lt_of_le HH5.out.arr.lt hbase4)
    clear hY hn9 hYl ho9 zL hRe hrn
    have HT : Hid (treeP dims (ps.map (·.1)) = Y ++ L ++ R) := hide (by
      rw [← HLl.out, treeP_cut (dims := dims) (d := d) (n := k) (s := sortP d l) (by rw [HLn.out]; exact h8) HD.out rfl (by rw [HLn.out]; exact HK.out), ← HLe.out, ← HLnn.out, ← HXe.out, ← HRe.out, HY.out, HX.out]
      simp)
    have HTl : Hid ((Y ++ L ++ R).length = n9 + ln + rn) := hide (by rw [List.length_append, List.length_append, HYl.out, ← HLnn.out, ← HRn.out])
    have HBw : Hid (w.heap.size ≤ base) := hide (Nat.le_trans HF4.out.size hbase4)
    have hkle : k ≤ n := by omega
    have hck : ¬ c = k := by omega
    go_region_law (first
      | (refine step_append_any rfl (.tmp 91) (.tmp 96) 33 33 rfl base 5 i5 (.int .u8 0) 1 1 Try.underlying33 hi5 hz5 hsz5 hby5 rfl v10 (n9 + ln) (by8 Y ++ by8 L) rfl HO11.out _ rn (by8 R) rfl HS11.out b3 b4 hz11 ?_; intro v12 w12 hown hfr; have HO12 := hide hown; have HF12 := hide hfr; clear hown hfr)
      | (go_simp; go_at_call 36; refine (HRc.out _ HF410.out).mono ?_; rintro en w11 ⟨⟨vR, rfl, hown⟩, hfr, hap⟩; rw [HMd.out, ← HRe.out, ← HRn.out] at hown; obtain ⟨AR, cR, rfl, r1, r2, _, r3, _⟩ := hown.form; have HS11 := hide (Src.ofRd (P := Try.prog) (size := 1) w11 Try.underlying33 AR rn cR (by8 R) (by rw [by8_length, ← HRn.out, Nat.mul_one]) (by omega) r3 (by8_one _)); have HO11 := hide (HO10.out.fr hfr (fun g hg e => by have e : g = G := e; have := (HO10.out.lt g hg).1; have := HGb.out; omega)); have HF11 := hide hfr; have HA11 := hide hap; have hz11 := Nat.le_trans HZ10.out hfr.size; clear hown hfr hap r3)
      | (refine step_append_any rfl (.tmp 89) (.tmp 90) 33 33 rfl base 5 i5 (.int .u8 0) 1 1 Try.underlying33 hi5 hz5 hsz5 hby5 rfl v9 n9 (by8 Y) rfl HOd.out _ ln (by8 L) rfl HSL.out b1 b2 hz9 ?_; intro v10 w10 hown hfr; have HO10 := hide hown; have HF410 : Hid (Fr No w4 w10) := hide (HF49.out.drew.own hfr (fun g hg => .inl (Nat.le_trans hbase4 (HOd.out.lt g hg).1))); have HZ10 := hide (Nat.le_trans hz9 hfr.size); clear hown hfr))
    all_goals (go_wp2; go_ret)
    all_goals (
      refine ⟨⟨v12, rfl, ?_⟩, ?_, ?_⟩
      · rw [HT.out, by8_append, by8_append, HTl.out]
        exact HO12.out.lower HBw.out
      · exact ((HF4.out.trans HF410.out (fun i hi e => e.elim)).trans HF11.out (fun i hi e => e)).own HF12.out (fun g hg => .inl (Nat.le_trans HBw.out (HO11.out.lt g hg).1))
      · refine ((HA4.out.tr (Apart2.fr0 HF410.out HH5.out.arr.lt)).tr (HA11.out.wide (by omega) (by omega))).fr HF12.out (fun e => ?_) ?_
        · have := (HO11.out.lt G e).1; have := HGb.out; omega
        · exact Nat.lt_of_lt_of_le (Nat.lt_of_lt_of_le HH5.out.arr.lt HF410.out.size) HF11.out.size)
end Go.Proofs.Ytpopbkcbplmcaaa
