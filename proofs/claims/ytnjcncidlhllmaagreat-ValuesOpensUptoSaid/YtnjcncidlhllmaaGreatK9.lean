/- Several texts in one: KitI64, PutU, VaF, VaRF. -/
import Derived.Test.YtnjcncidlhllmaaGreatK8
namespace Go.Proofs.YtnjcncidlhllmaaGreat
set_option linter.unusedVariables false
set_option linter.unusedSimpArgs false
open Go.RowKit

set_option maxRecDepth 100000 in
set_option maxHeartbeats 800000 in
theorem sameI64_any (A B : Option Addr) (n c m d b1 b2 : Nat) (xs ys : List Int) (w : World) (hx : xs.length = n) (hy : ys.length = m) (hn : n ≤ c) (hc : c ≤ maxLen) (hm : m ≤ d) (hd : d ≤ maxLen) (hr : Rd w b1 A (iz .i64 xs)) (hs : Rd w b2 B (iz .i64 ys)) :
    Calls Tryz.prog 31 #[.slice A n c, .slice B m d] w (RetQ (.bool (decide (xs = ys))) w) := by
  unfold maxLen at hc hd
  have HX := hide hx
  have HY := hide hy
  have HR := hide hr
  have HS := hide hs
  clear hx hy hr hs
  by_cases hnm : n = m
  · subst hnm
    have hb : ((n : Int) != n) = false := by simp
    go_enter Tryz.func31, Tryz.ntmps31
    go_wp2
    go_loopw [5] (fun i wr => ∃ k nq : Nat, k ≤ n ∧ i = .int .i64 k ∧ wr = w.drewN nq ∧ Hid (xs.take k = ys.take k)) (fun i _ => n - (intOf i).toNat)
    case atStart => exact ⟨0, 0, by omega, rfl, rfl, hide rfl⟩
    case round =>
      obtain ⟨k, nq, hk, rfl, rfl, HT⟩ := hrel
      by_cases hlt : k < n
      · have h1 : k < xs.length := by rw [HX.out]; exact hlt
        have h2 : k < ys.length := by rw [HY.out]; exact hlt
        obtain ⟨ad, rfl, _, hcell⟩ := HR.out.intAt h1
        obtain ⟨bd, rfl, _, hcell2⟩ := HS.out.intAt h2
        have HE := hide (fun he => take_succ_int h1 h2 HT.out he)
        have HN := hide (show xs.getD k 0 ≠ ys.getD k 0 → xs ≠ ys from fun h e => h (by rw [e]))
        clear h1 h2
        generalize xs.getD k 0 = x at hcell HE HN
        generalize ys.getD k 0 = y at hcell2 HE HN
        by_cases he : x = y
        · subst he
          have HE' := hide (HE.out rfl)
          clear HE
          have hb2 : (x != x) = false := by simp
          go_wp2
          go_quiet (fail)
          go_wp2
          go_round
          case rel => exact ⟨k + 1, _, by omega, by go_num, rfl, HE'⟩
          case measure => simp [intOf]; omega
        · have hb2 : (x != y) = true := by simpa using he
          have HF := hide (HN.out he)
          clear HN HE he
          go_wp2
          go_quiet (fail)
          go_wp2
          go_ret
          exact ⟨by simp [HF.out], _, World.drewN_drewN _ _ _⟩
      · have HF := hide (show xs = ys by
          have h := HT.out
          rwa [List.take_of_length_le (by rw [HX.out]; omega), List.take_of_length_le (by rw [HY.out]; omega)] at h)
        go_wp2
        go_ret
        exact ⟨by simp [HF.out], _, rfl⟩
  · have hb : ((n : Int) != m) = true := by simp; omega
    have HF := hide (show xs ≠ ys from fun e => hnm (by rw [← HX.out, ← HY.out, e]))
    go_enter Tryz.func31, Tryz.ntmps31
    go_wp2
    go_ret
    exact ⟨by simp [HF.out], 0, rfl⟩

theorem Tryz.infoKI64 : (Tryz.prog.info? 2).map (fun i => (i.zero, i.size, i.bytes)) = some (some (.int .i64 0), 1, 8) := by kernel_rfl
def GivesLentI64 (w : World) (xs : List Int) (en : Ending) (w' : World) : Prop :=
  ∃ A c, en = .returned (.slice A xs.length c) ∧ Own w' w.heap.size 2 1 (.slice A (xs.length + 1) c) (xs.length + 1) (iz .i64 (xs ++ [-7171])) ∧ Fr No w w'

set_option maxRecDepth 100000 in
set_option maxHeartbeats 800000 in
theorem lentI64_any (A : Option Addr) (n c B : Nat) (xs : List Int) (w : World) (hl : xs.length = n) (hb : (n + 1) * 8 ≤ 140737488355328) (hr : Rd w B A (iz .i64 xs)) :
    Calls Tryz.prog 37 #[.slice A n c] w (GivesLentI64 w xs) := by
  obtain ⟨i0, hi, hz, hsz, hby⟩ := info_parts Tryz.infoKI64
  have HS := hide (Src.ofRd (P := Tryz.prog) (size := 1) w Tryz.underlying41 A n c (iz .i64 xs) (by rw [iz_len, hl]; omega) (by omega) hr (iz_one _ _))
  have HL := hide hl
  clear hr hl
  have b1 : (0 + n) * 8 ≤ 140737488355328 := by omega
  have b2 : 0 + n ≤ maxLen := by unfold maxLen; omega
  have c1 : (0 + n + 1) * 8 ≤ 140737488355328 := by omega
  have c2 : 0 + n + 1 ≤ maxLen := by unfold maxLen; omega
  have HO0 := hide (Own.nil w w.heap.size 2 1)
  go_enter Tryz.func37, Tryz.ntmps37
  go_wp2_with (first
    | (at_builtin; refine wpList_append_gen _ rfl (.tmp 4) (.tmp 5) 41 41 rfl w.heap.size 2 i0 (.int .i64 0) 1 8 Tryz.underlying41 hi hz hsz hby rfl (.slice none 0 0) 0 [] rfl HO0.out _ n (iz .i64 xs) rfl HS.out b1 b2 (Nat.le_refl _) ?_; intro v1 w1 hown hfr hat; have HO1 := hide hown; have HF1 : Hid (Fr No w w1) := hide ((Fr.refl No w).own hfr (fun g h => by cases h)); have hz1 := hfr.size; clear hown hfr hat)
    | (at_builtin; refine wpList_append_gen _ rfl (.tmp 7) (.tmp 8) 41 41 rfl w.heap.size 2 i0 (.int .i64 0) 1 8 Tryz.underlying41 hi hz hsz hby rfl v1 (0 + n) _ rfl (HO1.out.fr0 ((Fr.refl No w1).alloc (.cells #[.int .i64 (-7171)] 2))) _ 1 [.int .i64 (-7171)] rfl (Src.one (P := Tryz.prog) w1 (e := 2) Tryz.underlying41 (.int .i64 (-7171)) rfl) c1 c2 (by simp; omega) ?_; intro v2 w2 hown hfr hat; obtain ⟨A2, k2, rfl, hc1, hc2, _⟩ := hown.form; unfold maxLen at hc2; have HO2 := hide hown; have HF2 : Hid (Fr No w w2) := hide ((HF1.out.alloc _).own hfr (fun g hg => .inl (HO1.out.lt g hg).1)); clear hown hfr hat))
  go_ret
  refine ⟨A2, k2, ?_, ?_, HF2.out⟩
  · rw [HL.out]; first | rfl | simp
  · have h := HO2.out
    rw [HL.out, iz_append]
    simpa [iz] using h
end Go.Proofs.YtnjcncidlhllmaaGreat
namespace Go.Proofs.YtnjcncidlhllmaaGreat
set_option linter.unusedVariables false
set_option linter.unusedSimpArgs false
open Go.RowKit

set_option maxHeartbeats 400000 in
theorem formU_any (u : Int) (w : World) : Calls Tryz.prog 73 #[.int .u64 u] w (Ret (.int .u64 u) w) := by
  go_enter Tryz.func73, Tryz.ntmps73
  go_wp2
  go_ret
  exact ⟨rfl, rfl⟩

set_option maxRecDepth 100000 in
set_option maxHeartbeats 1000000 in
theorem putU_loop (A : Option Addr) (n c B : Nat) (bs : List UInt8) (u : Nat) (x : Int) (w : World) (hl : bs.length = n) (hn : n ≤ c) (hc : c ≤ maxLen) (hb : n ≤ 140737488350000) (hB : B ≤ w.heap.size) (hr : Rd w B A (by8 bs)) (hu : u < 18446744073709551616)
    (hform : ∀ W, Calls Tryz.prog 73 #[.int .u64 x] W (Ret (.int .u64 u) W)) :
    Calls Tryz.prog 72 #[.slice A n c, .int .u64 x, .func (.func 73) #[] #[]] w (GivesB w (bs ++ enc u)) := by
  have H := hide (clone_any A n c B bs w hl hn hc (by omega) hB hr)
  have HFo := hide hform
  have HL := hide hl
  clear hr hl hform
  obtain ⟨i0, hi, hz, hsz, hby⟩ := info_parts Tryz.info5
  go_enter Tryz.func72, Tryz.ntmps72
  go_wp2_with (first | (go_at_call 77; refine H.out.mono ?_; rintro en w1 ⟨v1, rfl, hown, hfr⟩; have HO := hide hown; have HF := hide hfr; clear hown hfr) | (go_at_call 73; refine (HFo.out _).mono ?_; rintro en w2 ⟨rfl, rfl⟩))
  clear H HFo
  go_loopw [7, 8] (fun v y wr => ∃ (f k : Nat) (done : List UInt8), y = .int .u64 (k : Nat) ∧ Hid (Own wr w.heap.size 5 1 v done.length (by8 done)) ∧ Hid (done ++ encF f k = bs ++ enc u) ∧ Hid (Fr No w wr) ∧ Hid (f ≤ 9 ∧ done.length ≤ n + 9 - f ∧ k * 2 ^ (7 * (9 - f)) < 18446744073709551616)) (fun _ y _ => (intOf y).toNat)
  case atStart => exact ⟨9, u, bs, rfl, HO, hide rfl, HF, hide ⟨Nat.le_refl _, by rw [HL.out]; omega, by simpa using hu⟩⟩
  case round =>
    obtain ⟨f, k, done, rfl, HOw, HE, HFr, HB⟩ := hrel
    clear HO HF HL
    obtain ⟨hf9, hdl, hk⟩ := HB.out
    have hgw := HFr.out.size
    by_cases hbig : 127 < k
    · obtain ⟨f', rfl⟩ : ∃ f', f = f' + 1 := by
        cases f with
        | zero => exfalso; have e : (2 : Nat) ^ (7 * (9 - 0)) = 9223372036854775808 := by decide
                  rw [e] at hk; omega
        | succ f' => exact ⟨f', rfl⟩
      have HK := hide hk; clear hk
      have ho := or_128 k
      have HD := hide (show encF (f' + 1) k = UInt8.ofNat (k % 128 + 128) :: encF f' (k / 128) by rw [encF, if_pos hbig])
      generalize UInt8.ofNat (k % 128 + 128) = b at ho HD
      have HS := hide (Src.one (P := Tryz.prog) wr (e := 5) Tryz.underlying25 (.int .u8 b.toNat) rfl)
      have HOw' := hide (HOw.out.fr0 ((Fr.refl No wr).alloc (.cells #[.int .u8 b.toNat] 5)))
      have b1 : (done.length + 1) * 1 ≤ 140737488355328 := by omega
      have b2 : done.length + 1 ≤ maxLen := by unfold maxLen; omega
      have b3 : w.heap.size ≤ (wr.alloc (.cells #[.int .u8 b.toNat] 5)).heap.size := by simp; omega
      have HR := hide (show Own wr w.heap.size 5 1 u7 done.length (by8 done) → ∀ k, u7.ownBlock = some k → w.heap.size ≤ k from fun h k hk => (h.lt k hk).1)
      go_wp2_with (at_builtin; refine wpList_append_gen _ rfl (.tmp 18) (.tmp 22) 25 25 rfl w.heap.size 5 i0 (.int .u8 0) 1 1 Tryz.underlying25 hi hz hsz hby rfl u7 done.length (by8 done) rfl HOw'.out _ 1 [.int .u8 b.toNat] rfl HS.out b1 b2 b3 ?_; intro v' w' hown hfr hat; have HOn := hide hown; have HFn := hide hfr; clear hown hfr hat)
      go_roundw
      case rel =>
        refine ⟨f', k / 128, done ++ [b], by go_num, hide (by simpa [by8] using HOn.out), hide ?_, hide ((HFr.out.alloc _).own HFn.out (fun g hg => .inl (HOw.out.lt g hg).1)), hide ⟨by omega, by simp; omega, ?_⟩⟩
        · rw [← HE.out, HD.out]; simp
        · have e : 7 * (9 - f') = 7 * ((9 - (f' + 1)) + 1) := by omega
          rw [e, pow7, ← Nat.mul_assoc]
          exact Nat.lt_of_le_of_lt (Nat.mul_le_mul_right _ (by omega)) HK.out
      case measure => simp [intOf]; omega
    · obtain ⟨b, rfl⟩ : ∃ b : UInt8, k = b.toNat := ⟨UInt8.ofNat k, (ofNat_toNat (by omega)).symm⟩
      have HD := hide (show encF f b.toNat = [b] by cases f with
        | zero => simp [encF]
        | succ f => rw [encF, if_neg hbig]; simp)
      clear hk
      have HS := hide (Src.one (P := Tryz.prog) wr (e := 5) Tryz.underlying25 (.int .u8 b.toNat) rfl)
      have HOw' := hide (HOw.out.fr0 ((Fr.refl No wr).alloc (.cells #[.int .u8 b.toNat] 5)))
      have b1 : (done.length + 1) * 1 ≤ 140737488355328 := by omega
      have b2 : done.length + 1 ≤ maxLen := by unfold maxLen; omega
      have b3 : w.heap.size ≤ (wr.alloc (.cells #[.int .u8 b.toNat] 5)).heap.size := by simp; omega
      go_wp2_with (first | (at_builtin; refine wpList_append_gen _ rfl (.tmp 24) (.tmp 27) 25 25 rfl w.heap.size 5 i0 (.int .u8 0) 1 1 Tryz.underlying25 hi hz hsz hby rfl u7 done.length (by8 done) rfl HOw'.out _ 1 [.int .u8 b.toNat] rfl HS.out b1 b2 b3 ?_; intro v' w' hown hfr hat; obtain ⟨A1, c1, rfl, hc1, hc2, _⟩ := hown.form; have HOn := hide hown; have HFn := hide hfr; clear hown hfr hat) | (go_at_call 74; refine (clip_any _ _ _ _ hc1 hc2).mono ?_; rintro en w2 ⟨rfl, rfl⟩))
      go_ret
      refine ⟨_, rfl, ?_, (HFr.out.alloc _).own HFn.out (fun g hg => .inl (HOw.out.lt g hg).1)⟩
      rw [← HE.out, HD.out, by8_append, List.length_append]
      exact HOn.out.clip

theorem putU_any (A : Option Addr) (n c B : Nat) (bs : List UInt8) (u : Nat) (w : World) (hl : bs.length = n) (hn : n ≤ c) (hc : c ≤ maxLen) (hb : n ≤ 140737488350000) (hB : B ≤ w.heap.size) (hr : Rd w B A (by8 bs)) (hu : u < 18446744073709551616) :
    Calls Tryz.prog 44 #[.slice A n c, .int .u64 u] w (GivesB w (bs ++ enc u)) := by
  have H := hide (putU_loop A n c B bs u u w hl hn hc hb hB hr hu (fun W => formU_any _ W))
  clear hr hl
  go_enter Tryz.func44, Tryz.ntmps44
  go_wp2_with (go_at_call 72; refine H.out.mono ?_; rintro en w1 ⟨v1, rfl, hown, hfr⟩; have HO := hide hown; have HF := hide hfr; clear hown hfr)
  go_ret
  exact ⟨_, rfl, HO.out, HF.out⟩

end Go.Proofs.YtnjcncidlhllmaaGreat
namespace Go.Proofs.YtnjcncidlhllmaaGreat
set_option linter.unusedVariables false
set_option linter.unusedSimpArgs false
open Go.RowKit

/-- two slices of one type that share no block: behind an append onto the one. -/
theorem own_two {w w' : World} {b e s n6 : Nat} {v5 v5' v6 : Value} {x6 : List Value} (h6 : Own w b e s v6 n6 x6) (hd : ∀ k, v5.ownBlock = some k → v6.ownBlock ≠ some k)
    (hc : (v5'.ownBlock = v5.ownBlock ∧ Fr (fun k => v5.ownBlock = some k) w w') ∨ (v5'.ownBlock = some w.heap.size ∧ Fr No w w')) :
    Own w' b e s v6 n6 x6 ∧ (∀ k, v5'.ownBlock = some k → v6.ownBlock ≠ some k) ∧ (∀ S, (∀ k, v5.ownBlock = some k → b ≤ k) → ∀ w0, w0.heap.size ≤ b → Fr S w0 w → Fr S w0 w') := by
  rcases hc with ⟨e1, f⟩ | ⟨e1, f⟩
  · refine ⟨h6.fr f (fun k hk h => hd k h hk), fun k hk => hd k (e1 ▸ hk), fun S hb w0 h0 f0 => f0.trans f (fun i hi h => ?_)⟩
    have := hb i h
    omega
  · refine ⟨h6.fr0 f, fun k hk h => ?_, fun S hb w0 h0 f0 => f0.trans f (fun i hi h => h.elim)⟩
    rw [e1] at hk
    have := (h6.lt k h).2
    injection hk with hk
    omega
theorem putV_le {l : List Int} (h : InI l) : (putR l).length ≤ 1036 * ((l.length + 127) / 128) := by
  have h1 := catU_le h (allC l.length)
  rw [catU_all] at h1
  have h2 : (allC l.length).length = (l.length + 127) / 128 := by simp [allC, chunks]
  rw [h2] at h1
  exact h1
def bitU (rows : Rw) (i : Nat) : List UInt8 := (bitN rows i).map UInt8.ofNat
theorem bitU_len (rows : Rw) (i : Nat) : (bitU rows i).length = (rows.length + 7) / 8 := by rw [bitU, List.length_map, bitN_len]
theorem bitU_zero (rows : Rw) {m : Nat} (h : (rows.length + 7) / 8 = m) : List.replicate m (Value.int .u8 0) = by8 (bitU rows 0) := by
  subst h
  simp [bitU, bitN, by8]
theorem bitU_at {rows : Rw} {i q : Nat} (h : q < (rows.length + 7) / 8) : (by8 (bitU rows i))[q]? = some (.int .u8 (((bitN rows i).getD q 0 : Nat) : Int)) ∧ (bitN rows i).getD q 0 < 256 := by
  have hl : q < (bitN rows i).length := by rw [bitN_len]; exact h
  have hlt := bitN_lt rows i _ (List.getElem_mem hl)
  have e : (bitN rows i).getD q 0 = (bitN rows i)[q] := by rw [List.getD, List.getElem?_eq_getElem hl]; rfl
  rw [e]
  refine ⟨?_, hlt⟩
  simp only [by8, bitU, List.map_map, List.getElem?_map, List.getElem?_eq_getElem hl, Option.map_some, Function.comp_apply]
  rw [UInt8.toNat_ofNat_of_lt' (by simpa using hlt)]
theorem bitU_set {rows : Rw} {i : Nat} (he : rows.getD i [] ≠ []) (hi : i < rows.length) :
    (by8 (bitU rows i)).set (i / 8) (.int .u8 (((bitN rows i).getD (i / 8) 0 ||| 2 ^ (i % 8) : Nat) : Int)) = by8 (bitU rows (i + 1)) := by
  have hlt := or_pow_lt (i := i) (bitU_at (rows := rows) (i := i) (q := i / 8) (by omega)).2
  rw [bitU, bitU, bitN, if_neg he, List.map_set, by8, by8, List.map_set]
  congr 2
  rw [UInt8.toNat_ofNat_of_lt' (by simpa using hlt)]
theorem bitU_same {rows : Rw} {i : Nat} (he : rows.getD i [] = []) : bitU rows (i + 1) = bitU rows i := by rw [bitU, bitU, bitN, if_pos he]
theorem bitU_all (rows : Rw) : bitU rows rows.length = bitsV rows := rfl
theorem allV_take_le {rows : Rw} (h : okV rows) (i : Nat) : (allV (rows.take i)).length ≤ 1048576 := allV_le ⟨by have := h.1; rw [List.length_take]; omega, fun l hl => h.2 l (List.mem_of_mem_take hl)⟩
theorem lensV_take_le {rows : Rw} (h : okV rows) (i : Nat) : (lensV (rows.take i)).length ≤ 16384 := by
  rw [lensV_len]
  have h1 := filV_le (rows.take i)
  have := h.1
  rw [List.length_take] at h1
  omega
theorem make_bits (k : Nat) (hk : k ≤ 16384) (W : World) : (Instr.makeSlice 25 (.int .i64 (k : Nat)) (.int .i64 (k : Nat))).run Tryz.prog W = .ok (.slice (some ⟨W.heap.size, 0, none⟩) k k) (W.alloc (.cells (madeCells #[.int .u8 0] k) 5)) := by
  obtain ⟨i0, hi, hz, hsz, hby⟩ := info_parts Tryz.info5
  have h := run_make (P := Tryz.prog) W 25 5 i0 (.int .u8 0) Tryz.underlying25 hi hz .i64 .i64 (k : Int) (k : Int) (by omega) (by omega) (by rw [hby]; omega) (by omega)
  rw [Int.toNat_natCast, hsz, Nat.mul_one] at h
  exact h
theorem ISl.at {w : World} {B : Nat} {A : Option Addr} {rows : Rw} (h : ISl w B A rows) {i : Nat} (hi : i < rows.length) : ∃ ad Ai ci, A = some ad ∧ ad.block < B ∧ w.cell? (ad.add i) = some (.slice Ai (rows.getD i []).length ci) ∧ (rows.getD i []).length ≤ ci ∧ ci ≤ maxLen ∧ Rd w B Ai (iz .i64 (rows.getD i [])) := by
  have e : rows[i]? = some (rows.getD i []) := by rw [List.getD, List.getElem?_eq_getElem hi]; rfl
  obtain ⟨ad, Ai, ci, e, h1, h2, h3, h4, h5⟩ := h i _ e
  exact ⟨ad, Ai, ci, e, h1, h2, h3, h4, h5⟩
set_option maxRecDepth 100000 in
set_option maxHeartbeats 4000000 in
theorem formv_any (A : Option Addr) (n c B : Nat) (rows : Rw) (w : World) (hl : rows.length = n) (hok : okV rows) (hi : ∀ l ∈ rows, InI l) (hn : n ≤ c) (hc : c ≤ maxLen) (hB : B ≤ w.heap.size) (hr : ISl w B A rows) :
    Calls Tryz.prog 36 #[.slice A n c] w (GivesB w (formV rows)) := by
  obtain ⟨i0, hi0, hz, hsz, hby⟩ := info_parts Tryz.info5
  obtain ⟨i1, hi1, hz1, hsz1, hby1⟩ := info_parts Tryz.infoKI64
  unfold maxLen at hc
  have hnb : n ≤ 16384 := by rw [← hl]; exact hok.1
  have HR := hide hr
  have HL := hide hl
  have HI := hide hi
  have HOK := hide hok
  obtain ⟨mm, hmm⟩ : ∃ m, m = (n + 7) / 8 := ⟨_, rfl⟩
  have e1 : ((n : Int) + 7) / 8 = (mm : Int) := by omega
  have hmb : mm ≤ 2048 := by omega
  have HMM := hide hmm
  have HP := hide (putU_any none 0 0 0 [] n w rfl (Nat.le_refl _) (Nat.zero_le _) (by decide) (Nat.zero_le _) (Rd.nil _ _ _) (by omega))
  have hmk := make_bits mm (by omega)
  clear hr hl hi hok hmm
  go_enter Tryz.func36, Tryz.ntmps36
  go_wp2_with (go_at_call 44; refine HP.out.mono ?_; rintro en w1 ⟨v3, rfl, hown, hfr⟩; have HO3 := hide hown; have HF1 := hide hfr; clear hown hfr)
  obtain ⟨w2, hw2⟩ : ∃ w2, w2 = w1.alloc (.cells (madeCells #[.int .u8 0] mm) 5) := ⟨_, rfl⟩
  have ho2 := made_own w1 mm 5 (.int .u8 0) _ rfl (by unfold maxLen; omega)
  rw [← hw2, bitU_zero rows (by rw [HL.out]; exact HMM.out.symm)] at ho2
  have hf2 : Fr No w1 w2 := by rw [hw2]; exact (Fr.refl No w1).alloc _
  have hz1 := HF1.out.size
  have hz2 := hf2.size
  have HO3' : Hid (Own w2 w.heap.size 5 1 v3 (enc n).length (by8 (enc n))) := hide (HO3.out.fr0 hf2)
  have H3G : Hid (∀ k, v3.ownBlock = some k → k ≠ w1.heap.size) := hide (fun k hk e => by have := (HO3.out.lt k hk).2; omega)
  obtain ⟨G, hG⟩ : ∃ G, G = w1.heap.size := ⟨_, rfl⟩
  rw [← hG] at ho2 H3G
  have hGw : w.heap.size ≤ G := by omega
  have HO4 : Hid (Own w2 w.heap.size 5 1 (.slice (some ⟨G, 0, none⟩) mm mm) mm (by8 (bitU rows 0))) := hide (ho2.lower hGw)
  have HF2 : Hid (Fr No w w2) := hide (HF1.out.trans hf2 (fun _ _ h => h.elim))
  rw [← hw2, ← hG]
  clear ho2 hf2 hz1 hz2 hmk hw2 hG e1
  go_loopw [5, 6, 7, 8, 20] (fun v5 v6 _ _ i wr => ∃ k n5 n6 : Nat, k ≤ n ∧ i = .int .i64 (k : Nat) ∧ n5 ≤ k ∧ n6 ≤ 64 * k ∧ Hid (Fr No w wr) ∧ Hid (Own wr w.heap.size 5 1 v3 (enc n).length (by8 (enc n))) ∧ Hid (Own wr w.heap.size 5 1 (.slice (some ⟨G, 0, none⟩) mm mm) mm (by8 (bitU rows k))) ∧
      Hid (Own wr w.heap.size 2 1 v5 n5 (iz .i64 (lensV (rows.take k)))) ∧ Hid (Own wr w.heap.size 2 1 v6 n6 (iz .i64 (allV (rows.take k)))) ∧ Hid (∀ k, v5.ownBlock = some k → v6.ownBlock ≠ some k)) (fun _ _ _ _ i _ => n - (intOf i).toNat)
  case atStart => exact ⟨0, 0, 0, by omega, by go_num, by omega, by omega, HF2, HO3', HO4, hide (Own.nil _ _ _ _), hide (Own.nil _ _ _ _), hide (fun k hk => (by cases hk))⟩
  case round =>
    obtain ⟨k, n5, n6, hk, rfl, h5b, h6b, HFr, HB3, HB4, HB5, HB6, HD⟩ := hrel
    by_cases hlt : k < n
    · have hk1 : k < rows.length := by rw [HL.out]; exact hlt
      obtain ⟨ad, Ai, ci, rfl, hadb, hcell, hc1, hc2, hrd⟩ := HR.out.at hk1
      have hcell := HFr.out.cell hcell (fun h => h)
      have HRI := hide hrd
      have hli : (rows.getD k []).length ≤ 64 := by
        refine HOK.out.2 _ ?_
        rw [List.getD, List.getElem?_eq_getElem hk1]
        exact List.getElem_mem hk1
      obtain ⟨li, hlid⟩ : ∃ l, l = (rows.getD k []).length := ⟨_, rfl⟩
      rw [← hlid] at hcell hc1 hli
      have HLI := hide hlid
      unfold maxLen at hc2
      clear hlid hrd hk1 hadb
      by_cases h0 : 0 < li
      · obtain ⟨q8, hq8⟩ : ∃ q, q = k / 8 := ⟨_, rfl⟩
        obtain ⟨s8, hs8⟩ : ∃ q, q = k % 8 := ⟨_, rfl⟩
        have e2 : (k : Int) / 8 = (q8 : Int) := by omega
        have e3 : (k : Int) % 8 = (s8 : Int) := by omega
        have hs7 : s8 ≤ 7 := by omega
        have hqm : q8 < mm := by have := HMM.out; omega
        obtain ⟨hs1, hs2, hs3⟩ := HB4.out.put hqm
        obtain ⟨ha1, ha2⟩ := bitU_at (rows := rows) (i := k) (q := q8) (by rw [HL.out, ← HMM.out]; exact hqm)
        rw [ha1] at hs1
        have HV := hide (one_val hs7 ha2)
        have HQ8 := hide hq8
        have HS8 := hide hs8
        have HP4 := hide hs3
        obtain ⟨old, hold⟩ : ∃ o, o = (bitN rows k).getD q8 0 := ⟨_, rfl⟩
        rw [← hold] at hs1 HV ha2
        have HOld := hide hold
        clear hold hs3 ha1 hq8 hs8
        go_wp2
        go_region
        obtain ⟨w3, hw3⟩ : ∃ w3, w3 = (wr.setCell ⟨G, q8, none⟩ (.int .u8 (bits .or .u8 (old : Int) (2 ^ s8 % 256)))).drew := ⟨_, rfl⟩
        rw [← hw3]
        have f3 : Fr (Is G) wr w3 := by rw [hw3]; exact ((Fr.refl (Is G) wr).setCell (p := ⟨G, q8, none⟩) (fun _ => rfl) _).drew
        have he : rows.getD k [] ≠ [] := fun e => by have := HLI.out; rw [e] at this; simp at this; omega
        have HF3 : Hid (Fr No w w3) := hide (HFr.out.trans f3 (fun j hj e => by have e : j = G := e; omega))
        have H33 : Hid (Own w3 w.heap.size 5 1 v3 (enc n).length (by8 (enc n))) := hide (HB3.out.fr f3 (fun j hj e => H3G.out j hj e))
        have H34 : Hid (Own w3 w.heap.size 5 1 (.slice (some ⟨G, 0, none⟩) mm mm) mm (by8 (bitU rows (k + 1)))) := hide (by
          have h := HP4.out (.int .u8 ((old ||| 2 ^ s8 : Nat) : Int))
          rw [HOld.out, HQ8.out, HS8.out, bitU_set he (by rw [HL.out]; exact hlt), ← HQ8.out, ← HS8.out, ← HOld.out, ← HV.out] at h
          rw [hw3]
          exact h.fr0 ((Fr.refl No _).drew))
        have H35 : Hid (Own w3 w.heap.size 2 1 u5 n5 (iz .i64 (lensV (rows.take k)))) := hide (HB5.out.fr f3 (fun j hj e => HB4.out.apart HB5.out (by decide) G rfl (by have e : j = G := e; rw [← e]; exact hj)))
        have H36 : Hid (Own w3 w.heap.size 2 1 u6 n6 (iz .i64 (allV (rows.take k)))) := hide (HB6.out.fr f3 (fun j hj e => HB4.out.apart HB6.out (by decide) G rfl (by have e : j = G := e; rw [← e]; exact hj)))
        clear hw3 f3 HP4 HB3 HB4 HB5 HB6 HV hs1 hs2 HQ8 HS8 HOld HFr
        have hz3 := HF3.out.size
        have HE := hide he
        have b1 : (n5 + 1) * 8 ≤ 140737488355328 := by omega
        have b2 : n5 + 1 ≤ maxLen := by unfold maxLen; omega
        have c1 : (n6 + li) * 8 ≤ 140737488355328 := by omega
        have c2 : n6 + li ≤ maxLen := by unfold maxLen; omega
        have HS := hide (Src.one (P := Tryz.prog) w3 (e := 2) Tryz.underlying41 (.int .i64 ((li : Int) - 1)) rfl)
        have h35 := H35.out.fr0 ((Fr.refl No w3).alloc (.cells #[.int .i64 ((li : Int) - 1)] 2))
        have h36 := H36.out.fr0 ((Fr.refl No w3).alloc (.cells #[.int .i64 ((li : Int) - 1)] 2))
        have h33 := H33.out.fr0 ((Fr.refl No w3).alloc (.cells #[.int .i64 ((li : Int) - 1)] 2))
        have h34 := H34.out.fr0 ((Fr.refl No w3).alloc (.cells #[.int .i64 ((li : Int) - 1)] 2))
        have HA5 := hide h35
        have T5 : Hid (∀ (v' : Value) (w' : World), _ → _) := hide (fun v' w' hc => own_two (v5' := v') (w' := w') h36 HD.out hc)
        have T53 : Hid (∀ (v' : Value) (w' : World), _ → _) := hide (fun v' w' hc => own_two (v5' := v') (w' := w') h33 (h35.apart h33 (by decide)) hc)
        have T54 : Hid (∀ (v' : Value) (w' : World), _ → _) := hide (fun v' w' hc => own_two (v5' := v') (w' := w') h34 (h35.apart h34 (by decide)) hc)
        have HBL : Hid (∀ j, u5.ownBlock = some j → w.heap.size ≤ j) := hide (fun j hj => (h35.lt j hj).1)
        have HF3a : Hid (Fr No w (w3.alloc (.cells #[.int .i64 ((li : Int) - 1)] 2))) := hide (HF3.out.alloc _)
        have hz3a : w.heap.size ≤ (w3.alloc (.cells #[.int .i64 ((li : Int) - 1)] 2)).heap.size := by simp; omega
        clear h33 h34 h35 h36 he
        go_wp2_with (first
          | (at_builtin; refine wpList_append_two _ rfl (.tmp 38) (.tmp 42) 41 41 rfl w.heap.size 2 i1 (.int .i64 0) 1 8 Tryz.underlying41 hi1 hz1 hsz1 hby1 rfl u5 n5 _ rfl HA5.out _ 1 [.int .i64 ((li : Int) - 1)] rfl HS.out b1 b2 hz3a ?_; intro v5 w4 hown hat; have HO5 := hide hown; obtain ⟨t1, t2, t3⟩ := T5.out v5 w4 hat; have HO6 := hide t1; have HD4 := hide t2; have HO3 := hide (T53.out v5 w4 hat).1; have HO4 := hide (T54.out v5 w4 hat).1; have HF4 := hide (t3 No HBL.out w (Nat.le_refl _) HF3a.out); have hz4 := HF4.out.size; have HS4 := hide (Src.ofRd (P := Tryz.prog) (size := 1) w4 Tryz.underlying41 Ai li ci (iz .i64 (rows.getD k [])) (by rw [iz_len, ← HLI.out]; omega) (by omega) (HRI.out.fr0 HF4.out) (iz_one _ _)); have T6 : Hid (∀ (v' : Value) (w' : World), _ → _) := hide (fun v' w' hc => own_two (v5' := v') (w' := w') HO5.out (fun j hj e => HD4.out j e hj) hc); have T63 : Hid (∀ (v' : Value) (w' : World), _ → _) := hide (fun v' w' hc => own_two (v5' := v') (w' := w') HO3.out (HO6.out.apart HO3.out (by decide)) hc); have T64 : Hid (∀ (v' : Value) (w' : World), _ → _) := hide (fun v' w' hc => own_two (v5' := v') (w' := w') HO4.out (HO6.out.apart HO4.out (by decide)) hc); have HBL6 : Hid (∀ j, u6.ownBlock = some j → w.heap.size ≤ j) := hide (fun j hj => (HO6.out.lt j hj).1); clear hown hat t1 t2 t3)
          | (at_builtin; refine wpList_append_two _ rfl (.tmp 44) (.tmp 45) 41 41 rfl w.heap.size 2 i1 (.int .i64 0) 1 8 Tryz.underlying41 hi1 hz1 hsz1 hby1 rfl u6 n6 _ rfl HO6.out _ li (iz .i64 (rows.getD k [])) rfl HS4.out c1 c2 hz4 ?_; intro v6 w5 hown hat; have HQ6 := hide hown; obtain ⟨t1, t2, t3⟩ := T6.out v6 w5 hat; have HQ5 := hide t1; have HD5 := hide t2; have HQ3 := hide (T63.out v6 w5 hat).1; have HQ4 := hide (T64.out v6 w5 hat).1; have HF5 := hide (t3 No HBL6.out w (Nat.le_refl _) HF4.out); clear hown hat t1 t2 t3))
        go_roundw
        case rel =>
          refine ⟨k + 1, n5 + 1, n6 + li, by omega, by go_num, by omega, by omega, HF5, HQ3, HQ4, hide ?_, hide ?_, hide (fun j hj e => HD5.out j e hj)⟩
          · have h := HQ5.out
            rw [lensV_step (by rw [HL.out]; exact hlt), if_neg HE.out, iz_append, ← HLI.out]
            exact h
          · have h := HQ6.out
            rw [allV_step (by rw [HL.out]; exact hlt), iz_append]
            exact h
        case measure => simp [intOf]; omega
      · obtain rfl : li = 0 := by omega
        have he : rows.getD k [] = [] := List.length_eq_zero_iff.1 HLI.out.symm
        clear h0
        go_wp2
        go_roundw
        case rel =>
          refine ⟨k + 1, n5, n6, by omega, by go_num, by omega, by omega, HFr, HB3, hide (by rw [bitU_same he]; exact HB4.out), hide ?_, hide ?_, HD⟩
          · rw [lensV_step (by rw [HL.out]; exact hlt), if_pos he, List.append_nil]
            exact HB5.out
          · rw [allV_step (by rw [HL.out]; exact hlt), he, List.append_nil]
            exact HB6.out
        case measure => simp [intOf]; omega
    · obtain rfl : k = n := by omega
      have htk : rows.take k = rows := List.take_of_length_le (by rw [HL.out]; omega)
      rw [htk] at HB5 HB6
      have HTB : bitU rows k = bitsV rows := by rw [← HL.out]; exact bitU_all rows
      rw [HTB] at HB4
      have hn5 : (lensV rows).length = n5 := by have := HB5.out.1; rw [iz_len] at this; omega
      have hn6 : (allV rows).length = n6 := by have := HB6.out.1; rw [iz_len] at this; omega
      have hbm : (bitsV rows).length = mm := by rw [bitsV_len, HL.out]; exact HMM.out.symm
      have hp1 := putV_le (lensV_in HOK.out)
      have hp2 := putV_le (allV_in HI.out)
      rw [hn5] at hp1
      rw [hn6] at hp2
      obtain ⟨p1, hp1e⟩ : ∃ p, p = (putR (lensV rows)).length := ⟨_, rfl⟩
      obtain ⟨p2, hp2e⟩ : ∃ p, p = (putR (allV rows)).length := ⟨_, rfl⟩
      obtain ⟨en, hen⟩ : ∃ p, p = (enc k).length := ⟨_, rfl⟩
      have hel := (enc_len k).2
      rw [← hp1e] at hp1
      rw [← hp2e] at hp2
      rw [← hen] at hel HB3
      have HN5 := hide hn5
      have HN6 := hide hn6
      have HP1E := hide hp1e
      have HP2E := hide hp2e
      have HEN := hide hen
      have HBM := hide hbm
      have hp1b : p1 ≤ 140000 := by omega
      have hp2b : p2 ≤ 9000000 := by omega
      have hzr := HFr.out.size
      have h5k : n5 ≤ 16384 := by omega
      have h6k : n6 ≤ 1048576 := by omega
      obtain ⟨A5, c5, rfl, q5, q5m, _, q5r, _⟩ := HB5.out.form
      obtain ⟨A6, c6, rfl, q6, q6m, _, q6r, _⟩ := HB6.out.form
      have HR5 := hide q5r
      have HR6 := hide q6r
      have H53 := hide (HB3.out.apart HB5.out (by decide))
      have H63 := hide (HB3.out.apart HB6.out (by decide))
      have HSF := hide (Src.ofRd (P := Tryz.prog) (size := 1) wr Tryz.underlying25 (some ⟨G, 0, none⟩) mm mm (by8 (bitsV rows)) (by rw [by8_length, HBM.out]; omega) (by omega) HB4.out.rd (by8_one _))
      unfold maxLen at q5m q6m
      clear htk HTB hn5 hn6 hp1e hp2e hen hbm hp1 hp2 hlt q5r q6r
      have a1 : (en + mm) * 1 ≤ 140737488355328 := by omega
      have a2 : en + mm ≤ maxLen := by unfold maxLen; omega
      have b1 : (en + mm + p1) * 1 ≤ 140737488355328 := by omega
      have b2 : en + mm + p1 ≤ maxLen := by unfold maxLen; omega
      have c1 : (en + mm + p1 + p2) * 1 ≤ 140737488355328 := by omega
      have c2 : en + mm + p1 + p2 ≤ maxLen := by unfold maxLen; omega
      go_wp2_with (first
        | (at_builtin; refine wpList_append_gen _ rfl (.tmp 55) (.tmp 57) 25 25 rfl w.heap.size 5 i0 (.int .u8 0) 1 1 Tryz.underlying25 hi0 hz hsz hby rfl v8 (en + mm + p1) _ rfl HO9.out _ p2 (by8 (putR (allV rows))) rfl HS9.out c1 c2 hz9 ?_; intro v10 w10 hown hfr hat; have HO10 := hide hown; have HF10 : Hid (Fr No w w10) := hide (HF9.out.own hfr (fun g hg => .inl (HO9.out.lt g hg).1)); clear hown hfr hat)
        | (have mk := HP6; clear mk; go_at_call 67; refine HP6.out.mono ?_; rintro e9 w9 ⟨v9, rfl, hown, hfr⟩; rw [← HP2E.out] at hown; have HO9 := hide (HO8.out.fr0 hfr); have HF9 : Hid (Fr No w w9) := hide (HF8.out.trans hfr (fun _ _ h => h.elim)); have hz9 := HF9.out.size; obtain ⟨A9, c9, rfl, x1, x2, _, x3, _⟩ := hown.form; have HS9 := hide (Src.ofRd (P := Tryz.prog) (size := 1) w9 Tryz.underlying25 A9 p2 c9 (by8 (putR (allV rows))) (by rw [by8_length, ← HP2E.out]; omega) (by omega) x3 (by8_one _)); unfold maxLen at x2; clear hown hfr x3)
        | (at_builtin; refine wpList_append_gen _ rfl (.tmp 51) (.tmp 53) 25 25 rfl w.heap.size 5 i0 (.int .u8 0) 1 1 Tryz.underlying25 hi0 hz hsz hby rfl v6 (en + mm) _ rfl HO7.out _ p1 (by8 (putR (lensV rows))) rfl HS7.out b1 b2 hz7 ?_; intro v8 w8 hown hfr hat; have HO8 := hide hown; have HF8 : Hid (Fr No w w8) := hide (HF7.out.own hfr (fun g hg => .inl (HO7.out.lt g hg).1)); have hz8 := HF8.out.size; have HP6 := hide (put_any A6 n6 c6 w8.heap.size (allV rows) w8 HN6.out (allV_in HI.out) q6 (by unfold maxLen; omega) h6k (Nat.le_refl _) ((HQ6.out.fr hfr (fun j hj e => HO7.out.apart HQ6.out (by decide) j e hj)).rd)); clear hown hfr hat)
        | (go_at_call 67; refine HP5.out.mono ?_; rintro e7 w7 ⟨v7, rfl, hown, hfr⟩; rw [← HP1E.out] at hown; have HO7 := hide (HO6.out.fr0 hfr); have HF7 : Hid (Fr No w w7) := hide (HF6.out.trans hfr (fun _ _ h => h.elim)); have hz7 := HF7.out.size; have HQ6 := hide (HG6.out.fr0 hfr); obtain ⟨A7, c7, rfl, x1, x2, _, x3, _⟩ := hown.form; have HS7 := hide (Src.ofRd (P := Tryz.prog) (size := 1) w7 Tryz.underlying25 A7 p1 c7 (by8 (putR (lensV rows))) (by rw [by8_length, ← HP1E.out]; omega) (by omega) x3 (by8_one _)); unfold maxLen at x2; clear hown hfr x3)
        | (at_builtin; refine wpList_append_gen _ rfl (.tmp 48) (.tmp 49) 25 25 rfl w.heap.size 5 i0 (.int .u8 0) 1 1 Tryz.underlying25 hi0 hz hsz hby rfl v3 en _ rfl HB3.out _ mm (by8 (bitsV rows)) rfl HSF.out a1 a2 hzr ?_; intro v6 w6 hown hfr hat; have HO6 := hide hown; have HF6 : Hid (Fr No w w6) := hide (HFr.out.own hfr (fun g hg => .inl (HB3.out.lt g hg).1)); have HG6 := hide (HB6.out.fr hfr (fun j hj e => H63.out j e hj)); have HP5 := hide (put_any A5 n5 c5 w6.heap.size (lensV rows) w6 HN5.out (lensV_in HOK.out) q5 (by unfold maxLen; omega) (by omega) (Nat.le_refl _) ((HB5.out.fr hfr (fun j hj e => H53.out j e hj)).rd)); clear hown hfr hat))
      go_ret
      refine ⟨v10, rfl, ?_, HF10.out⟩
      have h := HO10.out
      rw [HEN.out, HP1E.out, HP2E.out, ← HBM.out, ← by8_append, ← by8_append, ← by8_append] at h
      have e : formV rows = enc k ++ bitsV rows ++ putR (lensV rows) ++ putR (allV rows) := by rw [formV, HL.out]
      rw [e]
      simp only [List.length_append] at h ⊢
      exact h
end Go.Proofs.YtnjcncidlhllmaaGreat
namespace Go.Proofs.YtnjcncidlhllmaaGreat
set_option linter.unusedVariables false
set_option linter.unusedSimpArgs false
open Go.RowKit

set_option maxRecDepth 100000 in
set_option maxHeartbeats 4000000 in
theorem refForm_any (A : Option Addr) (n c B : Nat) (rows : Rw) (w : World) (hl : rows.length = n) (hok : okV rows) (hi : ∀ l ∈ rows, InI l) (hn : n ≤ c) (hc : c ≤ maxLen) (hB : B ≤ w.heap.size) (hr : ISl w B A rows) :
    Calls Tryz.prog 89 #[.slice A n c] w (GivesB w (formV rows)) := by
  obtain ⟨i0, hi0, hz, hsz, hby⟩ := info_parts Tryz.info5
  obtain ⟨i1, hi1, hz1, hsz1, hby1⟩ := info_parts Tryz.infoKI64
  unfold maxLen at hc
  have hnb : n ≤ 16384 := by rw [← hl]; exact hok.1
  have HR := hide hr
  have HL := hide hl
  have HI := hide hi
  have HOK := hide hok
  obtain ⟨mm, hmm⟩ : ∃ m, m = (n + 7) / 8 := ⟨_, rfl⟩
  have e1 : ((n : Int) + 7) / 8 = (mm : Int) := by omega
  have hmb : mm ≤ 2048 := by omega
  have HMM := hide hmm
  have HP := hide (refUint_any n w (by omega))
  have hmk := make_bits mm (by omega)
  clear hr hl hi hok hmm
  go_enter Tryz.func89, Tryz.ntmps89
  go_wp2_with (go_at_call 92; refine HP.out.mono ?_; rintro en w1 ⟨v3, rfl, hown, hfr⟩; have HO3 := hide hown; have HF1 := hide hfr; clear hown hfr)
  obtain ⟨w2, hw2⟩ : ∃ w2, w2 = w1.alloc (.cells (madeCells #[.int .u8 0] mm) 5) := ⟨_, rfl⟩
  have ho2 := made_own w1 mm 5 (.int .u8 0) _ rfl (by unfold maxLen; omega)
  rw [← hw2, bitU_zero rows (by rw [HL.out]; exact HMM.out.symm)] at ho2
  have hf2 : Fr No w1 w2 := by rw [hw2]; exact (Fr.refl No w1).alloc _
  have hz1 := HF1.out.size
  have hz2 := hf2.size
  have HO3' : Hid (Own w2 w.heap.size 5 1 v3 (enc n).length (by8 (enc n))) := hide (HO3.out.fr0 hf2)
  have H3G : Hid (∀ k, v3.ownBlock = some k → k ≠ w1.heap.size) := hide (fun k hk e => by have := (HO3.out.lt k hk).2; omega)
  obtain ⟨G, hG⟩ : ∃ G, G = w1.heap.size := ⟨_, rfl⟩
  rw [← hG] at ho2 H3G
  have hGw : w.heap.size ≤ G := by omega
  have HO4 : Hid (Own w2 w.heap.size 5 1 (.slice (some ⟨G, 0, none⟩) mm mm) mm (by8 (bitU rows 0))) := hide (ho2.lower hGw)
  have HF2 : Hid (Fr No w w2) := hide (HF1.out.trans hf2 (fun _ _ h => h.elim))
  rw [← hw2, ← hG]
  clear ho2 hf2 hz1 hz2 hmk hw2 hG e1
  go_loopw [5, 6, 7] (fun v5 v6 i wr => ∃ k n5 n6 : Nat, k ≤ n ∧ i = .int .i64 (k : Nat) ∧ n5 ≤ k ∧ n6 ≤ 64 * k ∧ Hid (Fr No w wr) ∧ Hid (Own wr w.heap.size 5 1 v3 (enc n).length (by8 (enc n))) ∧ Hid (Own wr w.heap.size 5 1 (.slice (some ⟨G, 0, none⟩) mm mm) mm (by8 (bitU rows k))) ∧
      Hid (Own wr w.heap.size 2 1 v5 n5 (iz .i64 (lensV (rows.take k)))) ∧ Hid (Own wr w.heap.size 2 1 v6 n6 (iz .i64 (allV (rows.take k)))) ∧ Hid (∀ k, v5.ownBlock = some k → v6.ownBlock ≠ some k)) (fun _ _ i _ => n - (intOf i).toNat)
  case atStart => exact ⟨0, 0, 0, by omega, by go_num, by omega, by omega, HF2, HO3', HO4, hide (Own.nil _ _ _ _), hide (Own.nil _ _ _ _), hide (fun k hk => (by cases hk))⟩
  case round =>
    obtain ⟨k, n5, n6, hk, rfl, h5b, h6b, HFr, HB3, HB4, HB5, HB6, HD⟩ := hrel
    by_cases hlt : k < n
    · have hk1 : k < rows.length := by rw [HL.out]; exact hlt
      obtain ⟨ad, Ai, ci, rfl, hadb, hcell, hc1, hc2, hrd⟩ := HR.out.at hk1
      have HCell := hide (fun W (f : Fr No w W) => f.cell hcell (fun h => h))
      have hcell := HFr.out.cell hcell (fun h => h)
      have HRI := hide hrd
      have hli : (rows.getD k []).length ≤ 64 := by
        refine HOK.out.2 _ ?_
        rw [List.getD, List.getElem?_eq_getElem hk1]
        exact List.getElem_mem hk1
      obtain ⟨li, hlid⟩ : ∃ l, l = (rows.getD k []).length := ⟨_, rfl⟩
      rw [← hlid] at hcell HCell hc1 hli
      have HLI := hide hlid
      unfold maxLen at hc2
      clear hlid hrd hk1 hadb
      by_cases h0 : 0 < li
      · obtain ⟨q8, hq8⟩ : ∃ q, q = k / 8 := ⟨_, rfl⟩
        obtain ⟨s8, hs8⟩ : ∃ q, q = k % 8 := ⟨_, rfl⟩
        have e2 : (k : Int) / 8 = (q8 : Int) := by omega
        have e3 : (k : Int) % 8 = (s8 : Int) := by omega
        have hs7 : s8 ≤ 7 := by omega
        have hqm : q8 < mm := by have := HMM.out; omega
        obtain ⟨hs1, hs2, hs3⟩ := HB4.out.put hqm
        obtain ⟨ha1, ha2⟩ := bitU_at (rows := rows) (i := k) (q := q8) (by rw [HL.out, ← HMM.out]; exact hqm)
        rw [ha1] at hs1
        have HV := hide (one_val hs7 ha2)
        have HQ8 := hide hq8
        have HS8 := hide hs8
        have HP4 := hide hs3
        obtain ⟨old, hold⟩ : ∃ o, o = (bitN rows k).getD q8 0 := ⟨_, rfl⟩
        rw [← hold] at hs1 HV ha2
        have HOld := hide hold
        clear hold hs3 ha1 hq8 hs8
        go_upto_region 10 with (fail)
        obtain ⟨w3, hw3⟩ : ∃ w3, w3 = wr.setCell ⟨G, q8, none⟩ (.int .u8 (bits .or .u8 (old : Int) (2 ^ s8 % 256))) := ⟨_, rfl⟩
        rw [← hw3]
        have f3 : Fr (Is G) wr w3 := by rw [hw3]; exact (Fr.refl (Is G) wr).setCell (p := ⟨G, q8, none⟩) (fun _ => rfl) _
        have he : rows.getD k [] ≠ [] := fun e => by have := HLI.out; rw [e] at this; simp at this; omega
        have HF3 : Hid (Fr No w w3) := hide (HFr.out.trans f3 (fun j hj e => by have e : j = G := e; omega))
        have H33 : Hid (Own w3 w.heap.size 5 1 v3 (enc n).length (by8 (enc n))) := hide (HB3.out.fr f3 (fun j hj e => H3G.out j hj e))
        have H34 : Hid (Own w3 w.heap.size 5 1 (.slice (some ⟨G, 0, none⟩) mm mm) mm (by8 (bitU rows (k + 1)))) := hide (by
          have h := HP4.out (.int .u8 ((old ||| 2 ^ s8 : Nat) : Int))
          rw [HOld.out, HQ8.out, HS8.out, bitU_set he (by rw [HL.out]; exact hlt), ← HQ8.out, ← HS8.out, ← HOld.out, ← HV.out] at h
          rw [hw3]
          exact h)
        have H35 : Hid (Own w3 w.heap.size 2 1 u5 n5 (iz .i64 (lensV (rows.take k)))) := hide (HB5.out.fr f3 (fun j hj e => HB4.out.apart HB5.out (by decide) G rfl (by have e : j = G := e; rw [← e]; exact hj)))
        have H36 : Hid (Own w3 w.heap.size 2 1 u6 n6 (iz .i64 (allV (rows.take k)))) := hide (HB6.out.fr f3 (fun j hj e => HB4.out.apart HB6.out (by decide) G rfl (by have e : j = G := e; rw [← e]; exact hj)))
        clear hw3 f3 HP4 HB3 HB4 HB5 HB6 HV hs1 hs2 HQ8 HS8 HOld HFr
        have hz3 := HF3.out.size
        have HE := hide he
        have b1 : (n5 + 1) * 8 ≤ 140737488355328 := by omega
        have b2 : n5 + 1 ≤ maxLen := by unfold maxLen; omega
        have c1 : (n6 + li) * 8 ≤ 140737488355328 := by omega
        have c2 : n6 + li ≤ maxLen := by unfold maxLen; omega
        have HS := hide (Src.one (P := Tryz.prog) w3 (e := 2) Tryz.underlying41 (.int .i64 ((li : Int) - 1)) rfl)
        have h35 := H35.out.fr0 ((Fr.refl No w3).alloc (.cells #[.int .i64 ((li : Int) - 1)] 2))
        have h36 := H36.out.fr0 ((Fr.refl No w3).alloc (.cells #[.int .i64 ((li : Int) - 1)] 2))
        have h33 := H33.out.fr0 ((Fr.refl No w3).alloc (.cells #[.int .i64 ((li : Int) - 1)] 2))
        have h34 := H34.out.fr0 ((Fr.refl No w3).alloc (.cells #[.int .i64 ((li : Int) - 1)] 2))
        have HA5 := hide h35
        have T5 : Hid (∀ (v' : Value) (w' : World), _ → _) := hide (fun v' w' hc => own_two (v5' := v') (w' := w') h36 HD.out hc)
        have T53 : Hid (∀ (v' : Value) (w' : World), _ → _) := hide (fun v' w' hc => own_two (v5' := v') (w' := w') h33 (h35.apart h33 (by decide)) hc)
        have T54 : Hid (∀ (v' : Value) (w' : World), _ → _) := hide (fun v' w' hc => own_two (v5' := v') (w' := w') h34 (h35.apart h34 (by decide)) hc)
        have HBL : Hid (∀ j, u5.ownBlock = some j → w.heap.size ≤ j) := hide (fun j hj => (h35.lt j hj).1)
        have HF3a : Hid (Fr No w (w3.alloc (.cells #[.int .i64 ((li : Int) - 1)] 2))) := hide (HF3.out.alloc _)
        have hz3a : w.heap.size ≤ (w3.alloc (.cells #[.int .i64 ((li : Int) - 1)] 2)).heap.size := by simp; omega
        have hcell3 := HCell.out w3 HF3.out
        clear h33 h34 h35 h36 he hcell
        go_wp2_with (first
          | (at_builtin; refine wpList_append_two _ rfl (.tmp 43) (.tmp 50) 41 41 rfl w.heap.size 2 i1 (.int .i64 0) 1 8 Tryz.underlying41 hi1 hz1 hsz1 hby1 rfl u5 n5 _ rfl HA5.out _ 1 [.int .i64 ((li : Int) - 1)] rfl HS.out b1 b2 hz3a ?_; intro v5 w4 hown hat; have HO5 := hide hown; obtain ⟨t1, t2, t3⟩ := T5.out v5 w4 hat; have HO6 := hide t1; have HD4 := hide t2; have HO3 := hide (T53.out v5 w4 hat).1; have HO4 := hide (T54.out v5 w4 hat).1; have HF4 := hide (t3 No HBL.out w (Nat.le_refl _) HF3a.out); have hz4 := HF4.out.size; have hcell4 := HCell.out w4 HF4.out; have HS4 := hide (Src.ofRd (P := Tryz.prog) (size := 1) w4 Tryz.underlying41 Ai li ci (iz .i64 (rows.getD k [])) (by rw [iz_len, ← HLI.out]; omega) (by omega) (HRI.out.fr0 HF4.out) (iz_one _ _)); have T6 : Hid (∀ (v' : Value) (w' : World), _ → _) := hide (fun v' w' hc => own_two (v5' := v') (w' := w') HO5.out (fun j hj e => HD4.out j e hj) hc); have T63 : Hid (∀ (v' : Value) (w' : World), _ → _) := hide (fun v' w' hc => own_two (v5' := v') (w' := w') HO3.out (HO6.out.apart HO3.out (by decide)) hc); have T64 : Hid (∀ (v' : Value) (w' : World), _ → _) := hide (fun v' w' hc => own_two (v5' := v') (w' := w') HO4.out (HO6.out.apart HO4.out (by decide)) hc); have HBL6 : Hid (∀ j, u6.ownBlock = some j → w.heap.size ≤ j) := hide (fun j hj => (HO6.out.lt j hj).1); clear hown hat t1 t2 t3)
          | (at_builtin; refine wpList_append_two _ rfl (.tmp 52) (.tmp 56) 41 41 rfl w.heap.size 2 i1 (.int .i64 0) 1 8 Tryz.underlying41 hi1 hz1 hsz1 hby1 rfl u6 n6 _ rfl HO6.out _ li (iz .i64 (rows.getD k [])) rfl HS4.out c1 c2 hz4 ?_; intro v6 w5 hown hat; have HQ6 := hide hown; obtain ⟨t1, t2, t3⟩ := T6.out v6 w5 hat; have HQ5 := hide t1; have HD5 := hide t2; have HQ3 := hide (T63.out v6 w5 hat).1; have HQ4 := hide (T64.out v6 w5 hat).1; have HF5 := hide (t3 No HBL6.out w (Nat.le_refl _) HF4.out); clear hown hat t1 t2 t3))
        go_roundw
        case rel =>
          refine ⟨k + 1, n5 + 1, n6 + li, by omega, by go_num, by omega, by omega, HF5, HQ3, HQ4, hide ?_, hide ?_, hide (fun j hj e => HD5.out j e hj)⟩
          · have h := HQ5.out
            rw [lensV_step (by rw [HL.out]; exact hlt), if_neg HE.out, iz_append, ← HLI.out]
            exact h
          · have h := HQ6.out
            rw [allV_step (by rw [HL.out]; exact hlt), iz_append]
            exact h
        case measure => simp [intOf]; omega
      · obtain rfl : li = 0 := by omega
        have he : rows.getD k [] = [] := List.length_eq_zero_iff.1 HLI.out.symm
        clear h0
        go_wp2
        go_roundw
        case rel =>
          refine ⟨k + 1, n5, n6, by omega, by go_num, by omega, by omega, HFr, HB3, hide (by rw [bitU_same he]; exact HB4.out), hide ?_, hide ?_, HD⟩
          · rw [lensV_step (by rw [HL.out]; exact hlt), if_pos he, List.append_nil]
            exact HB5.out
          · rw [allV_step (by rw [HL.out]; exact hlt), he, List.append_nil]
            exact HB6.out
        case measure => simp [intOf]; omega
    · obtain rfl : k = n := by omega
      have htk : rows.take k = rows := List.take_of_length_le (by rw [HL.out]; omega)
      rw [htk] at HB5 HB6
      have HTB : bitU rows k = bitsV rows := by rw [← HL.out]; exact bitU_all rows
      rw [HTB] at HB4
      have hn5 : (lensV rows).length = n5 := by have := HB5.out.1; rw [iz_len] at this; omega
      have hn6 : (allV rows).length = n6 := by have := HB6.out.1; rw [iz_len] at this; omega
      have hbm : (bitsV rows).length = mm := by rw [bitsV_len, HL.out]; exact HMM.out.symm
      have hp1 := putV_le (lensV_in HOK.out)
      have hp2 := putV_le (allV_in HI.out)
      rw [hn5] at hp1
      rw [hn6] at hp2
      obtain ⟨p1, hp1e⟩ : ∃ p, p = (putR (lensV rows)).length := ⟨_, rfl⟩
      obtain ⟨p2, hp2e⟩ : ∃ p, p = (putR (allV rows)).length := ⟨_, rfl⟩
      obtain ⟨en, hen⟩ : ∃ p, p = (enc k).length := ⟨_, rfl⟩
      have hel := (enc_len k).2
      rw [← hp1e] at hp1
      rw [← hp2e] at hp2
      rw [← hen] at hel HB3
      have HN5 := hide hn5
      have HN6 := hide hn6
      have HP1E := hide hp1e
      have HP2E := hide hp2e
      have HEN := hide hen
      have HBM := hide hbm
      have hp1b : p1 ≤ 140000 := by omega
      have hp2b : p2 ≤ 9000000 := by omega
      have hzr := HFr.out.size
      have h5k : n5 ≤ 16384 := by omega
      have h6k : n6 ≤ 1048576 := by omega
      obtain ⟨A5, c5, rfl, q5, q5m, _, q5r, _⟩ := HB5.out.form
      obtain ⟨A6, c6, rfl, q6, q6m, _, q6r, _⟩ := HB6.out.form
      have HR5 := hide q5r
      have HR6 := hide q6r
      have H53 := hide (HB3.out.apart HB5.out (by decide))
      have H63 := hide (HB3.out.apart HB6.out (by decide))
      have HSF := hide (Src.ofRd (P := Tryz.prog) (size := 1) wr Tryz.underlying25 (some ⟨G, 0, none⟩) mm mm (by8 (bitsV rows)) (by rw [by8_length, HBM.out]; omega) (by omega) HB4.out.rd (by8_one _))
      unfold maxLen at q5m q6m
      clear htk HTB hn5 hn6 hp1e hp2e hen hbm hp1 hp2 hlt q5r q6r
      have a1 : (en + mm) * 1 ≤ 140737488355328 := by omega
      have a2 : en + mm ≤ maxLen := by unfold maxLen; omega
      have b1 : (en + mm + p1) * 1 ≤ 140737488355328 := by omega
      have b2 : en + mm + p1 ≤ maxLen := by unfold maxLen; omega
      have c1 : (en + mm + p1 + p2) * 1 ≤ 140737488355328 := by omega
      have c2 : en + mm + p1 + p2 ≤ maxLen := by unfold maxLen; omega
      go_wp2_with (first
        | (at_builtin; refine wpList_append_gen _ rfl (.tmp 65) (.tmp 67) 25 25 rfl w.heap.size 5 i0 (.int .u8 0) 1 1 Tryz.underlying25 hi0 hz hsz hby rfl v8 (en + mm + p1) _ rfl HO9.out _ p2 (by8 (putR (allV rows))) rfl HS9.out c1 c2 hz9 ?_; intro v10 w10 hown hfr hat; have HO10 := hide hown; have HF10 : Hid (Fr No w w10) := hide (HF9.out.own hfr (fun g hg => .inl (HO9.out.lt g hg).1)); clear hown hfr hat)
        | (have mk := HP6; clear mk; go_at_call 120; refine HP6.out.mono ?_; rintro e9 w9 ⟨v9, rfl, hown, hfr⟩; rw [← HP2E.out] at hown; have HO9 := hide (HO8.out.fr0 hfr); have HF9 : Hid (Fr No w w9) := hide (HF8.out.trans hfr (fun _ _ h => h.elim)); have hz9 := HF9.out.size; obtain ⟨A9, c9, rfl, x1, x2, _, x3, _⟩ := hown.form; have HS9 := hide (Src.ofRd (P := Tryz.prog) (size := 1) w9 Tryz.underlying25 A9 p2 c9 (by8 (putR (allV rows))) (by rw [by8_length, ← HP2E.out]; omega) (by omega) x3 (by8_one _)); unfold maxLen at x2; clear hown hfr x3)
        | (at_builtin; refine wpList_append_gen _ rfl (.tmp 61) (.tmp 63) 25 25 rfl w.heap.size 5 i0 (.int .u8 0) 1 1 Tryz.underlying25 hi0 hz hsz hby rfl v6 (en + mm) _ rfl HO7.out _ p1 (by8 (putR (lensV rows))) rfl HS7.out b1 b2 hz7 ?_; intro v8 w8 hown hfr hat; have HO8 := hide hown; have HF8 : Hid (Fr No w w8) := hide (HF7.out.own hfr (fun g hg => .inl (HO7.out.lt g hg).1)); have hz8 := HF8.out.size; have HP6 := hide (refPut_any A6 n6 c6 w8.heap.size (allV rows) w8 HN6.out (allV_in HI.out) q6 (by unfold maxLen; omega) h6k (Nat.le_refl _) ((HQ6.out.fr hfr (fun j hj e => HO7.out.apart HQ6.out (by decide) j e hj)).rd)); clear hown hfr hat)
        | (go_at_call 120; refine HP5.out.mono ?_; rintro e7 w7 ⟨v7, rfl, hown, hfr⟩; rw [← HP1E.out] at hown; have HO7 := hide (HO6.out.fr0 hfr); have HF7 : Hid (Fr No w w7) := hide (HF6.out.trans hfr (fun _ _ h => h.elim)); have hz7 := HF7.out.size; have HQ6 := hide (HG6.out.fr0 hfr); obtain ⟨A7, c7, rfl, x1, x2, _, x3, _⟩ := hown.form; have HS7 := hide (Src.ofRd (P := Tryz.prog) (size := 1) w7 Tryz.underlying25 A7 p1 c7 (by8 (putR (lensV rows))) (by rw [by8_length, ← HP1E.out]; omega) (by omega) x3 (by8_one _)); unfold maxLen at x2; clear hown hfr x3)
        | (at_builtin; refine wpList_append_gen _ rfl (.tmp 58) (.tmp 59) 25 25 rfl w.heap.size 5 i0 (.int .u8 0) 1 1 Tryz.underlying25 hi0 hz hsz hby rfl v3 en _ rfl HB3.out _ mm (by8 (bitsV rows)) rfl HSF.out a1 a2 hzr ?_; intro v6 w6 hown hfr hat; have HO6 := hide hown; have HF6 : Hid (Fr No w w6) := hide (HFr.out.own hfr (fun g hg => .inl (HB3.out.lt g hg).1)); have HG6 := hide (HB6.out.fr hfr (fun j hj e => H63.out j e hj)); have HP5 := hide (refPut_any A5 n5 c5 w6.heap.size (lensV rows) w6 HN5.out (lensV_in HOK.out) q5 (by unfold maxLen; omega) (by omega) (Nat.le_refl _) ((HB5.out.fr hfr (fun j hj e => H53.out j e hj)).rd)); clear hown hfr hat))
      go_ret
      refine ⟨v10, rfl, ?_, HF10.out⟩
      have h := HO10.out
      rw [HEN.out, HP1E.out, HP2E.out, ← HBM.out, ← by8_append, ← by8_append, ← by8_append] at h
      have e : formV rows = enc k ++ bitsV rows ++ putR (lensV rows) ++ putR (allV rows) := by rw [formV, HL.out]
      rw [e]
      simp only [List.length_append] at h ⊢
      exact h
end Go.Proofs.YtnjcncidlhllmaaGreat
