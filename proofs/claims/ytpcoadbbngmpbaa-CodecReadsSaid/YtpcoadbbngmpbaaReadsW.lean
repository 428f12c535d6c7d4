/- The walk of CodecReads: it answers true; nothing that was there has changed. Condition: bytes that take less than 2^47 bytes. -/
import Derived.Test.YtpcoadbbngmpbaaOne3
namespace Go.Proofs.Ytpcoadbbngmpbaa
open Go.RowKit

/-- where a reader's bytes lie: from M on. -/
def Up0 (w : World) (g M : Nat) : Prop := ∀ A n c, w.cell? ⟨g, 0, none⟩ = some (.slice A n c) → ∀ k, (Value.slice A n c).ownBlock = some k → M ≤ k
def GivesRU (w : World) (bs : List UInt8) (en : Ending) (w' : World) : Prop := ∃ g, en = .returned (.pointer (some ⟨g, 0, none⟩)) ∧ w.heap.size ≤ g ∧ RD w' g bs 0 0 ∧ Fr No w w' ∧ Up0 w' g w.heap.size
theorem RD.below {S : Nat → Prop} {w w' : World} {g M : Nat} {bs : List UInt8} {a : Nat} {e : Int} (h : RD w g bs a e) (h0 : Up0 w g M) (hg : M ≤ g) (f : Fr S w w') (hS : ∀ k, M ≤ k → ¬ S k) : RD w' g bs a e := by
  obtain ⟨A, c, hh, h1, h2', h3, h4, ho⟩ := h
  refine ⟨A, c, f.blk hh (hS g hg), h1, h2', h3, h4, ho.fr f ?_⟩
  intro k hk
  exact hS k (h0 A bs.length c (by rw [cell_of_row w g 0 _ _ (0, 0) hh]; rfl) k hk)
theorem Up0.fr0 {w w' : World} {g M : Nat} {bs : List UInt8} {a : Nat} {e : Int} (h : Up0 w g M) (r : RD w g bs a e) (f : Fr No w w') : Up0 w' g M := by
  intro A n c hc k hk
  obtain ⟨_, _, ⟨z, _⟩, _⟩ := r.parts
  have := f.cell (p := ⟨g, 0, none⟩) z (fun h => h)
  rw [this] at hc
  exact h A n c (by rw [z, hc]) k hk

set_option maxRecDepth 100000 in
set_option maxHeartbeats 400000 in
theorem newReader_up (A : Option Addr) (n c B : Nat) (bs : List UInt8) (w : World) (hl : bs.length = n) (hn : n ≤ c) (hc : c ≤ maxLen) (hb : n ≤ 140737488355328) (hB : B ≤ w.heap.size) (hr : Rd w B A (by8 bs)) :
    Calls Try.prog 8 #[.slice A n c] w (GivesRU w bs) := by
  have H := hide (clone_any A n c B bs w hl hn hc hb hB hr)
  have HL := hide hl
  clear hr hl
  go_enter Try.func8, Try.ntmps8
  go_wp2_with (go_at_call 35; refine H.out.mono ?_; rintro en w' ⟨v, rfl, hown, hfr⟩; obtain ⟨A', c', rfl, hq1, hq2, hq3, hq4⟩ := hown.form; have HO := hide hown; have HF := hide hfr; clear hown hfr hq3 hq4)
  go_ret
  refine ⟨w'.heap.size, rfl, HF.out.size, ⟨A', c', heap_alloc_new w' _, hq1, hq2, Nat.zero_le _, by rw [HL.out]; exact hb, ?_⟩, HF.out.alloc _, ?_⟩
  · exact (HO.out.lower (Nat.zero_le _)).fr0 ((Fr.refl _ _).alloc _)
  · intro A2 n2 c2 hc2 k hk
    rw [cell_of_row _ w'.heap.size 0 _ _ (0, 0) (heap_alloc_new w' _)] at hc2
    have : Value.slice A' bs.length c' = .slice A2 n2 c2 := by simpa using hc2
    rw [← this] at hk
    exact (HO.out.lt k hk).1

theorem add_next (ad : Addr) (n : Nat) : ad.add (n + 1) = ⟨(ad.add n).block, (ad.add n).off + 1, none⟩ := by
  unfold Addr.add
  by_cases h : n = 0
  · subst h; simp
  · simp [h, Nat.add_assoc]
/-- rows of two integers that are read. -/
def Rd2 (w : World) (B : Nat) (A : Option Addr) (cs : List (Int × Int)) : Prop :=
  ∀ j u, cs[j]? = some u → ∃ ad, A = some ad ∧ ad.block < B ∧ w.cell? (ad.add (j * 2)) = some (.int .i64 u.1) ∧ w.cell? (ad.add (j * 2 + 1)) = some (.int .i64 u.2) ∧ (-9223372036854775808 ≤ u.2 ∧ u.2 ≤ 9223372036854775807)
theorem Rd2.fr {w w' : World} {B : Nat} {A : Option Addr} {cs : List (Int × Int)} {S : Nat → Prop} (h : Rd2 w B A cs) (f : Fr S w w') (hS : ∀ k, k < B → ¬ S k) : Rd2 w' B A cs := fun j u hu => by
  obtain ⟨ad, e, hb, hc, hd, hi⟩ := h j u hu
  exact ⟨ad, e, hb, f.cell hc (by rw [block_of_add]; exact hS _ hb), f.cell hd (by rw [block_of_add]; exact hS _ hb), hi⟩
theorem Rd2.fr0 {w w' : World} {B : Nat} {A : Option Addr} {cs : List (Int × Int)} (h : Rd2 w B A cs) (f : Fr No w w') : Rd2 w' B A cs := h.fr f (fun _ _ h => h)

set_option maxRecDepth 100000 in
set_option maxHeartbeats 3200000 in
theorem reads_any (A : Option Addr) (n c : Nat) (bs : List UInt8) (A' : Option Addr) (m d : Nat) (cs : List (Int × Int)) (W : World) (hl : bs.length = n) (hn : n ≤ c) (hc : c ≤ maxLen) (hb : n + 1 ≤ 140737488355328) (hr : Rd W W.heap.size A (by8 bs)) (hl2 : cs.length = m) (hm : m ≤ d) (hd : d ≤ maxLen) (hr2 : Rd2 W W.heap.size A' cs) :
    Calls Try.prog 6 #[.slice A n c, .slice A' m d] W (RetB true W) := by
  have HL := hide hl
  have HR := hide hr
  have HL2 := hide hl2
  have HR2 := hide hr2
  have HC := hide hc
  unfold maxLen at hd
  clear hr hr2 hl hl2
  go_enter Try.func6, Try.ntmps6
  go_wp2_with (first
    | (go_at_call 17; refine (lent8_any A n c _ bs W HL.out hb HR.out).mono ?_; rintro en w1 ⟨A1, c1, rfl, hown, hfr⟩; rw [HL.out] at hown ⊢; obtain ⟨_, hq1, hq2⟩ := hown.le; have O1 := hide hown; have F1 := hide hfr; clear hown hfr; have Q1 : Hid (Rd w1 w1.heap.size A1 (by8 bs)) := hide (by
        have h := O1.out.rd.tk n
        rw [← by8_take, List.take_append_of_le_length (by rw [HL.out]; omega), List.take_of_length_le (by rw [HL.out]; omega)] at h
        exact h))
    | (go_at_call 8; refine (newReader_up A1 n c1 _ bs w1 HL.out (by omega) hq2 (by omega) (Nat.le_refl _) Q1.out).mono ?_; rintro en w2 ⟨g, rfl, hg, hrd, hfr, hup⟩; have R2 := hide hrd; have F2 := hide hfr; have U2 := hide hup; clear hrd hfr hup)
    | (go_at_call 22; refine (kept8_any A1 A n c1 n c _ _ bs _ HL.out HL.out hq1 hq2 hn HC.out (O1.out.rd.fr0 (F2.out.alloc _)) (HR.out.fr0 (F1.out.tr (F2.out.alloc _)))).mono ?_; rintro en w4 ⟨rfl, nq, rfl⟩))
  have hW1 := F1.out.size
  have hW2 := F2.out.size
  have FA := hide (((Fr.refl No w2).alloc (.cells #[.slice A n c, .int .i64 0, .int .i64 0] 52)).drewN nq)
  have F3 := hide ((F1.out.tr F2.out).tr FA.out)
  have P3 : Hid (Pair ((w2.alloc (.cells #[.slice A n c, .int .i64 0, .int .i64 0] 52)).drewN nq) W.heap.size g w2.heap.size bs 0 0) :=
    ⟨R2.out.fr0 FA.out, ⟨A, c, by rw [HL.out]; exact heap_alloc_new w2 _, by rw [HL.out]; exact hn, HC.out, Nat.zero_le _, by rw [HL.out]; omega, HR.out.fr0 F3.out, by omega⟩, by omega⟩
  have U3 := hide (U2.out.fr0 R2.out FA.out)
  have O3 : Hid (Own ((w2.alloc (.cells #[.slice A n c, .int .i64 0, .int .i64 0] 52)).drewN nq) W.heap.size 5 1 (.slice A1 n c1) n (by8 bs)) := by
    have h := O1.out.cut (k := n) (c' := c1) (by omega) (Nat.le_refl _) (by omega)
    rw [Nat.mul_one, ← by8_take, List.take_append_of_le_length (by rw [HL.out]; omega), List.take_of_length_le (by rw [HL.out]; omega)] at h
    exact h.fr0 (F2.out.tr FA.out)
  have L1 : Hid (∀ q, (Value.slice A1 n c1).ownBlock = some q → W.heap.size ≤ q ∧ q < w1.heap.size) := fun q hq => O1.out.lt q (by cases A1 <;> exact hq)
  have hgh : w1.heap.size ≤ w2.heap.size := hW2
  clear FA O1 Q1 R2 U2 F1 F2
  generalize (w2.alloc (.cells #[.slice A n c, .int .i64 0, .int .i64 0] 52)).drewN nq = w3 at F3 P3 U3 O3 ⊢
  generalize w2.heap.size = h at P3 hgh hW2 ⊢
  unfold maxLen at hq2
  go_loopw [10] (fun i wr => ∃ (k : Nat) (zs : List Value), k ≤ n ∧ i = .int .i64 k ∧ Hid (Own wr W.heap.size 5 1 (.slice A1 n c1) n zs) ∧ Hid (zs.drop k = (by8 bs).drop k) ∧ Hid (Fr (fun q => (Value.slice A1 n c1).ownBlock = some q) w3 wr)) (fun i _ => n - (intOf i).toNat)
  case atStart => exact ⟨0, by8 bs, by omega, rfl, O3, hide rfl, hide (Fr.refl _ _)⟩
  case round =>
    obtain ⟨k, zs, hk, rfl, OW, HD, FW⟩ := hrel
    by_cases hlt : k < n
    · obtain ⟨q, rfl, hqb, hql, hcell, hfz, hset⟩ := OW.out.set hlt
      rw [at_drop HD.out (by rw [HL.out]; exact hlt)] at hcell
      have HSET := hide hset
      have HD' := hide (fun v => (drop_set_gt zs k v).trans (by rw [← List.drop_drop, HD.out, List.drop_drop]))
      clear hset
      generalize bs.getD k 0 = b at hcell
      go_wp2
      go_roundw
      case rel => exact ⟨k + 1, _, by omega, by go_num, hide (HSET.out _), hide (HD'.out _), hide (FW.out.setCell (p := ⟨q, k, none⟩) (fun _ => rfl) _)⟩
      case measure => simp [intOf]; omega
    · have P4 : Hid (Pair wr W.heap.size g h bs 0 0) := by
        refine ⟨P3.out.rd.below U3.out hg FW.out ?_, P3.out.rs.fr FW.out ?_ ?_, P3.out.hg⟩
        · intro k hk hq
          have := L1.out k hq
          omega
        · intro hq
          have := L1.out h hq
          omega
        · intro k hk hq
          have := L1.out k hq
          omega
      have F4 : Hid (Fr No W wr) := F3.out.trans FW.out (fun i hi hq => by have := L1.out i hq; omega)
      clear OW HD FW P3 F3 U3 O3
      go_wp2
      have hgW : W.heap.size ≤ g := by omega
      have hhW : W.heap.size ≤ h := by omega
      obtain ⟨w5, rfl⟩ : ∃ w5 : World, w5 = wr := ⟨_, rfl⟩
      clear L1
      go_loopw [11] (fun i wr => ∃ (k a : Nat) (e : Int), k ≤ m ∧ i = .int .i64 k ∧ Hid (Pair wr W.heap.size g h bs a e) ∧ Hid (Fr No W wr)) (fun i _ => m - (intOf i).toNat)
      case atStart => exact ⟨0, 0, 0, by omega, rfl, P4, F4⟩
      case round =>
        obtain ⟨k, a, e, hk, rfl, PW, FW⟩ := hrel
        clear P4 F4
        by_cases hlt : k < m
        · obtain ⟨⟨x, y⟩, hxy⟩ : ∃ u, cs[k]? = some u := ⟨_, List.getElem?_eq_getElem (by rw [HL2.out]; exact hlt)⟩
          obtain ⟨ad, rfl, hadb, hc1, hc2, hy1, hy2⟩ := (HR2.out.fr0 FW.out) k _ hxy
          simp only at hc1 hc2 hy1 hy2
          rw [add_next] at hc2
          have HAD := hide (HR2.out.fr0 FW.out)
          have HXY := hide hxy
          clear hxy
          by_cases he0 : e = 0
          · subst he0
            go_wp2_with (first
              | (go_at_call_of 26 (Value.pointer none); refine (oneN _ _ _).mono ?_; rintro en w7 ⟨rfl, hfr⟩; have F7 := hide (F6.out.tr hfr); have P7 := hide (P6.out.fr0 hfr); clear hfr)
              | (go_at_call 26; refine (oneA wr W.heap.size g h bs a 0 x y PW.out hy1 hy2).mono ?_; rintro en w6 ⟨rfl, a', e', ⟨hp, hf⟩, he⟩; clear he; have P6 := hide hp; have F6 := hide (FW.out.trans hf (fun i hi hq => by rcases hq with rfl | rfl <;> omega)); obtain ⟨ad', had', _, hd1, hd2, _⟩ := (HAD.out.fr hf (fun i hi hq => by rcases hq with rfl | rfl <;> omega)) k _ HXY.out; obtain rfl : ad = ad' := Option.some.inj had'; simp only at hd1 hd2; rw [add_next] at hd2; clear hp hf had')
              | (go_at_call 10; refine (left_any g bs a' e' _ P7.out.rd).mono ?_; rintro en w8 ⟨rfl, nq1, rfl⟩)
              | (go_at_call 27; refine (refLeft_any W.heap.size h bs a' e' _ (P7.out.rs.drewN nq1)).mono ?_; rintro en w9 ⟨rfl, nq2, rfl⟩)
              | (go_at_call 12; refine (err_any g bs a' e' _ (P7.out.rd.drewN _)).mono ?_; rintro en w10 ⟨rfl, rfl⟩)
              | (go_at_call 28; refine (refErr_any W.heap.size h bs a' e' _ (P7.out.rs.drewN _)).mono ?_; rintro en w11 ⟨rfl, rfl⟩)
              | (go_at_call 12; refine (err_any g bs a 0 _ PW.out.rd).mono ?_; rintro en w5 ⟨rfl, rfl⟩))
            go_roundw
            case rel => exact ⟨k + 1, a', e', by omega, by go_num, hide ⟨P7.out.rd.drewN _, P7.out.rs.drewN _, P7.out.hg⟩, hide (F7.out.drewN _)⟩
            case measure => simp [intOf]; omega
          · have hne : (e != 0) = true := by simpa using he0
            go_wp2_with (first
              | (go_at_call_of 26 (Value.pointer none); refine (oneN _ _ _).mono ?_; rintro en w7 ⟨rfl, hfr⟩; have F7 := hide (F6.out.tr hfr); have P7 := hide (P6.out.fr0 hfr); clear hfr)
              | (go_at_call 26; refine (oneA wr W.heap.size g h bs a e x y PW.out hy1 hy2).mono ?_; rintro en w6 ⟨rfl, a', e', ⟨hp, hf⟩, he⟩; obtain rfl : e = e' := (he he0).symm; clear he; have P6 := hide hp; have F6 := hide (FW.out.trans hf (fun i hi hq => by rcases hq with rfl | rfl <;> omega)); obtain ⟨ad', had', _, hd1, hd2, _⟩ := (HAD.out.fr hf (fun i hi hq => by rcases hq with rfl | rfl <;> omega)) k _ HXY.out; obtain rfl : ad = ad' := Option.some.inj had'; simp only at hd1 hd2; rw [add_next] at hd2; clear hp hf had')
              | (go_at_call 10; refine (left_any g bs a' e _ P7.out.rd).mono ?_; rintro en w8 ⟨rfl, nq1, rfl⟩)
              | (go_at_call 27; refine (refLeft_any W.heap.size h bs a' e _ (P7.out.rs.drewN nq1)).mono ?_; rintro en w9 ⟨rfl, nq2, rfl⟩)
              | (go_at_call 12; refine (err_any g bs a' e _ (P7.out.rd.drewN _)).mono ?_; rintro en w10 ⟨rfl, rfl⟩)
              | (go_at_call 28; refine (refErr_any W.heap.size h bs a' e _ (P7.out.rs.drewN _)).mono ?_; rintro en w11 ⟨rfl, rfl⟩)
              | (go_at_call 12; refine (err_any g bs a e _ PW.out.rd).mono ?_; rintro en w5 ⟨rfl, rfl⟩))
            go_roundw
            case rel => exact ⟨k + 1, a', e, by omega, by go_num, hide ⟨P7.out.rd.drewN _, P7.out.rs.drewN _, P7.out.hg⟩, hide (F7.out.drewN _)⟩
            case measure => simp [intOf]; omega
        · go_wp2_with (first
            | (go_at_call_of 10 (Value.pointer none); refine (left_nil _).mono ?_; rintro en w8 ⟨rfl, rfl⟩)
            | (go_at_call 10; refine (left_any g bs a e _ PW.out.rd).mono ?_; rintro en w8 ⟨rfl, nq1, rfl⟩)
            | (go_at_call 27; refine (refLeft_any W.heap.size h bs a e _ (PW.out.rs.drewN nq1)).mono ?_; rintro en w9 ⟨rfl, nq2, rfl⟩)
            | (go_at_call 12; refine (err_nil _).mono ?_; rintro en w10 ⟨rfl, rfl⟩)
            | (go_at_call 28; refine (refErr_nil _).mono ?_; rintro en w11 ⟨rfl, rfl⟩)
            | (go_at_call 13; refine (awake_any _).mono ?_; rintro en w12 ⟨rfl, hfr⟩; have F12 := hide ((FW.out.drewN _).tr hfr); clear hfr))
          go_ret
          exact ⟨rfl, F12.out⟩
end Go.Proofs.Ytpcoadbbngmpbaa
