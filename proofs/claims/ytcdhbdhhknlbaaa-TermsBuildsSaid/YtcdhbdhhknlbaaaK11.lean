/- Several texts in one: RefDiN, ROpP, RefNum, RefRd, RefCut, RefN, RefT, RefUu, ROpW. -/
import Derived.Test.YtcdhbdhhknlbaaaK10
import Derived.Deep.RegionWith
import Derived.StillTailTactics
import Derived.Deep.RegionHeld3
import Derived.Deep.DeepCutAuto
namespace Go.Proofs.Ytcdhbdhhknlbaaa
set_option linter.unusedVariables false
set_option linter.unusedSimpArgs false
open Go.RowKit

set_option maxRecDepth 100000 in
set_option maxHeartbeats 400000 in
theorem rterm_nil (o : Int) (w : World) : Calls Try.prog 58 #[.pointer none, .int .i64 o] w (Ret (sv []) w) := by
  by_cases h0 : o < 0
  · have d1 : decide (o < 0) = true := decide_eq_true h0
    go_enter Try.func58, Try.ntmps58
    go_wp2_with (fail)
    go_ret
    exact ⟨rfl, rfl⟩
  · have d1 : decide (o < 0) = false := decide_eq_false h0
    have d2 : decide (0 ≤ o) = true := decide_eq_true (by omega)
    have d3 : 0 ≤ o := by omega
    go_enter Try.func58, Try.ntmps58
    go_wp2_with (go_at_call 57; refine (rlen_nil _).mono ?_; rintro en w2 ⟨rfl, rfl⟩)
    go_ret
    exact ⟨rfl, rfl⟩
set_option maxRecDepth 100000 in
set_option maxHeartbeats 400000 in
theorem rval_nil (o : Int) (w : World) : Calls Try.prog 59 #[.pointer none, .int .i64 o] w (Ret (.int .u64 0) w) := by
  by_cases h0 : o < 0
  · have d1 : decide (o < 0) = true := decide_eq_true h0
    go_enter Try.func59, Try.ntmps59
    go_wp2_with (fail)
    go_ret
    exact ⟨rfl, rfl⟩
  · have d1 : decide (o < 0) = false := decide_eq_false h0
    have d2 : decide (0 ≤ o) = true := decide_eq_true (by omega)
    have d3 : 0 ≤ o := by omega
    go_enter Try.func59, Try.ntmps59
    go_wp2_with (go_at_call 57; refine (rlen_nil _).mono ?_; rintro en w2 ⟨rfl, rfl⟩)
    go_ret
    exact ⟨rfl, rfl⟩
set_option maxRecDepth 100000 in
set_option maxHeartbeats 400000 in
theorem rfind_nil (s : ByteArray) (w : World) : Calls Try.prog 60 #[.pointer none, .string s] w (Ret (.tuple #[.int .i64 0, .bool false]) w) := by
  go_enter Try.func60, Try.ntmps60
  go_wp2_with (fail)
  go_loopw [6] (fun i wr => i = .int .i64 0 ∧ wr = w) (fun i _ => 0)
  case atStart => exact ⟨rfl, rfl⟩
  case round =>
    obtain ⟨rfl, rfl⟩ := hrel
    go_wp2_with (go_at_call 57; refine (rlen_nil _).mono ?_; rintro en w2 ⟨rfl, rfl⟩)
    go_ret2
    exact ⟨rfl, rfl⟩
set_option maxRecDepth 100000 in
set_option maxHeartbeats 400000 in
theorem rrange_nil (r s : ByteArray) (w : World) : Calls Try.prog 62 #[.pointer none, .string r, .string s] w (Ret (.tuple #[.int .i64 0, .int .i64 0]) w) := by
  go_enter Try.func62, Try.ntmps62
  go_wp2_with (fail)
  go_loopw [8] (fun i wr => i = .int .i64 0 ∧ wr = w) (fun i _ => 0)
  case atStart => exact ⟨rfl, rfl⟩
  case round =>
    obtain ⟨rfl, rfl⟩ := hrel
    go_wp2_with (go_at_call 57; refine (rlen_nil _).mono ?_; rintro en w2 ⟨rfl, rfl⟩)
    go_loopw [9] (fun i wx => i = .int .i64 0 ∧ wx = wr) (fun i _ => 0)
    case atStart => exact ⟨rfl, rfl⟩
    case round =>
      obtain ⟨rfl, rfl⟩ := hrel
      go_wp2_with (go_at_call 57; refine (rlen_nil _).mono ?_; rintro en w3 ⟨rfl, rfl⟩)
      go_ret2
      exact ⟨rfl, rfl⟩
set_option maxRecDepth 100000 in
set_option maxHeartbeats 400000 in
theorem rprefix_nil (s : ByteArray) (w : World) : Calls Try.prog 61 #[.pointer none, .string s] w (Ret (.tuple #[.int .i64 0, .int .i64 0]) w) := by
  go_enter Try.func61, Try.ntmps61
  go_wp2_with (fail)
  go_loopw [6] (fun i wr => i = .int .i64 0 ∧ wr = w) (fun i _ => 0)
  case atStart => exact ⟨rfl, rfl⟩
  case round =>
    obtain ⟨rfl, rfl⟩ := hrel
    go_wp2_with (go_at_call 57; refine (rlen_nil _).mono ?_; rintro en w2 ⟨rfl, rfl⟩)
    go_loopw [7] (fun i wx => i = .int .i64 0 ∧ wx = wr) (fun i _ => 0)
    case atStart => exact ⟨rfl, rfl⟩
    case round =>
      obtain ⟨rfl, rfl⟩ := hrel
      go_wp2_with (go_at_call 57; refine (rlen_nil _).mono ?_; rintro en w3 ⟨rfl, rfl⟩)
      go_ret2
      exact ⟨rfl, rfl⟩
end Go.Proofs.Ytcdhbdhhknlbaaa
namespace Go.Proofs.Ytcdhbdhhknlbaaa
set_option linter.unusedVariables false
set_option linter.unusedSimpArgs false
open Go.RowKit

/-- where the reader stands ahead of round i, whatever form the bytes are. -/
def RoI (bs : List UInt8) (n i a : Nat) (e : Int) (L : List Tx) (AT : List Nat) : Prop :=
  ∀ l at_, Form9 bs l at_ → e = 0 ∧ l.length = n ∧ i ≤ n ∧ L = l.take i ∧ AT = at_.take (if i = n then n else i - i % 16) ∧ bs.drop a = tailB l at_ i
/-- behind round i's text. -/
def RoT (bs : List UInt8) (n i a : Nat) (e : Int) (L : List Tx) (AT : List Nat) : Prop :=
  ∀ l at_, Form9 bs l at_ → e = 0 ∧ l.length = n ∧ L = l.take (i + 1) ∧ AT = at_.take (i - i % 16) ∧ bs.drop a = P2 l at_ i ++ tailB l at_ (i + 1)
/-- ahead of value k. -/
def RoV (bs : List UInt8) (n i k a : Nat) (e : Int) (L : List Tx) (AT : List Nat) : Prop :=
  ∀ l at_, Form9 bs l at_ → e = 0 ∧ l.length = n ∧ L = l.take (i + 1) ∧ AT = at_.take k ∧ bs.drop a = valB ((at_.drop k).take (i + 1 - k)) ++ tailB l at_ (i + 1)

theorem ro_start {bs : List UInt8} {n a : Nat} {e : Int} (h : sizeS bs 0 0 1048576 = (n, a, e)) : RoI bs n 0 a e [] [] := by
  intro l at_ hf
  have h2 := hf.size
  rw [h] at h2
  injection h2 with h2 h3
  injection h3 with h3 h4
  subst h2 h3 h4
  refine ⟨rfl, rfl, Nat.zero_le _, by simp, ?_, hf.rest⟩
  have hl := hf.1.2.1
  split
  · rename_i h0
    rw [← h0, List.take_zero]
  · simp
theorem drop_of_pre {bs s t : List UInt8} {a : Nat} (h : bs.drop a = s ++ t) : s <+: bs.drop a ∧ bs.drop (a + s.length) = t := by
  refine ⟨by rw [h]; exact List.prefix_append _ _, ?_⟩
  rw [← List.drop_drop, h, List.drop_left]
theorem tail_piece {bs : List UInt8} {l : List Tx} {at_ : List Nat} {i a : Nat} (h : bs.drop a = tailB l at_ i) (hi : i < l.length) : bs.drop a = P1 l i ++ (P2 l at_ i ++ tailB l at_ (i + 1)) := by
  rw [h, tailB_step hi, piece_eq, List.append_assoc]
theorem ro_first {bs : List UInt8} {n i a : Nat} {e : Int} {L : List Tx} {AT : List Nat} (h : RoI bs n i a e L AT) (hi : i < n) (hz : i % 16 = 0) :
    RoT bs n i (textS bs a e 4096).2.1 (textS bs a e 4096).2.2 (L ++ [(textS bs a e 4096).1]) AT := by
  intro l at_ hf
  obtain ⟨rfl, rfl, _, rfl, rfl, hd⟩ := h l at_ hf
  have hd := tail_piece hd hi
  rw [P1, if_pos hz] at hd
  obtain ⟨hp, hr⟩ := drop_of_pre hd
  have hle := hf.1.2.2.1 _ (getD_mem hi)
  rw [text_has (most := 4096) (by omega) (by omega) hp]
  refine ⟨rfl, rfl, (take_getD [] hi).symm, ?_, hr⟩
  rw [if_neg (by omega)]
theorem ro_next {bs : List UInt8} {n i a : Nat} {e : Int} {L : List Tx} {AT : List Nat} (h : RoI bs n i a e L AT) (hi : i < n) (hz : i % 16 ≠ 0) {p : Tx} (hp : L.getD (i - 1) [] = p)
    {k a1 a2 : Nat} {e1 e2 : Int} {t : Tx} (h1 : sizeS bs a e (p.length : Nat) = (k, a1, e1)) (h2 : textS bs a1 e1 4096 = (t, a2, e2)) : RoT bs n i a2 e2 (L ++ [p.take k ++ t]) AT := by
  intro l at_ hf
  obtain ⟨rfl, rfl, _, rfl, rfl, hd⟩ := h l at_ hf
  have hd := tail_piece hd hi
  have hpe : p = l.getD (i - 1) [] := by
    rw [← hp, List.getD, List.getD, List.getElem?_take, if_pos (by omega)]
  rw [P1, if_neg hz, stepB, List.append_assoc] at hd
  rw [← hpe] at hd
  obtain ⟨hq, hr⟩ := drop_of_pre hd
  obtain ⟨hq2, hr2⟩ := drop_of_pre hr
  have hle := hf.1.2.2.1 _ (getD_mem hi)
  have hlp : p.length ≤ 4096 := by rw [hpe]; exact hf.1.2.2.1 _ (getD_mem (by omega))
  obtain ⟨k1, k2⟩ := shN_le p (l.getD i [])
  rw [size_has (most := (p.length : Nat)) (by omega) (by omega) hq] at h1
  injection h1 with h1 h3
  injection h3 with h3 h4
  subst h1 h3 h4
  rw [text_has (most := 4096) (by rw [List.length_drop]; omega) (by rw [List.length_drop]; omega) hq2] at h2
  injection h2 with h2 h3
  injection h3 with h3 h4
  subst h2 h3 h4
  refine ⟨rfl, rfl, ?_, ?_, hr2⟩
  · rw [shN_take, List.take_append_drop]
    exact (take_getD [] hi).symm
  · rw [if_neg (by omega)]
theorem ro_skip {bs : List UInt8} {n i a : Nat} {e : Int} {L : List Tx} {AT : List Nat} (h : RoT bs n i a e L AT) (hi : i < n) (hz : ¬ (i % 16 = 15 ∨ i + 1 = n)) : RoI bs n (i + 1) a e L AT := by
  intro l at_ hf
  obtain ⟨rfl, rfl, rfl, rfl, hd⟩ := h l at_ hf
  rw [P2, if_neg hz, List.nil_append] at hd
  refine ⟨rfl, rfl, hi, rfl, ?_, hd⟩
  rw [if_neg (by omega), show i + 1 - (i + 1) % 16 = i - i % 16 by omega]
theorem ro_vals {bs : List UInt8} {n i a : Nat} {e : Int} {L : List Tx} {AT : List Nat} (h : RoT bs n i a e L AT) (hz : i % 16 = 15 ∨ i + 1 = n) : RoV bs n i (i - i % 16) a e L AT := by
  intro l at_ hf
  obtain ⟨rfl, rfl, rfl, rfl, hd⟩ := h l at_ hf
  rw [P2, if_pos hz] at hd
  refine ⟨rfl, rfl, rfl, rfl, ?_⟩
  rw [hd, show i + 1 - (i - i % 16) = i % 16 + 1 by omega]
theorem valB_cons (x : Nat) (r : List Nat) : valB (x :: r) = enc x ++ valB r := by simp [valB]
theorem ro_val {bs : List UInt8} {n i k a : Nat} {e : Int} {L : List Tx} {AT : List Nat} (h : RoV bs n i k a e L AT) (hk : k ≤ i) (hi : i < n) :
    RoV bs n i (k + 1) (uintR bs a e).2.1 (uintR bs a e).2.2 L (AT ++ [(uintR bs a e).1]) := by
  intro l at_ hf
  obtain ⟨rfl, rfl, rfl, rfl, hd⟩ := h l at_ hf
  have hka : k < at_.length := by rw [← hf.1.2.1]; omega
  rw [show i + 1 - k = (i + 1 - (k + 1)) + 1 by omega, List.drop_eq_getElem_cons hka, List.take_succ_cons, valB_cons, List.append_assoc] at hd
  obtain ⟨hq, hr⟩ := drop_of_pre hd
  rw [uint_has (hf.2.1 _ (List.getElem_mem hka)) hq]
  exact ⟨rfl, rfl, rfl, (List.take_succ_eq_append_getElem hka).symm, hr⟩
theorem ro_done {bs : List UInt8} {n i a : Nat} {e : Int} {L : List Tx} {AT : List Nat} (h : RoV bs n i (i + 1) a e L AT) (hi : i < n) (hz : i % 16 = 15 ∨ i + 1 = n) : RoI bs n (i + 1) a e L AT := by
  intro l at_ hf
  obtain ⟨rfl, rfl, rfl, rfl, hd⟩ := h l at_ hf
  rw [Nat.sub_self, List.take_zero] at hd
  refine ⟨rfl, rfl, hi, rfl, ?_, by simpa [valB] using hd⟩
  split
  · rename_i h0; rw [h0]
  · rw [show i + 1 - (i + 1) % 16 = i + 1 by omega]
theorem ro_fin {bs : List UInt8} {n i a : Nat} {e : Int} {L : List Tx} {AT : List Nat} (h : RoI bs n i a e L AT) (hx : ¬ (i < n ∧ e = 0)) {l : List Tx} {at_ : List Nat} (hf : Form9 bs l at_) : L = l ∧ AT = at_ ∧ endE bs a e = 0 := by
  obtain ⟨rfl, rfl, h1, rfl, rfl, hd⟩ := h l at_ hf
  have hi : i = l.length := by
    rcases Nat.lt_or_ge i l.length with h2 | h2
    · exact absurd ⟨h2, rfl⟩ hx
    · omega
  subst hi
  rw [if_pos rfl]
  refine ⟨by simp, by rw [hf.1.2.1]; simp, ?_⟩
  rw [tailB_end (Nat.le_refl _)] at hd
  have h2 := List.drop_eq_nil_iff.1 hd
  unfold endE
  rw [if_neg (by omega)]
end Go.Proofs.Ytcdhbdhhknlbaaa
namespace Go.Proofs.Ytcdhbdhhknlbaaa
set_option linter.unusedVariables false
set_option linter.unusedSimpArgs false
open Go.RowKit

def numW : Option (Nat × Nat) → Value
  | none => .tuple #[.int .u64 0, .int .i64 0]
  | some (u, k) => .tuple #[.int .u64 u, .int .i64 k]

theorem gv_lt (bs : List UInt8) (k j : Nat) : gv bs k j < 18446744073709551616 := Nat.mod_lt _ (by omega)

set_option maxRecDepth 100000 in
set_option maxHeartbeats 1600000 in
theorem refNumber_any (A : Option Addr) (n c B : Nat) (bs : List UInt8) (w : World) (hl : bs.length = n) (hn : n ≤ c) (hc : c ≤ maxLen) (hB : B ≤ w.heap.size) (hr : Rd w B A (by8 bs)) :
    Calls Try.prog 74 #[.slice A n c] w (RetF (numW (dec 0 0 bs)) w) := by
  unfold maxLen at hc
  have HR := hide hr
  have HB := hide hB
  have HL := hide hl
  clear hr hB hl
  go_enter Try.func74, Try.ntmps74
  go_wp2
  go_loop [4] (fun i => ∃ k : Nat, k ≤ n ∧ i = .int .i64 k ∧ Hid (lead bs = k + lead (bs.drop k))) (fun i => n - (intOf i).toNat)
  case atStart => exact ⟨0, by omega, rfl, hide (by simp)⟩
  case round =>
    obtain ⟨k, hk, rfl, HD⟩ := hrel
    have stopped : (k < n ∧ 127 < (bs.getD k 0).toNat) ∨ Hid (lead bs = k) ∧ ((k < n ∧ ¬ 127 < (bs.getD k 0).toNat) ∨ ¬ k < n) := by
      by_cases hlt : k < n
      · by_cases hb : 127 < (bs.getD k 0).toNat
        · exact .inl ⟨hlt, hb⟩
        · exact .inr ⟨hide (lead_stop (.inr hb) HD.out), .inl ⟨hlt, hb⟩⟩
      · exact .inr ⟨hide (lead_stop (.inl (by rw [HL.out]; omega)) HD.out), .inr hlt⟩
    rcases stopped with ⟨hlt, hb⟩ | ⟨HK, hst⟩
    · have hkl : k < bs.length := by rw [HL.out]; exact hlt
      obtain ⟨ad, rfl, _, hcell⟩ := HR.out.byte hkl
      have HD' := hide (lead_step hkl hb HD.out)
      clear hkl
      generalize bs.getD k 0 = b at hb hcell
      go_wp2
      go_round
      case rel => exact ⟨k + 1, by omega, by go_num, HD'⟩
      case measure => simp [intOf]; omega
    · clear HD
      by_cases hbad : n ≤ k ∨ 9 < k
      · have HZ := hide (ref_none1 (bs := bs) (by rw [HK.out, HL.out]; omega))
        have hb2 : decide ((n : Int) ≤ k) = true ∨ decide ((n : Int) ≤ k) = false ∧ 9 < k := by
          by_cases h : n ≤ k
          · exact .inl (by simp; omega)
          · exact .inr ⟨by simp; omega, by omega⟩
        rcases hst with ⟨hlt, hb⟩ | hge
        · have hkl : k < bs.length := by rw [HL.out]; exact hlt
          obtain ⟨ad, rfl, _, hcell⟩ := HR.out.byte hkl
          clear hkl
          generalize bs.getD k 0 = b at hb hcell
          have h9 : 9 < k := by omega
          go_wp2
          go_ret2
          exact ⟨by rw [HZ.out]; rfl, Fr.refl _ _⟩
        · go_wp2
          go_ret2
          exact ⟨by rw [HZ.out]; rfl, Fr.refl _ _⟩
      · have hkn : k < n := by omega
        have hk9 : k ≤ 9 := by omega
        have hkl : k < bs.length := by rw [HL.out]; exact hkn
        have hb : ¬ 127 < (bs.getD k 0).toNat := by rcases hst with h | h; exact h.2; omega
        obtain ⟨ad, rfl, _, hcell⟩ := HR.out.byte hkl
        have HKL := hide hkl
        clear hkl hbad hst
        generalize bs.getD k 0 = b at hb hcell
        go_wp2
        clear hcell hb
        go_loop [5, 6] (fun y i => ∃ j : Int, -1 ≤ j ∧ j ≤ k ∧ i = .int .i64 j ∧ y = .int .u64 (gv bs (k + 1) (j + 1).toNat : Nat)) (fun _ i => (intOf i + 1).toNat)
        case atStart => exact ⟨k, by omega, by omega, rfl, by
          have e : ((k : Int) + 1).toNat = k + 1 := by omega
          rw [e, gv_end]; rfl⟩
        case round =>
          obtain ⟨i, hi1, hi2, rfl, rfl⟩ := hrel
          by_cases hge : 0 ≤ i
          · obtain ⟨j, rfl⟩ := Int.eq_ofNat_of_zero_le hge
            have hjl : j < bs.length := by rw [HL.out]; omega
            obtain ⟨ad', had, _, hcell⟩ := HR.out.byte hjl
            obtain rfl : ad = ad' := Option.some.inj had
            have hs := gv_step (bs := bs) (k := k + 1) (j := j) (by omega) (by rw [HL.out]; omega)
            have e1 : ((j : Int) + 1).toNat = j + 1 := by omega
            rw [e1]
            generalize bs.getD j 0 = b at hcell hs
            have hlt := gv_lt bs (k + 1) (j + 1)
            generalize gv bs (k + 1) (j + 1) = y at hs hlt
            obtain ⟨z, HZ⟩ : ∃ z, Hid (gv bs (k + 1) j = z) := ⟨_, hide rfl⟩
            rw [HZ.out] at hs
            clear hjl had e1
            go_wp2
            go_round
            case rel => exact ⟨(j : Int) - 1, by omega, by omega, rfl, by
              have e2 : ((j : Int) - 1 + 1).toNat = j := by omega
              rw [e2, HZ.out]
              rw [← hs, Int.natCast_emod]; rfl⟩
            case measure => simp [intOf]
          · obtain rfl : i = -1 := by omega
            have e1 : ((-1 : Int) + 1).toNat = 0 := by omega
            rw [e1]
            have hlt := gv_lt bs (k + 1) 0
            have HG : Hid (gv bs (k + 1) 0 = gval (bs.take (lead bs + 1)) % 18446744073709551616) := by rw [HK.out]; rfl
            generalize gv bs (k + 1) 0 = u at HG hlt
            have HU := hide (fun W => refUint_any u W hlt)
            have HNo : Hid (enc u ≠ bs.take (k + 1) → dec 0 0 bs = none) := by
              intro h
              apply ref_none2
              rw [← HG.out, HK.out]
              exact h
            have HYes : Hid (enc u = bs.take (k + 1) → dec 0 0 bs = some (u, k + 1)) := fun h => ref_some hlt (by rw [HL.out]; omega) h
            have hel := enc_len u
            obtain ⟨L, HEL⟩ : ∃ L, Hid ((enc u).length = L) := ⟨_, hide rfl⟩
            rw [HEL.out] at hel
            unfold GivesB at HU
            generalize enc u = E at HU HNo HYes HEL
            rw [HEL.out] at HU
            clear e1 HG hi1 hi2 hge
            obtain ⟨he1, he2⟩ := hel
            have HTL : Hid ((bs.take (k + 1)).length = k + 1) := by
              have := HL.out
              show (bs.take (k + 1)).length = k + 1
              rw [List.length_take]; omega
            by_cases hLk : L = k + 1
            · subst hLk
              have hne : (((k + 1 : Nat) : Int) != (k : Int) + 1) = false := by simp
              go_wp2_with (go_at_call 36; refine (HU.out _).mono ?_; rintro en w1 ⟨v1, rfl, hown, hfr⟩; obtain ⟨A1, c1, rfl, hq1, hq2, _, hq3, _⟩ := hown.form; have HQ := hide hq3; have HF := hide hfr; clear hown hfr hq3)
              unfold maxLen at hq2
              go_loopw [8] (fun i wr => ∃ j nq : Nat, j ≤ k + 1 ∧ i = .int .i64 j ∧ wr = w1.drewN nq ∧ Hid (E.take j = bs.take j)) (fun i _ => k + 1 - (intOf i).toNat)
              case atStart => exact ⟨0, 0, by omega, rfl, rfl, hide rfl⟩
              case round =>
                obtain ⟨j, nq, hj, rfl, rfl, HT⟩ := hrel
                by_cases hlt : j < k + 1
                · have h1 : j < E.length := by rw [HEL.out]; exact hlt
                  have h2 : j < bs.length := by rw [HL.out]; omega
                  obtain ⟨a1, rfl, _, hcell⟩ := HQ.out.byte h1
                  obtain ⟨bd, hbd, _, hcell2⟩ := (HR.out.fr0 HF.out).byte h2
                  obtain rfl : ad = bd := Option.some.inj hbd
                  have HE := hide (fun he => take_succ_eq h1 h2 HT.out he)
                  have HN := hide (show E.getD j 0 ≠ bs.getD j 0 → E ≠ bs.take (k + 1) from fun h e => h (by
                    rw [e]
                    have h3 : j < (bs.take (k + 1)).length := by rw [HTL.out]; exact hlt
                    simp only [List.getD_eq_getElem?_getD, List.getElem?_eq_getElem h3, List.getElem?_eq_getElem h2]
                    simp))
                  clear h1 h2 hbd
                  generalize E.getD j 0 = x at hcell HE HN
                  generalize bs.getD j 0 = y at hcell2 HE HN
                  by_cases he : x = y
                  · subst he
                    have HE' := hide (HE.out rfl)
                    clear HE
                    have hb2 : ((x.toNat : Int) != x.toNat) = false := by simp
                    go_wp2
                    go_quiet (fail)
                    go_wp2
                    go_round
                    case rel => exact ⟨j + 1, _, by omega, by go_num, rfl, HE'⟩
                    case measure => simp [intOf]; omega
                  · have hb2 : ((x.toNat : Int) != y.toNat) = true := by
                      simp
                      intro h
                      exact he (UInt8.toNat_inj.1 (by omega))
                    go_wp2
                    go_quiet (fail)
                    go_wp2
                    go_ret2
                    exact ⟨by rw [HNo.out (HN.out he)]; rfl, (HF.out.drewN _).drewN _⟩
                · have HF2 := hide (show E = bs.take (k + 1) by
                    have h := HT.out
                    have ej : j = k + 1 := by omega
                    rw [ej] at h
                    rwa [List.take_of_length_le (by rw [HEL.out]; omega)] at h)
                  go_wp2
                  go_ret2
                  exact ⟨by rw [HYes.out HF2.out]; simp [numW], HF.out.drewN _⟩
            · have hne : ((L : Int) != (k : Int) + 1) = true := by simp; omega
              have HZ := hide (HNo.out (fun e => hLk (by rw [← HEL.out, e, HTL.out])))
              go_wp2_with (go_at_call 36; refine (HU.out _).mono ?_; rintro en w1 ⟨v1, rfl, hown, hfr⟩; obtain ⟨A1, c1, rfl, hq1, hq2, _, hq3, _⟩ := hown.form; have HF := hide hfr; clear hown hfr hq3)
              go_ret2
              exact ⟨by rw [HZ.out]; rfl, HF.out⟩

end Go.Proofs.Ytcdhbdhhknlbaaa
namespace Go.Proofs.Ytcdhbdhhknlbaaa
set_option linter.unusedVariables false
set_option linter.unusedSimpArgs false
open Go.RowKit

/-- the document's reader: bytes that came in, the place in them, the error. -/
def RS (w : World) (B g : Nat) (bs : List UInt8) (a : Nat) (e : Int) : Prop :=
  ∃ A c, w.heap[g]? = some (.cells #[.slice A bs.length c, .int .i64 a, .int .i64 e] 86 (0, 0)) ∧ bs.length ≤ c ∧ c ≤ maxLen ∧ a ≤ bs.length ∧ bs.length ≤ 140737488355328 ∧ Rd w B A (by8 bs) ∧ B ≤ g

section
variable {w w' : World} {B g : Nat} {bs : List UInt8} {a : Nat} {e : Int}
theorem RS.parts (h : RS w B g bs a e) :
    ∃ A c, (w.cell? ⟨g, 0, none⟩ = some (.slice A bs.length c) ∧ w.cell? ⟨g, 1, none⟩ = some (.int .i64 a) ∧ w.cell? ⟨g, 2, none⟩ = some (.int .i64 e)) ∧ (∀ i, w.frozen? ⟨g, i, none⟩ = false) ∧
      bs.length ≤ c ∧ c ≤ maxLen ∧ a ≤ bs.length ∧ bs.length ≤ 140737488355328 ∧ Rd w B A (by8 bs) ∧ B ≤ w.heap.size := by
  obtain ⟨A, c, hh, h1, h2, h3, h4, ho, hB⟩ := h
  exact ⟨A, c, ⟨cell_of_row w g 0 _ _ (0, 0) hh, cell_of_row w g 1 _ _ (0, 0) hh, cell_of_row w g 2 _ _ (0, 0) hh⟩, fun i => by simp [World.frozen?, hh], h1, h2, h3, h4, ho, by
    have := (Array.getElem?_eq_some_iff.1 hh).1
    omega⟩
theorem RS.fr {S : Nat → Prop} (h : RS w B g bs a e) (f : Fr S w w') (hg : ¬ S g) (hB : ∀ k, k < B → ¬ S k) : RS w' B g bs a e := by
  obtain ⟨A, c, hh, h1, h2, h3, h4, ho, h5⟩ := h
  exact ⟨A, c, f.blk hh hg, h1, h2, h3, h4, ho.fr f hB, h5⟩
theorem RS.fr0 (h : RS w B g bs a e) (f : Fr No w w') : RS w' B g bs a e := h.fr f (fun h => h) (fun _ _ h => h)
theorem RS.set1 (h : RS w B g bs a e) (k : Nat) (hk : k ≤ bs.length) : RS (w.setCell ⟨g, 1, none⟩ (.int .i64 k)) B g bs k e := by
  obtain ⟨A, c, hh, h1, h2, h3, h4, ho, h5⟩ := h
  refine ⟨A, c, by simp [World.setCell, Array.getElem?_modify, hh], h1, h2, hk, h4, ho.fr ((Fr.refl (Is g) w).setCell (p := ⟨g, 1, none⟩) (fun _ => rfl) _) ?_, h5⟩
  intro k hk e
  have : k = g := e
  omega
theorem RS.set2 (h : RS w B g bs a e) (k : Int) : RS (w.setCell ⟨g, 2, none⟩ (.int .i64 k)) B g bs a k := by
  obtain ⟨A, c, hh, h1, h2, h3, h4, ho, h5⟩ := h
  refine ⟨A, c, by simp [World.setCell, Array.getElem?_modify, hh], h1, h2, h3, h4, ho.fr ((Fr.refl (Is g) w).setCell (p := ⟨g, 2, none⟩) (fun _ => rfl) _) ?_, h5⟩
  intro k hk e
  have : k = g := e
  omega
theorem RS.drewN (h : RS w B g bs a e) (n : Nat) : RS (w.drewN n) B g bs a e := h
theorem RS.lt (h : RS w B g bs a e) : g < w.heap.size := by
  obtain ⟨A, c, hh, _⟩ := h
  exact (Array.getElem?_eq_some_iff.1 hh).1
end

def RSRet (v : Value) (w : World) (B g : Nat) (bs : List UInt8) (a : Nat) (e : Int) (en : Ending) (w' : World) : Prop := en = .returned v ∧ RS w' B g bs a e ∧ Fr (Is g) w w'

set_option maxRecDepth 100000 in
set_option maxHeartbeats 800000 in
theorem refErr_any (B g : Nat) (bs : List UInt8) (a : Nat) (e : Int) (w : World) (h : RS w B g bs a e) :
    Calls Try.prog 75 #[.pointer (some ⟨g, 0, none⟩)] w (Ret (.int .i64 e) w) := by
  obtain ⟨A, c, ⟨c0, c1, c2⟩, hf, h1, h2, h3, h4, hr, hB⟩ := h.parts
  clear h hr
  go_enter Try.func75, Try.ntmps75
  go_wp2
  go_ret
  exact ⟨rfl, rfl⟩

set_option maxRecDepth 100000 in
set_option maxHeartbeats 800000 in
theorem refErr_nil (w : World)  :
    Calls Try.prog 75 #[.pointer none] w (Ret (.int .i64 20) w) := by
  go_enter Try.func75, Try.ntmps75
  go_wp2_with (fail)
  go_ret
  exact ⟨rfl, rfl⟩

set_option maxRecDepth 100000 in
set_option maxHeartbeats 800000 in
theorem refEnd_any (B g : Nat) (bs : List UInt8) (a : Nat) (e : Int) (w : World) (h : RS w B g bs a e) :
    Calls Try.prog 56 #[.pointer (some ⟨g, 0, none⟩)] w (RSRet (.int .i64 (endE bs a e)) w B g bs a (endE bs a e)) := by
  obtain ⟨A, c, ⟨c0, c1, c2⟩, hf, h1, h2, h3, h4, hr, hB⟩ := h.parts
  have H := hide h
  clear h hr
  by_cases he : e = 0
  · subst he
    by_cases hlt : a < bs.length
    · have HE := hide (show endE bs a 0 = 20 from if_pos ⟨rfl, hlt⟩)
      have d1 : decide (a < bs.length) = true := by simpa using hlt
      go_enter Try.func56, Try.ntmps56
      go_wp2
      go_quiet (fail)
      go_wp2_with (go_at_call 75; refine (refErr_any B g bs a 20 _ ((H.out.drewN nq).set2 20)).mono ?_; rintro en w' ⟨rfl, rfl⟩)
      go_ret
      refine ⟨by rw [HE.out]; rfl, ?_, ((Fr.refl _ _).drewN _).put _ _⟩
      rw [HE.out]
      exact (H.out.drewN _).set2 20
    · have HE := hide (show endE bs a 0 = 0 from if_neg (fun h => hlt h.2))
      have d1 : decide (a < bs.length) = false := by simpa using hlt
      go_enter Try.func56, Try.ntmps56
      go_wp2
      go_quiet (fail)
      go_wp2_with (go_at_call 75; refine (refErr_any B g bs a 0 _ (H.out.drewN nq)).mono ?_; rintro en w' ⟨rfl, rfl⟩)
      go_ret
      refine ⟨by rw [HE.out]; rfl, ?_, (Fr.refl _ _).drewN _⟩
      rw [HE.out]
      exact H.out.drewN _
  · have HE := hide (show endE bs a e = e from if_neg (fun h => he h.1))
    have hb : (e == 0) = false := by simpa using he
    go_enter Try.func56, Try.ntmps56
    go_wp2
    go_quiet (fail)
    go_wp2_with (go_at_call 75; refine (refErr_any B g bs a e _ (H.out.drewN nq)).mono ?_; rintro en w' ⟨rfl, rfl⟩)
    go_ret
    refine ⟨by rw [HE.out]; rfl, ?_, (Fr.refl _ _).drewN _⟩
    rw [HE.out]
    exact H.out.drewN _

set_option maxRecDepth 100000 in
set_option maxHeartbeats 800000 in
theorem refEnd_nil (w : World) : Calls Try.prog 56 #[.pointer none] w (RetQ (.int .i64 20) w) := by
  go_enter Try.func56, Try.ntmps56
  go_wp2
  go_quiet (fail)
  go_wp2_with (go_at_call 75; refine (refErr_nil _).mono ?_; rintro en w' ⟨rfl, rfl⟩)
  go_ret
  exact ⟨rfl, _, rfl⟩

end Go.Proofs.Ytcdhbdhhknlbaaa
namespace Go.Proofs.Ytcdhbdhhknlbaaa
set_option linter.unusedVariables false
set_option linter.unusedSimpArgs false
open Go.RowKit

theorem refnum_cut {w : World} {B : Nat} {A : Option Addr} {bs : List UInt8} {c a : Nat} {x : Option (Nat × Nat)} (hr : Rd w B A (by8 bs)) (h1 : bs.length ≤ c) (h2 : c ≤ maxLen) (h3 : a ≤ bs.length) (hB : B ≤ w.heap.size) (hd : dec 0 0 (bs.drop a) = x) :
    ∀ w' : World, w'.heap = w.heap → Calls Try.prog 74 #[.slice (if c = a then A else A.map (·.add a)) (bs.length - a) (c - a)] w' (RetF (numW x) w') := by
  intro w' hw
  have hcell : ∀ p, w'.cell? p = w.cell? p := fun p => by simp [World.cell?, hw]
  subst hd
  refine refNumber_any _ _ _ B (bs.drop a) w' (by simp) (by omega) (by omega) (by rw [hw]; exact hB) ?_
  rw [by8_drop]
  refine Rd.cut ?_ (by rw [by8_length]; exact h1)
  intro j u hu
  obtain ⟨ad, e, hb, hcc⟩ := hr j u hu
  exact ⟨ad, e, hb, by rw [hcell]; exact hcc⟩

end Go.Proofs.Ytcdhbdhhknlbaaa
namespace Go.Proofs.Ytcdhbdhhknlbaaa
set_option linter.unusedVariables false
set_option linter.unusedSimpArgs false
open Go.RowKit

set_option maxRecDepth 100000 in
set_option maxHeartbeats 800000 in
theorem refN_bad1 (B g : Nat) (bs : List UInt8) (a : Nat) (w : World) (most : Int) (h : RS w B g bs a 0) (hd : dec 0 0 (bs.drop a) = none) :
    Calls Try.prog 53 #[.pointer (some ⟨g, 0, none⟩), .int .i64 most] w (RSRet (.int .i64 0) w B g bs a 20) := by
  obtain ⟨A, c, ⟨c0, c1, c2⟩, hf, h1, h2, h3, h4, hr, hB⟩ := h.parts
  have HN := hide (refnum_cut hr h1 h2 h3 hB hd)
  simp only [numW] at HN
  have H := hide h
  have HA := hide hr
  clear h hr hd
  by_cases hca : c = a
  · have HN1 := HN.out
    rw [if_pos hca, hca, Nat.sub_self] at HN1
    have HN2 := hide HN1
    clear HN HN1
    go_enter Try.func53, Try.ntmps53
    go_wp2_with (fail)
    go_region_with (go_at_call 74; refine (HN2.out w.drew rfl).mono ?_; rintro en w1 ⟨rfl, hfr⟩; have HF : Hid (Fr No w w1) := ⟨hfr.os, hfr.tape, hfr.output, hfr.size, hfr.block⟩; clear hfr; have HR1 := hide (H.out.fr0 HF.out); obtain ⟨A1, k1, ⟨e0, e1, e2⟩, hf1, q1, q2, _, _, _⟩ := HR1.out.parts)
    all_goals (try go_wp2)
    all_goals go_ret
    all_goals exact ⟨rfl, HR1.out.set2 20, (HF.out.any (Is g)).put _ _⟩
  · have HN1 := HN.out
    rw [if_neg hca] at HN1
    have HN2 := hide HN1
    clear HN HN1
    go_enter Try.func53, Try.ntmps53
    go_wp2_with (fail)
    go_region_with (go_at_call 74; refine (HN2.out w.drew rfl).mono ?_; rintro en w1 ⟨rfl, hfr⟩; have HF : Hid (Fr No w w1) := ⟨hfr.os, hfr.tape, hfr.output, hfr.size, hfr.block⟩; clear hfr; have HR1 := hide (H.out.fr0 HF.out); obtain ⟨A1, k1, ⟨e0, e1, e2⟩, hf1, q1, q2, _, _, _⟩ := HR1.out.parts)
    all_goals (try go_wp2)
    all_goals go_ret
    all_goals exact ⟨rfl, HR1.out.set2 20, (HF.out.any (Is g)).put _ _⟩

set_option maxRecDepth 100000 in
set_option maxHeartbeats 800000 in
theorem refN_bad2 (B g : Nat) (bs : List UInt8) (a : Nat) (w : World) (most : Int) (u k : Nat) (h : RS w B g bs a 0) (hd : dec 0 0 (bs.drop a) = some (u, k)) (hneg : most < 0) :
    Calls Try.prog 53 #[.pointer (some ⟨g, 0, none⟩), .int .i64 most] w (RSRet (.int .i64 0) w B g bs a 20) := by
  obtain ⟨A, c, ⟨c0, c1, c2⟩, hf, h1, h2, h3, h4, hr, hB⟩ := h.parts
  have HN := hide (refnum_cut hr h1 h2 h3 hB hd)
  simp only [numW] at HN
  have H := hide h
  have HA := hide hr
  have hk := dec_le _ _ _ _ _ hd
  have hk1 : a + k ≤ bs.length := by have := hk.2; simp at this; omega
  have hk0 : ((k : Int) == 0) = false := by have := hk.1; simp; omega
  have hu := dec_lt _ 0 0 u k (by decide) hd
  clear hk
  clear h hr hd
  by_cases hca : c = a
  · have HN1 := HN.out
    rw [if_pos hca, hca, Nat.sub_self] at HN1
    have HN2 := hide HN1
    clear HN HN1
    go_enter Try.func53, Try.ntmps53
    go_wp2_with (fail)
    go_region_with (go_at_call 74; refine (HN2.out w.drew rfl).mono ?_; rintro en w1 ⟨rfl, hfr⟩; have HF : Hid (Fr No w w1) := ⟨hfr.os, hfr.tape, hfr.output, hfr.size, hfr.block⟩; clear hfr; have HR1 := hide (H.out.fr0 HF.out); obtain ⟨A1, k1, ⟨e0, e1, e2⟩, hf1, q1, q2, _, _, _⟩ := HR1.out.parts)
    all_goals (try go_wp2)
    all_goals go_ret
    all_goals exact ⟨rfl, HR1.out.set2 20, (HF.out.any (Is g)).put _ _⟩
  · have HN1 := HN.out
    rw [if_neg hca] at HN1
    have HN2 := hide HN1
    clear HN HN1
    go_enter Try.func53, Try.ntmps53
    go_wp2_with (fail)
    go_region_with (go_at_call 74; refine (HN2.out w.drew rfl).mono ?_; rintro en w1 ⟨rfl, hfr⟩; have HF : Hid (Fr No w w1) := ⟨hfr.os, hfr.tape, hfr.output, hfr.size, hfr.block⟩; clear hfr; have HR1 := hide (H.out.fr0 HF.out); obtain ⟨A1, k1, ⟨e0, e1, e2⟩, hf1, q1, q2, _, _, _⟩ := HR1.out.parts)
    all_goals (try go_wp2)
    all_goals go_ret
    all_goals exact ⟨rfl, HR1.out.set2 20, (HF.out.any (Is g)).put _ _⟩

set_option maxRecDepth 100000 in
set_option maxHeartbeats 800000 in
theorem refN_bad3 (B g : Nat) (bs : List UInt8) (a : Nat) (w : World) (m : Nat) (u k : Nat) (h : RS w B g bs a 0) (hd : dec 0 0 (bs.drop a) = some (u, k)) (hm2 : (m : Int) ≤ 9223372036854775807) (hbig : m < u) :
    Calls Try.prog 53 #[.pointer (some ⟨g, 0, none⟩), .int .i64 m] w (RSRet (.int .i64 0) w B g bs a 20) := by
  obtain ⟨A, c, ⟨c0, c1, c2⟩, hf, h1, h2, h3, h4, hr, hB⟩ := h.parts
  have HN := hide (refnum_cut hr h1 h2 h3 hB hd)
  simp only [numW] at HN
  have H := hide h
  have HA := hide hr
  have hk := dec_le _ _ _ _ _ hd
  have hk1 : a + k ≤ bs.length := by have := hk.2; simp at this; omega
  have hk0 : ((k : Int) == 0) = false := by have := hk.1; simp; omega
  have hu := dec_lt _ 0 0 u k (by decide) hd
  clear hk
  clear h hr hd
  by_cases hca : c = a
  · have HN1 := HN.out
    rw [if_pos hca, hca, Nat.sub_self] at HN1
    have HN2 := hide HN1
    clear HN HN1
    go_enter Try.func53, Try.ntmps53
    go_wp2_with (fail)
    go_region_with (go_at_call 74; refine (HN2.out w.drew rfl).mono ?_; rintro en w1 ⟨rfl, hfr⟩; have HF : Hid (Fr No w w1) := ⟨hfr.os, hfr.tape, hfr.output, hfr.size, hfr.block⟩; clear hfr; have HR1 := hide (H.out.fr0 HF.out); obtain ⟨A1, k1, ⟨e0, e1, e2⟩, hf1, q1, q2, _, _, _⟩ := HR1.out.parts)
    all_goals (try go_wp2)
    all_goals go_ret
    all_goals exact ⟨rfl, HR1.out.set2 20, (HF.out.any (Is g)).put _ _⟩
  · have HN1 := HN.out
    rw [if_neg hca] at HN1
    have HN2 := hide HN1
    clear HN HN1
    go_enter Try.func53, Try.ntmps53
    go_wp2_with (fail)
    go_region_with (go_at_call 74; refine (HN2.out w.drew rfl).mono ?_; rintro en w1 ⟨rfl, hfr⟩; have HF : Hid (Fr No w w1) := ⟨hfr.os, hfr.tape, hfr.output, hfr.size, hfr.block⟩; clear hfr; have HR1 := hide (H.out.fr0 HF.out); obtain ⟨A1, k1, ⟨e0, e1, e2⟩, hf1, q1, q2, _, _, _⟩ := HR1.out.parts)
    all_goals (try go_wp2)
    all_goals go_ret
    all_goals exact ⟨rfl, HR1.out.set2 20, (HF.out.any (Is g)).put _ _⟩

set_option maxRecDepth 100000 in
set_option maxHeartbeats 800000 in
theorem refN_ok (B g : Nat) (bs : List UInt8) (a : Nat) (w : World) (m : Nat) (u k : Nat) (h : RS w B g bs a 0) (hd : dec 0 0 (bs.drop a) = some (u, k)) (hm2 : (m : Int) ≤ 9223372036854775807) (hfit : u ≤ m) :
    Calls Try.prog 53 #[.pointer (some ⟨g, 0, none⟩), .int .i64 m] w (RSRet (.int .i64 u) w B g bs (a + k) 0) := by
  obtain ⟨A, c, ⟨c0, c1, c2⟩, hf, h1, h2, h3, h4, hr, hB⟩ := h.parts
  have HN := hide (refnum_cut hr h1 h2 h3 hB hd)
  simp only [numW] at HN
  have H := hide h
  have HA := hide hr
  have hk := dec_le _ _ _ _ _ hd
  have hk1 : a + k ≤ bs.length := by have := hk.2; simp at this; omega
  have hk0 : ((k : Int) == 0) = false := by have := hk.1; simp; omega
  have hu := dec_lt _ 0 0 u k (by decide) hd
  clear hk
  clear h hr hd
  by_cases hca : c = a
  · have HN1 := HN.out
    rw [if_pos hca, hca, Nat.sub_self] at HN1
    have HN2 := hide HN1
    clear HN HN1
    go_enter Try.func53, Try.ntmps53
    go_wp2_with (fail)
    go_region_with (go_at_call 74; refine (HN2.out w.drew rfl).mono ?_; rintro en w1 ⟨rfl, hfr⟩; have HF : Hid (Fr No w w1) := ⟨hfr.os, hfr.tape, hfr.output, hfr.size, hfr.block⟩; clear hfr; have HR1 := hide (H.out.fr0 HF.out); obtain ⟨A1, k1, ⟨e0, e1, e2⟩, hf1, q1, q2, _, _, _⟩ := HR1.out.parts)
    all_goals (try go_wp2)
    all_goals go_ret
    all_goals exact ⟨by simp, HR1.out.set1 _ hk1, (HF.out.any (Is g)).put _ _⟩
  · have HN1 := HN.out
    rw [if_neg hca] at HN1
    have HN2 := hide HN1
    clear HN HN1
    go_enter Try.func53, Try.ntmps53
    go_wp2_with (fail)
    go_region_with (go_at_call 74; refine (HN2.out w.drew rfl).mono ?_; rintro en w1 ⟨rfl, hfr⟩; have HF : Hid (Fr No w w1) := ⟨hfr.os, hfr.tape, hfr.output, hfr.size, hfr.block⟩; clear hfr; have HR1 := hide (H.out.fr0 HF.out); obtain ⟨A1, k1, ⟨e0, e1, e2⟩, hf1, q1, q2, _, _, _⟩ := HR1.out.parts)
    all_goals (try go_wp2)
    all_goals go_ret
    all_goals exact ⟨by simp, HR1.out.set1 _ hk1, (HF.out.any (Is g)).put _ _⟩

set_option maxRecDepth 100000 in
set_option maxHeartbeats 800000 in
theorem refN_off (B g : Nat) (bs : List UInt8) (a : Nat) (e : Int) (w : World) (most : Int) (h : RS w B g bs a e) (he : e ≠ 0) :
    Calls Try.prog 53 #[.pointer (some ⟨g, 0, none⟩), .int .i64 most] w (RSRet (.int .i64 0) w B g bs a e) := by
  obtain ⟨A, c, ⟨c0, c1, c2⟩, hf, h1, h2, h3, h4, hr, hB⟩ := h.parts
  have hb : (e != 0) = true := by simpa using he
  have H := hide h
  clear h hr he
  go_enter Try.func53, Try.ntmps53
  go_wp2_with (fail)
  go_ret
  exact ⟨rfl, H.out, Fr.refl _ _⟩

set_option maxRecDepth 100000 in
set_option maxHeartbeats 800000 in
theorem refN_nil (w : World) (most : Int) :
    Calls Try.prog 53 #[.pointer none, .int .i64 most] w (Ret (.int .i64 0) w) := by
  go_enter Try.func53, Try.ntmps53
  go_wp2_with (fail)
  go_ret
  exact ⟨rfl, rfl⟩

theorem refN_any (B g : Nat) (bs : List UInt8) (a : Nat) (e most : Int) (w : World) (h : RS w B g bs a e) (hm2 : most ≤ 9223372036854775807) :
    Calls Try.prog 53 #[.pointer (some ⟨g, 0, none⟩), .int .i64 most] w (RSRet (.int .i64 (sizeS bs a e most).1) w B g bs (sizeS bs a e most).2.1 (sizeS bs a e most).2.2) := by
  unfold sizeS
  by_cases he : e = 0
  · subst he
    rw [if_pos rfl]
    cases hd : dec 0 0 (bs.drop a) with
    | none => rw [sizeR_none hd]; exact refN_bad1 B g bs a w most h hd
    | some x =>
      by_cases hneg : most < 0
      · rw [sizeR_no hd (.inl hneg)]; exact refN_bad2 B g bs a w most x.1 x.2 h hd hneg
      · obtain ⟨m, rfl⟩ := Int.eq_ofNat_of_zero_le (a := most) (by omega)
        by_cases hum : m < x.1
        · rw [sizeR_no hd (.inr (by omega))]; exact refN_bad3 B g bs a w m x.1 x.2 h hd hm2 hum
        · rw [sizeR_ok hd (by omega)]; exact refN_ok B g bs a w m x.1 x.2 h hd hm2 (by omega)
  · rw [if_neg he]
    exact refN_off B g bs a e w most h he

end Go.Proofs.Ytcdhbdhhknlbaaa
namespace Go.Proofs.Ytcdhbdhhknlbaaa
set_option linter.unusedVariables false
set_option linter.unusedSimpArgs false
open Go.RowKit

set_option maxRecDepth 100000 in
set_option maxHeartbeats 800000 in
theorem refT_bad1 (B g : Nat) (bs : List UInt8) (a : Nat) (w : World) (most : Int) (h : RS w B g bs a 0) (hd : dec 0 0 (bs.drop a) = none) :
    Calls Try.prog 54 #[.pointer (some ⟨g, 0, none⟩), .int .i64 most] w (RSRet (.string ⟨#[]⟩) w B g bs a 20) := by
  obtain ⟨A, c, ⟨c0, c1, c2⟩, hf, h1, h2, h3, h4, hr, hB⟩ := h.parts
  have HN := hide (refnum_cut hr h1 h2 h3 hB hd)
  simp only [numW] at HN
  have H := hide h
  have HA := hide hr
  clear h hr hd
  by_cases hca : c = a
  · have HN1 := HN.out
    rw [if_pos hca, hca, Nat.sub_self] at HN1
    have HN2 := hide HN1
    clear HN HN1
    go_enter Try.func54, Try.ntmps54
    go_wp2_with (fail)
    go_region_with (go_at_call 74; refine (HN2.out w.drew rfl).mono ?_; rintro en w1 ⟨rfl, hfr⟩; have HF : Hid (Fr No w w1) := ⟨hfr.os, hfr.tape, hfr.output, hfr.size, hfr.block⟩; clear hfr; have HR1 := hide (H.out.fr0 HF.out); obtain ⟨A1, k1, ⟨e0, e1, e2⟩, hf1, q1, q2, _, _, _⟩ := HR1.out.parts)
    all_goals (try go_wp2)
    all_goals
      go_simp
      go_quiet (fail)
      go_wp2
      go_ret
      exact ⟨rfl, (HR1.out.drewN _).set2 20, ((HF.out.any (Is g)).drewN _).put _ _⟩
  · have HN1 := HN.out
    rw [if_neg hca] at HN1
    have HN2 := hide HN1
    clear HN HN1
    go_enter Try.func54, Try.ntmps54
    go_wp2_with (fail)
    go_region_with (go_at_call 74; refine (HN2.out w.drew rfl).mono ?_; rintro en w1 ⟨rfl, hfr⟩; have HF : Hid (Fr No w w1) := ⟨hfr.os, hfr.tape, hfr.output, hfr.size, hfr.block⟩; clear hfr; have HR1 := hide (H.out.fr0 HF.out); obtain ⟨A1, k1, ⟨e0, e1, e2⟩, hf1, q1, q2, _, _, _⟩ := HR1.out.parts)
    all_goals (try go_wp2)
    all_goals
      go_simp
      go_quiet (fail)
      go_wp2
      go_ret
      exact ⟨rfl, (HR1.out.drewN _).set2 20, ((HF.out.any (Is g)).drewN _).put _ _⟩

set_option maxRecDepth 100000 in
set_option maxHeartbeats 800000 in
theorem refT_bad2 (B g : Nat) (bs : List UInt8) (a : Nat) (w : World) (most : Int) (u k : Nat) (h : RS w B g bs a 0) (hd : dec 0 0 (bs.drop a) = some (u, k)) (hneg : most < 0) :
    Calls Try.prog 54 #[.pointer (some ⟨g, 0, none⟩), .int .i64 most] w (RSRet (.string ⟨#[]⟩) w B g bs a 20) := by
  obtain ⟨A, c, ⟨c0, c1, c2⟩, hf, h1, h2, h3, h4, hr, hB⟩ := h.parts
  have HN := hide (refnum_cut hr h1 h2 h3 hB hd)
  simp only [numW] at HN
  have H := hide h
  have HA := hide hr
  have hk := dec_le _ _ _ _ _ hd
  have hk1 : a + k ≤ bs.length := by have := hk.2; simp at this; omega
  have hk0 : ((k : Int) == 0) = false := by have := hk.1; simp; omega
  have hu := dec_lt _ 0 0 u k (by decide) hd
  clear hk
  clear h hr hd
  by_cases hca : c = a
  · have HN1 := HN.out
    rw [if_pos hca, hca, Nat.sub_self] at HN1
    have HN2 := hide HN1
    clear HN HN1
    go_enter Try.func54, Try.ntmps54
    go_wp2_with (fail)
    go_region_with (go_at_call 74; refine (HN2.out w.drew rfl).mono ?_; rintro en w1 ⟨rfl, hfr⟩; have HF : Hid (Fr No w w1) := ⟨hfr.os, hfr.tape, hfr.output, hfr.size, hfr.block⟩; clear hfr; have HR1 := hide (H.out.fr0 HF.out); obtain ⟨A1, k1, ⟨e0, e1, e2⟩, hf1, q1, q2, _, _, _⟩ := HR1.out.parts)
    all_goals (try go_wp2)
    all_goals
      go_simp
      have d1 : decide (most < 0) = true := by simp; omega
      go_quiet (fail)
      clear d1
      go_wp2
      go_ret
      exact ⟨rfl, (HR1.out.drewN _).set2 20, ((HF.out.any (Is g)).drewN _).put _ _⟩
  · have HN1 := HN.out
    rw [if_neg hca] at HN1
    have HN2 := hide HN1
    clear HN HN1
    go_enter Try.func54, Try.ntmps54
    go_wp2_with (fail)
    go_region_with (go_at_call 74; refine (HN2.out w.drew rfl).mono ?_; rintro en w1 ⟨rfl, hfr⟩; have HF : Hid (Fr No w w1) := ⟨hfr.os, hfr.tape, hfr.output, hfr.size, hfr.block⟩; clear hfr; have HR1 := hide (H.out.fr0 HF.out); obtain ⟨A1, k1, ⟨e0, e1, e2⟩, hf1, q1, q2, _, _, _⟩ := HR1.out.parts)
    all_goals (try go_wp2)
    all_goals
      go_simp
      have d1 : decide (most < 0) = true := by simp; omega
      go_quiet (fail)
      clear d1
      go_wp2
      go_ret
      exact ⟨rfl, (HR1.out.drewN _).set2 20, ((HF.out.any (Is g)).drewN _).put _ _⟩

set_option maxRecDepth 100000 in
set_option maxHeartbeats 800000 in
theorem refT_bad3 (B g : Nat) (bs : List UInt8) (a : Nat) (w : World) (m : Nat) (u k : Nat) (h : RS w B g bs a 0) (hd : dec 0 0 (bs.drop a) = some (u, k)) (hm2 : (m : Int) ≤ 9223372036854775807) (hbig : m < u) :
    Calls Try.prog 54 #[.pointer (some ⟨g, 0, none⟩), .int .i64 m] w (RSRet (.string ⟨#[]⟩) w B g bs a 20) := by
  obtain ⟨A, c, ⟨c0, c1, c2⟩, hf, h1, h2, h3, h4, hr, hB⟩ := h.parts
  have HN := hide (refnum_cut hr h1 h2 h3 hB hd)
  simp only [numW] at HN
  have H := hide h
  have HA := hide hr
  have hk := dec_le _ _ _ _ _ hd
  have hk1 : a + k ≤ bs.length := by have := hk.2; simp at this; omega
  have hk0 : ((k : Int) == 0) = false := by have := hk.1; simp; omega
  have hu := dec_lt _ 0 0 u k (by decide) hd
  clear hk
  clear h hr hd
  by_cases hca : c = a
  · have HN1 := HN.out
    rw [if_pos hca, hca, Nat.sub_self] at HN1
    have HN2 := hide HN1
    clear HN HN1
    go_enter Try.func54, Try.ntmps54
    go_wp2_with (fail)
    go_region_with (go_at_call 74; refine (HN2.out w.drew rfl).mono ?_; rintro en w1 ⟨rfl, hfr⟩; have HF : Hid (Fr No w w1) := ⟨hfr.os, hfr.tape, hfr.output, hfr.size, hfr.block⟩; clear hfr; have HR1 := hide (H.out.fr0 HF.out); obtain ⟨A1, k1, ⟨e0, e1, e2⟩, hf1, q1, q2, _, _, _⟩ := HR1.out.parts)
    all_goals (try go_wp2)
    all_goals
      go_simp
      have d1 : decide ((m : Int) < 0) = false := by simp
      have d2 : decide (m < u) = true := by simp; omega
      have i1 : IntKind.u64.wrap (m : Int) = (m : Int) := IntWalk.u64_in _ (by omega)
      go_quiet (fail)
      clear d1 d2 i1
      go_wp2
      go_ret
      exact ⟨rfl, (HR1.out.drewN _).set2 20, ((HF.out.any (Is g)).drewN _).put _ _⟩
  · have HN1 := HN.out
    rw [if_neg hca] at HN1
    have HN2 := hide HN1
    clear HN HN1
    go_enter Try.func54, Try.ntmps54
    go_wp2_with (fail)
    go_region_with (go_at_call 74; refine (HN2.out w.drew rfl).mono ?_; rintro en w1 ⟨rfl, hfr⟩; have HF : Hid (Fr No w w1) := ⟨hfr.os, hfr.tape, hfr.output, hfr.size, hfr.block⟩; clear hfr; have HR1 := hide (H.out.fr0 HF.out); obtain ⟨A1, k1, ⟨e0, e1, e2⟩, hf1, q1, q2, _, _, _⟩ := HR1.out.parts)
    all_goals (try go_wp2)
    all_goals
      go_simp
      have d1 : decide ((m : Int) < 0) = false := by simp
      have d2 : decide (m < u) = true := by simp; omega
      have i1 : IntKind.u64.wrap (m : Int) = (m : Int) := IntWalk.u64_in _ (by omega)
      go_quiet (fail)
      clear d1 d2 i1
      go_wp2
      go_ret
      exact ⟨rfl, (HR1.out.drewN _).set2 20, ((HF.out.any (Is g)).drewN _).put _ _⟩

set_option maxRecDepth 100000 in
set_option maxHeartbeats 800000 in
theorem refT_bad4 (B g : Nat) (bs : List UInt8) (a : Nat) (w : World) (m : Nat) (u k : Nat) (h : RS w B g bs a 0) (hd : dec 0 0 (bs.drop a) = some (u, k)) (hm2 : (m : Int) ≤ 9223372036854775807) (hfit : u ≤ m) (hul : bs.length - a - k < u) :
    Calls Try.prog 54 #[.pointer (some ⟨g, 0, none⟩), .int .i64 m] w (RSRet (.string ⟨#[]⟩) w B g bs a 20) := by
  obtain ⟨A, c, ⟨c0, c1, c2⟩, hf, h1, h2, h3, h4, hr, hB⟩ := h.parts
  have HN := hide (refnum_cut hr h1 h2 h3 hB hd)
  simp only [numW] at HN
  have H := hide h
  have HA := hide hr
  have hk := dec_le _ _ _ _ _ hd
  have hk1 : a + k ≤ bs.length := by have := hk.2; simp at this; omega
  have hk0 : ((k : Int) == 0) = false := by have := hk.1; simp; omega
  have hu := dec_lt _ 0 0 u k (by decide) hd
  clear hk
  clear h hr hd
  by_cases hca : c = a
  · have HN1 := HN.out
    rw [if_pos hca, hca, Nat.sub_self] at HN1
    have HN2 := hide HN1
    clear HN HN1
    go_enter Try.func54, Try.ntmps54
    go_wp2_with (fail)
    go_region_with (go_at_call 74; refine (HN2.out w.drew rfl).mono ?_; rintro en w1 ⟨rfl, hfr⟩; have HF : Hid (Fr No w w1) := ⟨hfr.os, hfr.tape, hfr.output, hfr.size, hfr.block⟩; clear hfr; have HR1 := hide (H.out.fr0 HF.out); obtain ⟨A1, k1, ⟨e0, e1, e2⟩, hf1, q1, q2, _, _, _⟩ := HR1.out.parts)
    all_goals (try go_wp2)
    all_goals
      go_simp
      obtain ⟨x, hx⟩ : ∃ x : Nat, x = bs.length - a := ⟨_, rfl⟩
      obtain ⟨y, hy⟩ : ∃ y : Nat, y = bs.length - a - k := ⟨_, rfl⟩
      have d1 : decide ((m : Int) < 0) = false := by simp
      have d2 : decide (m < u) = false := by simp; omega
      have d3 : decide (y < u) = true := by simp; omega
      have i1 : IntKind.u64.wrap (m : Int) = (m : Int) := IntWalk.u64_in _ (by omega)
      have i2 : IntKind.i64.wrap ((bs.length : Int) - a) = (x : Int) := by rw [IntWalk.i64_in _ (by omega)]; omega
      have i3 : IntKind.i64.wrap ((x : Int) - k) = (y : Int) := by rw [IntWalk.i64_in _ (by omega)]; omega
      have i4 : IntKind.u64.wrap (y : Int) = (y : Int) := IntWalk.u64_in _ (by omega)
      clear hx hy hul
      go_quiet (fail)
      clear i1 i2 i3 i4 d1 d2 d3
      go_wp2
      go_ret
      exact ⟨rfl, (HR1.out.drewN _).set2 20, ((HF.out.any (Is g)).drewN _).put _ _⟩
  · have HN1 := HN.out
    rw [if_neg hca] at HN1
    have HN2 := hide HN1
    clear HN HN1
    go_enter Try.func54, Try.ntmps54
    go_wp2_with (fail)
    go_region_with (go_at_call 74; refine (HN2.out w.drew rfl).mono ?_; rintro en w1 ⟨rfl, hfr⟩; have HF : Hid (Fr No w w1) := ⟨hfr.os, hfr.tape, hfr.output, hfr.size, hfr.block⟩; clear hfr; have HR1 := hide (H.out.fr0 HF.out); obtain ⟨A1, k1, ⟨e0, e1, e2⟩, hf1, q1, q2, _, _, _⟩ := HR1.out.parts)
    all_goals (try go_wp2)
    all_goals
      go_simp
      obtain ⟨x, hx⟩ : ∃ x : Nat, x = bs.length - a := ⟨_, rfl⟩
      obtain ⟨y, hy⟩ : ∃ y : Nat, y = bs.length - a - k := ⟨_, rfl⟩
      have d1 : decide ((m : Int) < 0) = false := by simp
      have d2 : decide (m < u) = false := by simp; omega
      have d3 : decide (y < u) = true := by simp; omega
      have i1 : IntKind.u64.wrap (m : Int) = (m : Int) := IntWalk.u64_in _ (by omega)
      have i2 : IntKind.i64.wrap ((bs.length : Int) - a) = (x : Int) := by rw [IntWalk.i64_in _ (by omega)]; omega
      have i3 : IntKind.i64.wrap ((x : Int) - k) = (y : Int) := by rw [IntWalk.i64_in _ (by omega)]; omega
      have i4 : IntKind.u64.wrap (y : Int) = (y : Int) := IntWalk.u64_in _ (by omega)
      clear hx hy hul
      go_quiet (fail)
      clear i1 i2 i3 i4 d1 d2 d3
      go_wp2
      go_ret
      exact ⟨rfl, (HR1.out.drewN _).set2 20, ((HF.out.any (Is g)).drewN _).put _ _⟩

set_option maxRecDepth 100000 in
set_option maxHeartbeats 800000 in
theorem refT_ok (B g : Nat) (bs : List UInt8) (a : Nat) (w : World) (m u k : Nat) (h : RS w B g bs a 0) (hd : dec 0 0 (bs.drop a) = some (u, k)) (hm2 : (m : Int) ≤ 9223372036854775807) (hfit : u ≤ m) (hul : u ≤ (bs.drop a).length - k) :
    Calls Try.prog 54 #[.pointer (some ⟨g, 0, none⟩), .int .i64 m] w (RSRet (.string ⟨(((bs.drop a).drop k).take u).toArray⟩) w B g bs (a + k + u) 0) := by
  obtain ⟨A, c, ⟨c0, c1, c2⟩, hf, h1, h2, h3, h4, hr, hB⟩ := h.parts
  have HN := hide (refnum_cut hr h1 h2 h3 hB hd)
  simp only [numW] at HN
  have H := hide h
  have hk := dec_le _ _ _ _ _ hd
  have hk2 : a + k + u ≤ bs.length := by have := hk.2; simp at this hul; omega
  have hk0 : ((k : Int) == 0) = false := by have := hk.1; simp; omega
  have hu := dec_lt _ 0 0 u k (by decide) hd
  have HC : Hid (∀ (w' : World) (A : Option Addr) (c : Nat), bs.length ≤ c → Rd w' B A (by8 bs) → (convert 24 9 (.slice (if c = a + k then A else A.map (·.add (a + k))) u (c - (a + k)))).run Try.prog w' = .ok (.string ⟨(((bs.drop a).drop k).take u).toArray⟩) w') := fun w' A c h1 hw => conv_rd w' _ _ _ _ (by simp; omega) (by
    rw [List.drop_drop, by8_take, by8_drop]
    exact (hw.cut (by rw [by8_length]; exact h1)).tk u)
  generalize ((bs.drop a).drop k).take u = t at HC
  clear h hr hd hk hul
  unfold maxLen at h2
  by_cases hca : c = a
  · exfalso
    simp at hk0
    omega
  · have HN1 := HN.out
    rw [if_neg hca] at HN1
    have HN2 := hide HN1
    clear HN HN1
    go_enter Try.func54, Try.ntmps54
    go_wp2_with (fail)
    go_region_with (go_at_call 74; refine (HN2.out w.drew rfl).mono ?_; rintro en w1 ⟨rfl, hfr⟩; have HF : Hid (Fr No w w1) := ⟨hfr.os, hfr.tape, hfr.output, hfr.size, hfr.block⟩; clear hfr; have HR1 := hide (H.out.fr0 HF.out); have hgl := HR1.out.lt; obtain ⟨A1, k1, ⟨e0, e1, e2⟩, hf1, q1, q2, _, _, _⟩ := HR1.out.parts)
    all_goals (try go_wp2)
    all_goals
      go_simp
      obtain ⟨x, hx⟩ : ∃ x : Nat, x = bs.length - a := ⟨_, rfl⟩
      obtain ⟨y, hy⟩ : ∃ y : Nat, y = bs.length - a - k := ⟨_, rfl⟩
      have d1 : decide ((m : Int) < 0) = false := by simp
      have d2 : decide (m < u) = false := by simp; omega
      have d3 : decide (y < u) = false := by simp; omega
      have i1 : IntKind.u64.wrap (m : Int) = (m : Int) := IntWalk.u64_in _ (by omega)
      have i2 : IntKind.i64.wrap ((bs.length : Int) - a) = (x : Int) := by rw [IntWalk.i64_in _ (by omega)]; omega
      have i3 : IntKind.i64.wrap ((x : Int) - k) = (y : Int) := by rw [IntWalk.i64_in _ (by omega)]; omega
      have i4 : IntKind.u64.wrap (y : Int) = (y : Int) := IntWalk.u64_in _ (by omega)
      clear hx hy
      go_quiet (fail)
      clear i1 i2 i3 i4 d1 d2 d3
      go_wp2
      have H2 := hide ((HR1.out.drewN nq).set1 (a + k + u) hk2)
      have F2 := hide (((HF.out.any (Is g)).drewN nq).put 1 (.int .i64 ((a + k + u : Nat) : Int)))
      rw [show ((a + k + u : Nat) : Int) = (a : Int) + k + u by omega] at H2 F2
      generalize (w1.drewN nq).setCell ⟨g, 1, none⟩ (.int .i64 ((a : Int) + k + u)) = w2 at H2 F2 ⊢
      clear e0 e1 e2 hf1 q1 q2 HR1 HF hgl
      obtain ⟨A2, k2, ⟨e0, e1, e2⟩, hf1, q1, q2, _, _, hr2, _⟩ := H2.out.parts
      have hcv := fun nq => HC.out (w2.drewN nq) A2 k2 q1 hr2
      have t0 : 0 ≤ (a : Int) + k := by omega
      have t1 : ((a : Int) + k).toNat = a + k := by omega
      have t2 : (a : Int) + k ≤ ((a + k + u : Nat) : Int) := by omega
      have t3 : a + k + u ≤ k2 := by omega
      have t4 : a + k + u - (a + k) = u := by omega
      clear hr2
      go_quiet (fail)
      go_wp2
      all_goals go_ret
      all_goals exact ⟨rfl, H2.out.drewN _, F2.out.drewN _⟩

set_option maxRecDepth 100000 in
set_option maxHeartbeats 800000 in
theorem refT_off (B g : Nat) (bs : List UInt8) (a : Nat) (e : Int) (w : World) (most : Int) (h : RS w B g bs a e) (he : e ≠ 0) :
    Calls Try.prog 54 #[.pointer (some ⟨g, 0, none⟩), .int .i64 most] w (RSRet (.string ⟨#[]⟩) w B g bs a e) := by
  obtain ⟨A, c, ⟨c0, c1, c2⟩, hf, h1, h2, h3, h4, hr, hB⟩ := h.parts
  have hb : (e != 0) = true := by simpa using he
  have H := hide h
  clear h hr he
  go_enter Try.func54, Try.ntmps54
  go_wp2_with (fail)
  go_ret
  exact ⟨rfl, H.out, Fr.refl _ _⟩

set_option maxRecDepth 100000 in
set_option maxHeartbeats 800000 in
theorem refT_nil (w : World) (most : Int) :
    Calls Try.prog 54 #[.pointer none, .int .i64 most] w (Ret (.string ⟨#[]⟩) w) := by
  go_enter Try.func54, Try.ntmps54
  go_wp2_with (fail)
  go_ret
  exact ⟨rfl, rfl⟩

theorem refT_any (B g : Nat) (bs : List UInt8) (a : Nat) (e most : Int) (w : World) (h : RS w B g bs a e) (hm2 : most ≤ 9223372036854775807) :
    Calls Try.prog 54 #[.pointer (some ⟨g, 0, none⟩), .int .i64 most] w (RSRet (.string ⟨(textS bs a e most).1.toArray⟩) w B g bs (textS bs a e most).2.1 (textS bs a e most).2.2) := by
  unfold textS
  by_cases he : e = 0
  · subst he
    rw [if_pos rfl]
    cases hd : dec 0 0 (bs.drop a) with
    | none => rw [textR_none hd]; exact refT_bad1 B g bs a w most h hd
    | some x =>
      by_cases hneg : most < 0
      · rw [textR_no hd (.inl hneg)]; exact refT_bad2 B g bs a w most x.1 x.2 h hd hneg
      · obtain ⟨m, rfl⟩ := Int.eq_ofNat_of_zero_le (a := most) (by omega)
        by_cases hum : m < x.1
        · rw [textR_no hd (.inr (.inl (by omega)))]; exact refT_bad3 B g bs a w m x.1 x.2 h hd hm2 hum
        · by_cases hul : (bs.drop a).length - x.2 < x.1
          · rw [textR_no hd (.inr (.inr hul))]; exact refT_bad4 B g bs a w m x.1 x.2 h hd hm2 (by omega) (by simpa using hul)
          · rw [textR_ok hd (by omega)]
            have h1 := refT_ok B g bs a w m x.1 x.2 h hd hm2 (by omega) (by omega)
            rw [Nat.add_assoc] at h1
            exact h1
  · rw [if_neg he]
    exact refT_off B g bs a e w most h he

end Go.Proofs.Ytcdhbdhhknlbaaa
namespace Go.Proofs.Ytcdhbdhhknlbaaa
set_option linter.unusedVariables false
set_option linter.unusedSimpArgs false
open Go.RowKit

set_option maxRecDepth 100000 in
set_option maxHeartbeats 800000 in
theorem refU_bad (B g : Nat) (bs : List UInt8) (a : Nat) (w : World)  (h : RS w B g bs a 0) (hd : dec 0 0 (bs.drop a) = none) :
    Calls Try.prog 55 #[.pointer (some ⟨g, 0, none⟩)] w (RSRet (.int .u64 0) w B g bs a 20) := by
  obtain ⟨A, c, ⟨c0, c1, c2⟩, hf, h1, h2, h3, h4, hr, hB⟩ := h.parts
  have HN := hide (refnum_cut hr h1 h2 h3 hB hd)
  simp only [numW] at HN
  have H := hide h
  have HA := hide hr
  clear h hr hd
  by_cases hca : c = a
  · have HN1 := HN.out
    rw [if_pos hca, hca, Nat.sub_self] at HN1
    have HN2 := hide HN1
    clear HN HN1
    go_enter Try.func55, Try.ntmps55
    go_wp2_with (fail)
    go_region_with (go_at_call 74; refine (HN2.out w.drew rfl).mono ?_; rintro en w1 ⟨rfl, hfr⟩; have HF : Hid (Fr No w w1) := ⟨hfr.os, hfr.tape, hfr.output, hfr.size, hfr.block⟩; clear hfr; have HR1 := hide (H.out.fr0 HF.out); obtain ⟨A1, k1, ⟨e0, e1, e2⟩, hf1, q1, q2, _, _, _⟩ := HR1.out.parts)
    all_goals (try go_wp2)
    all_goals go_ret
    all_goals exact ⟨rfl, HR1.out.set2 20, (HF.out.any (Is g)).put _ _⟩
  · have HN1 := HN.out
    rw [if_neg hca] at HN1
    have HN2 := hide HN1
    clear HN HN1
    go_enter Try.func55, Try.ntmps55
    go_wp2_with (fail)
    go_region_with (go_at_call 74; refine (HN2.out w.drew rfl).mono ?_; rintro en w1 ⟨rfl, hfr⟩; have HF : Hid (Fr No w w1) := ⟨hfr.os, hfr.tape, hfr.output, hfr.size, hfr.block⟩; clear hfr; have HR1 := hide (H.out.fr0 HF.out); obtain ⟨A1, k1, ⟨e0, e1, e2⟩, hf1, q1, q2, _, _, _⟩ := HR1.out.parts)
    all_goals (try go_wp2)
    all_goals go_ret
    all_goals exact ⟨rfl, HR1.out.set2 20, (HF.out.any (Is g)).put _ _⟩

set_option maxRecDepth 100000 in
set_option maxHeartbeats 800000 in
theorem refU_ok (B g : Nat) (bs : List UInt8) (a : Nat) (w : World) (u k : Nat) (h : RS w B g bs a 0) (hd : dec 0 0 (bs.drop a) = some (u, k)) :
    Calls Try.prog 55 #[.pointer (some ⟨g, 0, none⟩)] w (RSRet (.int .u64 u) w B g bs (a + k) 0) := by
  obtain ⟨A, c, ⟨c0, c1, c2⟩, hf, h1, h2, h3, h4, hr, hB⟩ := h.parts
  have HN := hide (refnum_cut hr h1 h2 h3 hB hd)
  simp only [numW] at HN
  have H := hide h
  have HA := hide hr
  have hk := dec_le _ _ _ _ _ hd
  have hk1 : a + k ≤ bs.length := by have := hk.2; simp at this; omega
  have hk0 : ((k : Int) == 0) = false := by have := hk.1; simp; omega
  have hu := dec_lt _ 0 0 u k (by decide) hd
  clear hk
  clear h hr hd
  by_cases hca : c = a
  · have HN1 := HN.out
    rw [if_pos hca, hca, Nat.sub_self] at HN1
    have HN2 := hide HN1
    clear HN HN1
    go_enter Try.func55, Try.ntmps55
    go_wp2_with (fail)
    go_region_with (go_at_call 74; refine (HN2.out w.drew rfl).mono ?_; rintro en w1 ⟨rfl, hfr⟩; have HF : Hid (Fr No w w1) := ⟨hfr.os, hfr.tape, hfr.output, hfr.size, hfr.block⟩; clear hfr; have HR1 := hide (H.out.fr0 HF.out); obtain ⟨A1, k1, ⟨e0, e1, e2⟩, hf1, q1, q2, _, _, _⟩ := HR1.out.parts)
    all_goals (try go_wp2)
    all_goals go_ret
    all_goals exact ⟨by rfl, HR1.out.set1 _ hk1, (HF.out.any (Is g)).put _ _⟩
  · have HN1 := HN.out
    rw [if_neg hca] at HN1
    have HN2 := hide HN1
    clear HN HN1
    go_enter Try.func55, Try.ntmps55
    go_wp2_with (fail)
    go_region_with (go_at_call 74; refine (HN2.out w.drew rfl).mono ?_; rintro en w1 ⟨rfl, hfr⟩; have HF : Hid (Fr No w w1) := ⟨hfr.os, hfr.tape, hfr.output, hfr.size, hfr.block⟩; clear hfr; have HR1 := hide (H.out.fr0 HF.out); obtain ⟨A1, k1, ⟨e0, e1, e2⟩, hf1, q1, q2, _, _, _⟩ := HR1.out.parts)
    all_goals (try go_wp2)
    all_goals go_ret
    all_goals exact ⟨by rfl, HR1.out.set1 _ hk1, (HF.out.any (Is g)).put _ _⟩

set_option maxRecDepth 100000 in
set_option maxHeartbeats 800000 in
theorem refU_off (B g : Nat) (bs : List UInt8) (a : Nat) (e : Int) (w : World)  (h : RS w B g bs a e) (he : e ≠ 0) :
    Calls Try.prog 55 #[.pointer (some ⟨g, 0, none⟩)] w (RSRet (.int .u64 0) w B g bs a e) := by
  obtain ⟨A, c, ⟨c0, c1, c2⟩, hf, h1, h2, h3, h4, hr, hB⟩ := h.parts
  have hb : (e != 0) = true := by simpa using he
  have H := hide h
  clear h hr he
  go_enter Try.func55, Try.ntmps55
  go_wp2_with (fail)
  go_ret
  exact ⟨rfl, H.out, Fr.refl _ _⟩

set_option maxRecDepth 100000 in
set_option maxHeartbeats 800000 in
theorem refU_nil (w : World)  :
    Calls Try.prog 55 #[.pointer none] w (Ret (.int .u64 0) w) := by
  go_enter Try.func55, Try.ntmps55
  go_wp2_with (fail)
  go_ret
  exact ⟨rfl, rfl⟩

theorem refU_any (B g : Nat) (bs : List UInt8) (a : Nat) (e : Int) (w : World) (h : RS w B g bs a e) :
    Calls Try.prog 55 #[.pointer (some ⟨g, 0, none⟩)] w (RSRet (.int .u64 (uintR bs a e).1) w B g bs (uintR bs a e).2.1 (uintR bs a e).2.2) := by
  unfold uintR
  by_cases he : e = 0
  · subst he
    rw [if_pos rfl]
    cases hd : dec 0 0 (bs.drop a) with
    | none => exact refU_bad B g bs a w h hd
    | some x => exact refU_ok B g bs a w x.1 x.2 h hd
  · rw [if_neg he]
    exact refU_off B g bs a e w h he

end Go.Proofs.Ytcdhbdhhknlbaaa
namespace Go.Proofs.Ytcdhbdhhknlbaaa
set_option linter.unusedVariables false
set_option linter.unusedSimpArgs false
open Go.RowKit

/-- what Open keeps in memory: the reader, the dictionary. -/
structure RoM (w W : World) (g G : Nat) (bs : List UInt8) (a : Nat) (e : Int) (L : List Tx) (AT : List Nat) : Prop where
  rs : RS W w.heap.size g bs a e
  rd : RefD W w.heap.size G L AT
  fr : Fr No w W
theorem RS.base {w : World} {B g : Nat} {bs : List UInt8} {a : Nat} {e : Int} (h : RS w B g bs a e) : B ≤ g := by
  obtain ⟨_, _, _, _, _, _, _, _, h5⟩ := h
  exact h5
theorem RS.row {w : World} {B g : Nat} {bs : List UInt8} {a : Nat} {e : Int} (h : RS w B g bs a e) : ∃ cs, w.heap[g]? = some (.cells cs 86 (0, 0)) := by
  obtain ⟨_, _, h, _⟩ := h
  exact ⟨_, h⟩
theorem RefD.off {S : Nat → Prop} {w w' : World} {B g : Nat} {l : List Tx} {at_ : List Nat} (h : RefD w B g l at_) (f : Fr S w w') (h1 : Off S w 88) (h2 : Off S w 9) (h3 : Off S w 40) : RefD w' B g l at_ := by
  obtain ⟨lo, vt, va, k1, k2, k3⟩ := h
  exact ⟨lo, vt, va, f.blk k1 (h1 _ _ _ k1), k2.off f h2, k3.off f h3⟩
theorem RoM.read {w W W' : World} {g G : Nat} {bs : List UInt8} {a a' : Nat} {e e' : Int} {L : List Tx} {AT : List Nat} (h : RoM w W g G bs a e L AT) (f : Fr (Is g) W W') (hr : RS W' w.heap.size g bs a' e') : RoM w W' g G bs a' e' L AT := by
  obtain ⟨cs, hg⟩ := h.rs.row
  exact ⟨hr, h.rd.off f (off_is hg (by decide)) (off_is hg (by decide)) (off_is hg (by decide)), h.fr.trans f (fun i hi e => by have e : i = g := e; have := h.rs.base; omega)⟩
theorem RoM.fr0 {w W W' : World} {g G : Nat} {bs : List UInt8} {a : Nat} {e : Int} {L : List Tx} {AT : List Nat} (h : RoM w W g G bs a e L AT) (f : Fr No W W') : RoM w W' g G bs a e L AT := ⟨h.rs.fr0 f, h.rd.fr0 f, h.fr.tr f⟩
/-- a text is appended, its row laid into the dictionary. -/
theorem RoM.app0 {w W W1 W8 : World} {g G : Nat} {bs : List UInt8} {a : Nat} {e : Int} {L : List Tx} {AT : List Nat} {s : Tx} {vt va v8 : Value} {m : Nat} (h : RoM w W g G bs a e L AT) (hm : L.length = m) (hq : W.heap[G]? = some (.cells #[vt, va] 88 (0, 0)))
    (ht : Own W w.heap.size 9 1 vt m (svs L)) (ha : Own W w.heap.size 40 1 va AT.length (un AT)) (f1 : Fr No W W1) (f8 : Fr (fun k => vt.ownBlock = some k) W1 W8) (ho : Own W8 w.heap.size 9 1 v8 (m + 1) (svs L ++ [sv s])) :
    RoM w (W8.setCell ⟨G, 0, none⟩ v8) g G bs a e (L ++ [s]) AT := by
  have h1 := h.fr0 f1
  have ht1 := ht.fr0 f1
  have ha1 := ha.fr0 f1
  have hq1 := f1.blk hq (fun h => h)
  obtain ⟨cs, hg⟩ := h1.rs.row
  have hq8 := f8.blk hq1 (fun e => ht1.ne_blk e hq1 (by decide))
  have hg8 := f8.blk hg (fun e => ht1.ne_blk e hg (by decide))
  have r8 : RS W8 w.heap.size g bs a e := h1.rs.fr f8 (fun e => ht1.ne_blk e hg (by decide)) (fun k hk e => by have := (ht1.lt k e).1; omega)
  have f9 : Fr (Is G) W8 (W8.setCell ⟨G, 0, none⟩ v8) := (Fr.refl (Is G) W8).put 0 _
  have r9 : (W8.setCell ⟨G, 0, none⟩ v8).heap[G]? = some (.cells #[v8, va] 88 (0, 0)) := by
    have := heap_setCell_same W8 G 0 #[vt, va] 88 v8 hq8
    simpa using this
  have lo := h.rd.lo
  refine ⟨r8.fr f9 (fun e => by have e : g = G := e; rw [e, hq8] at hg8; injection hg8 with h; injection h with _ h _; revert h; decide) (fun k hk e => by have e : k = G := e; omega), ⟨lo, v8, va, r9, ?_, ?_⟩, ?_⟩
  · rw [List.length_append, hm, svs_snoc]
    exact ho.off f9 (off_is hq8 (by decide))
  · exact (ha1.off f8 (off_own ht1 (by decide))).off f9 (off_is hq8 (by decide))
  · have h8 : Fr No w W8 := (h.fr.tr f1).own f8 (fun k hk => .inl (ht1.lt k hk).1)
    exact h8.trans f9 (fun i hi e => by have e : i = G := e; omega)
theorem un_snoc (l : List Nat) (v : Nat) : un (l ++ [v]) = un l ++ [.int .u64 v] := by simp [un]
theorem RoM.app1 {w W W1 W8 : World} {g G : Nat} {bs : List UInt8} {a : Nat} {e : Int} {L : List Tx} {AT : List Nat} {x : Nat} {vt va v8 : Value} {m : Nat} (h : RoM w W g G bs a e L AT) (hm : AT.length = m) (hq : W.heap[G]? = some (.cells #[vt, va] 88 (0, 0)))
    (ht : Own W w.heap.size 9 1 vt L.length (svs L)) (ha : Own W w.heap.size 40 1 va m (un AT)) (f1 : Fr No W W1) (f8 : Fr (fun k => va.ownBlock = some k) W1 W8) (ho : Own W8 w.heap.size 40 1 v8 (m + 1) (un AT ++ [.int .u64 x])) :
    RoM w (W8.setCell ⟨G, 1, none⟩ v8) g G bs a e L (AT ++ [x]) := by
  have h1 := h.fr0 f1
  have ht1 := ht.fr0 f1
  have ha1 := ha.fr0 f1
  have hq1 := f1.blk hq (fun h => h)
  obtain ⟨cs, hg⟩ := h1.rs.row
  have hq8 := f8.blk hq1 (fun e => ha1.ne_blk e hq1 (by decide))
  have hg8 := f8.blk hg (fun e => ha1.ne_blk e hg (by decide))
  have r8 : RS W8 w.heap.size g bs a e := h1.rs.fr f8 (fun e => ha1.ne_blk e hg (by decide)) (fun k hk e => by have := (ha1.lt k e).1; omega)
  have f9 : Fr (Is G) W8 (W8.setCell ⟨G, 1, none⟩ v8) := (Fr.refl (Is G) W8).put 1 _
  have r9 : (W8.setCell ⟨G, 1, none⟩ v8).heap[G]? = some (.cells #[vt, v8] 88 (0, 0)) := by
    have := heap_setCell_same W8 G 1 #[vt, va] 88 v8 hq8
    simpa using this
  have lo := h.rd.lo
  refine ⟨r8.fr f9 (fun e => by have e : g = G := e; rw [e, hq8] at hg8; injection hg8 with h; injection h with _ h _; revert h; decide) (fun k hk e => by have e : k = G := e; omega), ⟨lo, vt, v8, r9, ?_, ?_⟩, ?_⟩
  · exact (ht1.off f8 (off_own ha1 (by decide))).off f9 (off_is hq8 (by decide))
  · rw [List.length_append, hm, un_snoc]
    exact ho.off f9 (off_is hq8 (by decide))
  · have h8 : Fr No w W8 := (h.fr.tr f1).own f8 (fun k hk => .inl (ha1.lt k hk).1)
    exact h8.trans f9 (fun i hi e => by have e : i = G := e; omega)
def ROpenP (w : World) (bs : List UInt8) (en : Ending) (w' : World) : Prop :=
  Fr No w w' ∧ ((∃ G l vs, Form9 bs l vs ∧ en = .returned (.tuple #[.pointer (some ⟨G, 0, none⟩), .int .i64 0]) ∧ RefD w' w.heap.size G l vs) ∨ ((∀ l vs, ¬ Form9 bs l vs) ∧ en = .returned (.tuple #[.pointer none, .int .i64 20])))
/-- what a round of Open keeps beside memory. -/
structure RoK (n i : Nat) (L : List Tx) (AT : List Nat) : Prop where
  len : L.length = i
  le : ∀ t ∈ L, t.length ≤ 4096 * i
  al : AT.length ≤ n
  al2 : i < n → AT.length ≤ i - i % 16
  u : U64s AT

set_option maxRecDepth 100000 in
set_option maxHeartbeats 8000000 in
theorem ropen_any (A : Option Addr) (m c : Nat) (bs : List UInt8) (w : World) (hl : bs.length = m) (hm : m ≤ c) (hc : c ≤ maxLen) (hb : m ≤ 140737488355328) (hr : Rd w w.heap.size A (by8 bs)) :
    Calls Try.prog 26 #[.slice A m c] w (ROpenP w bs) := by
  obtain ⟨n, a0, e0, hs1⟩ : ∃ n a e, sizeS bs 0 0 1048576 = (n, a, e) := ⟨_, _, _, rfl⟩
  have hn16 : n ≤ 1048576 := by have := sizeS_le (bs := bs) (a := 0) (e := 0) (most := 1048576) (by omega); rw [hs1] at this; dsimp only at this; omega
  have HS0 := hide (ro_start hs1)
  have HL := hide hl
  have HR := hide hr
  obtain ⟨w1, hw1⟩ : ∃ w1, w1 = w.alloc (.cells #[.slice A m c, .int .i64 0, .int .i64 0] 86) := ⟨_, rfl⟩
  obtain ⟨g, hg⟩ : ∃ g, g = w.heap.size := ⟨_, rfl⟩
  have hrs : RS w1 w.heap.size g bs 0 0 := by
    refine ⟨A, c, ?_, by omega, hc, Nat.zero_le _, by omega, ?_, by omega⟩
    · rw [hw1, hg, hl]; exact heap_alloc_new w _
    · rw [hw1]; exact hr.fr0 ((Fr.refl No w).alloc _)
  have HF1 : Hid (Fr No w w1) := hide (by rw [hw1]; exact (Fr.refl No w).alloc _)
  have HW1 := hide hw1
  have HG := hide hg
  have HSz1 := hide (refN_any w.heap.size g bs 0 0 1048576 w1 hrs (by omega))
  rw [hs1] at HSz1
  have HM := hide hm
  have HC := hide hc
  unfold maxLen at hc
  clear hl hr hs1 hrs hw1
  go_enter Try.func26, Try.ntmps26
  go_wp2_with (fail)
  rw [← HW1.out, ← hg]
  refine HSz1.out.mono ?_
  rintro en w2 ⟨rfl, hrs, hfr⟩
  have HRS2 := hide hrs
  have HF2 : Hid (Fr No w w2) := hide (HF1.out.trans hfr (fun i hi e => by have e : i = g := e; omega))
  clear hrs hfr hg HSz1
  obtain ⟨w3, hw3⟩ : ∃ W, W = w2.alloc (.cells #[.slice none 0 0, .slice none 0 0] 88) := ⟨_, rfl⟩
  obtain ⟨G, hG⟩ : ∃ G, G = w2.heap.size := ⟨_, rfl⟩
  have HM3 : Hid (RoM w w3 g G bs a0 e0 [] []) := hide (by
    have fa : Fr No w2 w3 := by rw [hw3]; exact (Fr.refl No w2).alloc _
    exact ⟨HRS2.out.fr0 fa, ⟨by rw [hG]; exact HF2.out.size, _, _, by rw [hw3, hG]; exact heap_alloc_new w2 _, Own.nil _ _ _ _, Own.nil _ _ _ _⟩, HF2.out.tr fa⟩)
  have HW3 := hide hw3
  have HGg := hide hG
  clear hw3 hG
  go_upto_region 4 with (fail)
  rw [← HW3.out, ← HGg.out]
  have HK3 : Hid (RoK n 0 [] []) := hide ⟨rfl, (fun t ht => nomatch ht), Nat.zero_le _, (fun _ => Nat.zero_le _), (fun v hv => nomatch hv)⟩
  go_wp2_with (fail)
  go_loopw [7] (fun ix wr => ∃ (i a : Nat) (e : Int) (L : List Tx) (AT : List Nat), i ≤ n ∧ ix = .int .i64 i ∧ Hid (RoI bs n i a e L AT) ∧ Hid (RoK n i L AT) ∧ Hid (RoM w wr g G bs a e L AT)) (fun ix _ => n - (intOf ix).toNat)
  case atStart => exact ⟨0, a0, e0, [], [], Nat.zero_le _, rfl, HS0, HK3, HM3⟩
  case round =>
    obtain ⟨wo, rfl⟩ : ∃ wo : World, wo = wr := ⟨_, rfl⟩
    obtain ⟨i, a, e, L, AT, hin, rfl, HI, HKp, HMo⟩ := hrel
    clear HM3 HK3 HS0 HRS2 HF2 HF1 HW1
    obtain ⟨Ar, cr, ⟨c0, c1, c2⟩, hf, hpt⟩ := HMo.out.rs.parts
    clear hpt
    obtain ⟨gb, hgb⟩ : ∃ gb, gb = decide (i < n ∧ e = 0) := ⟨_, rfl⟩
    have HGb := hide hgb
    clear hgb
    go_upto_region 5 with (fail)
    refine wp_named fun K hK => ?_
    go_cut [32] from 23 to 32 (fun v wx => v = .bool gb ∧ wx = wo)
    case first =>
      by_cases h1 : i < n
      · by_cases h2 : e = 0
        · have HX : Hid (gb = true) := hide (by rw [HGb.out]; exact decide_eq_true ⟨h1, h2⟩)
          subst h2
          have d1 : decide ((i : Int) < (n : Int)) = true := decide_eq_true (by omega)
          go_wp2
          go_meet
          exact ⟨by rw [HX.out], rfl⟩
        · have HX : Hid (gb = false) := hide (by rw [HGb.out]; exact decide_eq_false (fun h => h2 h.2))
          have d1 : decide ((i : Int) < (n : Int)) = true := decide_eq_true (by omega)
          have d2 : (e == 0) = false := by simpa using h2
          clear h2
          go_wp2
          go_meet
          exact ⟨by rw [HX.out], rfl⟩
      · have HX : Hid (gb = false) := hide (by rw [HGb.out]; exact decide_eq_false (fun h => h1 h.1))
        have d1 : decide ((i : Int) < (n : Int)) = false := decide_eq_false (by omega)
        have d3 : decide (i < n) = false := decide_eq_false h1
        go_wp2
        go_meet
        exact ⟨by rw [HX.out], rfl⟩
    case rest =>
    obtain ⟨rfl, rfl⟩ := hcut
    obtain ⟨wo, rfl⟩ : ∃ W : World, W = wc := ⟨_, rfl⟩
    refine hK _ _ ?_
    clear hK K c0 c1 c2 hf
    cases gb with
    | true =>
      obtain ⟨hlt, rfl⟩ : i < n ∧ e = 0 := of_decide_eq_true HGb.out.symm
      obtain ⟨r, hr⟩ : ∃ r : Nat, i % 16 = r := ⟨_, rfl⟩
      have ir : (i : Int) % 16 = (r : Int) := mod16b hr
      have irw : wrap64 (r : Int) = (r : Int) := wrap_smallb (modr_le hr)
      have HRr := hide hr
      have HIr := hide ir
      have HIrw := hide irw
      have hr16 : r ≤ 15 := by have h2 := Nat.mod_lt i (show 0 < 16 by decide); rw [hr] at h2; exact Nat.le_of_lt_succ h2
      have hri : r ≤ i := by rw [← hr]; exact Nat.mod_le _ _
      clear hr ir irw
      obtain ⟨gz, hgz⟩ : ∃ gz : Bool, decide ((0 : Int) < (r : Int)) = gz := ⟨_, rfl⟩
      have hgzb : decide (0 < r) = gz := by rw [← hgz]; by_cases h : 0 < r <;> simp [h] <;> omega
      have HGz := hide hgzb
      have HGz2 := hide hgz
      clear hgz hgzb HGb
      go_upto_region 8 with (fail)
      refine wp_named fun K hK => ?_
      go_cut [37] from 35 to 37 (fun v wx => v = .bool gz ∧ wx = wo)
      case first =>
        have hin2 : i ≤ 1048576 := by omega
        clear hin hlt hm hc hb hn16 hri hr16
        have ir := HIr.out
        have irw := HIrw.out
        have hgz := HGz2.out
        have hgzb := HGz.out
        clear hin2
        go_wp2_with (fail)
        go_meet
        exact ⟨by first | rfl | rw [hgz] | rw [hgzb], rfl⟩
      case rest =>
      obtain ⟨rfl, rfl⟩ := hcut
      obtain ⟨wo, rfl⟩ : ∃ W : World, W = wc := ⟨_, rfl⟩
      refine hK _ _ ?_
      clear hK K HGz2
      go_upto_if 37 with (fail)
      refine wp_named fun K hK => ?_
      go_cut [8, 9, 10] from 38 to 52 (fun v8 v9 v10 wx => ∃ (S : ByteArray) (a1 : Nat) (e1 : Int) (s0 : Tx), v8 = .string S ∧ Hid (S.data.toList = s0) ∧ Hid (s0.length ≤ 4096 * i) ∧ Hid (RoM w wx g G bs a1 e1 L AT) ∧ Hid (∀ t a2 e2, textS bs a1 e1 4096 = (t, a2, e2) → RoT bs n i a2 e2 (L ++ [s0 ++ t]) AT))
      case first =>
        cases hgz : gz with
        | true =>
          have hr0 : 0 < r := by have := HGz.out; rw [hgz] at this; exact of_decide_eq_true this
          subst hgz
          obtain ⟨j, hj⟩ : ∃ j, i = j + 1 := ⟨i - 1, by omega⟩
          have hjl : j < L.length := by rw [HKp.out.len]; omega
          obtain ⟨glo, vt, va, gq, go1, go2⟩ := HMo.out.rd
          obtain ⟨At, ct, rfl, ht1, ht2, _, ht4, _⟩ := go1.form
          obtain ⟨ad, P, rfl, _, kc, hP1, hP2, hP3⟩ := cellStr ht4 hjl
          have k1 : wo.cell? ⟨G, 0, none⟩ = some (.slice (some ad) L.length ct) := cell_of_row _ _ 0 _ _ _ gq
          rw [HKp.out.len] at k1
          obtain ⟨p, hp⟩ : ∃ p, L.getD j [] = p := ⟨_, rfl⟩
          have hpl : p.length ≤ 4096 * i := by rw [← hp]; exact HKp.out.le _ (getD_mem hjl)
          rw [hp] at hP1 hP3
          obtain ⟨k, a1, e1, hz1⟩ : ∃ k a1 e1, sizeS bs a 0 (p.length : Nat) = (k, a1, e1) := ⟨_, _, _, rfl⟩
          have hkp : (k : Int) ≤ p.length := by have := sizeS_le (bs := bs) (a := a) (e := 0) (most := (p.length : Nat)) (by omega); rw [hz1] at this; exact this
          have HNx : Hid (∀ t a2 e2, textS bs a1 e1 4096 = (t, a2, e2) → RoT bs n i a2 e2 (L ++ [p.take k ++ t]) AT) := hide (fun t a2 e2 h => ro_next HI.out hlt (by rw [HRr.out]; omega) (by rw [hj, Nat.add_sub_cancel]; exact hp) hz1 h)
          have HSz := hide (refN_any w.heap.size g bs a 0 (p.length : Nat) wo HMo.out.rs (by omega))
          rw [hz1] at HSz
          dsimp only at HSz
          rw [← hP3] at HSz hkp hpl
          have HP1 := hide hP1
          have im1 : IntKind.i64.wrap ((i : Int) - 1) = (j : Int) := by rw [show (i : Int) - 1 = (j : Int) by omega]; exact IntWalk.i64_in _ (by omega)
          have im2 : (i : Int) - 1 = (j : Int) := by omega
          have j0 : (0 : Int) ≤ (j : Int) := by omega
          have j1 : (j : Int) < (i : Int) := by omega
          have q0 : (0 : Int) ≤ (k : Int) := by omega
          have hpl2 : P.size ≤ 4294967296 := by omega
          have HPl := hide hpl
          clear hP1 hP2 hP3 hp hz1 glo gq go1 go2 ht1 ht2 ht4 hjl hj hr0 hpl
          go_wp2_with (go_at_call 53; refine HSz.out.mono ?_; rintro en w4 ⟨rfl, hrs, hfr⟩; have HM4 := hide (HMo.out.read hfr hrs); clear hrs hfr)
          go_meet
          refine ⟨_, a1, e1, p.take k, rfl, hide ?_, hide ?_, HM4, HNx⟩
          · rw [← ByteArray.toList_eq, Lib.extract_toList, HP1.out]
            simp
          · have h1 := HPl.out
            have h2 : P.size = p.length := by rw [← HP1.out, Array.length_toList]; rfl
            rw [List.length_take]
            omega
        | false =>
          have hr0 : r = 0 := by have := HGz.out; rw [hgz] at this; have := of_decide_eq_false this; omega
          subst hgz
          have HNx : Hid (∀ t a2 e2, textS bs a 0 4096 = (t, a2, e2) → RoT bs n i a2 e2 (L ++ [[] ++ t]) AT) := hide (fun t a2 e2 h => by
            have h2 := ro_first HI.out hlt (by rw [HRr.out]; exact hr0)
            rw [h] at h2
            exact h2)
          clear hr0
          go_wp2_with (fail)
          go_meet
          exact ⟨_, a, 0, [], rfl, hide rfl, hide (Nat.zero_le _), HMo, HNx⟩
      case rest =>
      obtain ⟨S, a1, e1, s0, rfl, HSd, HSl, HM5, HNx⟩ := hcut
      obtain ⟨w5, rfl⟩ : ∃ W : World, W = wc := ⟨_, rfl⟩
      refine hK _ _ ?_
      clear hK K HMo HGz
      obtain ⟨t, a2, e2, hz2⟩ : ∃ t a2 e2, textS bs a1 e1 4096 = (t, a2, e2) := ⟨_, _, _, rfl⟩
      have HRT := hide (HNx.out t a2 e2 hz2)
      have HTx := hide (refT_any w.heap.size g bs a1 e1 4096 w5 HM5.out.rs (by decide))
      have htl : t.length ≤ 4096 := by
        by_cases h : (textS bs a1 e1 4096).2.2 = 0
        · have := (text_of h).2.1; rw [hz2] at this; dsimp only at this; omega
        · have := text_zero h; rw [hz2] at this; dsimp only at this; rw [this]; simp
      rw [hz2] at HTx
      dsimp only at HTx
      obtain ⟨T, hT⟩ : ∃ T : ByteArray, (⟨t.toArray⟩ : ByteArray) = T := ⟨_, rfl⟩
      have hTs : T.size ≤ 4096 := by rw [← hT, tx_size]; exact htl
      have HTd : Hid (T.data.toList = t) := hide (by rw [← hT])
      rw [hT] at HTx
      have hSs : S.size ≤ 4294967296 := by
        have h1 := HSl.out
        rw [← HSd.out, Array.length_toList] at h1
        have h2 : S.data.size = S.size := rfl
        omega
      have HTl := hide htl
      have HM5b := HM5
      clear hz2 hT htl HNx HM5 HI
      go_upto_region 13 with (go_at_call 54; refine HTx.out.mono ?_; rintro en w6 ⟨rfl, hrs, hfr⟩; have HM6 := hide (HM5b.out.read hfr hrs); clear hrs hfr)
      obtain ⟨Z, hZ⟩ : ∃ Z : ByteArray, S ++ T = Z := ⟨_, rfl⟩
      obtain ⟨s, hs⟩ : ∃ s, s0 ++ t = s := ⟨_, rfl⟩
      have hZs : Value.string Z = sv s := by
        have h : S ++ T = ⟨(S.data.toList ++ T.data.toList).toArray⟩ := by
          rw [ByteArray.ext_iff, ByteArray.data_append]
          simp
        rw [sv, ← hs, ← hZ, ← HSd.out, ← HTd.out, h]
      have HZs := hide hZs
      have HSl2 : Hid (s.length ≤ 4096 * (i + 1)) := hide (by have h1 := HSl.out; have h2 := HTl.out; rw [← hs, List.length_append]; omega)
      rw [hs] at HRT
      rw [hZ]
      obtain ⟨glo, vt, va, gq, go1, go2⟩ := HM6.out.rd
      rw [HKp.out.len] at go1
      have HQ := hide gq
      have HVt := hide go1
      have HVa := hide go2
      have k1 : w6.cell? ⟨G, 0, none⟩ = some vt := cell_of_row _ _ 0 _ _ _ gq
      have fa : Fr No w6 (w6.alloc (.cells #[.string Z] 9)) := (Fr.refl No w6).alloc _
      have HFa := hide fa
      have HO7 := hide (HVt.out.fr0 fa)
      have HS7 := hide (Src.one (P := Try.prog) w6 (e := 9) Try.underlying22 (.string Z) rfl)
      have HQa := hide (fa.blk gq (fun h => h))
      obtain ⟨i0, hi, hz, hsz, hby⟩ := info_parts Try.infoS
      have b1 : (i + 1) * 16 ≤ 140737488355328 := by omega
      have b2 : i + 1 ≤ maxLen := by unfold maxLen; omega
      have b3 : w.heap.size ≤ (w6.alloc (.cells #[.string Z] 9)).heap.size := by have := HM6.out.fr.size; have := fa.size; omega
      clear glo gq go1 go2 fa hZ hs hZs hTs hSs HTx HM5b HSd HTd HSl HTl
      refine wp_named fun K hK => ?_
      go_cut [] from 57 to 66 (fun wx => Hid (RoM w wx g G bs a2 e2 (L ++ [s]) AT))
      case first =>
        go_wp2_with (first | (at_builtin; refine wpList_append_gen _ rfl (.tmp 61) (.tmp 63) 22 22 rfl w.heap.size 9 i0 (.string ⟨#[]⟩) 1 16 Try.underlying22 hi hz hsz hby rfl vt i (svs L) rfl HO7.out _ 1 [.string Z] rfl HS7.out b1 b2 b3 ?_; intro v8 w8 hown hfr hat; obtain ⟨A8, c8, rfl, _⟩ := hown.form; have HO8 := hide hown; have HF8 := hide hfr; have hb8 := hfr.blk HQa.out (fun e => HO7.out.ne_blk e HQa.out (by decide)); have k8 : w8.cell? ⟨G, 0, none⟩ = some vt := cell_of_row _ _ 0 _ _ _ hb8; have fz8 : w8.frozen? ⟨G, 0, none⟩ = false := frozen_of_row _ _ _ _ _ hb8; clear hown hfr hat hb8) | fail)
        go_meet
        have h8 := HO8.out
        rw [HZs.out] at h8
        exact hide (HM6.out.app0 HKp.out.len HQ.out HVt.out HVa.out HFa.out HF8.out h8)
      case rest =>
      have HM7 := hcut
      obtain ⟨w7, rfl⟩ : ∃ W : World, W = wc := ⟨_, rfl⟩
      refine hK _ _ ?_
      clear hcut hK K k1 hi hz hsz hby b1 b2 b3 HM6 HQ HVt HVa HFa HO7 HS7 HQa
      obtain ⟨g2, hg2⟩ : ∃ g2 : Bool, g2 = decide (r = 15 ∨ i + 1 = n) := ⟨_, rfl⟩
      have HG2 := hide hg2
      have e15 : ((r : Int) == 15) = decide (r = 15) := by
        by_cases h : r = 15
        · rw [h]; rfl
        · rw [decide_eq_false h]; simp; omega
      have ek : ((i : Int) == (n : Int) - 1) = decide (i + 1 = n) := by
        by_cases h : i + 1 = n
        · rw [decide_eq_true h]; simp; omega
        · rw [decide_eq_false h]; simp; omega
      have HE15 := hide e15
      have HKw := hide (wrap_predb (k := n) (by omega) (by omega))
      have HEk := hide ek
      clear hg2 e15 ek
      go_upto_region 14 with (fail)
      refine wp_named fun K hK => ?_
      go_cut [75] from 67 to 75 (fun v wx => v = .bool g2 ∧ wx = w7)
      case first =>
        by_cases h15 : r = 15
        · have HX : Hid (g2 = true) := hide (by rw [HG2.out]; simp [h15])
          have e1 := HE15.out
          rw [decide_eq_true h15] at e1
          clear hin hlt hm hc hb hn16 hri hr16 h15
          have ir := HIr.out
          have irw := HIrw.out
          go_wp2_with (fail)
          go_meet
          exact ⟨by rw [HX.out], rfl⟩
        · have HX : Hid (g2 = decide (i + 1 = n)) := hide (by rw [HG2.out]; simp [h15])
          have e1 := HE15.out
          rw [decide_eq_false h15] at e1
          have e2 := HEk.out
          rw [← HX.out] at e2
          clear hin hlt hm hc hb hn16 hri hr16 h15
          have ir := HIr.out
          have irw := HIrw.out
          go_wp2_with (fail)
          go_meet
          exact ⟨by first | rfl | rw [e2] | rw [HKw.out, e2], rfl⟩
      case rest =>
      obtain ⟨rfl, rfl⟩ := hcut
      obtain ⟨w7, rfl⟩ : ∃ W : World, W = wc := ⟨_, rfl⟩
      refine hK _ _ ?_
      clear hK K HE15 HEk HKw
      have HKn : Hid (∀ AT', AT'.length ≤ n → (i + 1 < n → AT'.length ≤ (i + 1) - (i + 1) % 16) → U64s AT' → RoK n (i + 1) (L ++ [s]) AT') := hide (fun AT' h1 h2 h3 => ⟨by rw [List.length_append, HKp.out.len]; rfl, fun t ht => by
        rcases List.mem_append.1 ht with h | h
        · have := HKp.out.le t h; omega
        · rw [List.mem_singleton.1 h]; exact HSl2.out, h1, h2, h3⟩)
      go_upto_if 75 with (fail)
      refine wp_named fun K hK => ?_
      go_cut [11, 12] from 76 to 96 (fun v11 v12 wx => ∃ (a3 : Nat) (e3 : Int) (AT' : List Nat), Hid (RoI bs n (i + 1) a3 e3 (L ++ [s]) AT') ∧ Hid (RoK n (i + 1) (L ++ [s]) AT') ∧ Hid (RoM w wx g G bs a3 e3 (L ++ [s]) AT'))
      case first =>
        cases hgb : g2 with
        | true =>
          have hyes : i % 16 = 15 ∨ i + 1 = n := by
            have h := HG2.out
            rw [hgb] at h
            rw [HRr.out]
            exact of_decide_eq_true h.symm
          have HV0 := hide (ro_vals HRT.out hyes)
          have HYes := hide hyes
          subst hgb
          obtain ⟨s0, hs0⟩ : ∃ s0, s0 = i - r := ⟨_, rfl⟩
          have hsI : (i : Int) - (r : Int) = (s0 : Int) := by omega
          have hsw : IntKind.i64.wrap (s0 : Int) = (s0 : Int) := IntWalk.i64_in _ (by omega)
          have hse : i = s0 + r := by omega
          rw [HRr.out, ← hs0] at HV0
          have HAl : Hid (AT.length ≤ s0) := hide (by have h1 := HKp.out.al2 hlt; rw [HRr.out] at h1; omega)
          have HSe := hide hse
          have hsi : s0 ≤ i := by omega
          clear hs0 hse hyes
          go_upto_region 15 with (fail)
          refine wp_named fun K2 hK2 => ?_
          go_cut [11] from 76 to 79 (fun v wx => v = .int .i64 (s0 : Nat) ∧ wx = w7)
          case first =>
            have j1 : (0 : Int) ≤ (i : Int) := by omega
            clear hin hlt hm hc hb hn16 hri hr16 hsi
            have ir := HIr.out
            have irw := HIrw.out
            go_wp2_with (fail)
            go_meet
            exact ⟨rfl, rfl⟩
          case rest =>
          obtain ⟨rfl, rfl⟩ := hcut
          obtain ⟨w7, rfl⟩ : ∃ W : World, W = wc := ⟨_, rfl⟩
          refine hK2 _ _ ?_
          clear hK2 hsI hsw K2
          go_wp2_with (fail)
          go_loopw [11] (fun kk wx => ∃ (k a3 : Nat) (e3 : Int) (AT3 : List Nat), kk = .int .i64 k ∧ s0 ≤ k ∧ k ≤ i + 1 ∧ Hid (RoV bs n i k a3 e3 (L ++ [s]) AT3) ∧ Hid (AT3.length ≤ k) ∧ Hid (U64s AT3) ∧ Hid (RoM w wx g G bs a3 e3 (L ++ [s]) AT3)) (fun kk _ => i + 1 - (intOf kk).toNat)
          case atStart => exact ⟨s0, a2, e2, AT, rfl, Nat.le_refl _, by omega, HV0, HAl, hide HKp.out.u, HM7⟩
          case round =>
            obtain ⟨wz, rfl⟩ : ∃ wz : World, wz = wr := ⟨_, rfl⟩
            obtain ⟨k, a3, e3, AT3, rfl, hk1, hk2, HV, HAl3, HU3, HMz⟩ := hrel
            clear HM7 HV0 HAl
            by_cases hlt3 : k ≤ i
            · have HUi := hide (refU_any w.heap.size g bs a3 e3 wz HMz.out.rs)
              have HV2 := hide (ro_val HV.out hlt3 hlt)
              have hxu : (uintR bs a3 e3).1 < 18446744073709551616 := uintR_lt bs a3 e3
              generalize uintR bs a3 e3 = x at HUi HV2 hxu
              obtain ⟨x, a4, e4⟩ := x
              dsimp only at HUi HV2 hxu
              have HXu := hide hxu
              have d1 : decide ((k : Int) ≤ (i : Int)) = true := decide_eq_true (by omega)
              clear hxu
              go_upto_region 19 with (go_at_call 55; refine HUi.out.mono ?_; rintro en w8 ⟨rfl, hrs, hfr⟩; have HM8 := hide (HMz.out.read hfr hrs); clear hrs hfr)
              obtain ⟨glo, vt, va, gq, go1, go2⟩ := HM8.out.rd
              obtain ⟨m4, hm4⟩ : ∃ m4, AT3.length = m4 := ⟨_, rfl⟩
              rw [hm4] at go2
              have HM4 := hide hm4
              have HQ := hide gq
              have HVt := hide go1
              have HVa := hide go2
              have hm5 : m4 ≤ i := by rw [← hm4]; have := HAl3.out; omega
              have k1 : w8.cell? ⟨G, 1, none⟩ = some va := cell_of_row _ _ 1 _ _ _ gq
              have fa : Fr No w8 (w8.alloc (.cells #[.int .u64 x] 40)) := (Fr.refl No w8).alloc _
              have HFa := hide fa
              have HO7 := hide (HVa.out.fr0 fa)
              have HS7 := hide (Src.one (P := Try.prog) w8 (e := 40) Try.underlying23 (.int .u64 x) rfl)
              have HQa := hide (fa.blk gq (fun h => h))
              obtain ⟨i0, hi, hz, hsz, hby⟩ := info_parts Try.infoU
              have b1 : (m4 + 1) * 8 ≤ 140737488355328 := by omega
              have b2 : m4 + 1 ≤ maxLen := by unfold maxLen; omega
              have b3 : w.heap.size ≤ (w8.alloc (.cells #[.int .u64 x] 40)).heap.size := by have := HM8.out.fr.size; have := fa.size; omega
              clear glo gq go1 go2 fa hm4 HUi
              go_wp2_with (first | (at_builtin; refine wpList_append_gen _ rfl (.tmp 91) (.tmp 93) 23 23 rfl w.heap.size 40 i0 (.int .u64 0) 1 8 Try.underlying23 hi hz hsz hby rfl va m4 (un AT3) rfl HO7.out _ 1 [.int .u64 x] rfl HS7.out b1 b2 b3 ?_; intro v9 w9 hown hfr hat; obtain ⟨A9, c9, rfl, _⟩ := hown.form; have HO9 := hide hown; have HF9 := hide hfr; have hb9 := hfr.blk HQa.out (fun e => HO7.out.ne_blk e HQa.out (by decide)); have k9 : w9.cell? ⟨G, 1, none⟩ = some va := cell_of_row _ _ 1 _ _ _ hb9; have fz9 : w9.frozen? ⟨G, 1, none⟩ = false := frozen_of_row _ _ _ _ _ hb9; clear hown hfr hat hb9) | fail)
              go_roundw
              case rel => exact ⟨k + 1, a4, e4, AT3 ++ [x], by go_num, by omega, by omega, HV2, hide (by rw [List.length_append, HM4.out]; have := HM4.out; have := HAl3.out; simp; omega), hide (fun v hv => by
                rcases List.mem_append.1 hv with h | h
                · exact HU3.out v h
                · rw [List.mem_singleton.1 h]; exact HXu.out), hide (HM8.out.app1 HM4.out HQ.out HVt.out HVa.out HFa.out HF9.out HO9.out)⟩
              case measure => simp [intOf]; omega
            · have hke : k = i + 1 := by omega
              subst hke
              have HI2 := hide (ro_done HV.out hlt HYes.out)
              have HK2 := hide (HKn.out AT3 (by have := HAl3.out; omega) (fun h => by
                have h1 := HAl3.out
                have h2 : (i + 1) % 16 = 0 := by rcases HYes.out with h3 | h3 <;> omega
                omega) HU3.out)
              have d1 : decide (((i + 1 : Nat) : Int) ≤ (i : Int)) = false := decide_eq_false (by omega)
              clear hlt3 HV HAl3
              go_wp2_with (fail)
              go_meet
              exact ⟨a3, e3, AT3, HI2, HK2, HMz⟩
        | false =>
          have hno : ¬ (i % 16 = 15 ∨ i + 1 = n) := by
            have h := HG2.out
            rw [hgb] at h
            rw [HRr.out]
            exact of_decide_eq_false h.symm
          have HI2 := hide (ro_skip HRT.out hlt hno)
          have HK2 := hide (HKn.out AT HKp.out.al (fun h => by have h1 := HKp.out.al2 hlt; omega) HKp.out.u)
          subst hgb
          clear hno
          go_wp2_with (fail)
          go_meet
          exact ⟨a2, e2, AT, HI2, HK2, HM7⟩
      case rest =>
      obtain ⟨a3, e3, AT', HI2, HK2, HM8⟩ := hcut
      obtain ⟨w8, rfl⟩ : ∃ W : World, W = wc := ⟨_, rfl⟩
      refine hK _ _ ?_
      clear hK K HRT HM7 HIr HIrw HKp HKn HSl2
      go_wp2_with (fail)
      go_roundw
      case rel => exact ⟨i + 1, a3, e3, L ++ [s], AT', by omega, by go_num, HI2, HK2, HM8⟩
      case measure => simp [intOf]; omega
    | false =>
      have HX := hide (of_decide_eq_false HGb.out.symm)
      have HFin : Hid (∀ l at_, Form9 bs l at_ → L = l ∧ AT = at_ ∧ endE bs a e = 0) := hide (fun l at_ hf => ro_fin HI.out HX.out hf)
      have HEn := hide (refEnd_any w.heap.size g bs a e wo HMo.out.rs)
      obtain ⟨ε, hε⟩ : ∃ ε, ε = endE bs a e := ⟨_, rfl⟩
      rw [← hε] at HEn HFin
      clear hε HGb HX HI
      by_cases he : ε = 0
      rotate_left
      · have d2 : (ε != 0) = true := by simpa using he
        have HNo : Hid (∀ l vs, ¬ Form9 bs l vs) := hide (fun l vs hf => he (HFin.out l vs hf).2.2)
        clear he
        go_wp2_with (go_at_call 56; refine HEn.out.mono ?_; rintro en w6 ⟨rfl, hrs, hfr⟩; have HM6 := hide (HMo.out.read hfr hrs); clear hrs hfr)
        go_ret2
        exact ⟨HM6.out.fr, .inr ⟨HNo.out, rfl⟩⟩
      have d2 : (ε != 0) = false := by simpa using he
      clear he
      go_upto_region 22 with (go_at_call 56; refine HEn.out.mono ?_; rintro en w6 ⟨rfl, hrs, hfr⟩; have HM6 := hide (HMo.out.read hfr hrs); clear hrs hfr)
      clear HMo HEn d2
      obtain ⟨glo, vt, va, gq, go1, go2⟩ := HM6.out.rd
      obtain ⟨m4, hm4⟩ : ∃ m4, AT.length = m4 := ⟨_, rfl⟩
      have hm4n : m4 ≤ n := by rw [← hm4]; exact HKp.out.al
      obtain ⟨At, ct, rfl, ht1, ht2, _, ht4, _⟩ := go1.form
      obtain ⟨Av, cv, rfl, hv1, hv2, _, hv4, _⟩ := go2.form
      rw [HKp.out.len] at ht1
      rw [hm4] at hv1
      have HBd := hide (fun W (hW : Fr No w6 W) => rbuild_any At Av i m4 ct cv w6.heap.size L AT W HKp.out.len ht1 ht2 hm4 hv1 hv2 hW.size (ht4.fr0 hW) (hv4.fr0 hW) (fun t ht => by have h1 := HKp.out.le t ht; unfold maxLen; omega) HKp.out.u)
      have k1 : w6.drew.cell? ⟨G, 0, none⟩ = some (.slice At L.length ct) := cell_of_row w6 _ 0 _ _ _ gq
      have k2 : w6.drew.cell? ⟨G, 1, none⟩ = some (.slice Av AT.length cv) := cell_of_row w6 _ 1 _ _ _ gq
      rw [HKp.out.len] at k1
      rw [hm4] at k2
      have HK0 : Hid (w6.drew.cell? ⟨G, 0, none⟩ = some (.slice At i ct) ∧ w6.drew.cell? ⟨G, 1, none⟩ = some (.slice Av m4 cv)) := hide ⟨k1, k2⟩
      clear glo gq go1 go2 ht1 ht2 ht4 hv1 hv2 hv4 hm4 hm4n
      go_region_held3 (fun W => W.cell? ⟨G, 0, none⟩ = some (.slice At i ct) ∧ W.cell? ⟨G, 1, none⟩ = some (.slice Av m4 cv)) (first | exact HK2.out | exact HK0.out) (first
        | (go_at_call 9; refine (HBd.out w6.drew (Fr.refl No w6).drew).mono ?_; rintro en w7 ⟨hfr, hbp⟩; obtain ⟨vc, ec, rfl⟩ : ∃ v e, en = .returned (.tuple #[v, .int .i64 e]) := (by rcases hbp with ⟨_, v, m, _, e, _⟩ | ⟨_, e⟩ <;> exact ⟨_, _, e⟩); have HBp := hide hbp; have HF7 : Hid (Fr No w6 w7) := hide (Fr.of_drewN (n := 1) hfr); have HK2 : Hid (w7.cell? ⟨G, 0, none⟩ = some (.slice At i ct) ∧ w7.cell? ⟨G, 1, none⟩ = some (.slice Av m4 cv)) := hide ⟨hfr.cell HK0.out.1 (fun h => h), hfr.cell HK0.out.2 (fun h => h)⟩; clear hfr hbp))
      have HM7 := hide (HM6.out.fr0 HF7.out)
      clear k1 k2 HK0 HK2 HBd
      rcases HBp.out with ⟨hok, v, mc, hmc, he, hob⟩ | ⟨hno, he⟩
      rotate_left
      · injection he with he
        injection he with he
        obtain ⟨rfl, rfl⟩ : vc = .slice none 0 0 ∧ ec = 1 := by
          have h1 := congrArg (fun a => a.toList) he
          simp at h1
          exact h1
        have HNo : Hid (∀ l vs, ¬ Form9 bs l vs) := hide (fun l vs hf => by
          obtain ⟨rfl, rfl, _⟩ := HFin.out l vs hf
          exact hno hf.1)
        clear hno he HBp
        go_wp2_with (fail)
        go_ret2
        exact ⟨HM7.out.fr, .inr ⟨HNo.out, rfl⟩⟩
      obtain ⟨rfl, rfl⟩ : vc = v ∧ ec = 0 := by
        injection he with he
        injection he with he
        have h1 := congrArg (fun a => a.toList) he
        simp at h1
        exact h1
      obtain ⟨Ac, cc, rfl, hc1, hc2, _, hc4, _⟩ := hob.form
      obtain ⟨C, hC⟩ : ∃ C, C = dictB L AT := ⟨_, rfl⟩
      rw [← hC] at hmc hc4
      have HCe := hide hC
      have HOk := hide hok
      have HCr := hide hc4
      have HCl := hide hmc
      clear he HBp hob hok hC hc4
      by_cases hml : mc = m
      rotate_left
      · have d3 : ((mc : Int) != (m : Int)) = true := by simp; omega
        have HNo : Hid (∀ l vs, ¬ Form9 bs l vs) := hide (fun l vs hf => by
          obtain ⟨rfl, rfl, _⟩ := HFin.out l vs hf
          refine hml ?_
          rw [HCl.out, HCe.out, hf.2.2, HL.out])
        clear hml hmc
        go_wp2_with (fail)
        go_ret2
        exact ⟨HM7.out.fr, .inr ⟨HNo.out, rfl⟩⟩
      subst hml
      have d3 : ((mc : Int) != (mc : Int)) = false := by simp
      clear hmc
      have HFr7 : Hid (Fr No w7 w7) := hide (Fr.refl _ _)
      go_wp2_with (fail)
      go_loopw [15] (fun jx wr => ∃ j : Nat, j ≤ mc ∧ jx = .int .i64 j ∧ Hid (C.take j = bs.take j) ∧ Hid (Fr No w7 wr)) (fun jx _ => mc - (intOf jx).toNat)
      case atStart => exact ⟨0, Nat.zero_le _, rfl, hide (by simp), HFr7⟩
      case round =>
        obtain ⟨wo, rfl⟩ : ∃ wo : World, wo = wr := ⟨_, rfl⟩
        obtain ⟨j, hj, rfl, HTk, HFo⟩ := hrel
        by_cases hlt : j < mc
        · obtain ⟨ad1, rfl, _, kc1⟩ := (HCr.out.fr0 HFo.out) j _ (by8_get C j (by rw [← HCl.out]; exact hlt))
          obtain ⟨ad2, rfl, _, kc2⟩ := (HR.out.fr0 (HM7.out.fr.tr HFo.out)) j _ (by8_get bs j (by rw [HL.out]; exact hlt))
          have j0 : (0 : Int) ≤ (j : Int) := by omega
          have j1 : (j : Int) < (mc : Int) := by omega
          obtain ⟨x, hx⟩ : ∃ x, C.getD j 0 = x := ⟨_, rfl⟩
          obtain ⟨y, hy⟩ : ∃ y, bs.getD j 0 = y := ⟨_, rfl⟩
          rw [hx] at kc1
          rw [hy] at kc2
          have HXe := hide hx
          have HYe := hide hy
          have d4 : decide ((j : Int) < (mc : Int)) = true := decide_eq_true j1
          clear hx hy
          by_cases hxy : x = y
          · subst hxy
            have HT2 : Hid (C.take (j + 1) = bs.take (j + 1)) := hide (by
              rw [take_getD 0 (by rw [← HCl.out]; exact hlt), take_getD 0 (by rw [HL.out]; exact hlt), HTk.out, HXe.out, HYe.out])
            have d5 : (((x.toNat : Nat) : Int) != ((x.toNat : Nat) : Int)) = false := by simp
            go_wp2_with (fail)
            go_quiet (fail)
            go_wp2_with (fail)
            go_roundw
            case rel => exact ⟨j + 1, by omega, by go_num, HT2, hide (HFo.out.drewN nq)⟩
            case measure => simp [intOf]; omega
          · have HNo : Hid (∀ l vs, ¬ Form9 bs l vs) := hide (fun l vs hf => by
              obtain ⟨rfl, rfl, _⟩ := HFin.out l vs hf
              refine hxy ?_
              rw [← HXe.out, ← HYe.out, HCe.out, hf.2.2])
            have d5 : (((x.toNat : Nat) : Int) != ((y.toNat : Nat) : Int)) = true := by
              simp only [bne_iff_ne, ne_eq]
              intro h
              exact hxy (UInt8.toNat_inj.1 (Int.ofNat_inj.1 h))
            clear hxy
            go_wp2_with (fail)
            go_quiet (fail)
            go_wp2_with (fail)
            go_ret2
            exact ⟨(HM7.out.fr.tr HFo.out).drewN nq, .inr ⟨HNo.out, rfl⟩⟩
        · have hjm : j = mc := by omega
          subst hjm
          have d4 : decide ((j : Int) < (j : Int)) = false := by simp
          have HFm : Hid (Form9 bs L AT) := hide (by
            refine ⟨HOk.out, HKp.out.u, ?_⟩
            have h := HTk.out
            rw [List.take_of_length_le (by rw [← HCl.out]; exact Nat.le_refl _), List.take_of_length_le (by rw [HL.out]; exact Nat.le_refl _)] at h
            rw [← HCe.out, h])
          go_wp2_with (fail)
          go_ret2
          exact ⟨HM7.out.fr.tr HFo.out, .inl ⟨G, L, AT, HFm.out, rfl, HM7.out.rd.fr0 HFo.out⟩⟩
end Go.Proofs.Ytcdhbdhhknlbaaa
