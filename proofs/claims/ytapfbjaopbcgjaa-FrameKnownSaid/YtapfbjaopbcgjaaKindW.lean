/- bytes.Equal; the kind of a file, by the program and by the document. -/
import Derived.Test.YtapfbjaopbcgjaaOpenP
import Derived.Test.YtapfbjaopbcgjaaTextP
import Derived.BigQuiet
namespace Go.Proofs.Ytapfbjaopbcgjaa
set_option linter.unusedVariables false
set_option linter.unusedSimpArgs false
open Go.RowKit

theorem Rd.byteAt {w : World} {B : Nat} {ad : Addr} {bs : List UInt8} (h : Rd w B (some ad) (by8 bs)) (k : Nat) (hk : k + 1 < bs.length) : w.cell? ⟨ad.block, ad.off + (k + 1), none⟩ = some (.int .u8 ((bs.getD (k + 1) 0).toNat : Nat)) := by
  obtain ⟨ad', e, _, hc⟩ := h.byte hk
  injection e with e
  subst e
  simpa [Addr.add] using hc

set_option maxRecDepth 100000 in
set_option maxHeartbeats 400000 in
theorem equal_any (A B : Option Addr) (n c m d b1 b2 : Nat) (xs ys : List UInt8) (w : World) (hx : xs.length = n) (hy : ys.length = m) (hr : Rd w b1 A (by8 xs)) (hs : Rd w b2 B (by8 ys)) :
    Calls Try.prog 31 #[.slice A n c, .slice B m d] w (RetQ (.bool (decide (xs = ys))) w) := by
  have e1 := conv_rd w A n c xs hx hr
  have e2 := conv_rd w B m d ys hy hs
  have HE := hide (ByteArray.toList_mk xs)
  have HF := hide (ByteArray.toList_mk ys)
  clear hx hy hr hs
  generalize (⟨xs.toArray⟩ : ByteArray) = p at e1 HE
  generalize (⟨ys.toArray⟩ : ByteArray) = q at e2 HF
  go_enter Try.func31, Try.ntmps31
  go_wp2
  go_ret
  refine ⟨?_, 0, rfl⟩
  rw [HE.out, HF.out]
  by_cases h : xs = ys
  · subst h; simp
  · simp [h]

set_option maxRecDepth 100000 in
set_option maxHeartbeats 400000 in
theorem kind_yes (A : Option Addr) (n c B : Nat) (d : List UInt8) (w : World) (hl : d.length = n) (hn : n ≤ c) (hc : c ≤ maxLen) (hr : Rd w B A (by8 d)) (hk : kindOK d = true) :
    Calls Try.prog 19 #[.slice A n c] w (RetQ (.tuple #[.int .u8 ((d.getD 3 0).toNat : Nat), .bool true]) w) := by
  unfold maxLen at hc
  have hk := of_decide_eq_true hk
  rw [hl] at hk
  obtain ⟨h4, ht⟩ := hk
  have e1 := conv_rd w A 3 c (d.take 3) (by rw [List.length_take]; omega) (by rw [by8_take]; exact hr.tk 3)
  have hs : ((⟨(d.take 3).toArray⟩ : ByteArray).toList == [76, 84, 1]) = true := by rw [ByteArray.toList_mk, ht]; decide
  obtain ⟨ad, rfl, _, _⟩ := hr.byte (k := 3) (by omega)
  have hcell := hr.byteAt 2 (by omega)
  generalize d.getD (2 + 1) 0 = b at hcell ⊢
  clear hl hr ht
  generalize (⟨(d.take 3).toArray⟩ : ByteArray) = p at e1 hs
  go_enter Try.func19, Try.ntmps19
  go_wp2
  go_ret2
  exact ⟨rfl, 0, rfl⟩

set_option maxRecDepth 100000 in
set_option maxHeartbeats 400000 in
theorem kind_no (A : Option Addr) (n c B : Nat) (d : List UInt8) (w : World) (hl : d.length = n) (hn : n ≤ c) (hc : c ≤ maxLen) (hr : Rd w B A (by8 d)) (hk : kindOK d = false) :
    Calls Try.prog 19 #[.slice A n c] w (RetQ (.tuple #[.int .u8 0, .bool false]) w) := by
  unfold maxLen at hc
  have hk := of_decide_eq_false hk
  rw [hl] at hk
  by_cases h4 : 4 ≤ n
  · have e1 := conv_rd w A 3 c (d.take 3) (by rw [List.length_take]; omega) (by rw [by8_take]; exact hr.tk 3)
    have hs : ((⟨(d.take 3).toArray⟩ : ByteArray).toList == [76, 84, 1]) = false := by
      rw [ByteArray.toList_mk]
      simp only [beq_eq_false_iff_ne]
      exact fun e => hk ⟨h4, e⟩
    clear hl hr hk
    generalize (⟨(d.take 3).toArray⟩ : ByteArray) = p at e1 hs
    go_enter Try.func19, Try.ntmps19
    go_wp2
    go_ret2
    exact ⟨rfl, 0, rfl⟩
  · clear hl hr hk
    have hd : decide ((n : Int) < 4) = true := by simp; omega
    go_enter Try.func19, Try.ntmps19
    go_wp2
    go_ret2
    exact ⟨rfl, 0, rfl⟩

theorem take3 {d : List UInt8} (h : 3 ≤ d.length) : d.take 3 = [d.getD 0 0, d.getD 1 0, d.getD 2 0] := by
  match d, h with
  | a :: b :: c :: r, _ => simp
theorem kindOK_iff {d : List UInt8} (h : 4 ≤ d.length) : kindOK d = decide (d.getD 0 0 = 76 ∧ d.getD 1 0 = 84 ∧ d.getD 2 0 = 1) := by
  unfold kindOK
  rw [take3 (by omega)]
  simp only [List.cons.injEq, and_true]
  congr 1
  simp [h]
theorem neq8 (a b : UInt8) : (((a.toNat : Nat) : Int) != ((b.toNat : Nat) : Int)) = !decide (a = b) := by
  by_cases h : a = b
  · subst h; simp
  · have h1 : ¬ a.toNat = b.toNat := fun e => h (UInt8.toNat_inj.1 e)
    simp [h]
    omega

set_option maxRecDepth 100000 in
set_option maxHeartbeats 800000 in
theorem refKind_yes (A : Option Addr) (n c B : Nat) (d : List UInt8) (w : World) (hl : d.length = n) (hn : n ≤ c) (hc : c ≤ maxLen) (hr : Rd w B A (by8 d)) (hk : kindOK d = true) :
    Calls Try.prog 20 #[.slice A n c] w (RetQ (.tuple #[.int .u8 ((d.getD 3 0).toNat : Nat), .bool true]) w) := by
  unfold maxLen at hc
  have h4 : 4 ≤ n := by rw [← hl]; exact (of_decide_eq_true hk).1
  rw [kindOK_iff (by omega)] at hk
  obtain ⟨k0, k1, k2⟩ := of_decide_eq_true hk
  obtain ⟨ad, rfl, _, hcell0⟩ := hr.byte (k := 0) (by omega)
  have hcell1 := hr.byteAt 0 (by omega)
  have hcell2 := hr.byteAt 1 (by omega)
  have hcell := hr.byteAt 2 (by omega)
  rw [show (0 + 1 : Nat) = 1 from rfl, k1, show ((84 : UInt8).toNat : Nat) = 84 from rfl] at hcell1
  rw [show (1 + 1 : Nat) = 2 from rfl, k2, show ((1 : UInt8).toNat : Nat) = 1 from rfl] at hcell2
  rw [k0, show ((76 : UInt8).toNat : Nat) = 76 from rfl, show ad.add 0 = ad from by simp [Addr.add]] at hcell0
  generalize d.getD (2 + 1) 0 = b at hcell ⊢
  clear hl hr k0 k1 k2 hk
  go_enter Try.func20, Try.ntmps20
  go_wp2
  go_ret2
  exact ⟨rfl, 0, rfl⟩

theorem neqc {b : UInt8} {k : Nat} (hk : k < 256) (h : b ≠ UInt8.ofNat k) : (((b.toNat : Nat) : Int) != ((k : Nat) : Int)) = true := by
  simp
  intro e
  apply h
  apply UInt8.toNat_inj.1
  rw [ofNat_toNat hk]
  omega

set_option maxRecDepth 100000 in
set_option maxHeartbeats 800000 in
theorem refKind_no (A : Option Addr) (n c B : Nat) (d : List UInt8) (w : World) (hl : d.length = n) (hn : n ≤ c) (hc : c ≤ maxLen) (hr : Rd w B A (by8 d)) (hk : kindOK d = false) :
    Calls Try.prog 20 #[.slice A n c] w (RetQ (.tuple #[.int .u8 0, .bool false]) w) := by
  unfold maxLen at hc
  by_cases h4 : 4 ≤ n
  · rw [kindOK_iff (by omega)] at hk
    have hk := of_decide_eq_false hk
    obtain ⟨ad, rfl, _, hcell0⟩ := hr.byte (k := 0) (by omega)
    have hcell1 := hr.byteAt 0 (by omega)
    have hcell2 := hr.byteAt 1 (by omega)
    rw [show (0 + 1 : Nat) = 1 from rfl] at hcell1
    rw [show (1 + 1 : Nat) = 2 from rfl] at hcell2
    rw [show ad.add 0 = ad from by simp [Addr.add]] at hcell0
    generalize d.getD 0 0 = b0 at hcell0 hk
    generalize d.getD 1 0 = b1 at hcell1 hk
    generalize d.getD 2 0 = b2 at hcell2 hk
    clear hl hr
    have hp1 : 0 < n := by omega
    by_cases k0 : b0 = 76
    · subst k0
      rw [show ((76 : UInt8).toNat : Nat) = 76 from rfl] at hcell0
      by_cases k1 : b1 = 84
      · subst k1
        rw [show ((84 : UInt8).toNat : Nat) = 84 from rfl] at hcell1
        have k2 := neqc (b := b2) (k := 1) (by omega) (fun e => hk ⟨rfl, rfl, e⟩)
        rw [show (((1 : Nat)) : Int) = 1 from rfl] at k2
        clear hk
        go_enter Try.func20, Try.ntmps20
        go_wp2
        go_ret2
        exact ⟨rfl, 0, rfl⟩
      · have k1' := neqc (b := b1) (k := 84) (by omega) k1
        rw [show (((84 : Nat)) : Int) = 84 from rfl] at k1'
        clear hk k1
        go_enter Try.func20, Try.ntmps20
        go_wp2
        go_ret2
        exact ⟨rfl, 0, rfl⟩
    · have k0' := neqc (b := b0) (k := 76) (by omega) k0
      rw [show (((76 : Nat)) : Int) = 76 from rfl] at k0'
      clear hk k0
      go_enter Try.func20, Try.ntmps20
      go_wp2
      go_ret2
      exact ⟨rfl, 0, rfl⟩
  · clear hl hr hk
    have hd : decide ((n : Int) < 4) = true := by simp; omega
    go_enter Try.func20, Try.ntmps20
    go_wp2
    go_ret2
    exact ⟨rfl, 0, rfl⟩
end Go.Proofs.Ytapfbjaopbcgjaa
