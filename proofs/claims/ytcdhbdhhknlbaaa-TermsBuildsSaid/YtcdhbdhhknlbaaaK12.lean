/- Several texts in one: Lent8, Apart8b. -/
import Derived.Test.YtcdhbdhhknlbaaaK11
namespace Go.Proofs.Ytcdhbdhhknlbaaa
set_option linter.unusedVariables false
set_option linter.unusedSimpArgs false
open Go.RowKit

def GivesLent (w : World) (bs : List UInt8) (en : Ending) (w' : World) : Prop :=
  ∃ A c, en = .returned (.slice A bs.length c) ∧ Own w' w.heap.size 5 1 (.slice A (bs.length + 1) c) (bs.length + 1) (by8 (bs ++ [201])) ∧ Fr No w w'

set_option maxRecDepth 100000 in
set_option maxHeartbeats 800000 in
theorem lent8_any (A : Option Addr) (n c B : Nat) (bs : List UInt8) (w : World) (hl : bs.length = n) (hb : n + 1 ≤ 140737488355328) (hr : Rd w B A (by8 bs)) :
    Calls Try.prog 25 #[.slice A n c] w (GivesLent w bs) := by
  obtain ⟨i0, hi, hz, hsz, hby⟩ := info_parts Try.info5
  have HS := hide (Src.ofRd (P := Try.prog) (size := 1) w Try.underlying24 A n c (by8 bs) (by rw [by8_length, hl]; omega) (by omega) hr (by8_one _))
  have HL := hide hl
  clear hr hl
  have b1 : (0 + n) * 1 ≤ 140737488355328 := by omega
  have b2 : 0 + n ≤ maxLen := by unfold maxLen; omega
  have c1 : (0 + n + 1) * 1 ≤ 140737488355328 := by omega
  have c2 : 0 + n + 1 ≤ maxLen := by unfold maxLen; omega
  have HO0 := hide (Own.nil w w.heap.size 5 1)
  go_enter Try.func25, Try.ntmps25
  go_wp2_with (first
    | (at_builtin; refine wpList_append_gen _ rfl (.tmp 4) (.tmp 5) 24 24 rfl w.heap.size 5 i0 (.int .u8 0) 1 1 Try.underlying24 hi hz hsz hby rfl (.slice none 0 0) 0 [] rfl HO0.out _ n (by8 bs) rfl HS.out b1 b2 (Nat.le_refl _) ?_; intro v1 w1 hown hfr hat; have HO1 := hide hown; have HF1 : Hid (Fr No w w1) := hide ((Fr.refl No w).own hfr (fun g h => by cases h)); have hz1 := hfr.size; clear hown hfr hat)
    | (at_builtin; refine wpList_append_gen _ rfl (.tmp 7) (.tmp 8) 24 24 rfl w.heap.size 5 i0 (.int .u8 0) 1 1 Try.underlying24 hi hz hsz hby rfl v1 (0 + n) _ rfl (HO1.out.fr0 ((Fr.refl No w1).alloc (.cells #[.int .u8 201] 5))) _ 1 [.int .u8 201] rfl (Src.one (P := Try.prog) w1 (e := 5) Try.underlying24 (.int .u8 201) rfl) c1 c2 (by simp; omega) ?_; intro v2 w2 hown hfr hat; obtain ⟨A2, k2, rfl, hc1, hc2, _⟩ := hown.form; unfold maxLen at hc2; have HO2 := hide hown; have HF2 : Hid (Fr No w w2) := hide ((HF1.out.alloc _).own hfr (fun g hg => .inl (HO1.out.lt g hg).1)); clear hown hfr hat))
  go_ret
  refine ⟨A2, k2, ?_, ?_, HF2.out⟩
  · rw [HL.out]; first | rfl | simp
  · have h := HO2.out
    rw [HL.out, by8_append]
    simpa [by8] using h

set_option maxRecDepth 100000 in
set_option maxHeartbeats 800000 in
theorem kept8_any (A B : Option Addr) (n c m d b1 b2 : Nat) (xs : List UInt8) (w : World) (hx : xs.length = n) (hm : xs.length = m) (hn : n + 1 ≤ c) (hc : c ≤ maxLen) (hmd : m ≤ d) (hd : d ≤ maxLen) (hr : Rd w b1 A (by8 (xs ++ [201]))) (hs : Rd w b2 B (by8 xs)) :
    Calls Try.prog 27 #[.slice A n c, .slice B m d] w (RetQ (.bool true) w) := by
  have hr1 : Rd w b1 A (by8 xs) := by
    have h := hr.tk xs.length
    rw [← by8_take, List.take_left] at h
    exact h
  have HK := hide (kbytes_any A B n c m d b1 b2 xs xs w hx hm (by omega) hc hmd hd hr1 hs)
  rw [decide_eq_true rfl] at HK
  obtain ⟨ad, rfl, _, hcell⟩ := hr.byte (k := n) (by simp; omega)
  have e1 : (xs ++ [201]).getD n 0 = 201 := by rw [← hx]; simp
  rw [e1] at hcell
  have e2 : ((201 : UInt8).toNat : Nat) = 201 := by decide
  rw [e2] at hcell
  unfold maxLen at hc
  clear hr hs hr1 hx hm e1 e2
  go_enter Try.func27, Try.ntmps27
  go_wp2_with (go_at_call 17; refine HK.out.mono ?_; rintro en w2 ⟨rfl, nq, rfl⟩)
  go_ret
  exact ⟨rfl, _, rfl⟩

end Go.Proofs.Ytcdhbdhhknlbaaa
namespace Go.Proofs.Ytcdhbdhhknlbaaa
set_option linter.unusedVariables false
set_option linter.unusedSimpArgs false
open Go.RowKit

def pick2 {α : Type} (a b : α) : Nat → α | 0 => a | _ => b
def pick3 {α : Type} (a b c : α) : Nat → α | 0 => a | 1 => b | _ => c

theorem apart8_two (q : Nat) (A1 A2 : Option Addr) (n1 n2 c1 c2 : Nat) (x1 x2 : List Value) (W : World) (h1 : n1 ≤ 140737488350000) (h2 : n2 ≤ 140737488350000)
    (hq : W.heap[q]? = some (.cells #[.slice A1 n1 c1, .slice A2 n2 c2] 24 (0, 0))) (o1 : Own W 0 5 1 (.slice A1 n1 c1) n1 x1) (o2 : Own W 0 5 1 (.slice A2 n2 c2) n2 x2)
    (d12 : ∀ k, (Value.slice A1 n1 c1).ownBlock = some k → (Value.slice A2 n2 c2).ownBlock ≠ some k) :
    Calls Try.prog 24 #[.slice (some ⟨q, 0, none⟩) 2 2] W (fun en w' => en = .returned (.bool true) ∧ Fr (fun k => (Value.slice A1 n1 c1).ownBlock = some k ∨ (Value.slice A2 n2 c2).ownBlock = some k) W w') := by
  refine (apart8_any q 2 2 (pick2 A1 A2) (pick2 n1 n2) (pick2 c1 c2) _ W 0 (pick2 x1 x2) (by omega) ?_ (Nat.le_refl _) (by unfold maxLen; omega) hq ?_ ?_ ⟨?_⟩).mono ?_
  · intro j hj
    match j, hj with
    | 0, _ => exact h1
    | 1, _ => exact h2
  · intro j hj
    match j, hj with
    | 0, _ => rfl
    | 1, _ => rfl
  · intro j hj
    match j, hj with
    | 0, _ => exact o1
    | 1, _ => exact o2
  · intro i j hi hj hij k hk
    match i, hi, j, hj, hij with
    | 0, _, 1, _, _ => exact d12 k hk
    | 1, _, 0, _, _ => exact fun h => d12 k h hk
    | 0, _, 0, _, h => exact absurd rfl h
    | 1, _, 1, _, h => exact absurd rfl h
  · rintro en w' ⟨he, hf⟩
    refine ⟨he, hf.mono ?_⟩
    rintro k _ ⟨j, hj, hk⟩
    match j, hj with
    | 0, _ => exact .inl hk
    | 1, _ => exact .inr hk

theorem apart8_three (q : Nat) (A1 A2 A3 : Option Addr) (n1 n2 n3 c1 c2 c3 : Nat) (x1 x2 x3 : List Value) (W : World) (h1 : n1 ≤ 140737488350000) (h2 : n2 ≤ 140737488350000) (h3 : n3 ≤ 140737488350000)
    (hq : W.heap[q]? = some (.cells #[.slice A1 n1 c1, .slice A2 n2 c2, .slice A3 n3 c3] 24 (0, 0))) (o1 : Own W 0 5 1 (.slice A1 n1 c1) n1 x1) (o2 : Own W 0 5 1 (.slice A2 n2 c2) n2 x2) (o3 : Own W 0 5 1 (.slice A3 n3 c3) n3 x3)
    (d12 : ∀ k, (Value.slice A1 n1 c1).ownBlock = some k → (Value.slice A2 n2 c2).ownBlock ≠ some k) (d13 : ∀ k, (Value.slice A1 n1 c1).ownBlock = some k → (Value.slice A3 n3 c3).ownBlock ≠ some k) (d23 : ∀ k, (Value.slice A2 n2 c2).ownBlock = some k → (Value.slice A3 n3 c3).ownBlock ≠ some k) :
    Calls Try.prog 24 #[.slice (some ⟨q, 0, none⟩) 3 3] W (fun en w' => en = .returned (.bool true) ∧ Fr (fun k => (Value.slice A1 n1 c1).ownBlock = some k ∨ (Value.slice A2 n2 c2).ownBlock = some k ∨ (Value.slice A3 n3 c3).ownBlock = some k) W w') := by
  refine (apart8_any q 3 3 (pick3 A1 A2 A3) (pick3 n1 n2 n3) (pick3 c1 c2 c3) _ W 0 (pick3 x1 x2 x3) (by omega) ?_ (Nat.le_refl _) (by unfold maxLen; omega) hq ?_ ?_ ⟨?_⟩).mono ?_
  · intro j hj
    match j, hj with
    | 0, _ => exact h1
    | 1, _ => exact h2
    | 2, _ => exact h3
  · intro j hj
    match j, hj with
    | 0, _ => rfl
    | 1, _ => rfl
    | 2, _ => rfl
  · intro j hj
    match j, hj with
    | 0, _ => exact o1
    | 1, _ => exact o2
    | 2, _ => exact o3
  · intro i j hi hj hij k hk
    match i, hi, j, hj, hij with
    | 0, _, 1, _, _ => exact d12 k hk
    | 0, _, 2, _, _ => exact d13 k hk
    | 1, _, 2, _, _ => exact d23 k hk
    | 1, _, 0, _, _ => exact fun h => d12 k h hk
    | 2, _, 0, _, _ => exact fun h => d13 k h hk
    | 2, _, 1, _, _ => exact fun h => d23 k h hk
    | 0, _, 0, _, h => exact absurd rfl h
    | 1, _, 1, _, h => exact absurd rfl h
    | 2, _, 2, _, h => exact absurd rfl h
  · rintro en w' ⟨he, hf⟩
    refine ⟨he, hf.mono ?_⟩
    rintro k _ ⟨j, hj, hk⟩
    match j, hj with
    | 0, _ => exact .inl hk
    | 1, _ => exact .inr (.inl hk)
    | 2, _ => exact .inr (.inr hk)
end Go.Proofs.Ytcdhbdhhknlbaaa
