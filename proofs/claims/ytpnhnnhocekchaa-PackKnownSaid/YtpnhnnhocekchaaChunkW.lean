/- slices.Chunk: its sequence. -/
import Derived.Test.YtpnhnnhocekchaaRefPut03
import Derived.Test.YtpnhnnhocekchaaMemIn
import Derived.RegionTactic
import Derived.BigRegion
namespace Go.Proofs.Ytpnhnnhocekchaa
set_option linter.unusedVariables false
set_option linter.unusedSimpArgs false
open Go.RowKit Go.Shelf
attribute [local go_sem] Oper.semAt_some

/-- a region that reads: what it leaves. -/
def RgnD (A : Value → Value → Value → Value → Value → Value → Act) (W : World) : Exit → Act → World → Prop
  | .normal, a, w => (∃ v1 v2 v3 v4 v5 v6, a = A v1 v2 v3 v4 v5 v6) ∧ ∃ nq, w = W.drewN nq
  | _, _, _ => False
theorem box_h (w : World) (v : Value) (t : TypeId) : (w.alloc (.cells #[v] t)).heap[w.heap.size]? = some (.cells #[v] t (0, 0)) := heap_alloc_new w _

set_option maxRecDepth 100000 in
theorem chunkF_any (A : Option Addr) (n c : Nat) (w : World) : Calls Try.prog 56 #[.slice A n c, .int .i64 128] w fun e w' =>
    e = .returned (.func (.func 88) #[] #[.pointer (some ⟨w.heap.size, 0, none⟩), .pointer (some ⟨w.heap.size + 1, 0, none⟩)]) ∧ w' = (w.alloc (.cells #[.slice A n c] 41)).alloc (.cells #[.int .i64 128] 3) := by
  have h1 : ((w.alloc (.cells #[.slice A n c] 41)).alloc (.cells #[.int .i64 128] 3)).cell? ⟨w.heap.size + 1, 0, none⟩ = some (.int .i64 128) := box2 w (.slice A n c) (.int .i64 128) _ _
  go_enter Try.func56, Try.ntmps56
  go_wp2
  go_ret
  exact ⟨by simp, by simp⟩

/-- the chunks, by number. -/
def allC (n : Nat) : List Nat := List.range (chunks n)
def chV (A : Option Addr) (n j : Nat) : Value := .slice (A.map fun ad => ad.add (128 * j)) (min 128 (n - 128 * j)) (min 128 (n - 128 * j))
def ChunkPost (n : Nat) (J Jx : List Nat → World → Prop) (e : Ending) (W' : World) : Prop := (∃ v, e = .returned v) ∧ (J (allC n) W' ∨ (∃ pre, pre <+: allC n ∧ Jx pre W'))
theorem range_prefix {j k : Nat} (h : j ≤ k) : List.range j <+: List.range k := by
  obtain ⟨d, rfl⟩ : ∃ d, k = j + d := ⟨k - j, by omega⟩
  rw [List.range_add]
  exact List.prefix_append _ _

set_option maxRecDepth 100000 in
set_option maxHeartbeats 1000000 in
theorem chunk1_in (fr : Nat) (hn : 1 ≤ fr) (l B1 B2 : Nat) (Kp : World → World → Prop) (hKr : ∀ W, Kp W W) (hKt : ∀ {X Y Z : World}, Kp X Y → Kp Y Z → Kp X Z) (A : Option Addr) (n c : Nat) (hA : 0 < n → ∃ ad, A = some ad) (hnc : n ≤ c) (hc : c ≤ maxLen) (hnb : n ≤ 1048576) (J Jx : List Nat → World → Prop)
    (hY : ∀ pre j W, J pre W → pre.length < chunks n → j < chunks n → YieldAt Fence.wide (fr - 1) Try.prog l #[chV A n j] W fun e W' =>
      (e = .returned (.bool true) ∧ J (pre ++ [j]) W' ∧ Kp W W') ∨ (e = .returned (.bool false) ∧ Jx (pre ++ [j]) W'))
    (W : World) (hBn : ∀ W', Kp W W' → W'.cell? ⟨B1, 0, none⟩ = some (.slice A n c) ∧ W'.cell? ⟨B2, 0, none⟩ = some (.int .i64 128)) (h0 : J [] W) (hKd : ∀ (W : World) (nq : Nat), Kp W (W.drewN nq)) (hJd : ∀ pre (W : World) (nq : Nat), J pre W → J pre (W.drewN nq)) :
    CallsIn Fence.wide fr Try.prog 88 #[.func (.yield l) #[] #[], .pointer (some ⟨B1, 0, none⟩), .pointer (some ⟨B2, 0, none⟩)] W (ChunkPost n J Jx) := by
  obtain ⟨hc1, hc2⟩ := hBn W (hKr _)
  unfold maxLen at hc
  have HB := hide hBn
  have HY := hide hY
  have HJ := hide h0
  have HA := hide hA
  have HKd := hide hKd
  have HJd := hide hJd
  have hcn : ∀ j, 128 * j < n ↔ j < chunks n := fun j => by unfold chunks; omega
  have HCn := hide hcn
  clear hBn hY h0 hA hKd hJd hcn
  refine callsIn_of_wp Try.func88 rfl trivial ?_ rfl
  simp only [Try.ntmps88, List.size_toArray, List.length_cons, List.length_nil, Nat.reduceAdd, Nat.reduceSub, Array.replicate_succ, Array.replicate_zero, List.push_toArray, List.append_toArray, List.nil_append, List.cons_append]
  gi_wp2
  gi_loopw [4, 5] (fun i e wr => ∃ (j i' : Nat), i = .int .i64 (i' : Nat) ∧ i' = 128 * j ∧ j ≤ chunks n ∧ Hid (J (List.range j) wr) ∧ Hid (Kp W wr)) (fun i _ _ => n + 128 - (intOf i).toNat)
  case atStart => exact ⟨0, 0, rfl, rfl, Nat.zero_le _, HJ, hide (hKr _)⟩
  case round =>
    obtain ⟨j, i', rfl, hij, hjc, HJ1, HKw⟩ := hrel
    have HIJ := hide hij
    obtain ⟨c1, c2⟩ := HB.out wr HKw.out
    by_cases hlt : i' < n
    · obtain ⟨ad, rfl⟩ := HA.out (by omega)
      have hjl : j < chunks n := (HCn.out j).1 (by omega)
      obtain ⟨k, hk⟩ : ∃ k, k = min 128 (n - i') := ⟨_, rfl⟩
      have hk1 : 1 ≤ k ∧ k ≤ 128 ∧ i' + k ≤ n := by omega
      clear hij
      gi_wp2
      refine wpIn_wide.2 (Code.wp_mono (Q := RgnD (fun v1 v2 v3 v4 v5 v6 => { tmps := #[.func (.yield l) #[] #[], .pointer (some ⟨B1, 0, none⟩), .pointer (some ⟨B2, 0, none⟩), undef, .int .i64 (i' : Nat), .int .i64 (k : Nat), .int .i64 (i' : Nat), .slice (some ad) n c, .int .i64 (n : Nat), .bool true, u10, u11, u12, v1, v2, v3, v4, v5, v6, u19, u20, u21, u22, u23, u24, u25, u26, u27, u28, u29, u30], defers := [] }) wr) ?_ ?_)
      rotate_left
      · have HKK := hide hk
        by_cases h128 : 128 ≤ n - i'
        · obtain rfl : k = 128 := by omega
          clear hk
          go_quiet (fail)
          exact ⟨⟨_, _, _, _, _, _, rfl⟩, _, rfl⟩
        · obtain rfl : k = n - i' := by omega
          have h3 : ((n - i' : Nat) : Int) < 128 := by omega
          clear hk
          go_quiet (fail)
          exact ⟨⟨_, _, _, _, _, _, rfl⟩, _, rfl⟩
      rintro (_ | _) a' w' hRQ <;> try exact hRQ.elim
      obtain ⟨⟨v1, v2, v3, v4, v5, v6, rfl⟩, nq, rfl⟩ := hRQ
      show Exit.then _ _ _ _ _
      dsimp only
      have hJ2 := HJd.out _ _ nq HJ1.out
      have hK2 := hKt HKw.out (HKd.out wr nq)
      obtain ⟨fn, tmps, assign, body, hy, hR⟩ := HY.out (List.range j) j (wr.drewN nq) hJ2 (by rw [List.length_range]; exact hjl) hjl
      have hv : chV (some ad) n j = .slice (some (ad.add i')) k k := by
        unfold chV
        rw [← HIJ.out, hk]
        rfl
      rw [hv] at hy
      have HKK := hide hk
      have HR2 := hide hR
      obtain ⟨c1', c2'⟩ := HB.out (wr.drewN nq) hK2
      have HK2 := hide hK2
      obtain ⟨z, hz⟩ : ∃ z, z = i' + k := ⟨_, rfl⟩
      have hz2 : (i' : Int) + (k : Int) = (z : Int) := by omega
      have hz3 : z - i' = k := by omega
      have hz4 : i' ≤ z ∧ z ≤ n := by omega
      have HZ := hide hz
      have hJR : ∀ k', List.range k' ++ [k'] = List.range (k' + 1) := fun k' => List.range_succ.symm
      clear hk hv hR hJ2 hK2 c1 c2 hz
      gi_wp2
      refine HR2.out.mono ?_
      rintro e W3 (⟨rfl, hJ3, hk3⟩ | ⟨rfl, hJx3⟩)
      · have HK3 := hide (hKt HK2.out hk3)
        have HJ3 : Hid (J (List.range (j + 1)) W3) := hide (by rw [← hJR]; exact hJ3)
        obtain ⟨c31, c32⟩ := HB.out W3 HK3.out
        clear hy hJ3 hk3 hJR
        gi_wp2
        go_roundw
        case rel => exact ⟨j + 1, i' + 128, by go_num, by rw [HIJ.out]; omega, by omega, HJ3, HK3⟩
        case measure => simp [intOf]; omega
      · have HX := hide hJx3
        have HP : Hid (List.range j ++ [j] <+: allC n) := hide (by rw [hJR]; exact range_prefix (by omega))
        clear hy hJx3 hJR
        gi_wp2
        refine bodyPost_ret (results_none rfl _ _ _) rfl ?_
        exact ⟨⟨_, rfl⟩, .inr ⟨_, HP.out, HX.out⟩⟩
    · have HE : Hid (List.range j = allC n) := hide (by
        unfold allC
        have : ¬ j < chunks n := fun h => hlt (by rw [hij]; exact (HCn.out j).2 h)
        congr 1
        omega)
      clear hij
      gi_wp2
      go_end0
      exact ⟨⟨_, rfl⟩, .inl (by rw [← HE.out]; exact HJ1.out)⟩
end Go.Proofs.Ytpnhnnhocekchaa
