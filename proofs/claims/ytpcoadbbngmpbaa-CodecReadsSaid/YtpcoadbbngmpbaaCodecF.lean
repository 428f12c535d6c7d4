/- Text: the walks of Text$1, take[string], Text, End. -/
import Derived.Test.YtpcoadbbngmpbaaKit
import Derived.Laws.BytesString
namespace Go.Proofs.Ytpcoadbbngmpbaa
open Go.RowKit

theorem foldl_push (bs : List UInt8) (s : ByteArray) : (bs.map fun b => ((b.toNat : Nat) : Int)).foldl (fun r n => r.push (UInt8.ofNat n.toNat)) s = ⟨s.data ++ bs.toArray⟩ := by
  induction bs generalizing s with
  | nil => obtain ⟨d⟩ := s; simp
  | cons b r ih =>
    obtain ⟨d⟩ := s
    rw [List.map_cons, List.foldl_cons, ih]
    show ByteArray.mk ((d.push (UInt8.ofNat ((b.toNat : Int).toNat))) ++ r.toArray) = ByteArray.mk (d ++ (b :: r).toArray)
    congr 1
    rw [Int.toNat_natCast, UInt8.ofNat_toNat]
    apply Array.ext'
    simp

/-- bytes that are read, as a text. -/
theorem conv_rd (w : World) {B : Nat} (A : Option Addr) (l c : Nat) (bs : List UInt8) (hl : bs.length = l) (hr : Rd w B A (by8 bs)) :
    (convert 22 9 (.slice A l c)).run Try.prog w = .ok (.string ⟨bs.toArray⟩) w := by
  rw [run_convert_bytes_string w 22 9 5 A l c Try.underlying22 Try.underlying5 Try.underlying9]
  cases A with
  | none =>
    have h0 := hr.len0
    subst h0
    subst hl
    simp [Conv.bytesToString]
    rfl
  | some a =>
    have h := run_loadCells_list (P := Try.prog) (w := w) a (by8 bs) (fun j v hv => by
      obtain ⟨ad, e, _, hc⟩ := hr j v hv
      injection e with e
      subst e
      exact hc)
    rw [by8_length, hl] at h
    have e : (bs.map fun b => ((b.toNat : Nat) : Int)).map (Value.int .u8) = by8 bs := by simp [by8, Function.comp_def]
    rw [← e] at h
    rw [run_bytesToString w a l c _ h, foldl_push]
    congr 2
    simp

def textR (bs : List UInt8) (most : Int) : Option (List UInt8 × Nat) :=
  match dec 0 0 bs with
  | none => none
  | some (u, k) => if most < 0 ∨ most < (u : Int) ∨ bs.length - k < u then none else some ((bs.drop k).take u, k + u)
def textV : Option (List UInt8 × Nat) → Value
  | none => .tuple #[.string ⟨#[]⟩, .int .i64 (-1)]
  | some (s, k) => .tuple #[.string ⟨s.toArray⟩, .int .i64 k]
theorem textR_none {bs : List UInt8} {most : Int} (hd : dec 0 0 bs = none) : textR bs most = none := by unfold textR; rw [hd]
theorem textR_no {bs : List UInt8} {most : Int} {u k : Nat} (hd : dec 0 0 bs = some (u, k)) (h : most < 0 ∨ most < (u : Int) ∨ bs.length - k < u) : textR bs most = none := by
  unfold textR; rw [hd]; exact if_pos h
theorem textR_ok {bs : List UInt8} {most : Int} {u k : Nat} (hd : dec 0 0 bs = some (u, k)) (h : ¬ (most < 0 ∨ most < (u : Int) ∨ bs.length - k < u)) : textR bs most = some ((bs.drop k).take u, k + u) := by
  unfold textR; rw [hd]; exact if_neg h

set_option maxRecDepth 100000 in
set_option maxHeartbeats 800000 in
theorem text1_ok (r : Value) (b1 b2 m : Nat) (A : Option Addr) (n c B : Nat) (bs : List UInt8) (u k : Nat) (W : World) (hl : bs.length = n) (hn : n ≤ c) (hc : c ≤ 9223372036854775807) (hm2 : (m : Int) ≤ 9223372036854775807) (hr : Rd W B A (by8 bs)) (c1 : W.cell? ⟨b1, 0, none⟩ = some r) (c2 : W.cell? ⟨b2, 0, none⟩ = some (.int .i64 m)) (hd : dec 0 0 bs = some (u, k))
    (HN0 : Calls Try.prog 37 #[r, .slice A n c] W (Ret (.tuple #[.int .u64 u, .int .i64 k]) W)) (hkn : k ≤ n) (hum : ¬ m < u) (hul : ¬ n - k < u) (hu : u < 18446744073709551616) :
    Calls Try.prog 44 #[.slice A n c, .pointer (some ⟨b1, 0, none⟩), .pointer (some ⟨b2, 0, none⟩)] W (Ret (textV (textR bs m)) W) := by
  have HN := hide HN0
  have HT := hide (textR_ok (most := m) hd (by rw [hl]; omega))
  have hcv := conv_rd W (B := B) (if c = k then A else A.map (·.add k)) u (c - k) ((bs.drop k).take u) (by simp; omega) (by
    rw [by8_take, by8_drop]
    exact (hr.cut (by rw [by8_length, hl]; exact hn)).tk u)
  generalize (bs.drop k).take u = s at HT hcv
  have hku : k + u ≤ n := by omega
  have hu2 : u ≤ m := by omega
  have HC := hide hcv
  clear hr hl hd hul HN0 hcv hum hu
  go_enter Try.func44, Try.ntmps44
  go_wp2_with (go_at_call 37; refine HN.out.mono ?_; rintro en w' ⟨rfl, rfl⟩)
  · rename_i h
    have hcv := HC.out
    rw [if_pos h, h, Nat.sub_self] at hcv
    rw [hcv]
    clear hcv HC
    go_wp2
    go_ret2
    exact ⟨by rw [HT.out]; simp [textV], rfl⟩
  · rename_i h
    have hcv := HC.out
    rw [if_neg h] at hcv
    rw [hcv]
    clear hcv HC
    go_wp2
    go_ret2
    exact ⟨by rw [HT.out]; simp [textV], rfl⟩

set_option maxRecDepth 100000 in
set_option maxHeartbeats 800000 in
theorem text1_any (r : Value) (b1 b2 : Nat) (most : Int) (A : Option Addr) (n c B : Nat) (bs : List UInt8) (W : World) (hl : bs.length = n) (hn : n ≤ c) (hc : c ≤ maxLen) (hm1 : -9223372036854775808 ≤ most) (hm2 : most ≤ 9223372036854775807) (hr : Rd W B A (by8 bs)) (c1 : W.cell? ⟨b1, 0, none⟩ = some r) (c2 : W.cell? ⟨b2, 0, none⟩ = some (.int .i64 most)) :
    Calls Try.prog 44 #[.slice A n c, .pointer (some ⟨b1, 0, none⟩), .pointer (some ⟨b2, 0, none⟩)] W (Ret (textV (textR bs most)) W) := by
  have HN := hide (number_any r A n c B bs W hl hn hc hr)
  unfold maxLen at hc
  cases hd : dec 0 0 bs with
  | none =>
    have HT := hide (textR_none (most := most) hd)
    rw [hd] at HN
    simp only [numV] at HN
    clear hr hl hd
    go_enter Try.func44, Try.ntmps44
    go_wp2_with (go_at_call 37; refine HN.out.mono ?_; rintro en w' ⟨rfl, rfl⟩)
    go_ret2
    exact ⟨by rw [HT.out]; rfl, rfl⟩
  | some x =>
    obtain ⟨u, k⟩ := x
    rw [hd] at HN
    simp only [numV] at HN
    have hk := dec_le _ _ _ _ _ hd
    have hu := dec_lt _ 0 0 u k (by decide) hd
    rw [hl] at hk
    obtain ⟨hk0, hkn⟩ := hk
    have hkn : k ≤ n := by omega
    have hku0 := hkn
    by_cases hneg : most < 0
    · have HT := hide (textR_no (most := most) hd (.inl hneg))
      clear hr hl hd
      go_enter Try.func44, Try.ntmps44
      go_wp2_with (go_at_call 37; refine HN.out.mono ?_; rintro en w' ⟨rfl, rfl⟩)
      go_ret2
      exact ⟨by rw [HT.out]; rfl, rfl⟩
    · obtain ⟨m, rfl⟩ := Int.eq_ofNat_of_zero_le (a := most) (by omega)
      clear hm1 hneg
      by_cases hum : m < u
      · have HT := hide (textR_no (most := m) hd (.inr (.inl (by omega))))
        clear hr hl hd
        go_enter Try.func44, Try.ntmps44
        go_wp2_with (go_at_call 37; refine HN.out.mono ?_; rintro en w' ⟨rfl, rfl⟩)
        go_ret2
        exact ⟨by rw [HT.out]; rfl, rfl⟩
      · by_cases hul : n - k < u
        · have HT := hide (textR_no (most := m) hd (.inr (.inr (by rw [hl]; exact hul))))
          clear hr hl hd
          go_enter Try.func44, Try.ntmps44
          go_wp2_with (go_at_call 37; refine HN.out.mono ?_; rintro en w' ⟨rfl, rfl⟩)
          go_ret2
          exact ⟨by rw [HT.out]; rfl, rfl⟩
        · exact text1_ok r b1 b2 m A n c B bs u k W hl hn hc hm2 hr c1 c2 hd HN.out hku0 hum hul hu
end Go.Proofs.Ytpcoadbbngmpbaa
