/- Several texts in one: Rd, SizeP, TextP, Number, NumCut, TakeUu, HasP, RefA, TerP, TerQ. -/
import Derived.Test.YtcdhbdhhknlbaaaK1
import Derived.Laws.BytesString
import Derived.Deep.RegionWith
import Derived.Sort.Walk0
namespace Go.Proofs.Ytcdhbdhhknlbaaa
set_option linter.unusedVariables false
set_option linter.unusedSimpArgs false
open Go.RowKit

/-- a reader: bytes, the place in them, the error. -/
def RD (w : World) (g : Nat) (bs : List UInt8) (at_ : Nat) (e : Int) : Prop :=
  ∃ A c, w.heap[g]? = some (.cells #[.slice A bs.length c, .int .i64 at_, .int .i64 e] 94 (0, 0)) ∧ bs.length ≤ c ∧ c ≤ maxLen ∧ at_ ≤ bs.length ∧ bs.length ≤ 140737488355328 ∧
    Own w 0 5 1 (.slice A bs.length c) bs.length (by8 bs)

theorem RD.parts {w : World} {g : Nat} {bs : List UInt8} {at_ : Nat} {e : Int} (h : RD w g bs at_ e) :
    ∃ A c, (w.cell? ⟨g, 0, none⟩ = some (.slice A bs.length c) ∧ w.cell? ⟨g, 1, none⟩ = some (.int .i64 at_) ∧ w.cell? ⟨g, 2, none⟩ = some (.int .i64 e)) ∧ (∀ i, w.frozen? ⟨g, i, none⟩ = false) ∧
      bs.length ≤ c ∧ c ≤ maxLen ∧ at_ ≤ bs.length ∧ bs.length ≤ 140737488355328 ∧ Rd w w.heap.size A (by8 bs) := by
  obtain ⟨A, c, hh, h1, h2, h3, h4, ho⟩ := h
  exact ⟨A, c, ⟨cell_of_row w g 0 _ _ (0, 0) hh, cell_of_row w g 1 _ _ (0, 0) hh, cell_of_row w g 2 _ _ (0, 0) hh⟩, fun i => by simp [World.frozen?, hh], h1, h2, h3, h4, ho.rd⟩

theorem RD.set1 {w : World} {g : Nat} {bs : List UInt8} {at_ : Nat} {e : Int} (h : RD w g bs at_ e) (k : Nat) (hk : k ≤ bs.length) : RD (w.setCell ⟨g, 1, none⟩ (.int .i64 k)) g bs k e := by
  obtain ⟨A, c, hh, h1, h2, h3, h4, ho⟩ := h
  refine ⟨A, c, by simp [World.setCell, Array.getElem?_modify, hh], h1, h2, hk, h4, ho.fr ((Fr.refl (Is g) w).setCell (p := ⟨g, 1, none⟩) (fun _ => rfl) _) ?_⟩
  rintro g' hg' rfl
  exact ho.ne_blk hg' hh (by decide)

theorem RD.set2 {w : World} {g : Nat} {bs : List UInt8} {at_ : Nat} {e : Int} (h : RD w g bs at_ e) (k : Int) : RD (w.setCell ⟨g, 2, none⟩ (.int .i64 k)) g bs at_ k := by
  obtain ⟨A, c, hh, h1, h2, h3, h4, ho⟩ := h
  refine ⟨A, c, by simp [World.setCell, Array.getElem?_modify, hh], h1, h2, h3, h4, ho.fr ((Fr.refl (Is g) w).setCell (p := ⟨g, 2, none⟩) (fun _ => rfl) _) ?_⟩
  rintro g' hg' rfl
  exact ho.ne_blk hg' hh (by decide)

theorem RD.drewN {w : World} {g : Nat} {bs : List UInt8} {at_ : Nat} {e : Int} (h : RD w g bs at_ e) (n : Nat) : RD (w.drewN n) g bs at_ e := h

theorem RD.fr0 {w w' : World} {g : Nat} {bs : List UInt8} {a : Nat} {e : Int} (h : RD w g bs a e) (f : Fr No w w') : RD w' g bs a e := by
  obtain ⟨A, c, hh, h1, h2, h3, h4, ho⟩ := h
  exact ⟨A, c, f.blk hh (fun h => h), h1, h2, h3, h4, ho.fr0 f⟩

theorem RD.lt {w : World} {g : Nat} {bs : List UInt8} {a : Nat} {e : Int} (h : RD w g bs a e) : g < w.heap.size := by
  obtain ⟨A, c, hh, _⟩ := h
  exact (Array.getElem?_eq_some_iff.1 hh).1

theorem RD.other {w w' : World} {g g2 : Nat} {bs bs2 : List UInt8} {a a2 : Nat} {e e2 : Int} (h : RD w g bs a e) (h2 : RD w g2 bs2 a2 e2) (f : Fr (Is g2) w w') (hne : g ≠ g2) : RD w' g bs a e := by
  obtain ⟨A, c, hh, h1, h2', h3, h4, ho⟩ := h
  obtain ⟨A2, c2, hh2, _⟩ := h2
  refine ⟨A, c, f.blk hh hne, h1, h2', h3, h4, ho.fr f ?_⟩
  rintro g' hg' rfl
  exact ho.ne_blk hg' hh2 (by decide)

theorem dec_le : ∀ (bs : List UInt8) (i acc u k : Nat), dec i acc bs = some (u, k) → i < k ∧ k ≤ i + bs.length
  | [], i, acc, u, k, h => by simp [dec] at h
  | b :: r, i, acc, u, k, h => by
    rw [dec] at h
    split at h
    · cases h
    · split at h
      · cases h
      · split at h
        · split at h
          · cases h
          · injection h with h; injection h with _ h; simp; omega
        · have := dec_le r _ _ u k h
          simp; omega

/-- what a reader's call leaves: value, place, error. -/
def RDRet (v : Value) (w : World) (g : Nat) (bs : List UInt8) (at_ : Nat) (e : Int) (en : Ending) (w' : World) : Prop := en = .returned v ∧ RD w' g bs at_ e ∧ Fr (Is g) w w'

/-- a new reader. -/
def GivesRD (w : World) (bs : List UInt8) (en : Ending) (w' : World) : Prop := ∃ g, en = .returned (.pointer (some ⟨g, 0, none⟩)) ∧ w.heap.size ≤ g ∧ RD w' g bs 0 0 ∧ Fr No w w'

set_option maxRecDepth 100000 in
set_option maxHeartbeats 400000 in
theorem newReader_any (A : Option Addr) (n c B : Nat) (bs : List UInt8) (w : World) (hl : bs.length = n) (hn : n ≤ c) (hc : c ≤ maxLen) (hb : n ≤ 140737488355328) (hB : B ≤ w.heap.size) (hr : Rd w B A (by8 bs)) :
    Calls Try.prog 40 #[.slice A n c] w (GivesRD w bs) := by
  have H := hide (clone_any A n c B bs w hl hn hc hb hB hr)
  have HL := hide hl
  clear hr hl
  go_enter Try.func40, Try.ntmps40
  go_wp2_with (go_at_call 45; refine H.out.mono ?_; rintro en w' ⟨v, rfl, hown, hfr⟩; obtain ⟨A', c', rfl, hq1, hq2, hq3, hq4⟩ := hown.form; have HO := hide hown; have HF := hide hfr; clear hown hfr hq3 hq4)
  go_ret
  refine ⟨w'.heap.size, rfl, HF.out.size, ⟨A', c', heap_alloc_new w' _, hq1, hq2, Nat.zero_le _, by rw [HL.out]; exact hb, ?_⟩, HF.out.alloc _⟩
  exact (HO.out.lower (Nat.zero_le _)).fr0 ((Fr.refl _ _).alloc _)

set_option maxRecDepth 100000 in
set_option maxHeartbeats 400000 in
theorem left_any (g : Nat) (bs : List UInt8) (a : Nat) (e : Int) (w : World) (h : RD w g bs a e) :
    Calls Try.prog 42 #[.pointer (some ⟨g, 0, none⟩)] w (RetQ (.int .i64 ((bs.length - a : Nat) : Int)) w) := by
  obtain ⟨A, c, ⟨c0, c1, c2⟩, hf, h1, h2, h3, h4, hr⟩ := h.parts
  have hx : ((bs.length - a : Nat) : Int) = (bs.length : Int) - a := by omega
  have HX := hide hx
  clear h hr hx
  generalize bs.length = n at *
  go_enter Try.func42, Try.ntmps42
  go_wp2
  go_quiet (fail)
  go_wp2
  go_ret
  exact ⟨by rw [HX.out]; rfl, _, rfl⟩

set_option maxRecDepth 100000 in
set_option maxHeartbeats 400000 in
theorem left_nil (w : World) : Calls Try.prog 42 #[.pointer none] w (Ret (.int .i64 0) w) := by
  go_enter Try.func42, Try.ntmps42
  go_wp2
  go_ret
  exact ⟨rfl, rfl⟩

set_option maxRecDepth 100000 in
set_option maxHeartbeats 400000 in
theorem err_any (g : Nat) (bs : List UInt8) (a : Nat) (e : Int) (w : World) (h : RD w g bs a e) :
    Calls Try.prog 70 #[.pointer (some ⟨g, 0, none⟩)] w (Ret (.int .i64 e) w) := by
  obtain ⟨A, c, ⟨c0, c1, c2⟩, hf, h1, h2, h3, h4, hr⟩ := h.parts
  clear h hr
  go_enter Try.func70, Try.ntmps70
  go_wp2
  go_ret
  exact ⟨rfl, rfl⟩

set_option maxRecDepth 100000 in
set_option maxHeartbeats 400000 in
theorem err_nil (w : World) : Calls Try.prog 70 #[.pointer none] w (Ret (.int .i64 20) w) := by
  go_enter Try.func70, Try.ntmps70
  go_wp2
  go_ret
  exact ⟨rfl, rfl⟩

def endE (bs : List UInt8) (a : Nat) (e : Int) : Int := if e = 0 ∧ a < bs.length then 20 else e

/-- where a reader's bytes lie: from M on. -/
def Up0 (w : World) (g M : Nat) : Prop := ∀ A n c, w.cell? ⟨g, 0, none⟩ = some (.slice A n c) → ∀ k, (Value.slice A n c).ownBlock = some k → M ≤ k

def GivesRU (w : World) (bs : List UInt8) (en : Ending) (w' : World) : Prop := ∃ g, en = .returned (.pointer (some ⟨g, 0, none⟩)) ∧ w.heap.size ≤ g ∧ RD w' g bs 0 0 ∧ Fr No w w' ∧ Up0 w' g w.heap.size

theorem RD.below {S : Nat → Prop} {w w' : World} {g M : Nat} {bs : List UInt8} {a : Nat} {e : Int} (h : RD w g bs a e) (h0 : Up0 w g M) (hg : M ≤ g) (f : Fr S w w') (hS : ∀ k, M ≤ k → ¬ S k) : RD w' g bs a e := by
  obtain ⟨A, c, hh, h1, h2', h3, h4, ho⟩ := h
  refine ⟨A, c, f.blk hh (hS g hg), h1, h2', h3, h4, ho.fr f ?_⟩
  intro k hk
  exact hS k (h0 A bs.length c (by rw [cell_of_row w g 0 _ _ (0, 0) hh]; rfl) k hk)

theorem Up0.fr0 {w w' : World} {g M : Nat} {bs : List UInt8} {a : Nat} {e : Int} (h : Up0 w g M) (r : RD w g bs a e) (f : Fr No w w') : Up0 w' g M := by
  intro A n c hc k hk
  obtain ⟨_, _, ⟨z, _⟩, _⟩ := r.parts
  have := f.cell (p := ⟨g, 0, none⟩) z (fun h => h)
  rw [this] at hc
  exact h A n c (by rw [z, hc]) k hk

set_option maxRecDepth 100000 in
set_option maxHeartbeats 400000 in
theorem newReader_up (A : Option Addr) (n c B : Nat) (bs : List UInt8) (w : World) (hl : bs.length = n) (hn : n ≤ c) (hc : c ≤ maxLen) (hb : n ≤ 140737488355328) (hB : B ≤ w.heap.size) (hr : Rd w B A (by8 bs)) :
    Calls Try.prog 40 #[.slice A n c] w (GivesRU w bs) := by
  have H := hide (clone_any A n c B bs w hl hn hc hb hB hr)
  have HL := hide hl
  clear hr hl
  go_enter Try.func40, Try.ntmps40
  go_wp2_with (go_at_call 45; refine H.out.mono ?_; rintro en w' ⟨v, rfl, hown, hfr⟩; obtain ⟨A', c', rfl, hq1, hq2, hq3, hq4⟩ := hown.form; have HO := hide hown; have HF := hide hfr; clear hown hfr hq3 hq4)
  go_ret
  refine ⟨w'.heap.size, rfl, HF.out.size, ⟨A', c', heap_alloc_new w' _, hq1, hq2, Nat.zero_le _, by rw [HL.out]; exact hb, ?_⟩, HF.out.alloc _, ?_⟩
  · exact (HO.out.lower (Nat.zero_le _)).fr0 ((Fr.refl _ _).alloc _)
  · intro A2 n2 c2 hc2 k hk
    rw [cell_of_row _ w'.heap.size 0 _ _ (0, 0) (heap_alloc_new w' _)] at hc2
    have : Value.slice A' bs.length c' = .slice A2 n2 c2 := by simpa using hc2
    rw [← this] at hk
    exact (HO.out.lt k hk).1

end Go.Proofs.Ytcdhbdhhknlbaaa
namespace Go.Proofs.Ytcdhbdhhknlbaaa
set_option linter.unusedVariables false
set_option linter.unusedSimpArgs false
open Go.RowKit

/-! Size -/
def sizeR (bs : List UInt8) (most : Int) : Option (Nat × Nat) :=
  match dec 0 0 bs with
  | none => none
  | some (u, k) => if most < 0 ∨ most < (u : Int) then none else some (u, k)

def sizeV : Option (Nat × Nat) → Value
  | none => .tuple #[.int .i64 0, .int .i64 (-1)]
  | some (u, k) => .tuple #[.int .i64 u, .int .i64 k]

theorem sizeR_none {bs : List UInt8} {most : Int} (hd : dec 0 0 bs = none) : sizeR bs most = none := by unfold sizeR; rw [hd]

theorem sizeR_no {bs : List UInt8} {most : Int} {u k : Nat} (hd : dec 0 0 bs = some (u, k)) (h : most < 0 ∨ most < (u : Int)) : sizeR bs most = none := by
  unfold sizeR; rw [hd]; exact if_pos h

theorem sizeR_ok {bs : List UInt8} {most : Int} {u k : Nat} (hd : dec 0 0 bs = some (u, k)) (h : ¬ (most < 0 ∨ most < (u : Int))) : sizeR bs most = some (u, k) := by
  unfold sizeR; rw [hd]; exact if_neg h

def sizeS (bs : List UInt8) (a : Nat) (e most : Int) : Nat × Nat × Int :=
  if e = 0 then (match sizeR (bs.drop a) most with | none => (0, a, 20) | some (u, k) => (u, a + k, 0)) else (0, a, e)

theorem sizeR_le {bs : List UInt8} {most : Int} {u k : Nat} (h : sizeR bs most = some (u, k)) : k ≤ bs.length := by
  cases hd : dec 0 0 bs with
  | none => rw [sizeR_none hd] at h; cases h
  | some x =>
    obtain ⟨u', j⟩ := x
    have hk := dec_le _ _ _ _ _ hd
    by_cases hb : most < 0 ∨ most < (u' : Int)
    · rw [sizeR_no hd hb] at h; cases h
    · rw [sizeR_ok hd hb] at h
      injection h with h
      injection h with _ h
      omega

end Go.Proofs.Ytcdhbdhhknlbaaa
namespace Go.Proofs.Ytcdhbdhhknlbaaa
set_option linter.unusedVariables false
set_option linter.unusedSimpArgs false
open Go.RowKit

theorem foldl_push (bs : List UInt8) (s : ByteArray) : (bs.map fun b => ((b.toNat : Nat) : Int)).foldl (fun r n => r.push (UInt8.ofNat n.toNat)) s = ⟨s.data ++ bs.toArray⟩ := by
  induction bs generalizing s with
  | nil => obtain ⟨d⟩ := s; simp
  | cons b r ih =>
    obtain ⟨d⟩ := s
    rw [List.map_cons, List.foldl_cons, ih]
    show ByteArray.mk ((d.push (UInt8.ofNat ((b.toNat : Int).toNat))) ++ r.toArray) = ByteArray.mk (d ++ (b :: r).toArray)
    congr 1
    rw [Int.toNat_natCast, UInt8.ofNat_toNat]
    apply Array.ext'
    simp

/-- bytes that are read, as a text. -/
theorem conv_rd (w : World) {B : Nat} (A : Option Addr) (l c : Nat) (bs : List UInt8) (hl : bs.length = l) (hr : Rd w B A (by8 bs)) :
    (convert 24 9 (.slice A l c)).run Try.prog w = .ok (.string ⟨bs.toArray⟩) w := by
  rw [run_convert_bytes_string w 24 9 5 A l c Try.underlying24 Try.underlying5 Try.underlying9]
  cases A with
  | none =>
    have h0 := hr.len0
    subst h0
    subst hl
    simp [Conv.bytesToString]
    rfl
  | some a =>
    have h := run_loadCells_list (P := Try.prog) (w := w) a (by8 bs) (fun j v hv => by
      obtain ⟨ad, e, _, hc⟩ := hr j v hv
      injection e with e
      subst e
      exact hc)
    rw [by8_length, hl] at h
    have e : (bs.map fun b => ((b.toNat : Nat) : Int)).map (Value.int .u8) = by8 bs := by simp [by8, Function.comp_def]
    rw [← e] at h
    rw [run_bytesToString w a l c _ h, foldl_push]
    congr 2
    simp

def textR (bs : List UInt8) (most : Int) : Option (List UInt8 × Nat) :=
  match dec 0 0 bs with
  | none => none
  | some (u, k) => if most < 0 ∨ most < (u : Int) ∨ bs.length - k < u then none else some ((bs.drop k).take u, k + u)

def textV : Option (List UInt8 × Nat) → Value
  | none => .tuple #[.string ⟨#[]⟩, .int .i64 (-1)]
  | some (s, k) => .tuple #[.string ⟨s.toArray⟩, .int .i64 k]

theorem textR_none {bs : List UInt8} {most : Int} (hd : dec 0 0 bs = none) : textR bs most = none := by unfold textR; rw [hd]

theorem textR_no {bs : List UInt8} {most : Int} {u k : Nat} (hd : dec 0 0 bs = some (u, k)) (h : most < 0 ∨ most < (u : Int) ∨ bs.length - k < u) : textR bs most = none := by
  unfold textR; rw [hd]; exact if_pos h

theorem textR_ok {bs : List UInt8} {most : Int} {u k : Nat} (hd : dec 0 0 bs = some (u, k)) (h : ¬ (most < 0 ∨ most < (u : Int) ∨ bs.length - k < u)) : textR bs most = some ((bs.drop k).take u, k + u) := by
  unfold textR; rw [hd]; exact if_neg h

def textS (bs : List UInt8) (a : Nat) (e most : Int) : List UInt8 × Nat × Int :=
  if e = 0 then (match textR (bs.drop a) most with | none => ([], a, 20) | some (s, k) => (s, a + k, 0)) else ([], a, e)

theorem textR_le {bs : List UInt8} {most : Int} {s : List UInt8} {k : Nat} (h : textR bs most = some (s, k)) : k ≤ bs.length := by
  cases hd : dec 0 0 bs with
  | none => rw [textR_none hd] at h; cases h
  | some x =>
    obtain ⟨u, j⟩ := x
    have hk := dec_le _ _ _ _ _ hd
    by_cases hb : most < 0 ∨ most < (u : Int) ∨ bs.length - j < u
    · rw [textR_no hd hb] at h; cases h
    · rw [textR_ok hd hb] at h
      injection h with h
      injection h with _ h
      omega

end Go.Proofs.Ytcdhbdhhknlbaaa
namespace Go.Proofs.Ytcdhbdhhknlbaaa
set_option linter.unusedVariables false
set_option linter.unusedSimpArgs false
open Go.RowKit

theorem or_step {v g k : Nat} (hv : v < 2 ^ (7 * k)) (hk : k ≤ 9) (hg : g < 128) (h9 : k = 9 → g ≤ 1) :
    bits .or .u64 (v : Int) (IntKind.u64.wrap ((g : Int) * 2 ^ (7 * k))) = ((v + g * 2 ^ (7 * k) : Nat) : Int) := by
  have hlt : v + g * 2 ^ (7 * k) < 18446744073709551616 := by
    by_cases h : k = 9
    · subst h
      have := h9 rfl
      have e : (2 : Nat) ^ (7 * 9) = 9223372036854775808 := by decide
      rw [e] at hv ⊢
      omega
    · have := acc_lt hv hg
      have h2 : 2 ^ (7 * (k + 1)) ≤ 2 ^ 63 := Nat.pow_le_pow_right (by omega) (by omega)
      omega
  have e1 : (g : Int) * 2 ^ (7 * k) = ((g * 2 ^ (7 * k) : Nat) : Int) := by simp
  rw [e1, IntWalk.u64_in _ (by omega), u64_or_nat _ _ (by omega) (by omega), or_shift hv]

set_option maxRecDepth 100000 in
set_option maxHeartbeats 800000 in
theorem number_any (r : Value) (A : Option Addr) (n c B : Nat) (bs : List UInt8) (w : World) (hl : bs.length = n) (hn : n ≤ c) (hc : c ≤ maxLen) (hr : Rd w B A (by8 bs)) :
    Calls Try.prog 67 #[r, .slice A n c] w (Ret (numV (dec 0 0 bs)) w) := by
  unfold maxLen at hc
  have HR := hide hr; clear hr
  have HL := hide hl; clear hl
  by_cases h10 : n ≤ 10
  all_goals
    go_enter Try.func67, Try.ntmps67
    go_wp2
    go_loop [6, 16] (fun a i => ∃ k v : Nat, k ≤ n ∧ k ≤ 10 ∧ Hid (v < 2 ^ (7 * k)) ∧ i = .int .i64 k ∧ a = .int .u64 v ∧ Hid (dec 0 0 bs = dec k v (bs.drop k))) (fun _ i => n - (intOf i).toNat)
    case atStart => exact ⟨0, 0, by omega, by omega, hide (by decide), rfl, rfl, hide rfl⟩
    case round =>
      obtain ⟨k, v, hk, hk10, HV, rfl, rfl, HD⟩ := hrel
      by_cases hlt : k < n ∧ k < 10
      · obtain ⟨hlt, hlt10⟩ := hlt
        have hkl : k < bs.length := by rw [HL.out]; exact hlt
        obtain ⟨ad, rfl, _, hcell⟩ := HR.out.byte hkl
        have s1 := hide (@dec_bad9 bs k v hkl)
        have s2 := hide (@dec_stop bs k v hkl hlt10)
        have s3 := hide (@dec_bad0 bs k v hkl)
        have s4 := hide (@dec_more bs k v hkl hlt10)
        generalize bs.getD k 0 = b at hcell s1 s2 s3 s4
        have hg := and_127 b
        have hb := b.toNat_lt
        generalize b.toNat = x at hcell s1 s2 s3 s4 hg hb
        obtain ⟨g, hgd⟩ : ∃ g : Nat, g = x % 128 := ⟨_, rfl⟩
        rw [← hgd] at hg s1 s2 s4
        have hg1 : g < 128 := by omega
        have hb' : x < 256 := by omega
        clear hb
        have HG := hide hgd; clear hgd
        clear hkl
        have cases9 : (Hid (k = 9 ∧ 1 < g) ∧ ((k : Int) == 9) = true ∧ 1 < g) ∨ (Hid (¬ (k = 9 ∧ 1 < g)) ∧ ((k : Int) == 9) = true ∧ g ≤ 1) ∨ (Hid (¬ (k = 9 ∧ 1 < g)) ∧ ((k : Int) == 9) = false) := by
          by_cases h9 : k = 9
          · by_cases hg : 1 < g
            · exact .inl ⟨hide ⟨h9, hg⟩, by simp; omega, hg⟩
            · exact .inr (.inl ⟨hide (fun h => hg h.2), by simp; omega, by omega⟩)
          · exact .inr (.inr ⟨hide (fun h => h9 h.1), by simp; omega⟩)
        rcases cases9 with ⟨t9, t9b, tg⟩ | cases9
        · have HF := hide (HD.out.trans (s1.out t9.out))
          clear s1 s2 s3 s4
          go_wp2
          go_ret2
          exact ⟨by rw [HF.out]; rfl, rfl⟩
        · have ho := or_step HV.out (by omega) hg1 (by intro h9; rcases cases9 with ⟨_, _, h⟩ | ⟨_, h⟩ <;> first | exact h | (simp [h9] at h))
          have HV' := hide (acc_lt HV.out hg1)
          have t9 : ¬ (k = 9 ∧ 1 < g) := by rcases cases9 with ⟨h, _⟩ | ⟨h, _⟩ <;> exact h.out
          have z2 := hide (s2.out t9)
          have z4 := hide (s4.out t9)
          clear s2 s4 t9
          generalize v + g * 2 ^ (7 * k) = v' at ho HV' z2 z4
          clear HV s1
          rcases cases9 with ⟨t9, t9b, tg⟩ | ⟨t9, t9b⟩
          all_goals
            go_wp2
            · go_ret2
              exact ⟨by rw [HD.out, s3.out (by omega) (by omega)]; rfl, rfl⟩
            · go_ret2
              exact ⟨by rw [HD.out, z2.out (by omega) (by omega)]; simp [numV], rfl⟩
            · go_ret2
              exact ⟨by rw [HD.out, z2.out (by omega) (by omega)]; simp [numV], rfl⟩
            · go_round
              case rel => exact ⟨k + 1, v', by omega, by omega, HV', by go_num, rfl, hide (HD.out.trans (z4.out (by omega)))⟩
              case measure => simp [intOf]; omega
      · have HF := hide (HD.out.trans (dec_end (bs := bs) (k := k) (v := v) (by rw [HL.out]; omega)))
        go_wp2
        go_ret2
        exact ⟨by rw [HF.out]; rfl, rfl⟩

end Go.Proofs.Ytcdhbdhhknlbaaa
namespace Go.Proofs.Ytcdhbdhhknlbaaa
set_option linter.unusedVariables false
set_option linter.unusedSimpArgs false
open Go.RowKit

theorem num_cut {w : World} {B : Nat} {A : Option Addr} {bs : List UInt8} {c at_ : Nat} (r : Value) (hr : Rd w B A (by8 bs)) (h1 : bs.length ≤ c) (h2 : c ≤ maxLen) (h3 : at_ ≤ bs.length) (nq : Nat) :
    Calls Try.prog 67 #[r, .slice (if c = at_ then A else A.map (·.add at_)) (bs.length - at_) (c - at_)] (w.drewN nq) fun e w' => e = .returned (numV (dec 0 0 (bs.drop at_))) ∧ w' = w.drewN nq :=
  (number_any r _ _ _ B (bs.drop at_) (w.drewN nq) (by simp) (by omega) (by omega) (by rw [by8_drop]; exact Rd.cut (w := w) hr (by rw [by8_length]; exact h1))).mono fun _ _ ⟨a, b⟩ => ⟨a, b.symm⟩

theorem num_none {w : World} {B : Nat} {A : Option Addr} {bs : List UInt8} {c at_ : Nat} (r : Value) (hr : Rd w B A (by8 bs)) (h1 : bs.length ≤ c) (h2 : c ≤ maxLen) (h3 : at_ ≤ bs.length) (hd : dec 0 0 (bs.drop at_) = none) (nq : Nat) :
    Calls Try.prog 67 #[r, .slice (if c = at_ then A else A.map (·.add at_)) (bs.length - at_) (c - at_)] (w.drewN nq) fun e w' => e = .returned (.tuple #[.int .u64 0, .int .i64 (-1)]) ∧ w' = w.drewN nq := by
  have h := num_cut r hr h1 h2 h3 nq
  rw [hd] at h
  exact h

theorem num_some {w : World} {B : Nat} {A : Option Addr} {bs : List UInt8} {c at_ u k : Nat} (r : Value) (hr : Rd w B A (by8 bs)) (h1 : bs.length ≤ c) (h2 : c ≤ maxLen) (h3 : at_ ≤ bs.length) (hd : dec 0 0 (bs.drop at_) = some (u, k)) (nq : Nat) :
    Calls Try.prog 67 #[r, .slice (if c = at_ then A else A.map (·.add at_)) (bs.length - at_) (c - at_)] (w.drewN nq) fun e w' => e = .returned (.tuple #[.int .u64 u, .int .i64 k]) ∧ w' = w.drewN nq := by
  have h := num_cut r hr h1 h2 h3 nq
  rw [hd] at h
  exact h

end Go.Proofs.Ytcdhbdhhknlbaaa
namespace Go.Proofs.Ytcdhbdhhknlbaaa
set_option linter.unusedVariables false
set_option linter.unusedSimpArgs false
open Go.RowKit

def uintR (bs : List UInt8) (a : Nat) (e : Int) : Nat × Nat × Int :=
  if e = 0 then (match dec 0 0 (bs.drop a) with | none => (0, a, 20) | some (u, k) => (u, a + k, 0)) else (0, a, e)

theorem uintR_lt (bs : List UInt8) (a : Nat) (e : Int) : (uintR bs a e).1 < 18446744073709551616 := by
  unfold uintR
  split
  · cases hd : dec 0 0 (bs.drop a) with
    | none => simp
    | some x => exact dec_lt _ 0 0 x.1 x.2 (by decide) hd
  · simp

theorem uintR_none {bs : List UInt8} {a : Nat} (hd : dec 0 0 (bs.drop a) = none) : uintR bs a 0 = (0, a, 20) := by unfold uintR; rw [if_pos rfl, hd]

theorem uintR_some {bs : List UInt8} {a u k : Nat} (hd : dec 0 0 (bs.drop a) = some (u, k)) : uintR bs a 0 = (u, a + k, 0) := by unfold uintR; rw [if_pos rfl, hd]

set_option maxRecDepth 100000 in
set_option maxHeartbeats 400000 in
theorem takeU_bad (g : Nat) (bs : List UInt8) (at_ : Nat) (w : World) (h : RD w g bs at_ 0) (hd : dec 0 0 (bs.drop at_) = none) :
    Calls Try.prog 82 #[.pointer (some ⟨g, 0, none⟩), .func (.func 67) #[.pointer (some ⟨g, 0, none⟩)] #[]] w (RDRet (.int .u64 0) w g bs at_ 20) := by
  obtain ⟨A, c, ⟨c0, c1, c2⟩, hf, h1, h2, h3, h4, hr⟩ := h.parts
  have HN := hide (num_none (.pointer (some ⟨g, 0, none⟩)) hr h1 h2 h3 hd)
  have H := hide h
  clear h hr hd
  go_enter Try.func82, Try.ntmps82
  go_wp2_with (fail)
  go_quiet ((go_at_call 67; exact Calls.quiet_of_same (HN.out _)))
  go_wp2
  all_goals
    go_ret
    exact ⟨rfl, (H.out.drewN _).set2 20, ((Fr.refl _ _).drewN _).put _ _⟩

set_option maxRecDepth 100000 in
set_option maxHeartbeats 400000 in
theorem takeU_ok (g : Nat) (bs : List UInt8) (at_ u k : Nat) (w : World) (h : RD w g bs at_ 0) (hd : dec 0 0 (bs.drop at_) = some (u, k)) :
    Calls Try.prog 82 #[.pointer (some ⟨g, 0, none⟩), .func (.func 67) #[.pointer (some ⟨g, 0, none⟩)] #[]] w (RDRet (.int .u64 u) w g bs (at_ + k) 0) := by
  obtain ⟨A, c, ⟨c0, c1, c2⟩, hf, h1, h2, h3, h4, hr⟩ := h.parts
  have HN := hide (num_some (.pointer (some ⟨g, 0, none⟩)) hr h1 h2 h3 hd)
  have hk := dec_le _ _ _ _ _ hd
  have hk1 : at_ + k ≤ bs.length := by have := hk.2; simp at this; omega
  have H := hide h
  clear h hr hd hk
  go_enter Try.func82, Try.ntmps82
  go_wp2_with (fail)
  go_quiet ((go_at_call 67; exact Calls.quiet_of_same (HN.out _)))
  go_wp2
  all_goals
    go_ret
    exact ⟨rfl, (H.out.drewN _).set1 _ hk1, ((Fr.refl _ _).drewN _).put _ _⟩

set_option maxRecDepth 100000 in
set_option maxHeartbeats 400000 in
theorem takeU_off (g : Nat) (bs : List UInt8) (at_ : Nat) (e : Int) (w : World) (f : Value) (h : RD w g bs at_ e) (he : e ≠ 0) :
    Calls Try.prog 82 #[.pointer (some ⟨g, 0, none⟩), f] w (RDRet (.int .u64 0) w g bs at_ e) := by
  obtain ⟨A, c, ⟨c0, c1, c2⟩, hf, h1, h2, h3, h4, hr⟩ := h.parts
  have hb : (e != 0) = true := by simpa using he
  have H := hide h
  clear h hr he
  go_enter Try.func82, Try.ntmps82
  go_wp2_with (fail)
  go_ret
  exact ⟨rfl, H.out, Fr.refl _ _⟩

set_option maxRecDepth 100000 in
set_option maxHeartbeats 400000 in
theorem takeU_nil (w : World) (f : Value) :
    Calls Try.prog 82 #[.pointer none, f] w (Ret (.int .u64 0) w) := by
  go_enter Try.func82, Try.ntmps82
  go_wp2_with (fail)
  go_ret
  exact ⟨rfl, rfl⟩

theorem takeU_all (g : Nat) (bs : List UInt8) (a : Nat) (e : Int) (w : World) (h : RD w g bs a e) :
    Calls Try.prog 82 #[.pointer (some ⟨g, 0, none⟩), .func (.func 67) #[.pointer (some ⟨g, 0, none⟩)] #[]] w (RDRet (.int .u64 (uintR bs a e).1) w g bs (uintR bs a e).2.1 (uintR bs a e).2.2) := by
  unfold uintR
  by_cases he : e = 0
  · subst he
    rw [if_pos rfl]
    cases hd : dec 0 0 (bs.drop a) with
    | none => exact takeU_bad g bs a w h hd
    | some x => exact takeU_ok g bs a x.1 x.2 w h hd
  · rw [if_neg he]
    exact takeU_off g bs a e w _ h he

set_option maxRecDepth 100000 in
set_option maxHeartbeats 400000 in
theorem uint_any (g : Nat) (bs : List UInt8) (a : Nat) (e : Int) (w : World) (h : RD w g bs a e) :
    Calls Try.prog 71 #[.pointer (some ⟨g, 0, none⟩)] w (RDRet (.int .u64 (uintR bs a e).1) w g bs (uintR bs a e).2.1 (uintR bs a e).2.2) := by
  have H := hide (takeU_all g bs a e w h)
  clear h
  generalize uintR bs a e = x at H
  go_enter Try.func71, Try.ntmps71
  go_wp2_with (go_at_call 82; refine H.out.mono ?_; rintro en w' ⟨rfl, hq⟩; have HQ := hide hq; clear hq)
  go_ret
  exact ⟨rfl, HQ.out⟩

set_option maxRecDepth 100000 in
set_option maxHeartbeats 400000 in
theorem uint_nil (w : World) :
    Calls Try.prog 71 #[.pointer none] w (Ret (.int .u64 0) w) := by
  go_enter Try.func71, Try.ntmps71
  go_wp2_with (go_at_call 82; refine (takeU_nil _ _).mono ?_; rintro en w' ⟨rfl, rfl⟩)
  go_ret
  exact ⟨rfl, rfl⟩

end Go.Proofs.Ytcdhbdhhknlbaaa
namespace Go.Proofs.Ytcdhbdhhknlbaaa
set_option linter.unusedVariables false
set_option linter.unusedSimpArgs false
open Go.RowKit


theorem pre_app {α : Type} {s t l : List α} {a : Nat} : s ++ t <+: l.drop a ↔ s <+: l.drop a ∧ t <+: l.drop (a + s.length) := by
  constructor
  · rintro ⟨r, hr⟩
    refine ⟨⟨t ++ r, by rw [← hr, List.append_assoc]⟩, ⟨r, ?_⟩⟩
    rw [← List.drop_drop, ← hr, List.append_assoc, List.drop_left]
  · rintro ⟨⟨r, hr⟩, ⟨q, hq⟩⟩
    refine ⟨q, ?_⟩
    rw [← List.drop_drop, ← hr, List.drop_left] at hq
    rw [List.append_assoc, hq, hr]
theorem pre_le {α : Type} {s l : List α} {a : Nat} (h : s <+: l.drop a) : s.length ≤ l.length - a := by
  have := h.length_le
  rw [List.length_drop] at this
  exact this
theorem pre_nil {α : Type} {l : List α} {a : Nat} : [] <+: l.drop a := ⟨l.drop a, rfl⟩
theorem pre_eq {α : Type} {s l : List α} (h : s <+: l.drop 0) (hl : s.length = l.length) : s = l := h.eq_of_length (by simpa using hl)

theorem uint_has {bs : List UInt8} {a u : Nat} (hu : u < 18446744073709551616) (h : enc u <+: bs.drop a) : uintR bs a 0 = (u, a + (enc u).length, 0) := by
  obtain ⟨r, hr⟩ := h
  refine uintR_some ?_
  rw [← hr]
  exact dec_enc u hu r
theorem dec_has {bs : List UInt8} {a u k : Nat} (hd : dec 0 0 (bs.drop a) = some (u, k)) : enc u <+: bs.drop a ∧ k = (enc u).length := by
  have h1 := enc_dec hd
  have h2 := dec_le _ _ _ _ _ hd
  have h3 : (enc u).length = k := by rw [h1, List.length_take]; omega
  exact ⟨by rw [h1]; exact List.take_prefix _ _, h3.symm⟩
theorem uint_of {bs : List UInt8} {a : Nat} {e : Int} (h : (uintR bs a e).2.2 = 0) : e = 0 ∧ (uintR bs a e).1 < 18446744073709551616 ∧ enc (uintR bs a e).1 <+: bs.drop a ∧ (uintR bs a e).2.1 = a + (enc (uintR bs a e).1).length := by
  by_cases he : e = 0
  · subst he
    cases hd : dec 0 0 (bs.drop a) with
    | none => rw [uintR_none hd] at h; cases h
    | some x =>
      obtain ⟨u, k⟩ := x
      have hlt := uintR_lt bs a 0
      rw [uintR_some hd] at hlt ⊢
      obtain ⟨h1, h2⟩ := dec_has hd
      exact ⟨rfl, hlt, h1, by rw [h2]⟩
  · exfalso
    unfold uintR at h
    rw [if_neg he] at h
    exact he h
theorem size_has {bs : List UInt8} {a u : Nat} {most : Int} (hu : u < 18446744073709551616) (hm : (u : Int) ≤ most) (h : enc u <+: bs.drop a) : sizeS bs a 0 most = (u, a + (enc u).length, 0) := by
  obtain ⟨r, hr⟩ := h
  have hd : dec 0 0 (bs.drop a) = some (u, (enc u).length) := by rw [← hr]; exact dec_enc u hu r
  unfold sizeS
  rw [if_pos rfl, sizeR_ok hd (by omega)]
theorem size_of {bs : List UInt8} {a : Nat} {e most : Int} (h : (sizeS bs a e most).2.2 = 0) : e = 0 ∧ ((sizeS bs a e most).1 : Int) ≤ most ∧ (sizeS bs a e most).1 < 18446744073709551616 ∧ enc (sizeS bs a e most).1 <+: bs.drop a ∧ (sizeS bs a e most).2.1 = a + (enc (sizeS bs a e most).1).length := by
  by_cases he : e = 0
  · subst he
    unfold sizeS at h ⊢
    rw [if_pos rfl] at h ⊢
    cases hd : dec 0 0 (bs.drop a) with
    | none => rw [sizeR_none hd] at h; cases h
    | some x =>
      obtain ⟨u, k⟩ := x
      by_cases hm : most < 0 ∨ most < (u : Int)
      · rw [sizeR_no hd hm] at h; cases h
      · rw [sizeR_ok hd hm]
        obtain ⟨h1, h2⟩ := dec_has hd
        exact ⟨rfl, by show (u : Int) ≤ most; omega, dec_lt _ 0 0 u k (by simp) hd, h1, by rw [h2]⟩
  · exfalso
    unfold sizeS at h
    rw [if_neg he] at h
    exact he h
theorem size_zero {bs : List UInt8} {a : Nat} {e most : Int} (h : (sizeS bs a e most).2.2 ≠ 0) : (sizeS bs a e most).1 = 0 := by
  unfold sizeS at h ⊢
  split
  · rename_i he
    rw [if_pos he] at h
    cases hs : sizeR (bs.drop a) most with
    | none => rfl
    | some x =>
      rw [hs] at h
      exact absurd rfl h
  · rfl
theorem sizeS_le {bs : List UInt8} {a : Nat} {e most : Int} (h0 : 0 ≤ most) : ((sizeS bs a e most).1 : Int) ≤ most := by
  by_cases h : (sizeS bs a e most).2.2 = 0
  · exact (size_of h).2.1
  · rw [size_zero h]; simpa using h0
theorem text_has {bs s : List UInt8} {a : Nat} {most : Int} (hm : (s.length : Int) ≤ most) (hs : s.length < 18446744073709551616) (h : enc s.length ++ s <+: bs.drop a) : textS bs a 0 most = (s, a + (enc s.length ++ s).length, 0) := by
  obtain ⟨r, hr⟩ := h
  have hd : dec 0 0 (bs.drop a) = some (s.length, (enc s.length).length) := by rw [← hr, List.append_assoc]; exact dec_enc _ hs _
  have hl : (bs.drop a).length = (enc s.length).length + s.length + r.length := by rw [← hr, List.length_append, List.length_append]
  have ht : textR (bs.drop a) most = some (s, (enc s.length).length + s.length) := by
    rw [textR_ok hd (by omega)]
    congr 2
    rw [← hr, List.append_assoc, List.drop_left, List.take_left]
  unfold textS
  rw [if_pos rfl, ht]
  simp
theorem text_of {bs : List UInt8} {a : Nat} {e most : Int} (h : (textS bs a e most).2.2 = 0) : e = 0 ∧ ((textS bs a e most).1.length : Int) ≤ most ∧ (textS bs a e most).1.length < 18446744073709551616 ∧ enc (textS bs a e most).1.length ++ (textS bs a e most).1 <+: bs.drop a ∧ (textS bs a e most).2.1 = a + (enc (textS bs a e most).1.length ++ (textS bs a e most).1).length := by
  by_cases he : e = 0
  · subst he
    unfold textS at h ⊢
    rw [if_pos rfl] at h ⊢
    cases hd : dec 0 0 (bs.drop a) with
    | none => rw [textR_none hd] at h; cases h
    | some x =>
      obtain ⟨u, k⟩ := x
      by_cases hm : most < 0 ∨ most < (u : Int) ∨ (bs.drop a).length - k < u
      · rw [textR_no hd hm] at h; cases h
      · rw [textR_ok hd hm]
        obtain ⟨h1, h2⟩ := dec_has hd
        have h3 := dec_le _ _ _ _ _ hd
        have hl : (((bs.drop a).drop k).take u).length = u := by rw [List.length_take, List.length_drop]; omega
        refine ⟨rfl, ?_, ?_, ?_, ?_⟩
        · show (((((bs.drop a).drop k).take u).length : Nat) : Int) ≤ most
          rw [hl]; omega
        · show (((bs.drop a).drop k).take u).length < _
          rw [hl]; exact dec_lt _ 0 0 u k (by simp) hd
        · show enc (((bs.drop a).drop k).take u).length ++ ((bs.drop a).drop k).take u <+: bs.drop a
          rw [hl, pre_app, ← h2, ← List.drop_drop]
          exact ⟨h1, List.take_prefix _ _⟩
        · show a + (k + u) = _
          rw [List.length_append, hl, ← h2]
  · exfalso
    unfold textS at h
    rw [if_neg he] at h
    exact he h

end Go.Proofs.Ytcdhbdhhknlbaaa
namespace Go.Proofs.Ytcdhbdhhknlbaaa
set_option linter.unusedVariables false
set_option linter.unusedSimpArgs false
open Go.RowKit

theorem encF_at : ∀ (f u i : Nat) (h : i < (encF f u).length), u < 2 ^ (7 * (f + 1)) → ((encF f u)[i]).toNat = u / 2 ^ (7 * i) % 128 + (if i + 1 < (encF f u).length then 128 else 0)
  | 0, u, i, h, hu => by
    have hi : i = 0 := by simp [encF] at h; exact h
    subst hi
    have hu' : u < 128 := by simpa using hu
    have e : (if 0 + 1 < (encF 0 u).length then 128 else 0) = 0 := if_neg (by simp [encF])
    rw [e]
    simp only [encF, List.getElem_cons_zero]
    rw [ofNat_toNat (by omega)]
    simp; omega
  | f + 1, u, i, h, hu => by
    by_cases hb : 127 < u
    · have e0 : encF (f + 1) u = UInt8.ofNat (u % 128 + 128) :: encF f (u / 128) := by rw [encF, if_pos hb]
      have hl := (encF_len f (u / 128)).1
      cases i with
      | zero =>
        simp only [e0, List.getElem_cons_zero, List.length_cons]
        rw [ofNat_toNat (by omega), if_pos (by omega)]
        simp
      | succ j =>
        have hj : j < (encF f (u / 128)).length := by rw [e0] at h; simpa using h
        have hu' : u / 128 < 2 ^ (7 * (f + 1)) := by rw [pow7] at hu; omega
        have ih := encF_at f (u / 128) j hj hu'
        simp only [e0, List.getElem_cons_succ, List.length_cons]
        rw [ih, Nat.div_div_eq_div_mul, pow7]
        congr 1
        by_cases hc : j + 1 < (encF f (u / 128)).length
        · rw [if_pos hc, if_pos (by omega)]
        · rw [if_neg hc, if_neg (by omega)]
    · have e0 : encF (f + 1) u = [UInt8.ofNat u] := by rw [encF, if_neg hb]
      have hi : i = 0 := by rw [e0] at h; simpa using h
      subst hi
      simp only [e0, List.getElem_cons_zero, List.length_cons, List.length_nil]
      rw [ofNat_toNat (by omega), if_neg (by omega)]
      simp; omega

theorem encF_more : ∀ (f u i : Nat), 1 ≤ i → i ≤ (encF f u).length → (i < (encF f u).length ↔ (i < f + 1 ∧ 0 < u / 2 ^ (7 * i)))
  | 0, u, i, h1, h2 => by
    have e : (encF 0 u).length = 1 := by simp [encF]
    rw [e] at h2 ⊢
    omega
  | f + 1, u, i, h1, h2 => by
    obtain ⟨j, rfl⟩ : ∃ j, i = j + 1 := ⟨i - 1, by omega⟩
    by_cases hb : 127 < u
    · have e0 : encF (f + 1) u = UInt8.ofNat (u % 128 + 128) :: encF f (u / 128) := by rw [encF, if_pos hb]
      have hl := (encF_len f (u / 128)).1
      rw [e0, List.length_cons] at h2 ⊢
      cases j with
      | zero =>
        have : 0 < u / 2 ^ (7 * (0 + 1)) := by simp; omega
        constructor
        · intro _; exact ⟨by omega, this⟩
        · intro _; omega
      | succ j =>
        have ih := encF_more f (u / 128) (j + 1) (by omega) (by omega)
        rw [Nat.div_div_eq_div_mul, ← pow7] at ih
        constructor
        · intro h; have := ih.1 (by omega); exact ⟨by omega, this.2⟩
        · intro h; have := ih.2 ⟨by omega, h.2⟩; omega
    · have e0 : encF (f + 1) u = [UInt8.ofNat u] := by rw [encF, if_neg hb]
      rw [e0, List.length_cons, List.length_nil] at h2 ⊢
      have : j = 0 := by omega
      subst this
      have : u / 2 ^ (7 * (0 + 1)) = 0 := by simp; omega
      rw [this]
      omega

theorem u64_pow {u : Nat} (h : u < 18446744073709551616) : u < 2 ^ (7 * (9 + 1)) := by
  have e : (2 : Nat) ^ (7 * (9 + 1)) = 1180591620717411303424 := by decide
  rw [e]; omega
theorem enc_at {u i : Nat} (hu : u < 18446744073709551616) (h : i < (enc u).length) : ((enc u).getD i 0).toNat = u / 2 ^ (7 * i) % 128 + (if i + 1 < (enc u).length then 128 else 0) := by
  have := encF_at 9 u i h (u64_pow hu)
  simp only [List.getD_eq_getElem?_getD, List.getElem?_eq_getElem h, Option.getD_some]
  exact this
theorem enc_more {u i : Nat} (h1 : 1 ≤ i) (h2 : i ≤ (enc u).length) : (i < (enc u).length ↔ (i < 10 ∧ 0 < u / 2 ^ (7 * i))) := encF_more 9 u i h1 h2
theorem enc_len (u : Nat) : 1 ≤ (enc u).length ∧ (enc u).length ≤ 10 := encF_len 9 u

/-- how many bytes above 127 stand ahead. -/
def lead : List UInt8 → Nat
  | [] => 0
  | b :: r => if 127 < b.toNat then lead r + 1 else 0
/-- the value of groups. -/
def gval : List UInt8 → Nat
  | [] => 0
  | b :: r => b.toNat % 128 + 128 * gval r

theorem lead_encF : ∀ (f u : Nat) (rest : List UInt8), u < 2 ^ (7 * (f + 1)) → lead (encF f u ++ rest) + 1 = (encF f u).length
  | 0, u, rest, hu => by
    have hu' : u < 128 := by simpa using hu
    simp only [encF, List.cons_append, List.nil_append, lead]
    rw [ofNat_toNat (by omega), if_neg (by omega)]
    rfl
  | f + 1, u, rest, hu => by
    by_cases hb : 127 < u
    · rw [encF, if_pos hb, List.cons_append, lead, ofNat_toNat (by omega), if_pos (by omega), List.length_cons, lead_encF f (u / 128) rest (by rw [pow7] at hu; omega)]
    · rw [encF, if_neg hb, List.cons_append, lead, ofNat_toNat (by omega), if_neg (by omega)]
      rfl
theorem gval_encF : ∀ (f u : Nat), u < 2 ^ (7 * (f + 1)) → gval (encF f u) = u
  | 0, u, hu => by
    have hu' : u < 128 := by simpa using hu
    simp only [encF, gval]
    rw [ofNat_toNat (by omega)]
    omega
  | f + 1, u, hu => by
    by_cases hb : 127 < u
    · rw [encF, if_pos hb, gval, ofNat_toNat (by omega), gval_encF f (u / 128) (by rw [pow7] at hu; omega)]
      omega
    · rw [encF, if_neg hb, gval, ofNat_toNat (by omega)]
      simp only [gval]
      omega

theorem dec_parts {bs : List UInt8} {u k : Nat} (h : dec 0 0 bs = some (u, k)) : lead bs + 1 = k ∧ gval (bs.take k) = u ∧ u < 18446744073709551616 ∧ k ≤ 10 ∧ k ≤ bs.length ∧ enc u = bs.take k := by
  have hu := dec_lt _ 0 0 u k (by decide) h
  have he := enc_dec h
  have hl := enc_len u
  have hb : bs = enc u ++ bs.drop k := by rw [he, List.take_append_drop]
  have hk : (enc u).length = k ∧ k ≤ bs.length := by
    have h2 := dec_enc u hu (bs.drop k)
    rw [← hb, h] at h2
    injection h2 with h2
    injection h2 with _ h2
    refine ⟨h2.symm, ?_⟩
    have : (bs.take k).length = k := by rw [← he]; exact h2.symm
    rw [List.length_take] at this
    omega
  refine ⟨?_, ?_, hu, by omega, hk.2, he⟩
  · have := lead_encF 9 u (bs.drop k) (u64_pow hu)
    rw [hb]
    rw [← hk.1]
    rw [hk.1]
    exact this.trans hk.1
  · rw [← he]; exact gval_encF 9 u (u64_pow hu)

theorem ref_none1 {bs : List UInt8} (h : bs.length ≤ lead bs ∨ 9 < lead bs) : dec 0 0 bs = none := by
  cases hd : dec 0 0 bs with
  | none => rfl
  | some x =>
    obtain ⟨h1, _, _, h4, h5, _⟩ := dec_parts (u := x.1) (k := x.2) hd
    omega
theorem ref_none2 {bs : List UInt8} (h : enc (gval (bs.take (lead bs + 1)) % 18446744073709551616) ≠ bs.take (lead bs + 1)) : dec 0 0 bs = none := by
  cases hd : dec 0 0 bs with
  | none => rfl
  | some x =>
    obtain ⟨h1, h2, h3, h4, h5, h6⟩ := dec_parts (u := x.1) (k := x.2) hd
    rw [h1, h2, Nat.mod_eq_of_lt h3] at h
    exact absurd h6 h
theorem ref_some {bs : List UInt8} {u k : Nat} (hu : u < 18446744073709551616) (hk : k ≤ bs.length) (h : enc u = bs.take k) : dec 0 0 bs = some (u, k) := by
  have h2 := dec_enc u hu (bs.drop k)
  rw [h, List.take_append_drop] at h2
  rw [h2]
  congr 2
  rw [List.length_take]; omega

theorem lead_step {bs : List UInt8} {k : Nat} (h : k < bs.length) (hb : 127 < (bs.getD k 0).toNat) (hk : lead bs = k + lead (bs.drop k)) : lead bs = (k + 1) + lead (bs.drop (k + 1)) := by
  rw [hk, List.drop_eq_getElem_cons h, lead]
  have e : bs.getD k 0 = bs[k] := by simp [List.getElem?_eq_getElem h]
  rw [e] at hb
  rw [if_pos hb]
  omega
theorem lead_stop {bs : List UInt8} {k : Nat} (h : bs.length ≤ k ∨ ¬ 127 < (bs.getD k 0).toNat) (hk : lead bs = k + lead (bs.drop k)) : lead bs = k := by
  by_cases hl : bs.length ≤ k
  · rw [hk, List.drop_eq_nil_of_le hl]; rfl
  · have hl' : k < bs.length := by omega
    have e : bs.getD k 0 = bs[k] := by simp [List.getElem?_eq_getElem hl']
    have hb : ¬ 127 < bs[k].toNat := by rw [e] at h; omega
    rw [hk, List.drop_eq_getElem_cons hl', lead, if_neg hb]
    rfl

/-- the groups of bytes j .. k, the last one first. -/
def gv (bs : List UInt8) (k j : Nat) : Nat := gval ((bs.take k).drop j) % 18446744073709551616
theorem gv_end (bs : List UInt8) (k : Nat) : gv bs k k = 0 := by
  unfold gv
  rw [List.drop_eq_nil_of_le (by simp; omega)]
  rfl
theorem gv_step {bs : List UInt8} {k j : Nat} (hj : j < k) (hk : k ≤ bs.length) :
    bits .or .u64 (IntKind.u64.wrap ((gv bs k (j + 1) : Int) * 128)) (((bs.getD j 0).toNat % 128 : Nat) : Int) = (gv bs k j : Int) := by
  have hj' : j < bs.length := by omega
  have e : bs.getD j 0 = bs[j] := by simp [List.getElem?_eq_getElem hj']
  have hd : (bs.take k).drop j = bs[j] :: (bs.take k).drop (j + 1) := by
    rw [List.drop_eq_getElem_cons (by simp; omega)]
    simp
  rw [e]
  unfold gv
  rw [hd, gval]
  generalize gval ((bs.take k).drop (j + 1)) = y
  have hx : bs[j].toNat % 128 < 128 := Nat.mod_lt _ (by omega)
  generalize bs[j].toNat % 128 = x at hx
  have e1 : IntKind.u64.wrap (((y % 18446744073709551616 : Nat) : Int) * 128) = ((y * 128 % 18446744073709551616 : Nat) : Int) := by rw [IntKind.wrap_u64]; omega
  rw [e1, u64_or_nat _ _ (by omega) (by omega)]
  have e2 : y * 128 % 18446744073709551616 = y % 144115188075855872 * 2 ^ 7 := by omega
  rw [e2, Nat.or_comm, or_shift (k := 7) (by omega)]
  omega
end Go.Proofs.Ytcdhbdhhknlbaaa
namespace Go.Proofs.Ytcdhbdhhknlbaaa
set_option linter.unusedVariables false
set_option linter.unusedSimpArgs false
open Go.RowKit

abbrev Tx := List UInt8
def sv (t : Tx) : Value := .string ⟨t.toArray⟩
def svs (l : List Tx) : List Value := l.map sv
theorem svs_len (l : List Tx) : (svs l).length = l.length := by simp [svs]
theorem svs_snoc (l : List Tx) (t : Tx) : svs (l ++ [t]) = svs l ++ [sv t] := by simp [svs]
theorem svs_get {l : List Tx} {k : Nat} (h : k < l.length) : (svs l)[k]? = some (sv (l.getD k [])) := by
  simp [svs, List.getElem?_eq_getElem h]
theorem sv_inj {s t : Tx} (h : sv s = sv t) : s = t := by
  unfold sv at h
  injection h with h
  injection h with h
  have := congrArg Array.toList h
  simpa using this
theorem tx_list (t : Tx) : (ByteArray.mk t.toArray).toList = t := by rw [ByteArray.toList_eq]
theorem tx_size (t : Tx) : (ByteArray.mk t.toArray).size = t.length := by simp [ByteArray.size]
theorem tx_lt (s t : Tx) : Op.bytesLess (ByteArray.mk s.toArray).toList (ByteArray.mk t.toArray).toList = decide (s < t) := by rw [tx_list, tx_list, bytesLess_eq]
theorem tx_eq (s t : Tx) : ((ByteArray.mk s.toArray).toList == (ByteArray.mk t.toArray).toList) = decide (s = t) := by
  rw [tx_list, tx_list]
  by_cases h : s = t <;> simp [h]

theorem tl_irrefl (s : Tx) : ¬ s < s := List.lt_irrefl s
theorem tl_trans {s t u : Tx} (h : s < t) (k : t < u) : s < u := List.lt_trans h k
theorem tl_total (s t : Tx) : s < t ∨ s = t ∨ t < s := by
  by_cases h1 : s < t
  · exact .inl h1
  · by_cases h2 : t < s
    · exact .inr (.inr h2)
    · exact .inr (.inl (List.le_antisymm (List.not_lt.1 h2) (List.not_lt.1 h1)))
theorem tl_nil (s : Tx) : ¬ s < [] := List.not_lt_nil s

/-- how many bytes two texts begin with that are the same. -/
def shN : Tx → Tx → Nat
  | a :: x, b :: y => if a = b then shN x y + 1 else 0
  | _, _ => 0
theorem shN_le : ∀ s t : Tx, shN s t ≤ s.length ∧ shN s t ≤ t.length
  | [], _ => by simp [shN]
  | _ :: _, [] => by simp [shN]
  | a :: x, b :: y => by
    have := shN_le x y
    simp only [shN]
    split <;> simp <;> omega
theorem shN_take : ∀ s t : Tx, s.take (shN s t) = t.take (shN s t)
  | [], _ => by simp [shN]
  | _ :: _, [] => by simp [shN]
  | a :: x, b :: y => by
    simp only [shN]
    split
    · rename_i h
      subst h
      simp [shN_take x y]
    · simp
theorem shN_eq : ∀ (s t : Tx) (n : Nat), n ≤ s.length → n ≤ t.length → s.take n = t.take n → (∀ hs : n < s.length, ∀ ht : n < t.length, s[n] ≠ t[n]) → shN s t = n
  | [], t, n, h1, _, _, _ => by simp at h1; subst h1; cases t <;> rfl
  | a :: x, [], n, _, h2, _, _ => by simp at h2; subst h2; rfl
  | a :: x, b :: y, 0, _, _, _, h => by
    have := h (by simp) (by simp)
    simp at this
    simp [shN, this]
  | a :: x, b :: y, n + 1, h1, h2, h3, h4 => by
    simp at h1 h2 h3
    obtain ⟨rfl, h3⟩ := h3
    simp only [shN, if_true]
    rw [shN_eq x y n h1 h2 h3 (fun hs ht => by
      have := h4 (by simp; omega) (by simp; omega)
      simpa using this)]

def txt (t : Tx) : List UInt8 := enc t.length ++ t
def restB : Tx → List Tx → List UInt8
  | _, [] => []
  | p, s :: r => enc (shN p s) ++ txt (s.drop (shN p s)) ++ restB s r
def termsB : List Tx → List UInt8
  | [] => []
  | s :: r => txt s ++ restB s r
def valB (vs : List Nat) : List UInt8 := vs.flatMap enc
def blkT (l : List Tx) (vs : List Nat) : List UInt8 := termsB l ++ valB vs

/-- what term i writes, and the values behind a block's last. -/
def pieceB (l : List Tx) (at_ : List Nat) (i : Nat) : List UInt8 :=
  (if i % 16 = 0 then txt (l.getD i []) else enc (shN (l.getD (i - 1) []) (l.getD i [])) ++ txt ((l.getD i []).drop (shN (l.getD (i - 1) []) (l.getD i [])))) ++
    (if i % 16 = 15 ∨ i + 1 = l.length then valB ((at_.drop (i - i % 16)).take (i % 16 + 1)) else [])
def tailN (l : List Tx) (at_ : List Nat) : Nat → Nat → List UInt8
  | 0, _ => []
  | m + 1, i => pieceB l at_ i ++ tailN l at_ m (i + 1)
def tailB (l : List Tx) (at_ : List Nat) (i : Nat) : List UInt8 := tailN l at_ (l.length - i) i
def dictB (l : List Tx) (at_ : List Nat) : List UInt8 := enc l.length ++ tailB l at_ 0
theorem tailB_step {l : List Tx} {at_ : List Nat} {i : Nat} (h : i < l.length) : tailB l at_ i = pieceB l at_ i ++ tailB l at_ (i + 1) := by
  unfold tailB
  obtain ⟨m, hm⟩ : ∃ m, l.length - i = m + 1 := ⟨l.length - i - 1, by omega⟩
  rw [hm, tailN, show l.length - (i + 1) = m by omega]
theorem tailB_end {l : List Tx} {at_ : List Nat} {i : Nat} (h : l.length ≤ i) : tailB l at_ i = [] := by
  unfold tailB
  rw [show l.length - i = 0 by omega, tailN]

def Asc : List Tx → Prop
  | [] => True
  | [_] => True
  | s :: t :: r => s < t ∧ Asc (t :: r)
theorem asc_iff : ∀ l : List Tx, Asc l ↔ ∀ i, i + 1 < l.length → l.getD i [] < l.getD (i + 1) []
  | [] => by simp [Asc]
  | [_] => by simp [Asc]
  | s :: t :: r => by
    rw [Asc, asc_iff (t :: r)]
    constructor
    · rintro ⟨h0, h⟩ i hi
      cases i with
      | zero => simpa using h0
      | succ i => simpa using h i (by simpa using hi)
    · intro h
      exact ⟨by simpa using h 0 (by simp), fun i hi => by simpa using h (i + 1) (by simp at hi ⊢; omega)⟩
theorem Asc.lt {l : List Tx} (h : Asc l) {i j : Nat} (hij : i < j) (hj : j < l.length) : l.getD i [] < l.getD j [] := by
  induction j with
  | zero => omega
  | succ j ih =>
    have h1 := (asc_iff l).1 h j hj
    by_cases e : i = j
    · rw [e]; exact h1
    · exact tl_trans (ih (by omega) (by omega)) h1

def termsOk (l : List Tx) (at_ : List Nat) : Prop := l.length ≤ 1048576 ∧ l.length = at_.length ∧ (∀ t ∈ l, t.length ≤ 4096) ∧ Asc l
def U64s (vs : List Nat) : Prop := ∀ v ∈ vs, v < 18446744073709551616
end Go.Proofs.Ytcdhbdhhknlbaaa
namespace Go.Proofs.Ytcdhbdhhknlbaaa
set_option linter.unusedVariables false
set_option linter.unusedSimpArgs false
open Go.RowKit

def blkOf (l : List Tx) (j : Nat) : List Tx := (l.drop (16 * j)).take 16
def valOf (at_ : List Nat) (j : Nat) : List Nat := (at_.drop (16 * j)).take 16
theorem blkOf_len (l : List Tx) (j : Nat) : (blkOf l j).length = min 16 (l.length - 16 * j) := by simp [blkOf]
theorem valOf_len (l : List Nat) (j : Nat) : (valOf l j).length = min 16 (l.length - 16 * j) := by simp [valOf]
theorem blkOf_get {l : List Tx} {j m : Nat} (h : m < 16) : (blkOf l j).getD m [] = l.getD (16 * j + m) [] := by
  simp [blkOf, List.getElem?_take, h, List.getElem?_drop]
theorem valOf_get {l : List Nat} {j m : Nat} (h : m < 16) : (valOf l j).getD m 0 = l.getD (16 * j + m) 0 := by
  simp [valOf, List.getElem?_take, h, List.getElem?_drop]
theorem getD_drop_cons {α : Type} {l : List α} {m : Nat} (d : α) (h : m < l.length) : l.drop m = l.getD m d :: l.drop (m + 1) := by
  rw [List.drop_eq_getElem_cons h]
  congr 1
  simp [List.getElem?_eq_getElem h]
theorem drop_cons {l : List Tx} {m : Nat} (h : m < l.length) : l.drop m = l.getD m [] :: l.drop (m + 1) := getD_drop_cons _ h

theorem tail_in {l : List Tx} {at_ : List Nat} (hl : l.length = at_.length) (j : Nat) : ∀ (d m : Nat), d = min 16 (l.length - 16 * j) - 1 - m → 0 < m → m < min 16 (l.length - 16 * j) →
    tailB l at_ (16 * j + m) = restB (l.getD (16 * j + m - 1) []) ((blkOf l j).drop m) ++ valB (valOf at_ j) ++ tailB l at_ (16 * j + 16) := by
  intro d
  induction d with
  | zero =>
    intro m hd h0 hm
    have hm2 : m + 1 = min 16 (l.length - 16 * j) := by omega
    have hb : m < (blkOf l j).length := by rw [blkOf_len]; omega
    rw [tailB_step (by omega), drop_cons hb, List.drop_eq_nil_of_le (by rw [blkOf_len]; omega), blkOf_get (by omega)]
    have e1 : (16 * j + m) % 16 = m := by omega
    unfold pieceB
    rw [e1, if_neg (by omega), if_pos (by omega), show 16 * j + m - m = 16 * j by omega]
    have e2 : (at_.drop (16 * j)).take (m + 1) = valOf at_ j := by
      unfold valOf
      by_cases hf : m + 1 = 16
      · rw [hf]
      · rw [List.take_of_length_le (by rw [List.length_drop]; omega), List.take_of_length_le (by rw [List.length_drop]; omega)]
    have e3 : tailB l at_ (16 * j + m + 1) = tailB l at_ (16 * j + 16) := by
      by_cases hf : m + 1 = 16
      · rw [show 16 * j + m + 1 = 16 * j + 16 by omega]
      · rw [tailB_end (by omega), tailB_end (by omega)]
    rw [e2, e3]
    simp [restB]
  | succ d ih =>
    intro m hd h0 hm
    have hb : m < (blkOf l j).length := by rw [blkOf_len]; omega
    have h := ih (m + 1) (by omega) (by omega) (by omega)
    rw [tailB_step (by omega), drop_cons hb, blkOf_get (by omega), show 16 * j + m + 1 = 16 * j + (m + 1) by omega, h]
    have e1 : (16 * j + m) % 16 = m := by omega
    unfold pieceB
    rw [e1, if_neg (by omega), if_neg (by omega), show 16 * j + (m + 1) - 1 = 16 * j + m by omega]
    simp [restB]

/-- a block at a time. -/
theorem tail_blk {l : List Tx} {at_ : List Nat} (hl : l.length = at_.length) {j : Nat} (hj : 16 * j < l.length) :
    tailB l at_ (16 * j) = blkT (blkOf l j) (valOf at_ j) ++ tailB l at_ (16 * j + 16) := by
  have hb : 0 < (blkOf l j).length := by rw [blkOf_len]; omega
  have e0 : blkOf l j = (l.getD (16 * j) []) :: (blkOf l j).drop 1 := by
    have := drop_cons (l := blkOf l j) (m := 0) hb
    rw [List.drop_zero, blkOf_get (by omega)] at this
    simpa using this
  by_cases h1 : 1 < min 16 (l.length - 16 * j)
  · rw [tailB_step hj, tail_in hl j _ 1 rfl (by omega) h1, blkT, e0]
    unfold pieceB
    rw [if_pos (by omega), if_neg (by omega), show 16 * j + 1 - 1 = 16 * j by omega]
    simp [termsB]
  · have hn : l.length = 16 * j + 1 := by omega
    rw [tailB_step hj, tailB_end (i := 16 * j + 1) (by omega), tailB_end (i := 16 * j + 16) (by omega), blkT, e0]
    unfold pieceB
    rw [if_pos (by omega), if_pos (by omega), show 16 * j % 16 = 0 by omega, show (blkOf l j).drop 1 = [] from List.drop_eq_nil_of_le (by rw [blkOf_len]; omega)]
    have e2 : (at_.drop (16 * j - 0)).take (0 + 1) = valOf at_ j := by
      unfold valOf
      rw [List.take_of_length_le (by rw [List.length_drop]; omega), List.take_of_length_le (by rw [List.length_drop]; omega), Nat.sub_zero]
    rw [e2]
    simp [termsB, restB]

/-! lengths -/
theorem txt_le {t : Tx} (h : t.length ≤ 65536) : (txt t).length ≤ t.length + 10 := by
  unfold txt
  rw [List.length_append]
  have := (enc_len t.length).2
  omega
theorem valB_le : ∀ vs : List Nat, (valB vs).length ≤ 10 * vs.length
  | [] => by simp [valB]
  | v :: r => by
    have h1 := valB_le r
    have h2 := (enc_len v).2
    have e : valB (v :: r) = enc v ++ valB r := rfl
    rw [e, List.length_append, List.length_cons]
    omega
theorem restB_le : ∀ (p : Tx) (l : List Tx), (∀ t ∈ l, t.length ≤ 4096) → (restB p l).length ≤ 4116 * l.length
  | _, [], _ => by simp [restB]
  | p, s :: r, h => by
    have h1 := restB_le s r (fun t ht => h t (List.mem_cons_of_mem _ ht))
    have h2 := (enc_len (shN p s)).2
    have h3 := h s List.mem_cons_self
    have h4 : (txt (s.drop (shN p s))).length ≤ 4106 := by
      have := txt_le (t := s.drop (shN p s)) (by rw [List.length_drop]; omega)
      rw [List.length_drop] at this
      omega
    rw [restB]
    simp only [List.length_append, List.length_cons]
    omega
theorem termsB_le (l : List Tx) (h : ∀ t ∈ l, t.length ≤ 4096) : (termsB l).length ≤ 4116 * l.length := by
  cases l with
  | nil => simp [termsB]
  | cons s r =>
    have h1 := restB_le s r (fun t ht => h t (List.mem_cons_of_mem _ ht))
    have h3 := h s List.mem_cons_self
    have h4 := txt_le (t := s) (by omega)
    rw [termsB]
    simp only [List.length_append, List.length_cons]
    omega
theorem blkT_le (l : List Tx) (vs : List Nat) (h : ∀ t ∈ l, t.length ≤ 4096) : (blkT l vs).length ≤ 4116 * l.length + 10 * vs.length := by
  have := termsB_le l h
  have := valB_le vs
  rw [blkT, List.length_append]
  omega
theorem tailB_le {l : List Tx} {at_ : List Nat} (h : ∀ t ∈ l, t.length ≤ 4096) : ∀ d i, d = l.length - i → (tailB l at_ i).length ≤ 4276 * (l.length - i) := by
  intro d
  induction d with
  | zero => intro i hd; rw [tailB_end (by omega)]; simp
  | succ d ih =>
    intro i hd
    have h0 := ih (i + 1) (by omega)
    have hi : i < l.length := by omega
    rw [tailB_step hi, List.length_append]
    have hs : (l.getD i []).length ≤ 4096 := by
      rw [List.getD, List.getElem?_eq_getElem hi]
      exact h _ (List.getElem_mem hi)
    have h1 : (pieceB l at_ i).length ≤ 4276 := by
      unfold pieceB
      rw [List.length_append]
      have a1 : (if i % 16 = 0 then txt (l.getD i []) else enc (shN (l.getD (i - 1) []) (l.getD i [])) ++ txt ((l.getD i []).drop (shN (l.getD (i - 1) []) (l.getD i [])))).length ≤ 4116 := by
        split
        · have := txt_le (t := l.getD i []) (by omega)
          omega
        · rw [List.length_append]
          have b1 := (enc_len (shN (l.getD (i - 1) []) (l.getD i []))).2
          have b2 := txt_le (t := (l.getD i []).drop (shN (l.getD (i - 1) []) (l.getD i []))) (by rw [List.length_drop]; omega)
          rw [List.length_drop] at b2
          omega
      have a2 : (if i % 16 = 15 ∨ i + 1 = l.length then valB ((at_.drop (i - i % 16)).take (i % 16 + 1)) else []).length ≤ 160 := by
        split
        · have := valB_le ((at_.drop (i - i % 16)).take (i % 16 + 1))
          rw [List.length_take] at this
          omega
        · simp
      omega
    omega
theorem dictB_le {l : List Tx} {at_ : List Nat} (h : ∀ t ∈ l, t.length ≤ 4096) : (dictB l at_).length ≤ 10 + 4276 * l.length := by
  have h1 := tailB_le (at_ := at_) h _ 0 rfl
  have h2 := (enc_len l.length).2
  rw [dictB, List.length_append]
  omega
end Go.Proofs.Ytcdhbdhhknlbaaa
