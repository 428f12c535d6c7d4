/- The walk of FrameKnown: the chapter's examples hold. No condition. -/
import Derived.Test.YtapfbjaopbcgjaaFBackW
namespace Go.Proofs.Ytapfbjaopbcgjaa
set_option linter.unusedVariables false
set_option linter.unusedSimpArgs false
open Go.RowKit

def litK : List UInt8 := [76, 84, 1, 7, 0]
def lit1 : List UInt8 := [76, 84, 1, 1, 1, 2, 5]
def lit2 : List UInt8 := [76, 84, 1, 1, 0, 5]
def lit3 : List UInt8 := [76, 84, 2, 1, 0]
def withC (l : List UInt8) : List UInt8 := l ++ fourB (crcOf l)
theorem k_body : bodyB 7 [] = litK := by decide +kernel
theorem k_seal : sealB 7 [] = withC litK := by unfold sealB withC; rw [k_body]
theorem k_long : longB 7 [] = false := by decide +kernel
theorem k_bad8 : openE 8 (withC litK) = 20 := by decide +kernel
theorem k_bad7 : openE 7 ((withC litK).take 8) = 20 := by decide +kernel
theorem k_bad1 : openE 1 (withC lit1) = 20 := by decide +kernel
theorem k_bad2 : openE 1 (withC lit2) = 20 := by decide +kernel
theorem k_bad3 : openE 1 (withC lit3) = 20 := by decide +kernel
theorem k_1025 : longB 1 (List.replicate 1025 []) = true := by decide +kernel
theorem k_1024 : longB 1 (List.replicate 1024 []) = false := by decide +kernel
theorem k_crc0 : crcOf [] = 0 := by decide +kernel

theorem sealed_lit (W : World) (cs : Array Value) (lit : List UInt8) (n : Nat) (hcs : cs.toList = by8 lit) (hl : lit.length = n) (hn : n ≤ 1000) :
    Calls Try.prog 22 #[.slice (some ⟨W.heap.size, 0, none⟩) n n] (W.alloc (.cells cs 5)) (GivesB W (withC lit)) := by
  subst hl
  refine (sealedL_any _ lit.length lit W.heap.size _ rfl (own_new8 W _ _ lit _ hcs rfl (by unfold maxLen; omega)) (by omega) (by simp)).mono ?_
  rintro en w4 ⟨v4, rfl, hown, hfr⟩
  refine ⟨v4, rfl, ?_, ((Fr.refl No W).alloc _).own hfr (fun g hg => .inl (Nat.le_of_eq (Option.some.inj hg)))⟩
  have e : (withC lit).length = lit.length + 4 := by unfold withC; rw [List.length_append]; rfl
  rw [e]
  exact hown
theorem bad_lit (kind : UInt8) (d : List UInt8) (hb : openE kind d = 20) (A : Option Addr) (n c : Nat) (W : World) (hl : d.length = n) (hn : n ≤ c) (hc : c ≤ maxLen) (hr : Rd W W.heap.size A (by8 d)) :
    Calls Try.prog 23 #[.int .u8 (kind.toNat : Nat), .slice A n c] W (RetB true W) := by
  have h := bad_any kind A n c W.heap.size d W hl hn hc (Nat.le_refl _) hr
  rw [decide_eq_true hb] at h
  exact h
theorem seal_7 (W : World) : Calls Try.prog 10 #[.int .u8 7, .slice none 0 0] W (GivesS (withC litK) W) := by
  have hs := seal_any 7 none 0 0 0 [] W rfl (Nat.le_refl _) (by unfold maxLen; omega) (Nat.zero_le _) (fun j bs h => by simp at h) (fun b hb => by cases hb)
  refine Calls.mono hs ?_
  rintro en w' (⟨hl, _, _⟩ | ⟨_, v, rfl, ho, hf⟩)
  · rw [k_long] at hl; cases hl
  · rw [k_seal] at ho
    obtain ⟨A', c', rfl, h1, h2, _⟩ := ho.form
    exact ⟨A', c', rfl, ho, h1, h2, hf⟩
theorem open_7 (W : World) (A : Option Addr) (c : Nat) (hc : (withC litK).length ≤ c) (hc2 : c ≤ maxLen) (h : Rd W W.heap.size A (by8 (withC litK))) : Calls Try.prog 17 #[.int .u8 7, .slice A (withC litK).length c] W (GivesL [] W) := by
  have ho := open_any 7 A _ c W.heap.size _ W rfl hc hc2 (Nat.le_refl _) h
  have hp := open_seal 7 [] k_long
  rw [k_seal] at hp
  exact Calls.mono ho fun en w' hg => open_zero hp.1 hp.2 hg

theorem BSl.nils {w : World} {g k : Nat} {e : TypeId} (h : w.heap[g]? = some (.cells (madeCells #[.slice none 0 0] k) e (0, 0))) : BSl w (g + 1) (some ⟨g, 0, none⟩) (List.replicate k []) := by
  intro j bs hj
  have hb := Rd.block h
  rw [List.getElem?_replicate] at hj
  split at hj
  · rename_i hjk
    injection hj with hj
    subst hj
    obtain ⟨ad, e, hb1, hc⟩ := hb j (.slice none 0 0) (by simp [madeCells, hjk, Nat.mod_one])
    exact ⟨ad, _, 0, e, hb1, hc, Nat.le_refl _, by unfold maxLen; simp, Rd.nil _ _ _⟩
  · cases hj
theorem make_nils (k : Nat) (hk : k ≤ 1048576) : ∃ o, (∀ W : World, (Instr.makeSlice 22 (.int .i64 (k : Nat)) (.int .i64 (k : Nat))).run Try.prog W = .ok (.slice (some ⟨W.heap.size, 0, none⟩) k k) (W.alloc o)) ∧
    ∀ W : World, BSl (W.alloc o) (W.heap.size + 1) (some ⟨W.heap.size, 0, none⟩) (List.replicate k []) := by
  obtain ⟨i0, hi, hz, hsz, hby⟩ := info_parts Try.infoB
  refine ⟨.cells (madeCells #[.slice none 0 0] k) 23, fun W => ?_, fun W => BSl.nils (heap_alloc_new W _)⟩
  have h := run_make (P := Try.prog) W 22 23 i0 (.slice none 0 0) Try.underlying22 hi hz .i64 .i64 (k : Int) (k : Int) (by omega) (by omega) (by rw [hby]; omega) (by omega)
  rw [Int.toNat_natCast, hsz, Nat.mul_one] at h
  exact h
theorem make_zeros (k : Nat) (hk : k ≤ 1073741824) : ∃ o, (∀ W : World, (Instr.makeSlice 23 (.int .i64 (k : Nat)) (.int .i64 (k : Nat))).run Try.prog W = .ok (.slice (some ⟨W.heap.size, 0, none⟩) k k) (W.alloc o)) ∧
    ∀ W : World, Rd (W.alloc o) (W.heap.size + 1) (some ⟨W.heap.size, 0, none⟩) (by8 (List.replicate k 0)) := by
  obtain ⟨i0, hi, hz, hsz, hby⟩ := info_parts Try.info5
  refine ⟨.cells (madeCells #[.int .u8 0] k) 5, fun W => ?_, fun W => ?_⟩
  · have h := run_make (P := Try.prog) W 23 5 i0 (.int .u8 0) Try.underlying23 hi hz .i64 .i64 (k : Int) (k : Int) (by omega) (by omega) (by rw [hby]; omega) (by omega)
    rw [Int.toNat_natCast, hsz, Nat.mul_one] at h
    exact h
  · have h := Rd.block (heap_alloc_new W (.cells (madeCells #[.int .u8 0] k) 5))
    have e : (madeCells #[Value.int .u8 0] k).toList = by8 (List.replicate k 0) := by
      apply List.ext_getElem
      · simp [madeCells, by8]
      · intro i h1 h2
        simp [madeCells, Nat.mod_one, by8]
    rwa [e] at h
theorem seal_1025 (W : World) (o : Obj) (h : BSl (W.alloc o) (W.heap.size + 1) (some ⟨W.heap.size, 0, none⟩) (List.replicate 1025 [])) :
    Calls Try.prog 10 #[.int .u8 1, .slice (some ⟨W.heap.size, 0, none⟩) 1025 1025] (W.alloc o) (RetF (.tuple #[.slice none 0 0, .int .i64 3]) W) := by
  have hs := seal_any 1 _ 1025 1025 (W.heap.size + 1) (List.replicate 1025 []) (W.alloc o) List.length_replicate (Nat.le_refl _) (by unfold maxLen; omega) (by simp) h (fun b hb => by rw [(List.mem_replicate.1 hb).2]; simp)
  refine Calls.mono hs ?_
  rintro en w' (⟨_, rfl, hf⟩ | ⟨hl, _⟩)
  · exact ⟨rfl, ((Fr.refl No W).alloc o).tr hf⟩
  · rw [k_1025] at hl; cases hl
def GivesV (e : Int) (W : World) (en : Ending) (w' : World) : Prop := ∃ v, en = .returned (.tuple #[v, .int .i64 e]) ∧ Fr No W w'
theorem seal_1024 (W : World) (o : Obj) (h : BSl (W.alloc o) (W.heap.size + 1) (some ⟨W.heap.size, 0, none⟩) (List.replicate 1024 [])) :
    Calls Try.prog 10 #[.int .u8 1, .slice (some ⟨W.heap.size, 0, none⟩) 1024 1024] (W.alloc o) (GivesV 0 W) := by
  have hs := seal_any 1 _ 1024 1024 (W.heap.size + 1) (List.replicate 1024 []) (W.alloc o) List.length_replicate (Nat.le_refl _) (by unfold maxLen; omega) (by simp) h (fun b hb => by rw [(List.mem_replicate.1 hb).2]; simp)
  refine Calls.mono hs ?_
  rintro en w' (⟨hl, _⟩ | ⟨_, v, rfl, _, hf⟩)
  · rw [k_1024] at hl; cases hl
  · exact ⟨v, rfl, ((Fr.refl No W).alloc o).tr hf⟩
theorem open_big (k : Nat) (hk : 16777216 < k) (hk2 : k ≤ 1073741824) (W : World) (o : Obj) (h : Rd (W.alloc o) (W.heap.size + 1) (some ⟨W.heap.size, 0, none⟩) (by8 (List.replicate k 0))) :
    Calls Try.prog 17 #[.int .u8 1, .slice (some ⟨W.heap.size, 0, none⟩) k k] (W.alloc o) (GivesV 3 W) := by
  have ho := open_any 1 _ k k (W.heap.size + 1) _ (W.alloc o) List.length_replicate (Nat.le_refl _) (by unfold maxLen; omega) (by simp) h
  have he : openE 1 (List.replicate k 0) = 3 := by
    unfold openE
    rw [if_pos (by simpa using hk)]
  refine Calls.mono ho ?_
  rintro en w' ⟨v, vals, rfl, _, _, hf⟩
  rw [he]
  exact ⟨v, rfl, ((Fr.refl No W).alloc o).tr hf⟩
theorem kind_9 (W : World) : Calls Try.prog 19 #[.slice (some ⟨W.heap.size, 0, none⟩) 4 4] (W.alloc (.cells #[.int .u8 76, .int .u8 84, .int .u8 1, .int .u8 9] 5)) (RetF (.tuple #[.int .u8 9, .bool true]) W) := by
  have h := kind_yes (some ⟨W.heap.size, 0, none⟩) 4 4 (W.heap.size + 1) [76, 84, 1, 9] (W.alloc (.cells #[.int .u8 76, .int .u8 84, .int .u8 1, .int .u8 9] 5)) rfl (Nat.le_refl _) (by unfold maxLen; omega) (Rd.block (heap_alloc_new W _)) (by decide)
  refine Calls.mono h ?_
  rintro en w' ⟨rfl, n, rfl⟩
  exact ⟨rfl, ((Fr.refl No W).alloc _).drewN n⟩
theorem kind_3 (W : World) : Calls Try.prog 19 #[.slice (some ⟨W.heap.size, 0, none⟩) 3 3] (W.alloc (.cells #[.int .u8 76, .int .u8 84, .int .u8 1] 5)) (RetF (.tuple #[.int .u8 0, .bool false]) W) := by
  have h := kind_no (some ⟨W.heap.size, 0, none⟩) 3 3 (W.heap.size + 1) [76, 84, 1] (W.alloc (.cells #[.int .u8 76, .int .u8 84, .int .u8 1] 5)) rfl (Nat.le_refl _) (by unfold maxLen; omega) (Rd.block (heap_alloc_new W _)) (by decide)
  refine Calls.mono h ?_
  rintro en w' ⟨rfl, n, rfl⟩
  exact ⟨rfl, ((Fr.refl No W).alloc _).drewN n⟩
theorem sum_nil (W : World) : Calls Try.prog 13 #[.slice none 0 0] W (RetF (.int .u32 0) W) := by
  have h3 := sum_any none 0 0 0 [] W rfl (Nat.le_refl _) (by unfold maxLen; omega) (Nat.zero_le _) (fun j bs h => by simp at h)
  have e : ([] : List (List UInt8)).flatten = [] := rfl
  rw [e, k_crc0] at h3
  exact h3
theorem bytes_yes (A B : Option Addr) (n c d : Nat) (xs : List UInt8) (W : World) (hx : xs.length = n) (hn : n ≤ c) (hc : c ≤ maxLen) (hm : n ≤ d) (hd : d ≤ maxLen) (hr : Rd W W.heap.size A (by8 xs)) (hs : Rd W W.heap.size B (by8 xs)) :
    Calls Try.prog 12 #[.slice A n c, .slice B n d] W (RetB true W) := by
  have h := kbytes_any A B n c n d W.heap.size W.heap.size xs xs W hx hx hn hc hm hd hr hs
  have e : decide (xs = xs) = true := decide_eq_true rfl
  rw [e] at h
  refine Calls.mono h ?_
  rintro en w' ⟨rfl, n, rfl⟩
  exact ⟨rfl, (Fr.refl No W).drewN n⟩

set_option maxRecDepth 100000 in
set_option maxHeartbeats 4000000 in
theorem fknown_any (w : World) : Calls Try.prog 5 #[] w (RetB true w) := by
  obtain ⟨o1, hm1, hb1⟩ := make_nils 1025 (by omega)
  obtain ⟨o2, hm2, hb2⟩ := make_nils 1024 (by omega)
  obtain ⟨o3, hm3, hb3⟩ := make_zeros 16777217 (by omega)
  have HB1 := hide hb1
  have HB2 := hide hb2
  have HB3 := hide hb3
  clear hb1 hb2 hb3
  have hn1 : ∀ W : World, (Instr.makeSlice 22 (.int .i64 1025) (.int .i64 1025)).run Try.prog W = .ok (.slice (some ⟨W.heap.size, 0, none⟩) 1025 1025) (W.alloc o1) := hm1
  have hn2 : ∀ W : World, (Instr.makeSlice 22 (.int .i64 1024) (.int .i64 1024)).run Try.prog W = .ok (.slice (some ⟨W.heap.size, 0, none⟩) 1024 1024) (W.alloc o2) := hm2
  have hn3 : ∀ W : World, (Instr.makeSlice 23 (.int .i64 16777217) (.int .i64 16777217)).run Try.prog W = .ok (.slice (some ⟨W.heap.size, 0, none⟩) 16777217 16777217) (W.alloc o3) := hm3
  clear hm1 hm2 hm3
  go_enter Try.func5, Try.ntmps5
  go_wp2_with (fail)
  refine (seal_7 _).mono ?_
  rintro en w1 ⟨A1, c1, rfl, hown, hq1, hq2, hfr⟩
  have O1 := hide hown
  have F1 := hide hfr
  have Q1 := hide hq1
  have Q2 := hide hq2
  have G1 := hide (Fr.refl No w1)
  clear hown hq1 hq2 hfr
  go_wp2_with (fail)
  refine (open_7 w1 A1 c1 Q1.out Q2.out O1.out.rd).mono ?_
  rintro en w2 ⟨A2, c2, vals2, rfl, hown, hvals, hq1, hq2, hbl, hfr⟩
  have G2 := hide (G1.out.tr hfr)
  clear G1 hown hvals hq1 hq2 hbl hfr
  go_wp2_with (fail)
  refine (kind_9 w2).mono ?_
  rintro en w3 ⟨rfl, hfr⟩
  have G3 := hide (G2.out.tr hfr)
  clear G2 hfr
  go_wp2_with (fail)
  refine (kind_3 w3).mono ?_
  rintro en w4 ⟨rfl, hfr⟩
  have G4 := hide (G3.out.tr hfr)
  clear G3 hfr
  go_wp2_with (fail)
  refine (seal_1025 w4 o1 (HB1.out w4)).mono ?_
  rintro en w5 ⟨rfl, hfr⟩
  have G5 := hide (G4.out.tr hfr)
  clear G4 hfr
  go_wp2_with (fail)
  refine (seal_1024 w5 o2 (HB2.out w5)).mono ?_
  rintro en w6 ⟨v6, rfl, hfr⟩
  have G6 := hide (G5.out.tr hfr)
  clear G5 hfr
  go_wp2_with (fail)
  refine (open_big 16777217 (by omega) (by omega) w6 o3 (HB3.out w6)).mono ?_
  rintro en w7 ⟨v7, rfl, hfr⟩
  have G7 := hide (G6.out.tr hfr)
  clear G6 hfr HB1 HB2 HB3 hn1 hn2 hn3
  go_wp2_with (fail)
  refine (awake04_any _).mono ?_
  rintro en w8 ⟨rfl, hfr⟩
  have G8 := hide (G7.out.tr hfr)
  clear G7 hfr
  go_wp2_with (fail)
  refine (sum_nil _).mono ?_
  rintro en w9 ⟨rfl, hfr⟩
  have G9 := hide (G8.out.tr hfr)
  clear G8 hfr
  go_wp2_with (fail)
  refine (sealed_lit w9 _ litK 5 rfl rfl (by omega)).mono ?_
  rintro en w10 ⟨v10, rfl, hown, hfr⟩
  obtain ⟨A10, c10, rfl, hq1, hq2, _, hq3, _⟩ := hown.form
  have R10 := hide hq3
  have Q3 := hide hq1
  have Q4 := hide hq2
  have G10 := hide (G9.out.tr hfr)
  clear G9 hfr hown hq1 hq2 hq3
  go_wp2_with (fail)
  refine (bytes_yes A1 A10 _ c1 c10 (withC litK) w10 rfl Q1.out Q2.out Q3.out Q4.out (O1.out.fr0 G10.out).rd R10.out).mono ?_
  rintro en w11 ⟨rfl, hfr⟩
  have G11 := hide (G10.out.tr hfr)
  clear G10 hfr R10 Q3 Q4
  go_wp2_with (fail)
  refine (bad_lit 8 (withC litK) k_bad8 A1 _ c1 w11 rfl Q1.out Q2.out (O1.out.fr0 G11.out).rd).mono ?_
  rintro en w12 ⟨rfl, hfr⟩
  have G12 := hide (G11.out.tr hfr)
  clear G11 hfr
  have h9 : 9 ≤ c1 := Q1.out
  go_wp2_with (fail)
  refine (bad_lit 7 ((withC litK).take 8) k_bad7 A1 8 c1 w12 rfl (by omega) Q2.out (by rw [by8_take]; exact (O1.out.fr0 G12.out).rd.tk 8)).mono ?_
  rintro en w13 ⟨rfl, hfr⟩
  have G13 := hide (G12.out.tr hfr)
  clear G12 hfr
  go_wp2_with (fail)
  refine (bad_lit 7 [] (openE_nil 7) none 0 0 w13 rfl (Nat.le_refl _) (by unfold maxLen; omega) (Rd.nil _ _ _)).mono ?_
  rintro en w14 ⟨rfl, hfr⟩
  have G14 := hide (G13.out.tr hfr)
  clear G13 hfr
  go_wp2_with (fail)
  refine (sealed_lit w14 _ lit1 7 rfl rfl (by omega)).mono ?_
  rintro en w15 ⟨v15, rfl, hown, hfr⟩
  obtain ⟨A15, c15, rfl, hq1, hq2, _, hq3, _⟩ := hown.form
  have R15 := hide hq3
  have Q3 := hide hq1
  have Q4 := hide hq2
  have G15 := hide (G14.out.tr hfr)
  clear G14 hfr hown hq1 hq2 hq3
  go_wp2_with (fail)
  refine (bad_lit 1 (withC lit1) k_bad1 A15 _ c15 w15 rfl Q3.out Q4.out R15.out).mono ?_
  rintro en w16 ⟨rfl, hfr⟩
  have G16 := hide (G15.out.tr hfr)
  clear G15 hfr R15 Q3 Q4
  go_wp2_with (fail)
  refine (sealed_lit w16 _ lit2 6 rfl rfl (by omega)).mono ?_
  rintro en w17 ⟨v17, rfl, hown, hfr⟩
  obtain ⟨A17, c17, rfl, hq1, hq2, _, hq3, _⟩ := hown.form
  have R17 := hide hq3
  have Q3 := hide hq1
  have Q4 := hide hq2
  have G17 := hide (G16.out.tr hfr)
  clear G16 hfr hown hq1 hq2 hq3
  go_wp2_with (fail)
  refine (bad_lit 1 (withC lit2) k_bad2 A17 _ c17 w17 rfl Q3.out Q4.out R17.out).mono ?_
  rintro en w18 ⟨rfl, hfr⟩
  have G18 := hide (G17.out.tr hfr)
  clear G17 hfr R17 Q3 Q4
  go_wp2_with (fail)
  refine (sealed_lit w18 _ lit3 5 rfl rfl (by omega)).mono ?_
  rintro en w19 ⟨v19, rfl, hown, hfr⟩
  obtain ⟨A19, c19, rfl, hq1, hq2, _, hq3, _⟩ := hown.form
  have R19 := hide hq3
  have Q3 := hide hq1
  have Q4 := hide hq2
  have G19 := hide (G18.out.tr hfr)
  clear G18 hfr hown hq1 hq2 hq3
  go_wp2_with (fail)
  refine (bad_lit 1 (withC lit3) k_bad3 A19 _ c19 w19 rfl Q3.out Q4.out R19.out).mono ?_
  rintro en w20 ⟨rfl, hfr⟩
  have G20 := hide (F1.out.tr (G19.out.tr hfr))
  clear G19 hfr R19 Q3 Q4
  go_wp2
  go_ret
  exact ⟨rfl, G20.out⟩
end Go.Proofs.Ytapfbjaopbcgjaa
