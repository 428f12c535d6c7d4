/- Several texts in one: StoLent, TakeN, TakeS, BSl, Vals, MemIn, StoItP. -/
import Derived.Test.YtpnhnnhocekchaaK5
import Derived.Deep.RegionWith
import Derived.Laws.MakeOwn
import Derived.RangeFuncNested
import Derived.RangeFuncBound
import Derived.RangeFuncCalls
import Derived.RangeFuncLeaves
import Derived.Shelf.Abstract
import Derived.Shelf.RegionOpen
import Derived.OwnWalkIn
import Derived.TacticsInMore
import Derived.LoopNIn
import Derived.LoopIn
import Derived.RegionTactic
import Derived.BigRegion
namespace Go.Proofs.Ytpnhnnhocekchaa
set_option linter.unusedVariables false
set_option linter.unusedSimpArgs false
open Go.RowKit

/-- an entry that is laid: its numbers lie at .2.1, with room .2.2. -/
abbrev EntL := EntV × Option Addr × Nat
def eRow (p : EntL) : List Value := [.string p.1.f, .string p.1.t, .slice p.2.1 p.1.ns.length p.2.2]
def eFlat (l : List EntL) : List Value := l.flatMap eRow
theorem eFlat_snoc (l : List EntL) (p : EntL) : eFlat (l ++ [p]) = eFlat l ++ eRow p := by simp [eFlat, List.flatMap_append]
theorem eFlat_len (l : List EntL) : (eFlat l).length = l.length * 3 := by
  induction l with
  | nil => rfl
  | cons p r ih =>
    have e : eFlat (p :: r) = eRow p ++ eFlat r := rfl
    rw [e, List.length_append, ih, List.length_cons]
    show 3 + r.length * 3 = _
    omega
theorem Try.infoEnt : (Try.prog.info? 109).map (fun i => (i.zero, i.size, i.bytes)) = some (some (.agg #[.string ⟨#[]⟩, .string ⟨#[]⟩, .slice none 0 0]), 3, 56) := by kernel_rfl
def LentN (w : World) (base : Nat) (p : EntL) : Prop := Own w base 2 1 (.slice p.2.1 (p.1.ns.length + 1) p.2.2) (p.1.ns.length + 1) (iz .i64 (p.1.ns ++ [-7171])) ∧ InI p.1.ns
def markE : EntV := ⟨⟨#[109, 97, 114, 107]⟩, ⟨#[]⟩, []⟩
def LentE (w : World) (base : Nat) (A : Option Addr) (c : Nat) (l : List EntV) : Prop :=
  ∃ ps : List EntL, ps.map (·.1) = l ∧ Own w base 109 3 (.slice A (l.length + 1) c) (l.length + 1) (eFlat ps ++ eRow (markE, none, 0)) ∧ ∀ p ∈ ps, LentN w base p

set_option maxRecDepth 100000 in
set_option maxHeartbeats 1000000 in
theorem lentE_any (A : Option Addr) (n c B : Nat) (l : List EntV) (w : World) (hl : l.length = n) (hn : n ≤ c) (hc : c ≤ maxLen) (hc2 : (n + 1) * 56 ≤ 140737488355328) (hns : ∀ e ∈ l, (e.ns.length + 1) * 8 ≤ 140737488355328) (hB : B ≤ w.heap.size) (hr : RdE w B A l) :
    Calls Try.prog 70 #[.slice A n c] w (fun en w' => ∃ A' c', en = .returned (.slice A' n c') ∧ LentE w' w.heap.size A' c' l ∧ Fr No w w') := by
  obtain ⟨i0, hi, hz, hsz2, hby⟩ := info_parts Try.infoEnt
  have HL := hide hl
  have HR := hide hr
  have HNS := hide hns
  have HLe := hide (fun (W : World) (e : EntV) (R : Option Addr) (rn rc : Nat) (h : NsM W B R rn rc e.ns) (h2 : (rn + 1) * 8 ≤ 140737488355328) => lentI64_any R rn rc B e.ns W h.1 h2 h.2.2.2.2)
  clear hl hr hns
  go_enter Try.func70, Try.ntmps70
  go_wp2
  go_loopw [3, 4] (fun v ix wr => ∃ (j : Nat) (ps : List EntL), j ≤ n ∧ ix = .int .i64 j ∧ Hid (ps.map (·.1) = l.take j) ∧ Hid (Own wr w.heap.size 109 3 v j (eFlat ps)) ∧ Hid (∀ p ∈ ps, LentN wr w.heap.size p) ∧ Hid (Fr No w wr)) (fun _ ix _ => n - (intOf ix).toNat)
  case atStart => exact ⟨0, [], by omega, rfl, hide (by simp), hide (Own.nil _ _ _ _), hide (fun p hp => by simp at hp), hide (Fr.refl _ _)⟩
  case round =>
    obtain ⟨j, ps, hj, rfl, HPs, HO, HN, HFr⟩ := hrel
    by_cases hlt : j < n
    · obtain ⟨ad, rfl, e0, e1, e2, R, rn, rc, e3, e4⟩ := HR.out j (by rw [HL.out]; exact hlt)
      have hmem : l.getD j .none ∈ l := getD_mem (by rw [HL.out]; exact hlt)
      have hsz := HNS.out _ hmem
      have HTk := hide (show l.take (j + 1) = l.take j ++ [l.getD j .none] by
        have h1 : j < l.length := by rw [HL.out]; exact hlt
        rw [List.take_succ_eq_append_getElem h1, List.getD_eq_getElem?_getD, List.getElem?_eq_getElem h1]
        rfl)
      generalize l.getD j .none = E at *
      replace e1 := HFr.out.cell e1 (fun h => h)
      replace e2 := HFr.out.cell e2 (fun h => h)
      replace e3 := HFr.out.cell e3 (fun h => h)
      rw [e4.1] at hsz
      have HE4 := hide e4
      clear e0 e4 hmem
      go_wp2_with (fail)
      have HC := hide (HLe.out (wr.alloc (.cells #[.string E.f, .string E.t, .slice R rn rc] 109)) E R rn rc (HE4.out.fr (HFr.out.tr ((Fr.refl No _).alloc _)) (fun _ _ h => h)) hsz)
      refine HC.out.mono ?_
      rintro en w3 ⟨A3, c3, rfl, hown, hfr⟩
      have hrow := hfr.blk (heap_alloc_new wr (.cells #[.string E.f, .string E.t, .slice R rn rc] 109)) (fun h => h)
      have HRow := hide hrow
      have fz : w3.frozen? ⟨wr.heap.size, 2, none⟩ = false := frozen_of_row _ _ _ _ _ hrow
      have HO3 := hide hown
      have HF3 := hide hfr
      have k2 : w3.cell? ⟨wr.heap.size, 2, none⟩ = some (.slice R rn rc) := cell_of_row _ _ 2 _ _ _ hrow
      have r4 : (w3.setCell ⟨wr.heap.size, 2, none⟩ (.slice A3 E.ns.length c3)).heap[wr.heap.size]? = some (.cells #[.string E.f, .string E.t, .slice A3 E.ns.length c3] 109 (0, 0)) := by
        have := heap_setCell_same w3 wr.heap.size 2 #[.string E.f, .string E.t, .slice R rn rc] 109 (.slice A3 E.ns.length c3) hrow
        simpa using this
      have q0 := cell_of_row _ _ 0 _ _ _ r4
      have q1 := cell_of_row _ _ 1 _ _ _ r4
      have q2 := cell_of_row _ _ 2 _ _ _ r4
      simp only [List.getElem?_toArray, List.getElem?_cons_zero, List.getElem?_cons_succ] at q0 q1 q2
      have O3 := (HO.out.fr0 (((Fr.refl No wr).alloc _).tr hfr))
      have O4 := hide ((O3.fr ((Fr.refl (Is wr.heap.size) w3).put 2 (.slice A3 E.ns.length c3)) (fun k hk e => by have e : k = wr.heap.size := e; have := (HO.out.lt k hk).2; omega)).fr0 ((Fr.refl No _).alloc (.cells #[.string E.f, .string E.t, .slice A3 E.ns.length c3] 109)))
      have hrd := Rd.block (heap_alloc_new (w3.setCell ⟨wr.heap.size, 2, none⟩ (.slice A3 E.ns.length c3)) (.cells #[.string E.f, .string E.t, .slice A3 E.ns.length c3] 109))
      rw [show (w3.setCell ⟨wr.heap.size, 2, none⟩ (.slice A3 E.ns.length c3)).heap.size = w3.heap.size by simp [World.setCell]] at hrd
      have HS5 := hide (Src.ofRd (P := Try.prog) (size := 3) _ Try.underlying71 (some ⟨w3.heap.size, 0, none⟩) 1 1 [.string E.f, .string E.t, .slice A3 E.ns.length c3] rfl (by omega) hrd (by simp [Value.oneCell']))
      have b1 : (j + 1) * 56 ≤ 140737488355328 := by omega
      have b2 : j + 1 ≤ maxLen := by unfold maxLen; omega
      have hs3 := hfr.size
      have b3 : w.heap.size ≤ ((w3.setCell ⟨wr.heap.size, 2, none⟩ (.slice A3 E.ns.length c3)).alloc (.cells #[.string E.f, .string E.t, .slice A3 E.ns.length c3] 109)).heap.size := by
        have h1 := HFr.out.size
        simp [World.setCell] at hs3 ⊢
        omega
      clear hown hrow r4 O3 hrd
      go_wp2_with (first | (at_builtin; refine wpList_append_gen _ rfl (.tmp 20) (.tmp 22) 71 71 rfl w.heap.size 109 i0 _ 3 56 Try.underlying71 hi hz hsz2 hby rfl u3 j (eFlat ps) rfl O4.out _ 1 [.string E.f, .string E.t, .slice A3 E.ns.length c3] rfl HS5.out b1 b2 b3 ?_; intro v6 w6 hown2 hfr2 hat; have O6 := hide hown2; have F6 := hide hfr2; clear hown2 hfr2 hat) | fail)
      go_roundw
      case measure => simp [intOf]; omega
      case rel =>
        have g1 : wr.heap.size < (wr.alloc (.cells #[.string E.f, .string E.t, .slice R rn rc] 109)).heap.size := by simp
        have hgw := HFr.out.size
        refine ⟨j + 1, ps ++ [(E, A3, c3)], by omega, by go_num, hide ?_, hide ?_, hide ?_, hide ?_⟩
        · rw [List.map_append, HPs.out, HTk.out]
          rfl
        · rw [eFlat_snoc]
          exact O6.out
        · intro p hp
          rcases List.mem_append.1 hp with hp | hp
          · have h0 := HN.out p hp
            have h1 := (h0.1.fr0 (((Fr.refl No wr).alloc (.cells #[.string E.f, .string E.t, .slice R rn rc] 109)).tr HF3.out)).fr ((Fr.refl (Is wr.heap.size) w3).put 2 (.slice A3 E.ns.length c3)) (fun k hk e => by have e : k = wr.heap.size := e; have := (h0.1.lt k hk).2; omega)
            have h2 := h1.fr0 ((Fr.refl No _).alloc (.cells #[.string E.f, .string E.t, .slice A3 E.ns.length c3] 109))
            exact ⟨h2.fr F6.out (fun k hk e => O4.out.ne_own h2 (by decide) hk e), h0.2⟩
          · obtain rfl := List.mem_singleton.1 hp
            have h1 := HO3.out.fr ((Fr.refl (Is wr.heap.size) w3).put 2 (.slice A3 E.ns.length c3)) (fun k hk e => by have e : k = wr.heap.size := e; have := (HO3.out.lt k hk).1; omega)
            have h2 := h1.fr0 ((Fr.refl No _).alloc (.cells #[.string E.f, .string E.t, .slice A3 E.ns.length c3] 109))
            exact ⟨(h2.lower (by omega)).fr F6.out (fun k hk e => O4.out.ne_own h2 (by decide) hk e), HE4.out.2.2.2.1⟩
        · have f1 : Fr No w (w3.setCell ⟨wr.heap.size, 2, none⟩ (.slice A3 E.ns.length c3)) := ((HFr.out.tr ((Fr.refl No _).alloc _)).tr HF3.out).setCell (p := ⟨wr.heap.size, 2, none⟩) (fun h => by have h : wr.heap.size < w.heap.size := h; omega) _
          exact (f1.alloc _).own F6.out (fun g hg => .inl (O4.out.lt g hg).1)
    · obtain rfl : j = n := by omega
      have hpl : ps.map (·.1) = l := by rw [HPs.out, List.take_of_length_le (by rw [HL.out]; exact Nat.le_refl _)]
      have HPl := hide hpl
      have O4 := hide (HO.out.fr0 ((Fr.refl No _).alloc (.cells #[.string ⟨#[109, 97, 114, 107]⟩, .string ⟨#[]⟩, .slice none 0 0] 109)))
      have HS5 := hide (Src.ofRd (P := Try.prog) (size := 3) _ Try.underlying71 (some ⟨wr.heap.size, 0, none⟩) 1 1 [.string ⟨#[109, 97, 114, 107]⟩, .string ⟨#[]⟩, .slice none 0 0] rfl (by omega) (Rd.block (heap_alloc_new wr (.cells #[.string ⟨#[109, 97, 114, 107]⟩, .string ⟨#[]⟩, .slice none 0 0] 109))) (by simp [Value.oneCell']))
      have b1 : (j + 1) * 56 ≤ 140737488355328 := by omega
      have b2 : j + 1 ≤ maxLen := by unfold maxLen; omega
      have b3 : w.heap.size ≤ (wr.alloc (.cells #[.string ⟨#[109, 97, 114, 107]⟩, .string ⟨#[]⟩, .slice none 0 0] 109)).heap.size := by
        have h1 := HFr.out.size
        simp
        omega
      clear hlt hpl
      go_wp2_with (first | (at_builtin; refine wpList_append_gen _ rfl (.tmp 24) (.tmp 26) 71 71 rfl w.heap.size 109 i0 _ 3 56 Try.underlying71 hi hz hsz2 hby rfl u3 j (eFlat ps) rfl O4.out _ 1 [.string ⟨#[109, 97, 114, 107]⟩, .string ⟨#[]⟩, .slice none 0 0] rfl HS5.out b1 b2 b3 ?_; intro v6 w6 hown2 hfr2 hat; have O6 := hide hown2; have F6 := hide hfr2; obtain ⟨A6, c6, rfl, z1, z2, _⟩ := hown2.form; clear hown2 hfr2 hat) | fail)
      go_ret
      refine ⟨A6, c6, rfl, ⟨ps, HPl.out, ?_, ?_⟩, (HFr.out.alloc _).own F6.out (fun g hg => .inl (O4.out.lt g hg).1)⟩
      · rw [HL.out]
        exact O6.out
      · intro p hp
        have h0 := HN.out p hp
        have h2 := h0.1.fr0 ((Fr.refl No _).alloc (.cells #[.string ⟨#[109, 97, 114, 107]⟩, .string ⟨#[]⟩, .slice none 0 0] 109))
        exact ⟨h2.fr F6.out (fun k hk e => O4.out.ne_own h2 (by decide) hk e), h0.2⟩
end Go.Proofs.Ytpnhnnhocekchaa
namespace Go.Proofs.Ytpnhnnhocekchaa
set_option linter.unusedVariables false
set_option linter.unusedSimpArgs false
open Go.RowKit

set_option maxRecDepth 100000 in
set_option maxHeartbeats 800000 in
theorem size1_any (r : Value) (b1 b2 : Nat) (most : Int) (A : Option Addr) (n c B : Nat) (bs : List UInt8) (W : World) (hl : bs.length = n) (hn : n ≤ c) (hc : c ≤ maxLen) (hm1 : -9223372036854775808 ≤ most) (hm2 : most ≤ 9223372036854775807) (hr : Rd W B A (by8 bs)) (c1 : W.cell? ⟨b1, 0, none⟩ = some r) (c2 : W.cell? ⟨b2, 0, none⟩ = some (.int .i64 most)) :
    Calls Try.prog 103 #[.slice A n c, .pointer (some ⟨b1, 0, none⟩), .pointer (some ⟨b2, 0, none⟩)] W (Ret (sizeV (sizeR bs most)) W) := by
  have HN := hide (number_any r A n c B bs W hl hn hc hr)
  cases hd : dec 0 0 bs with
  | none =>
    have HT := hide (sizeR_none (most := most) hd)
    rw [hd] at HN
    simp only [numV] at HN
    clear hr hl hd
    go_enter Try.func103, Try.ntmps103
    go_wp2_with (go_at_call 94; refine HN.out.mono ?_; rintro en w' ⟨rfl, rfl⟩)
    go_ret2
    exact ⟨by rw [HT.out]; rfl, rfl⟩
  | some x =>
    obtain ⟨u, k⟩ := x
    rw [hd] at HN
    simp only [numV] at HN
    have hk := dec_le _ _ _ _ _ hd
    have hu := dec_lt _ 0 0 u k (by decide) hd
    by_cases hneg : most < 0
    · have HT := hide (sizeR_no (most := most) hd (.inl hneg))
      clear hr hl hd hk
      go_enter Try.func103, Try.ntmps103
      go_wp2_with (go_at_call 94; refine HN.out.mono ?_; rintro en w' ⟨rfl, rfl⟩)
      go_ret2
      exact ⟨by rw [HT.out]; rfl, rfl⟩
    · obtain ⟨m, rfl⟩ := Int.eq_ofNat_of_zero_le (a := most) (by omega)
      clear hm1 hneg
      by_cases hum : m < u
      · have HT := hide (sizeR_no (most := m) hd (.inr (by omega)))
        clear hr hl hd hk
        go_enter Try.func103, Try.ntmps103
        go_wp2_with (go_at_call 94; refine HN.out.mono ?_; rintro en w' ⟨rfl, rfl⟩)
        go_ret2
        exact ⟨by rw [HT.out]; rfl, rfl⟩
      · have HT := hide (sizeR_ok (most := m) hd (by omega))
        have hu2 : u ≤ m := by omega
        clear hr hl hd hk hum hu
        go_enter Try.func103, Try.ntmps103
        go_wp2_with (go_at_call 94; refine HN.out.mono ?_; rintro en w' ⟨rfl, rfl⟩)
        go_ret2
        exact ⟨by rw [HT.out]; simp [sizeV], rfl⟩

theorem size_cut {w : World} {B : Nat} {A : Option Addr} {bs : List UInt8} {c at_ b1 b2 : Nat} {most : Int} (r : Value) (hm1 : -9223372036854775808 ≤ most) (hm2 : most ≤ 9223372036854775807) (hr : Rd w B A (by8 bs)) (h1 : bs.length ≤ c) (h2 : c ≤ maxLen) (h3 : at_ ≤ bs.length) (c1 : w.cell? ⟨b1, 0, none⟩ = some r) (c2 : w.cell? ⟨b2, 0, none⟩ = some (.int .i64 most)) (nq : Nat) :
    Calls Try.prog 103 #[.slice (if c = at_ then A else A.map (·.add at_)) (bs.length - at_) (c - at_), .pointer (some ⟨b1, 0, none⟩), .pointer (some ⟨b2, 0, none⟩)] (w.drewN nq) fun e w' => e = .returned (sizeV (sizeR (bs.drop at_) most)) ∧ w' = w.drewN nq :=
  (size1_any r b1 b2 most _ _ _ B (bs.drop at_) (w.drewN nq) (by simp) (by omega) (by omega) hm1 hm2 (by rw [by8_drop]; exact Rd.cut (w := w) hr (by rw [by8_length]; exact h1)) c1 c2).mono fun _ _ ⟨a, b⟩ => ⟨a, b.symm⟩

section
variable (g : Nat) (bs : List UInt8) (at_ : Nat) (w : World) (b1 b2 : Nat) (most : Int) (hm1 : -9223372036854775808 ≤ most) (hm2 : most ≤ 9223372036854775807) (c1 : w.cell? ⟨b1, 0, none⟩ = some (.pointer (some ⟨g, 0, none⟩))) (c2 : w.cell? ⟨b2, 0, none⟩ = some (.int .i64 most))
include hm1 hm2 c1 c2
set_option maxRecDepth 100000 in
set_option maxHeartbeats 400000 in
theorem takeN_bad (h : RD w g bs at_ 0) (hd : sizeR (bs.drop at_) most = none) :
    Calls Try.prog 102 #[.pointer (some ⟨g, 0, none⟩), .func (.func 103) #[] #[.pointer (some ⟨b1, 0, none⟩), .pointer (some ⟨b2, 0, none⟩)]] w (RDRet (.int .i64 0) w g bs at_ 20) := by
  obtain ⟨A, c, ⟨d0, d1, d2⟩, hf, h1, h2, h3, h4, hr⟩ := h.parts
  have HN := hide (size_cut (.pointer (some ⟨g, 0, none⟩)) hm1 hm2 hr h1 h2 h3 c1 c2)
  rw [hd] at HN
  simp only [sizeV] at HN
  have H := hide h
  clear h hr hd c1 c2
  go_enter Try.func102, Try.ntmps102
  go_wp2_with (fail)
  go_quiet ((go_at_call 103; exact Calls.quiet_of_same (HN.out _)))
  go_wp2
  all_goals
    go_ret
    exact ⟨rfl, (H.out.drewN _).set2 20, ((Fr.refl _ _).drewN _).put _ _⟩

set_option maxRecDepth 100000 in
set_option maxHeartbeats 400000 in
theorem takeN_ok (u k : Nat) (h : RD w g bs at_ 0) (hd : sizeR (bs.drop at_) most = some (u, k)) (hk1 : at_ + k ≤ bs.length) :
    Calls Try.prog 102 #[.pointer (some ⟨g, 0, none⟩), .func (.func 103) #[] #[.pointer (some ⟨b1, 0, none⟩), .pointer (some ⟨b2, 0, none⟩)]] w (RDRet (.int .i64 u) w g bs (at_ + k) 0) := by
  obtain ⟨A, c, ⟨d0, d1, d2⟩, hf, h1, h2, h3, h4, hr⟩ := h.parts
  have HN := hide (size_cut (.pointer (some ⟨g, 0, none⟩)) hm1 hm2 hr h1 h2 h3 c1 c2)
  rw [hd] at HN
  simp only [sizeV] at HN
  have H := hide h
  clear h hr hd c1 c2
  go_enter Try.func102, Try.ntmps102
  go_wp2_with (fail)
  go_quiet ((go_at_call 103; exact Calls.quiet_of_same (HN.out _)))
  go_wp2
  all_goals
    go_ret
    exact ⟨rfl, (H.out.drewN _).set1 _ hk1, ((Fr.refl _ _).drewN _).put _ _⟩
end

set_option maxRecDepth 100000 in
set_option maxHeartbeats 400000 in
theorem takeN_off (g : Nat) (bs : List UInt8) (at_ : Nat) (e : Int) (w : World) (f : Value) (h : RD w g bs at_ e) (he : e ≠ 0) :
    Calls Try.prog 102 #[.pointer (some ⟨g, 0, none⟩), f] w (RDRet (.int .i64 0) w g bs at_ e) := by
  obtain ⟨A, c, ⟨c0, c1, c2⟩, hf, h1, h2, h3, h4, hr⟩ := h.parts
  have hb : (e != 0) = true := by simpa using he
  have H := hide h
  clear h hr he
  go_enter Try.func102, Try.ntmps102
  go_wp2_with (fail)
  go_ret
  exact ⟨rfl, H.out, Fr.refl _ _⟩

set_option maxRecDepth 100000 in
set_option maxHeartbeats 400000 in
theorem takeN_nil (w : World) (f : Value) :
    Calls Try.prog 102 #[.pointer none, f] w (Ret (.int .i64 0) w) := by
  go_enter Try.func102, Try.ntmps102
  go_wp2_with (fail)
  go_ret
  exact ⟨rfl, rfl⟩

theorem takeN_all (g : Nat) (bs : List UInt8) (a : Nat) (e : Int) (w : World) (b1 b2 : Nat) (most : Int) (hm1 : -9223372036854775808 ≤ most) (hm2 : most ≤ 9223372036854775807) (c1 : w.cell? ⟨b1, 0, none⟩ = some (.pointer (some ⟨g, 0, none⟩))) (c2 : w.cell? ⟨b2, 0, none⟩ = some (.int .i64 most)) (h : RD w g bs a e) :
    Calls Try.prog 102 #[.pointer (some ⟨g, 0, none⟩), .func (.func 103) #[] #[.pointer (some ⟨b1, 0, none⟩), .pointer (some ⟨b2, 0, none⟩)]] w (RDRet (.int .i64 (sizeS bs a e most).1) w g bs (sizeS bs a e most).2.1 (sizeS bs a e most).2.2) := by
  unfold sizeS
  by_cases he : e = 0
  · subst he
    rw [if_pos rfl]
    cases hd : sizeR (bs.drop a) most with
    | none => exact takeN_bad g bs a w b1 b2 most hm1 hm2 c1 c2 h hd
    | some x => exact takeN_ok g bs a w b1 b2 most hm1 hm2 c1 c2 x.1 x.2 h hd (by
        have h1 := sizeR_le (u := x.1) (k := x.2) hd
        obtain ⟨_, _, _, _, _, h3, _⟩ := h
        simp at h1
        omega)
  · rw [if_neg he]
    exact takeN_off g bs a e w _ h he

set_option maxRecDepth 100000 in
set_option maxHeartbeats 400000 in
theorem sizeN_any (g : Nat) (bs : List UInt8) (a : Nat) (e most : Int) (w : World) (h : RD w g bs a e) (hm1 : -9223372036854775808 ≤ most) (hm2 : most ≤ 9223372036854775807) :
    Calls Try.prog 76 #[.pointer (some ⟨g, 0, none⟩), .int .i64 most] w (RDRet (.int .i64 (sizeS bs a e most).1) w g bs (sizeS bs a e most).2.1 (sizeS bs a e most).2.2) := by
  have H := hide (fun t1 t2 => takeN_all g bs a e _ w.heap.size (w.heap.size + 1) most hm1 hm2 (box1 w (.pointer (some ⟨g, 0, none⟩)) (.int .i64 most) t1 t2) (box2 w (.pointer (some ⟨g, 0, none⟩)) (.int .i64 most) t1 t2) (h.fr0 (((Fr.refl No w).alloc _).alloc _)))
  clear h
  generalize sizeS bs a e most = x at H
  go_enter Try.func76, Try.ntmps76
  go_wp2_with (go_at_call 102; refine (H.out _ _).mono ?_; rintro en w' ⟨rfl, hq⟩; have HQ := hide hq; clear hq)
  go_ret
  exact ⟨rfl, HQ.out.1, (((Fr.refl (Is g) w).alloc _).alloc _).ts HQ.out.2⟩

set_option maxRecDepth 100000 in
set_option maxHeartbeats 400000 in
theorem size_nil (most : Int) (w : World) :
    Calls Try.prog 76 #[.pointer none, .int .i64 most] w (fun en w' => en = .returned (.int .i64 0) ∧ Fr No w w') := by
  go_enter Try.func76, Try.ntmps76
  go_wp2_with (go_at_call 102; refine (takeN_nil _ _).mono ?_; rintro en w' ⟨rfl, rfl⟩)
  go_ret
  exact ⟨rfl, ((Fr.refl No w).alloc _).alloc _⟩

end Go.Proofs.Ytpnhnnhocekchaa
namespace Go.Proofs.Ytpnhnnhocekchaa
set_option linter.unusedVariables false
set_option linter.unusedSimpArgs false
open Go.RowKit

set_option maxRecDepth 100000 in
set_option maxHeartbeats 800000 in
theorem text1_ok (r : Value) (b1 b2 m : Nat) (A : Option Addr) (n c B : Nat) (bs : List UInt8) (u k : Nat) (W : World) (hl : bs.length = n) (hn : n ≤ c) (hc : c ≤ 9223372036854775807) (hm2 : (m : Int) ≤ 9223372036854775807) (hr : Rd W B A (by8 bs)) (c1 : W.cell? ⟨b1, 0, none⟩ = some r) (c2 : W.cell? ⟨b2, 0, none⟩ = some (.int .i64 m)) (hd : dec 0 0 bs = some (u, k))
    (HN0 : Calls Try.prog 94 #[r, .slice A n c] W (Ret (.tuple #[.int .u64 u, .int .i64 k]) W)) (hkn : k ≤ n) (hum : ¬ m < u) (hul : ¬ n - k < u) (hu : u < 18446744073709551616) :
    Calls Try.prog 112 #[.slice A n c, .pointer (some ⟨b1, 0, none⟩), .pointer (some ⟨b2, 0, none⟩)] W (Ret (textV (textR bs m)) W) := by
  have HN := hide HN0
  have HT := hide (textR_ok (most := m) hd (by rw [hl]; omega))
  have hcv := conv_rd W (B := B) (if c = k then A else A.map (·.add k)) u (c - k) ((bs.drop k).take u) (by simp; omega) (by
    rw [by8_take, by8_drop]
    exact (hr.cut (by rw [by8_length, hl]; exact hn)).tk u)
  generalize (bs.drop k).take u = s at HT hcv
  have hku : k + u ≤ n := by omega
  have hu2 : u ≤ m := by omega
  have HC := hide hcv
  clear hr hl hd hul HN0 hcv hum hu
  go_enter Try.func112, Try.ntmps112
  go_wp2_with (go_at_call 94; refine HN.out.mono ?_; rintro en w' ⟨rfl, rfl⟩)
  · rename_i h
    have hcv := HC.out
    rw [if_pos h, h, Nat.sub_self] at hcv
    rw [hcv]
    clear hcv HC
    go_wp2
    go_ret2
    exact ⟨by rw [HT.out]; simp [textV], rfl⟩
  · rename_i h
    have hcv := HC.out
    rw [if_neg h] at hcv
    rw [hcv]
    clear hcv HC
    go_wp2
    go_ret2
    exact ⟨by rw [HT.out]; simp [textV], rfl⟩

set_option maxRecDepth 100000 in
set_option maxHeartbeats 800000 in
theorem text1_any (r : Value) (b1 b2 : Nat) (most : Int) (A : Option Addr) (n c B : Nat) (bs : List UInt8) (W : World) (hl : bs.length = n) (hn : n ≤ c) (hc : c ≤ maxLen) (hm1 : -9223372036854775808 ≤ most) (hm2 : most ≤ 9223372036854775807) (hr : Rd W B A (by8 bs)) (c1 : W.cell? ⟨b1, 0, none⟩ = some r) (c2 : W.cell? ⟨b2, 0, none⟩ = some (.int .i64 most)) :
    Calls Try.prog 112 #[.slice A n c, .pointer (some ⟨b1, 0, none⟩), .pointer (some ⟨b2, 0, none⟩)] W (Ret (textV (textR bs most)) W) := by
  have HN := hide (number_any r A n c B bs W hl hn hc hr)
  unfold maxLen at hc
  cases hd : dec 0 0 bs with
  | none =>
    have HT := hide (textR_none (most := most) hd)
    rw [hd] at HN
    simp only [numV] at HN
    clear hr hl hd
    go_enter Try.func112, Try.ntmps112
    go_wp2_with (go_at_call 94; refine HN.out.mono ?_; rintro en w' ⟨rfl, rfl⟩)
    go_ret2
    exact ⟨by rw [HT.out]; rfl, rfl⟩
  | some x =>
    obtain ⟨u, k⟩ := x
    rw [hd] at HN
    simp only [numV] at HN
    have hk := dec_le _ _ _ _ _ hd
    have hu := dec_lt _ 0 0 u k (by decide) hd
    rw [hl] at hk
    obtain ⟨hk0, hkn⟩ := hk
    have hkn : k ≤ n := by omega
    have hku0 := hkn
    by_cases hneg : most < 0
    · have HT := hide (textR_no (most := most) hd (.inl hneg))
      clear hr hl hd
      go_enter Try.func112, Try.ntmps112
      go_wp2_with (go_at_call 94; refine HN.out.mono ?_; rintro en w' ⟨rfl, rfl⟩)
      go_ret2
      exact ⟨by rw [HT.out]; rfl, rfl⟩
    · obtain ⟨m, rfl⟩ := Int.eq_ofNat_of_zero_le (a := most) (by omega)
      clear hm1 hneg
      by_cases hum : m < u
      · have HT := hide (textR_no (most := m) hd (.inr (.inl (by omega))))
        clear hr hl hd
        go_enter Try.func112, Try.ntmps112
        go_wp2_with (go_at_call 94; refine HN.out.mono ?_; rintro en w' ⟨rfl, rfl⟩)
        go_ret2
        exact ⟨by rw [HT.out]; rfl, rfl⟩
      · by_cases hul : n - k < u
        · have HT := hide (textR_no (most := m) hd (.inr (.inr (by rw [hl]; exact hul))))
          clear hr hl hd
          go_enter Try.func112, Try.ntmps112
          go_wp2_with (go_at_call 94; refine HN.out.mono ?_; rintro en w' ⟨rfl, rfl⟩)
          go_ret2
          exact ⟨by rw [HT.out]; rfl, rfl⟩
        · exact text1_ok r b1 b2 m A n c B bs u k W hl hn hc hm2 hr c1 c2 hd HN.out hku0 hum hul hu

theorem text_cut {w : World} {B : Nat} {A : Option Addr} {bs : List UInt8} {c at_ b1 b2 : Nat} {most : Int} (r : Value) (hm1 : -9223372036854775808 ≤ most) (hm2 : most ≤ 9223372036854775807) (hr : Rd w B A (by8 bs)) (h1 : bs.length ≤ c) (h2 : c ≤ maxLen) (h3 : at_ ≤ bs.length) (c1 : w.cell? ⟨b1, 0, none⟩ = some r) (c2 : w.cell? ⟨b2, 0, none⟩ = some (.int .i64 most)) (nq : Nat) :
    Calls Try.prog 112 #[.slice (if c = at_ then A else A.map (·.add at_)) (bs.length - at_) (c - at_), .pointer (some ⟨b1, 0, none⟩), .pointer (some ⟨b2, 0, none⟩)] (w.drewN nq) fun e w' => e = .returned (textV (textR (bs.drop at_) most)) ∧ w' = w.drewN nq :=
  (text1_any r b1 b2 most _ _ _ B (bs.drop at_) (w.drewN nq) (by simp) (by omega) (by omega) hm1 hm2 (by rw [by8_drop]; exact Rd.cut (w := w) hr (by rw [by8_length]; exact h1)) c1 c2).mono fun _ _ ⟨a, b⟩ => ⟨a, b.symm⟩

section
variable (g : Nat) (bs : List UInt8) (at_ : Nat) (w : World) (b1 b2 : Nat) (most : Int) (hm1 : -9223372036854775808 ≤ most) (hm2 : most ≤ 9223372036854775807) (c1 : w.cell? ⟨b1, 0, none⟩ = some (.pointer (some ⟨g, 0, none⟩))) (c2 : w.cell? ⟨b2, 0, none⟩ = some (.int .i64 most))
include hm1 hm2 c1 c2
set_option maxRecDepth 100000 in
set_option maxHeartbeats 400000 in
theorem takeS_bad (h : RD w g bs at_ 0) (hd : textR (bs.drop at_) most = none) :
    Calls Try.prog 111 #[.pointer (some ⟨g, 0, none⟩), .func (.func 112) #[] #[.pointer (some ⟨b1, 0, none⟩), .pointer (some ⟨b2, 0, none⟩)]] w (RDRet (.string ⟨#[]⟩) w g bs at_ 20) := by
  obtain ⟨A, c, ⟨d0, d1, d2⟩, hf, h1, h2, h3, h4, hr⟩ := h.parts
  have HN := hide (text_cut (.pointer (some ⟨g, 0, none⟩)) hm1 hm2 hr h1 h2 h3 c1 c2)
  rw [hd] at HN
  simp only [textV] at HN
  have H := hide h
  clear h hr hd c1 c2
  go_enter Try.func111, Try.ntmps111
  go_wp2_with (fail)
  go_quiet ((go_at_call 112; exact Calls.quiet_of_same (HN.out _)))
  go_wp2
  all_goals
    go_ret
    exact ⟨rfl, (H.out.drewN _).set2 20, ((Fr.refl _ _).drewN _).put _ _⟩

set_option maxRecDepth 100000 in
set_option maxHeartbeats 400000 in
theorem takeS_ok (s : List UInt8) (k : Nat) (h : RD w g bs at_ 0) (hd : textR (bs.drop at_) most = some (s, k)) (hk1 : at_ + k ≤ bs.length) :
    Calls Try.prog 111 #[.pointer (some ⟨g, 0, none⟩), .func (.func 112) #[] #[.pointer (some ⟨b1, 0, none⟩), .pointer (some ⟨b2, 0, none⟩)]] w (RDRet (.string ⟨s.toArray⟩) w g bs (at_ + k) 0) := by
  obtain ⟨A, c, ⟨d0, d1, d2⟩, hf, h1, h2, h3, h4, hr⟩ := h.parts
  have HN := hide (text_cut (.pointer (some ⟨g, 0, none⟩)) hm1 hm2 hr h1 h2 h3 c1 c2)
  rw [hd] at HN
  simp only [textV] at HN
  have H := hide h
  clear h hr hd c1 c2
  go_enter Try.func111, Try.ntmps111
  go_wp2_with (fail)
  go_quiet ((go_at_call 112; exact Calls.quiet_of_same (HN.out _)))
  go_wp2
  all_goals
    go_ret
    exact ⟨rfl, (H.out.drewN _).set1 _ hk1, ((Fr.refl _ _).drewN _).put _ _⟩
end

set_option maxRecDepth 100000 in
set_option maxHeartbeats 400000 in
theorem takeS_off (g : Nat) (bs : List UInt8) (at_ : Nat) (e : Int) (w : World) (f : Value) (h : RD w g bs at_ e) (he : e ≠ 0) :
    Calls Try.prog 111 #[.pointer (some ⟨g, 0, none⟩), f] w (RDRet (.string ⟨#[]⟩) w g bs at_ e) := by
  obtain ⟨A, c, ⟨c0, c1, c2⟩, hf, h1, h2, h3, h4, hr⟩ := h.parts
  have hb : (e != 0) = true := by simpa using he
  have H := hide h
  clear h hr he
  go_enter Try.func111, Try.ntmps111
  go_wp2_with (fail)
  go_ret
  exact ⟨rfl, H.out, Fr.refl _ _⟩

set_option maxRecDepth 100000 in
set_option maxHeartbeats 400000 in
theorem takeS_nil (w : World) (f : Value) :
    Calls Try.prog 111 #[.pointer none, f] w (Ret (.string ⟨#[]⟩) w) := by
  go_enter Try.func111, Try.ntmps111
  go_wp2_with (fail)
  go_ret
  exact ⟨rfl, rfl⟩

theorem takeS_all (g : Nat) (bs : List UInt8) (a : Nat) (e : Int) (w : World) (b1 b2 : Nat) (most : Int) (hm1 : -9223372036854775808 ≤ most) (hm2 : most ≤ 9223372036854775807) (c1 : w.cell? ⟨b1, 0, none⟩ = some (.pointer (some ⟨g, 0, none⟩))) (c2 : w.cell? ⟨b2, 0, none⟩ = some (.int .i64 most)) (h : RD w g bs a e) :
    Calls Try.prog 111 #[.pointer (some ⟨g, 0, none⟩), .func (.func 112) #[] #[.pointer (some ⟨b1, 0, none⟩), .pointer (some ⟨b2, 0, none⟩)]] w (RDRet (.string ⟨(textS bs a e most).1.toArray⟩) w g bs (textS bs a e most).2.1 (textS bs a e most).2.2) := by
  unfold textS
  by_cases he : e = 0
  · subst he
    rw [if_pos rfl]
    cases hd : textR (bs.drop a) most with
    | none => exact takeS_bad g bs a w b1 b2 most hm1 hm2 c1 c2 h hd
    | some x => exact takeS_ok g bs a w b1 b2 most hm1 hm2 c1 c2 x.1 x.2 h hd (by
        have h1 := textR_le (s := x.1) (k := x.2) hd
        obtain ⟨_, _, _, _, _, h3, _⟩ := h
        simp at h1
        omega)
  · rw [if_neg he]
    exact takeS_off g bs a e w _ h he

set_option maxRecDepth 100000 in
set_option maxHeartbeats 400000 in
theorem text_any (g : Nat) (bs : List UInt8) (a : Nat) (e most : Int) (w : World) (h : RD w g bs a e) (hm1 : -9223372036854775808 ≤ most) (hm2 : most ≤ 9223372036854775807) :
    Calls Try.prog 105 #[.pointer (some ⟨g, 0, none⟩), .int .i64 most] w (RDRet (.string ⟨(textS bs a e most).1.toArray⟩) w g bs (textS bs a e most).2.1 (textS bs a e most).2.2) := by
  have H := hide (fun t1 t2 => takeS_all g bs a e _ w.heap.size (w.heap.size + 1) most hm1 hm2 (box1 w (.pointer (some ⟨g, 0, none⟩)) (.int .i64 most) t1 t2) (box2 w (.pointer (some ⟨g, 0, none⟩)) (.int .i64 most) t1 t2) (h.fr0 (((Fr.refl No w).alloc _).alloc _)))
  clear h
  generalize textS bs a e most = x at H
  go_enter Try.func105, Try.ntmps105
  go_wp2_with (go_at_call 111; refine (H.out _ _).mono ?_; rintro en w' ⟨rfl, hq⟩; have HQ := hide hq; clear hq)
  go_ret
  exact ⟨rfl, HQ.out.1, (((Fr.refl (Is g) w).alloc _).alloc _).ts HQ.out.2⟩

set_option maxRecDepth 100000 in
set_option maxHeartbeats 400000 in
theorem text_nil (most : Int) (w : World) :
    Calls Try.prog 105 #[.pointer none, .int .i64 most] w (fun en w' => en = .returned (.string ⟨#[]⟩) ∧ Fr No w w') := by
  go_enter Try.func105, Try.ntmps105
  go_wp2_with (go_at_call 111; refine (takeS_nil _ _).mono ?_; rintro en w' ⟨rfl, rfl⟩)
  go_ret
  exact ⟨rfl, ((Fr.refl No w).alloc _).alloc _⟩

end Go.Proofs.Ytpnhnnhocekchaa
namespace Go.Proofs.Ytpnhnnhocekchaa
set_option linter.unusedVariables false
set_option linter.unusedSimpArgs false
open Go.RowKit

theorem Fr.setRow (w : World) (g : Nat) (cs : Array Value) : Fr (Is g) w (w.setRow g cs) :=
  ⟨rfl, rfl, rfl, by simp, fun k _ hk => setRow_other w g k _ hk⟩

/-- lists of bytes that are read. -/
def BSl (w : World) (B : Nat) (A : Option Addr) (bss : List (List UInt8)) : Prop :=
  ∀ j bs, bss[j]? = some bs → ∃ ad Aj cj, A = some ad ∧ ad.block < B ∧ w.cell? (ad.add j) = some (.slice Aj bs.length cj) ∧ bs.length ≤ cj ∧ cj ≤ maxLen ∧ Rd w B Aj (by8 bs)
theorem BSl.fr {S : Nat → Prop} {w w' : World} {B : Nat} {A : Option Addr} {bss : List (List UInt8)} (h : BSl w B A bss) (f : Fr S w w') (hS : ∀ k, k < B → ¬ S k) : BSl w' B A bss := fun j bs hj => by
  obtain ⟨ad, Aj, cj, e, hb, hc, h1, h2, hr⟩ := h j bs hj
  exact ⟨ad, Aj, cj, e, hb, f.cell hc (by rw [block_of_add]; exact hS _ hb), h1, h2, hr.fr f hS⟩
theorem BSl.fr0 {w w' : World} {B : Nat} {A : Option Addr} {bss : List (List UInt8)} (h : BSl w B A bss) (f : Fr No w w') : BSl w' B A bss := h.fr f (fun _ _ h => h)
theorem BSl.more {w : World} {B B' : Nat} {A : Option Addr} {bss : List (List UInt8)} (h : BSl w B A bss) (hB : B ≤ B') : BSl w B' A bss := fun j bs hj => by
  obtain ⟨ad, Aj, cj, e, hb, hc, h1, h2, hr⟩ := h j bs hj
  exact ⟨ad, Aj, cj, e, by omega, hc, h1, h2, hr.more hB⟩

theorem BSl.single {w : World} {B n c : Nat} {A : Option Addr} {bs : List UInt8} {e : TypeId} (hn : bs.length = n) (h1 : n ≤ c) (h2 : c ≤ maxLen) (hr : Rd w B A (by8 bs)) (hB : B ≤ w.heap.size) : BSl (w.alloc (.cells #[.slice A n c] e)) (w.heap.size + 1) (some ⟨w.heap.size, 0, none⟩) [bs] := by
  subst hn
  intro j bs' hj
  cases j with
  | zero =>
    injection hj with hj
    subst hj
    refine ⟨_, A, c, rfl, by simp, ?_, h1, h2, (hr.fr0 ((Fr.refl _ _).alloc _)).more (by omega)⟩
    rw [Addr.add_lit, cell_of_row _ w.heap.size (0 + 0) #[.slice A bs.length c] e (0, 0) (heap_alloc_new w _)]
    rfl
  | succ j => simp at hj

end Go.Proofs.Ytpnhnnhocekchaa
namespace Go.Proofs.Ytpnhnnhocekchaa
set_option linter.unusedVariables false
set_option linter.unusedSimpArgs false
open Go.RowKit

theorem Own.apart {w : World} {b1 b2 e1 e2 s1 s2 n1 n2 : Nat} {v1 v2 : Value} {xs1 xs2 : List Value} (h1 : Own w b1 e1 s1 v1 n1 xs1) (h2 : Own w b2 e2 s2 v2 n2 xs2) (hne : e1 ≠ e2) : ∀ k, v1.ownBlock = some k → v2.ownBlock ≠ some k := by
  intro k hk hk2
  obtain ⟨_, A, c, rfl, _, _, hA⟩ := h2
  rcases hA with ⟨rfl, _⟩ | ⟨g, cur, rfl, _, hh, _⟩
  · simp [Value.ownBlock] at hk2
  · have e : g = k := Option.some.inj hk2
    subst e
    exact h1.ne_blk hk hh hne
theorem Own.above {S : Nat → Prop} {w w' : World} {base e size n : Nat} {v : Value} {xs : List Value} (h : Own w base e size v n xs) (f : Fr S w w') (hS : ∀ k, S k → k < base) : Own w' base e size v n xs :=
  h.fr f (fun k hk e => by have := (h.lt k hk).1; have := hS k e; omega)
theorem made_own (w : World) (k : Nat) (e : TypeId) (v : Value) (z : Array Value) (hz : z = #[v]) (hk : k ≤ maxLen) : Own (w.alloc (.cells (madeCells z k) e)) w.heap.size e 1 (.slice (some ⟨w.heap.size, 0, none⟩) k k) k (List.replicate k v) := by
  subst hz
  refine ⟨by simp, _, _, rfl, Nat.le_refl _, hk, .inr ⟨w.heap.size, _, rfl, Nat.le_refl _, heap_alloc_new w _, by rw [size_madeCells]; omega, ?_⟩⟩
  rw [Nat.mul_one, List.take_of_length_le (by rw [Array.length_toList, size_madeCells]; omega)]
  apply List.ext_getElem
  · simp [madeCells]
  · intro i h1 h2
    simp [madeCells, Nat.mod_one]

theorem Fr.putO (w : World) (G j n c : Nat) (v : Value) : Fr (fun k => (Value.slice (some ⟨G, 0, none⟩) n c).ownBlock = some k) w (w.setCell ⟨G, j, none⟩ v) :=
  (Fr.refl (fun k => (Value.slice (some ⟨G, 0, none⟩) n c).ownBlock = some k) w).setCell (p := ⟨G, j, none⟩) (fun _ => (rfl : some G = some G)) v
theorem Own.some_at {w : World} {base e n : Nat} {v : Value} {xs : List Value} (h : Own w base e 1 v n xs) {k : Nat} (hk : k < n) : ∃ u, xs[k]? = some u :=
  ⟨_, List.getElem?_eq_getElem (by have := h.1; omega)⟩
/-- integers as cells. -/
def ints (l : List Nat) : List Value := l.map fun (n : Nat) => .int .i64 n

/-- slices of bytes that were handed out: each of its own memory. -/
structure Vals (w : World) (base : Nat) (vals : List Value) (bss : List (List UInt8)) : Prop where
  len : vals.length = bss.length
  own : ∀ (j : Nat) (v : Value) (bs : List UInt8), vals[j]? = some v → bss[j]? = some bs → Own w base 5 1 v bs.length (by8 bs)
  dis : ∀ (i j : Nat) (vi vj : Value), i < j → vals[i]? = some vi → vals[j]? = some vj → ∀ k, vi.ownBlock = some k → vj.ownBlock ≠ some k
section
variable {S : Nat → Prop} {w w' : World} {base : Nat} {vals : List Value} {bss : List (List UInt8)}
theorem Vals.nil (w : World) (base : Nat) : Vals w base [] [] := ⟨rfl, fun j v bs h => by simp at h, fun i j vi vj _ h => by simp at h⟩
theorem Vals.get (h : Vals w base vals bss) {j : Nat} {v : Value} (hv : vals[j]? = some v) : ∃ bs, bss[j]? = some bs ∧ Own w base 5 1 v bs.length (by8 bs) := by
  have hj := (List.getElem?_eq_some_iff.1 hv).1
  rw [h.len] at hj
  exact ⟨_, List.getElem?_eq_getElem hj, h.own j v _ hv (List.getElem?_eq_getElem hj)⟩
theorem Vals.fr (h : Vals w base vals bss) (f : Fr S w w') (hS : ∀ (j : Nat) v, vals[j]? = some v → ∀ k, v.ownBlock = some k → ¬ S k) : Vals w' base vals bss :=
  ⟨h.len, fun j v bs hv hb => (h.own j v bs hv hb).fr f (hS j v hv), h.dis⟩
theorem Vals.fr0 (h : Vals w base vals bss) (f : Fr No w w') : Vals w' base vals bss := h.fr f (fun _ _ _ _ _ h => h)
theorem Vals.above (h : Vals w base vals bss) (f : Fr S w w') (hS : ∀ k, S k → k < base) : Vals w' base vals bss := h.fr f (fun j v hv k hk e => by
  obtain ⟨bs, _, ho⟩ := h.get hv
  have := (ho.lt k hk).1
  have := hS k e
  omega)
theorem Vals.other {b2 e2 s2 n2 : Nat} {v2 : Value} {xs2 : List Value} (h : Vals w base vals bss) (o : Own w b2 e2 s2 v2 n2 xs2) (hne : 5 ≠ e2) (f : Fr (fun k => v2.ownBlock = some k) w w') : Vals w' base vals bss := h.fr f (fun j v hv k hk e => by
  obtain ⟨bs, _, ho⟩ := h.get hv
  exact ho.apart o hne k hk e)
theorem Vals.lower {b2 : Nat} (h : Vals w base vals bss) (hb : b2 ≤ base) : Vals w b2 vals bss := ⟨h.len, fun j v bs hv hb' => (h.own j v bs hv hb').lower hb, h.dis⟩
theorem Vals.snoc {w0 : World} {v : Value} {bs : List UInt8} (h0 : Vals w0 base vals bss) (h : Vals w base vals bss) (o : Own w w0.heap.size 5 1 v bs.length (by8 bs)) (hb : base ≤ w0.heap.size) : Vals w base (vals ++ [v]) (bss ++ [bs]) := by
  have hl := h.len
  refine ⟨by simp [hl], ?_, ?_⟩
  · intro j v' bs' hv hb'
    by_cases hj : j < vals.length
    · rw [List.getElem?_append_left hj] at hv
      rw [List.getElem?_append_left (by omega)] at hb'
      exact h.own j v' bs' hv hb'
    · have hj1 := (List.getElem?_eq_some_iff.1 hv).1
      have e1 : j = vals.length := by simp at hj1; omega
      subst e1
      rw [List.getElem?_append_right (Nat.le_refl _), Nat.sub_self] at hv
      rw [hl, List.getElem?_append_right (Nat.le_refl _), Nat.sub_self] at hb'
      simp at hv hb'
      subst hv; subst hb'
      exact o.lower hb
  · intro i j vi vj hij hi hj k hk
    have hj1 := (List.getElem?_eq_some_iff.1 hj).1
    by_cases hjl : j < vals.length
    · rw [List.getElem?_append_left (by omega)] at hi
      rw [List.getElem?_append_left hjl] at hj
      exact h.dis i j vi vj hij hi hj k hk
    · have e1 : j = vals.length := by simp at hj1; omega
      subst e1
      rw [List.getElem?_append_left hij] at hi
      rw [List.getElem?_append_right (Nat.le_refl _), Nat.sub_self] at hj
      simp at hj
      subst hj
      intro hk2
      obtain ⟨bs', _, ho⟩ := h0.get hi
      have h1 := (ho.lt k hk).2
      have h2 := (o.lt k hk2).1
      omega
/-- as lists that are read. -/
theorem Vals.bsl (h : Vals w base vals bss) {A : Option Addr} (hr : Rd w w.heap.size A vals) : BSl w w.heap.size A bss := fun j bs hj => by
  have hj1 := (List.getElem?_eq_some_iff.1 hj).1
  have hv : vals[j]? = some (vals[j]'(by rw [h.len]; exact hj1)) := List.getElem?_eq_getElem _
  obtain ⟨ad, e, hb, hc⟩ := hr j _ hv
  have ho := h.own j _ bs hv hj
  obtain ⟨A', c', hv', h1, h2, _, h3, _⟩ := ho.form
  rw [hv'] at hc
  exact ⟨ad, A', c', e, hb, hc, h1, h2, h3⟩
end
/-- one slice, laid in a new block ('append(s, x)'). -/
theorem src_slice (w : World) (A : Option Addr) (n c : Nat) : Src Try.prog 1 37 (.slice (some ⟨w.heap.size, 0, none⟩) 1 1) 1 [.slice A n c] (w.alloc (.cells #[.slice A n c] 23)) :=
  Src.one (P := Try.prog) w (e := 23) Try.underlying37 _ rfl
theorem Try.infoB : (Try.prog.info? 23).map (fun i => (i.zero, i.size, i.bytes)) = some (some (.slice none 0 0), 1, 24) := by kernel_rfl
end Go.Proofs.Ytpnhnnhocekchaa
namespace Go.Proofs.Ytpnhnnhocekchaa
set_option linter.unusedVariables false
set_option linter.unusedSimpArgs false
open Go.RowKit

theorem wpListIn_append_gen {F : Fence} {n' : Nat} {P : Program} (w : World) {ops : Array Oper} {rest : List Oper} {o : Oper} {a : Act} {Q : Exit → Act → World → Prop} (hgd : o.guard = none) (s x : Operand) (t tx : TypeId)
    (ho : o.op = .call { callee := .builtin .append, args := #[s, x], argTypes := #[t, tx] })
    (base : Nat) (e : TypeId) (i : TypeInfo) (z : Value) (size bytes : Nat) (ht : P.underlying t = some (.slice e)) (hi : P.info? e = some i) (hz : i.zero = some z)
    (hsize : i.size = size) (hby : i.bytes = bytes) (hzs : z.cells.size = size)
    (v : Value) (n : Nat) (xs : List Value) (hs : a.eval s = v) (hown : Own w base e size v n xs)
    (y : Value) (m : Nat) (news : List Value) (hx : a.eval x = y) (hsrc : Src P size tx y m news w)
    (hbytes : (n + m) * bytes ≤ 140737488355328) (h63 : n + m ≤ maxLen) (hbase : base ≤ w.heap.size)
    (h : ∀ v' w', Own w' base e size v' (n + m) (xs ++ news) → Fr (fun k => v.ownBlock = some k) w w' → (v'.ownBlock = v.ownBlock ∨ v'.ownBlock = some w.heap.size) → wpListIn F n' P ops Q rest (a.put o.dst v') w') : wpListIn F n' P ops Q (o :: rest) a w := by
  refine wpListIn_plain hgd fun K hK' => ?_
  obtain ⟨v', w', hrun, h2, h3, h4⟩ := run_append_gen (P := P) w base t tx o.type e i z size bytes ht hi hz hsize hby hzs v n xs hown y m news hsrc hbytes h63 hbase
  unfold Oper.wpIn
  refine ⟨?_, ?_⟩
  · simp [Oper.about, ho, resolve, Target.leads, Sem.run_pure]
  · rw [Oper.semAt_plain F _ _ (by rw [ho]; intro c hc'; cases hc')]
    simp [execOp, ho, resolve, invoke, builtin, hs, hx, hrun, Result.andThen]
    exact hK' _ _ (h v' w' h2 h3 h4)

/-- a block of cells is left as it was. -/
theorem blk_kept {W W' : World} {row : Option Nat} {k : Nat} {o : Obj} (hk : W.heap[k]? = some o) (hc : o.isCells = true) (hg : W.grownBy W' row) (hr : ∀ r, row = some r → ∃ o : Obj, W.heap[r]? = some o ∧ o.isCells = false) : W'.heap[k]? = some o := by
  refine (Fr.of_grown hg).blk hk (fun e => ?_)
  obtain ⟨o', h1, h2⟩ := hr k e
  rw [hk] at h1
  injection h1 with h1
  subst h1
  rw [hc] at h2
  cases h2
theorem own_kept {W W' : World} {row : Option Nat} {base e size n : Nat} {v : Value} {xs : List Value} (h : Own W base e size v n xs) (hg : W.grownBy W' row) (hr : ∀ r, row = some r → ∃ o : Obj, W.heap[r]? = some o ∧ o.isCells = false) : Own W' base e size v n xs := by
  obtain ⟨hl, A, c, rfl, hc, hm, hA⟩ := h
  refine ⟨hl, A, c, rfl, hc, hm, ?_⟩
  rcases hA with hA | ⟨g, cur, rfl, hb, hh, r⟩
  · exact .inl hA
  · exact .inr ⟨g, cur, rfl, hb, blk_kept hh rfl hg hr, r⟩
/-- a write to blocks of cells alone leaves all that is no cells. -/
theorem keeps_of_fr {S : Nat → Prop} {W W' : World} (f : Fr S W W') (hS : ∀ k o, S k → W.heap[k]? = some o → o.isCells = true) : KeepsOthers W W' :=
  ⟨f.size, fun k o hk ho => (f.blk hk (fun h => by have := hS k o h hk; rw [ho] at this; cases this))⟩
theorem own_cells {W : World} {base e size n : Nat} {v : Value} {xs : List Value} (h : Own W base e size v n xs) : ∀ k o, v.ownBlock = some k → W.heap[k]? = some o → o.isCells = true := by
  intro k o hk ho
  obtain ⟨hl, A, c, rfl, hc, hm, hA⟩ := h
  rcases hA with ⟨rfl, _⟩ | ⟨g, cur, rfl, hb, hh, r⟩
  · cases hk
  · have e : g = k := Option.some.inj hk
    subst e
    rw [hh] at ho
    injection ho with ho
    subst ho
    rfl

/-- a region that draws, inside a round: as outside of it. -/
theorem wpAnyIn_round {F : Fence} {n : Nat} {P : Program} {md : Region.Mode} {ops : Array Oper} {Q : Exit → Act → World → Prop} (l : Nat) (hd : ∀ (i : Nat) (o : Oper), ops[i]? = some o → ∀ c, o.op ≠ .defer c) (hro : F.round = none) :
    ∀ (fuel : Nat) (listed : Array Bool) (a : Act) (w : World), wpAnyIn F n P md ops Q fuel listed a w → wpAnyIn (F.inRound l) n P md ops Q fuel listed a w := by
  intro fuel
  induction fuel with
  | zero => exact fun listed a w h => h
  | succ fuel ih =>
    intro listed a w h
    refine ⟨h.1, fun i hi => ?_⟩
    have h2 := wpOpIn_mono (fun a w => ih (listed.setIfInBounds i true) a w) (h.2 i hi)
    unfold wpOpIn at h2 ⊢
    cases ho : ops[i]? with
    | none => rw [ho] at h2; exact h2
    | some o =>
      rw [ho] at h2
      dsimp only at h2 ⊢
      split
      · rename_i hw
        rw [if_pos hw] at h2
        unfold Oper.wpIn at h2 ⊢
        rw [hro, Oper.semAt_none] at h2
        rw [Fence.inRound_round, Oper.semAt_some l _ _ (hd i o ho)]
        exact h2
      · rename_i hw
        rw [if_neg hw] at h2
        exact h2
theorem wpIn_region_round {n : Nat} {P : Program} {ops : Array Oper} {Q : Exit → Act → World → Prop} {id : Nat} {a : Act} {w : World} (l : Nat) (hm : P.follows .mixedOrders = true) (hd : ops.toList.all (fun o => match o.op with | .defer _ => false | _ => true) = true)
    (h : wpAnyIn Fence.wide n P .any ops Q ops.size (Array.replicate ops.size false) a w.drew) : (Code.region id ops true).wpIn (Fence.wide.inRound l) n P Q a w :=
  wpIn_region_any hm (wpAnyIn_round l (fun i o ho c e => by
    have := List.all_eq_true.1 hd o (by rw [Array.mem_toList_iff]; exact Array.mem_of_getElem? ho)
    rw [e] at this
    cases this) rfl _ _ _ _ h)
end Go.Proofs.Ytpnhnnhocekchaa
namespace Go.Proofs.Ytpnhnnhocekchaa
set_option linter.unusedVariables false
set_option linter.unusedSimpArgs false
open Go.RowKit

/-- append inside a region that draws its order. -/
theorem step_append_any {P : Program} {ops : Array Oper} {o : Oper} {a : Act} {w : World} {K : Act → World → Prop} {Q : Exit → Act → World → Prop} {E : Prop} (hgd : o.guard = none) (s x : Operand) (t tx : TypeId)
    (ho : o.op = .call { callee := .builtin .append, args := #[s, x], argTypes := #[t, tx] })
    (base : Nat) (e : TypeId) (i : TypeInfo) (z : Value) (size bytes : Nat) (ht : P.underlying t = some (.slice e)) (hi : P.info? e = some i) (hz : i.zero = some z)
    (hsize : i.size = size) (hby : i.bytes = bytes) (hzs : z.cells.size = size)
    (v : Value) (n : Nat) (xs : List Value) (hs : a.eval s = v) (hown : Own w base e size v n xs)
    (y : Value) (m : Nat) (news : List Value) (hx : a.eval x = y) (hsrc : Src P size tx y m news w)
    (hbytes : (n + m) * bytes ≤ 140737488355328) (h63 : n + m ≤ maxLen) (hbase : base ≤ w.heap.size)
    (h : ∀ v' w', Own w' base e size v' (n + m) (xs ++ news) → Fr (fun k => v.ownBlock = some k) w w' → K (a.put o.dst v') w') :
    if Region.wanted o (yielded ops a.tmps) = true then Oper.wp P o a w K Q else E := by
  have hw : Region.wanted o (yielded ops a.tmps) = true := by simp [Region.wanted, hgd]
  rw [if_pos hw]
  exact wp_append_gen w s x t tx ho base e i z size bytes ht hi hz hsize hby hzs v n xs hs hown y m news hx hsrc hbytes h63 hbase fun v' w' h2 h3 _ => h v' w' h2 h3

theorem Own.cellsT {w : World} {base e size n : Nat} {v : Value} {xs : List Value} (h : Own w base e size v n xs) {k : Nat} (hk : v.ownBlock = some k) : base ≤ k ∧ ∃ cs fz, w.heap[k]? = some (.cells cs e fz) := by
  refine ⟨(h.lt k hk).1, ?_⟩
  obtain ⟨_, A, c, rfl, _, _, hA⟩ := h
  rcases hA with ⟨rfl, _⟩ | ⟨g, cur, rfl, _, hh, _⟩
  · cases hk
  · have e : g = k := Option.some.inj hk
    subst e
    exact ⟨_, _, hh⟩
/-- a frame that writes no block of one type. -/
def Off (S : Nat → Prop) (w : World) (t : TypeId) : Prop := ∀ k cs fz, w.heap[k]? = some (.cells cs t fz) → ¬ S k
theorem Own.off {S : Nat → Prop} {w w' : World} {base e size n : Nat} {v : Value} {xs : List Value} (h : Own w base e size v n xs) (f : Fr S w w') (hS : Off S w e) : Own w' base e size v n xs :=
  h.fr f (fun k hk => by
    obtain ⟨_, cs, fz, hh⟩ := h.cellsT hk
    exact hS k cs fz hh)
theorem RD.offT {S : Nat → Prop} {w w' : World} {g : Nat} {bs : List UInt8} {a : Nat} {e : Int} (h : RD w g bs a e) (f : Fr S w w') (h1 : Off S w 131) (h2 : Off S w 5) : RD w' g bs a e := by
  obtain ⟨A, c, hh, q1, q2, q3, q4, ho⟩ := h
  exact ⟨A, c, f.blk hh (h1 _ _ _ hh), q1, q2, q3, q4, ho.off f h2⟩
theorem off_is {w : World} {g : Nat} {cs : Array Value} {t t' : TypeId} {fz : Nat × Nat} (h : w.heap[g]? = some (.cells cs t fz)) (hne : t' ≠ t) : Off (Is g) w t' := by
  intro k cs' fz' hk e
  have e : k = g := e
  subst e
  rw [h] at hk
  injection hk with hk
  injection hk with _ hk _
  exact hne hk.symm
theorem off_own {w : World} {base e size n : Nat} {v : Value} {xs : List Value} (h : Own w base e size v n xs) {t : TypeId} (hne : t ≠ e) : Off (fun k => v.ownBlock = some k) w t := by
  intro k cs fz hk hv
  obtain ⟨_, cs', fz', hh⟩ := h.cellsT hv
  rw [hh] at hk
  injection hk with hk
  injection hk with _ hk _
  exact hne hk.symm

/-! Entries of the call's own. -/
def nVal (p : EntL) : Value := .slice p.2.1 p.1.ns.length p.2.2
def OwnN (w : World) (base : Nat) (p : EntL) : Prop := Own w base 2 1 (nVal p) p.1.ns.length (iz .i64 p.1.ns) ∧ InI p.1.ns
structure OwnEs (w : World) (base : Nat) (v : Value) (n : Nat) (ps : List EntL) : Prop where
  row : Own w base 109 3 v n (eFlat ps)
  ns : ∀ p ∈ ps, OwnN w base p
  ap : ps.Pairwise (fun p q => ∀ k, (nVal p).ownBlock = some k → (nVal q).ownBlock ≠ some k)
theorem OwnEs.off {S : Nat → Prop} {w w' : World} {base n : Nat} {v : Value} {ps : List EntL} (h : OwnEs w base v n ps) (f : Fr S w w') (h1 : Off S w 109) (h2 : Off S w 2) : OwnEs w' base v n ps :=
  ⟨h.row.off f h1, fun p hp => ⟨(h.ns p hp).1.off f h2, (h.ns p hp).2⟩, h.ap⟩
theorem OwnEs.fr0 {w w' : World} {base n : Nat} {v : Value} {ps : List EntL} (h : OwnEs w base v n ps) (f : Fr No w w') : OwnEs w' base v n ps := h.off f (fun _ _ _ _ h => h) (fun _ _ _ _ h => h)
theorem OwnEs.lower {w : World} {base b2 n : Nat} {v : Value} {ps : List EntL} (h : OwnEs w base v n ps) (hb : b2 ≤ base) : OwnEs w b2 v n ps := ⟨h.row.lower hb, fun p hp => ⟨(h.ns p hp).1.lower hb, (h.ns p hp).2⟩, h.ap⟩
theorem OwnEs.nil (w : World) (base : Nat) : OwnEs w base (.slice none 0 0) 0 [] := ⟨Own.nil _ _ _ _, (fun p hp => by cases hp), List.Pairwise.nil⟩
/-- one more: its numbers lie above all that lay before. -/
theorem OwnEs.snoc {w0 w1 w2 : World} {base n : Nat} {v v2 : Value} {ps : List EntL} {p : EntL} (h0 : OwnEs w0 base v n ps) (h : OwnEs w1 base v n ps) (hp : OwnN w1 w0.heap.size p) (hb : base ≤ w0.heap.size) (f : Fr (fun k => v.ownBlock = some k) w1 w2) (ho : Own w2 base 109 3 v2 (n + 1) (eFlat ps ++ eRow p)) : OwnEs w2 base v2 (n + 1) (ps ++ [p]) := by
  have ho2 : Off (fun k => v.ownBlock = some k) w1 2 := off_own h.row (by decide)
  refine ⟨by rw [eFlat_snoc]; exact ho, ?_, ?_⟩
  · intro q hq
    rcases List.mem_append.1 hq with hq | hq
    · exact ⟨(h.ns q hq).1.off f ho2, (h.ns q hq).2⟩
    · rw [List.mem_singleton.1 hq]
      exact ⟨(hp.1.lower hb).off f ho2, hp.2⟩
  · rw [List.pairwise_append]
    refine ⟨h.ap, List.pairwise_singleton _ _, ?_⟩
    intro q hq r hr k hk hk2
    rw [List.mem_singleton.1 hr] at hk2
    have h1 := ((h0.ns q hq).1.lt k hk).2
    have h2 := (hp.1.lt k hk2).1
    omega
def OwnE (w : World) (base : Nat) (A : Option Addr) (c : Nat) (l : List EntV) : Prop := ∃ ps : List EntL, ps.map (·.1) = l ∧ OwnEs w base (.slice A l.length c) l.length ps
theorem OwnE.off {S : Nat → Prop} {w w' : World} {base c : Nat} {A : Option Addr} {l : List EntV} (h : OwnE w base A c l) (f : Fr S w w') (h1 : Off S w 109) (h2 : Off S w 2) : OwnE w' base A c l := by
  obtain ⟨ps, q1, q2⟩ := h
  exact ⟨ps, q1, q2.off f h1 h2⟩
theorem OwnE.fr0 {w w' : World} {base c : Nat} {A : Option Addr} {l : List EntV} (h : OwnE w base A c l) (f : Fr No w w') : OwnE w' base A c l := h.off f (fun _ _ _ _ h => h) (fun _ _ _ _ h => h)
theorem OwnE.lower {w : World} {base b2 c : Nat} {A : Option Addr} {l : List EntV} (h : OwnE w base A c l) (hb : b2 ≤ base) : OwnE w b2 A c l := by
  obtain ⟨ps, q1, q2⟩ := h
  exact ⟨ps, q1, q2.lower hb⟩

/-! The loop over a chunk's documents. -/
def chainC : List PanicEntry := [{ v := .iface 111 (.agg #[]), recovered := false }]
structure DocX where
  i : Nat
  A : Option Addr
  c : Nat
  d : List EntV
def encX (x : DocX) : Array Value := #[.int .i64 (x.i : Nat), .slice x.A x.d.length x.c]
/-- what the loop's body may write: documents' rows. -/
def DocT (w : World) : Nat → Prop := fun k => ∀ cs t fz, w.heap[k]? = some (.cells cs t fz) → t = 57 ∨ t = 71
def KpE (w w' : World) : Prop := Fr (DocT w) w w'
theorem DocT.off {w : World} {t : TypeId} (h1 : t ≠ 57) (h2 : t ≠ 71) : Off (DocT w) w t := fun k cs fz hk hd => (hd cs t fz hk).elim h1 h2
theorem KpE.t {a b c : World} (h : KpE a b) (k : KpE b c) : KpE a c := by
  refine ⟨k.os.trans h.os, k.tape.trans h.tape, k.output.trans h.output, Nat.le_trans h.size k.size, fun i hi hs => ?_⟩
  have h1 := h.block i hi hs
  refine (k.block i (Nat.lt_of_lt_of_le hi h.size) (fun hd => hs ?_)).trans h1
  intro cs t fz hk
  exact hd cs t fz (h1.trans hk)
theorem KpE.b (W : World) (l : Nat) (o o' : Obj) (h : W.heap[l]? = some o) (ho : o.isCells = false) : KpE W (W.putObj l o') :=
  (Fr.of_grown (grownBy_putObj' W l o')).mono (fun i _ e => by
    have e : l = i := Option.some.inj e
    subst e
    intro cs t fz hk
    rw [h] at hk
    injection hk with hk
    subst hk
    cases ho)
def IdxOk (f : Nat) (pre : List DocX) : Prop := ∀ j x, pre[j]? = some x → x.i = f + j
theorem IdxOk.snoc {f : Nat} {pre : List DocX} {x : DocX} (h : IdxOk f pre) (hx : x.i = f + pre.length) : IdxOk f (pre ++ [x]) := by
  intro j y hy
  by_cases hj : j < pre.length
  · rw [List.getElem?_append_left hj] at hy
    exact h j y hy
  · rw [List.getElem?_append_right (by omega)] at hy
    obtain ⟨h1, h2⟩ := List.getElem?_eq_some_iff.1 hy
    have h1 : j - pre.length < 1 := h1
    have e : j = pre.length := by omega
    subst e
    simp at h2
    subst h2
    exact hx
def DocsPre (bs : List UInt8) (f : Nat) (pre : List DocX) : Prop := IdxOk f pre ∧ ∃ b, docsS bs pre.length 0 = some (pre.map (·.d), b)
def DocsAll (bs : List UInt8) (f k : Nat) (xs : List DocX) : Prop := IdxOk f xs ∧ chunkOk bs k (xs.map (·.d))
end Go.Proofs.Ytpnhnnhocekchaa
