/- Several texts in one: PoItL, PoItN, PoItD, PoItA, PoItV, PoInj, PoItC, Kit8. -/
import Derived.Test.YthlbfnoahdjdeaaK16
import Derived.Deep.RegionHeld3
import Derived.Deep.DeepCutAuto
namespace Go.Proofs.Ythlbfnoahdjdeaa
set_option linter.unusedVariables false
set_option linter.unusedSimpArgs false
open Go.RowKit

theorem Own.adT {w : World} {base e size n c : Nat} {ad : Addr} {xs : List Value} (h : Own w base e size (.slice (some ad) n c) n xs) : ∃ cs fz, w.heap[ad.block]? = some (.cells cs e fz) := by
  obtain ⟨_, A, c2, e1, _, _, hA⟩ := h
  rcases hA with ⟨rfl, _⟩ | ⟨g, cur, rfl, _, hh, _⟩
  · cases e1
  · injection e1 with e1 _ _
    injection e1 with e1
    subst e1
    exact ⟨_, _, hh⟩
theorem it_put0 {w : World} {X : Nat} {a b c d : Value} (h : w.heap[X]? = some (.cells #[a, b, c, d] 97 (0, 0))) (v : Value) : (w.setCell ⟨X, 0, none⟩ v).heap[X]? = some (.cells #[v, b, c, d] 97 (0, 0)) := by
  have := heap_setCell_same w X 0 _ _ v h
  simpa using this
theorem it_put1 {w : World} {X : Nat} {a b c d : Value} (h : w.heap[X]? = some (.cells #[a, b, c, d] 97 (0, 0))) (v : Value) : (w.setCell ⟨X, 1, none⟩ v).heap[X]? = some (.cells #[a, v, c, d] 97 (0, 0)) := by
  have := heap_setCell_same w X 1 _ _ v h
  simpa using this
theorem it_put3 {w : World} {X : Nat} {a b c d : Value} (h : w.heap[X]? = some (.cells #[a, b, c, d] 97 (0, 0))) (v : Value) : (w.setCell ⟨X, 3, none⟩ v).heap[X]? = some (.cells #[a, b, c, v] 97 (0, 0)) := by
  have := heap_setCell_same w X 3 _ _ v h
  simpa using this
def LoadQ (w : World) (base X : Nat) (lv : Value) (l : List Po) (s : ItS) (en : Ending) (w' : World) : Prop :=
  Fr (Is X) w w' ∧ en = .returned (.bool (itOn s)) ∧ ItM w' base X lv l s
theorem ItM.done {w w' : World} {base X : Nat} {lv : Value} {l : List Po} (h : w'.heap[X]? = some (.cells #[.slice none 0 0, .int .i64 0, lv, .int .i64 1073741824] 97 (0, 0))) (hX : base ≤ X) : ItM w' base X lv l .done :=
  ⟨⟨_, [], h, OwnPs.nil _ _, rfl⟩, hX, fun i hi => by cases hi⟩

set_option maxRecDepth 100000 in
set_option maxHeartbeats 1600000 in
theorem load_nil (base X j : Nat) (pv : Value) (a : Int) (w : World) (q : w.heap[X]? = some (.cells #[pv, .int .i64 a, .pointer none, .int .i64 (j : Nat)] 97 (0, 0))) (hX : base ≤ X) :
    Calls Try.prog 57 #[.pointer (some ⟨X, 0, none⟩)] w (LoadQ w base X (.pointer none) [] .done) := by
  have c0 : w.cell? ⟨X, 0, none⟩ = some pv := cell_of_row _ _ 0 _ _ _ q
  have z0 : w.frozen? ⟨X, 0, none⟩ = false := frozen_of_row _ _ _ _ _ q
  have c1 : w.cell? ⟨X, 1, none⟩ = some (.int .i64 a) := cell_of_row _ _ 1 _ _ _ q
  have z1 : w.frozen? ⟨X, 1, none⟩ = false := frozen_of_row _ _ _ _ _ q
  have c2 : w.cell? ⟨X, 2, none⟩ = some (.pointer none) := cell_of_row _ _ 2 _ _ _ q
  have c3 : w.cell? ⟨X, 3, none⟩ = some (.int .i64 (j : Nat)) := cell_of_row _ _ 3 _ _ _ q
  have z3 : w.frozen? ⟨X, 3, none⟩ = false := frozen_of_row _ _ _ _ _ q
  have HQ := hide q
  have HX := hide hX
  clear q hX
  go_enter Try.func57, Try.ntmps57
  go_wp2
  go_quiet (fail)
  go_wp2
  go_ret
  refine ⟨(((((Fr.refl (Is X) w).drewN _).put 0 _).put 1 _).put 3 _), rfl, ItM.done (w := w) ?_ HX.out⟩
  have h1 := heap_setCell_same (w.drewN nq) X 0 _ _ (.slice none 0 0) HQ.out
  have h2 := heap_setCell_same _ X 1 _ _ (.int .i64 0) h1
  have h3 := heap_setCell_same _ X 3 _ _ (.int .i64 1073741824) h2
  simpa using h3

set_option maxRecDepth 100000 in
set_option maxHeartbeats 4000000 in
theorem load_any (base B X G n j : Nat) (pv : Value) (a : Int) (l : List Po) (w : World) (q : w.heap[X]? = some (.cells #[pv, .int .i64 a, .pointer (some ⟨G, 0, none⟩), .int .i64 (j : Nat)] 97 (0, 0))) (hX : base ≤ X) (hXw : base ≤ w.heap.size)
    (h : LstM w B G (bksOf l (nbP l.length)) n) (hR : rightP l) (hj : j ≤ 1073741824) :
    Calls Try.prog 57 #[.pointer (some ⟨X, 0, none⟩)] w (LoadQ w base X (.pointer (some ⟨G, 0, none⟩)) l (ldS l j)) := by
  obtain ⟨v, bs, q1, q2, q3⟩ := h.ex
  obtain ⟨nb, hnb⟩ : ∃ nb, bs.length = nb := ⟨_, rfl⟩
  have hnl : nb = nbP l.length := by rw [← hnb, ← List.length_map (f := (·.1)), q2, bksOf_len]
  have hrow := q3.row
  rw [hnb] at hrow
  obtain ⟨A, c, rfl, o1, o2, _, _, _⟩ := hrow.form
  have k0 : w.cell? ⟨G, 0, none⟩ = some (.slice A nb c) := cell_of_row _ _ 0 _ _ _ q1
  have h16 := right_16 hR
  have hnb2 : nb ≤ 2048 := by rw [hnl]; unfold nbP; omega
  have c0 : w.cell? ⟨X, 0, none⟩ = some pv := cell_of_row _ _ 0 _ _ _ q
  have z0 : w.frozen? ⟨X, 0, none⟩ = false := frozen_of_row _ _ _ _ _ q
  have c1 : w.cell? ⟨X, 1, none⟩ = some (.int .i64 a) := cell_of_row _ _ 1 _ _ _ q
  have z1 : w.frozen? ⟨X, 1, none⟩ = false := frozen_of_row _ _ _ _ _ q
  have c2 : w.cell? ⟨X, 2, none⟩ = some (.pointer (some ⟨G, 0, none⟩)) := cell_of_row _ _ 2 _ _ _ q
  have c3 : w.cell? ⟨X, 3, none⟩ = some (.int .i64 (j : Nat)) := cell_of_row _ _ 3 _ _ _ q
  have z3 : w.frozen? ⟨X, 3, none⟩ = false := frozen_of_row _ _ _ _ _ q
  have HQ := hide q
  have HX := hide hX
  have HXw := hide hXw
  have HR := hide hR
  have HNl := hide hnl
  have HNb := hide hnb
  have HM := hide q2
  have HB := hide q3
  have HQG := hide q1
  have HXG : Hid (¬ Is X G) := hide (fun e => by
    have e : G = X := e
    rw [e, q] at q1
    injection q1 with q1
    injection q1 with _ q1 _
    revert q1
    decide)
  unfold maxLen at o2
  clear q q1 q2 q3 h hR hX hrow
  by_cases hlt : j < nb
  · have d1 : decide ((nb : Int) ≤ (j : Int)) = false := decide_eq_false (by omega)
    have d2 : decide ((j : Int) < (nb : Int)) = true := decide_eq_true (by omega)
    have hib : j < bs.length := by rw [hnb]; exact hlt
    have hp : bs[j]? = some bs[j] := List.getElem?_eq_getElem hib
    have hpe : bs[j].1 = bk1 l j := by
      have h1 : (bs.map (·.1))[j]? = some bs[j].1 := by rw [List.getElem?_map, hp]; rfl
      rw [HM.out, bksOf, List.getElem?_map, List.getElem?_range (by rw [← hnl]; exact hlt)] at h1
      injection h1 with h1
      exact h1.symm
    have hB := HB.out
    rw [← hnb] at hB
    obtain ⟨ad, rfl, e0, e1, e2, e3, f1, f2, hrd⟩ := hB.at hp
    have HXA : Hid (¬ Is X (ad.add (j * 4)).block) := hide (fun e => by
      have e : (ad.add (j * 4)).block = X := e
      rw [block_of_add] at e
      obtain ⟨cs, fz, hh⟩ := hB.row.adT
      rw [e, HQ.out] at hh
      injection hh with hh
      injection hh with _ hh _
      revert hh
      decide)
    generalize bs[j] = p at hp hpe e0 e1 e2 e3 f1 f2 hrd
    obtain ⟨⟨row, ah, la, kk⟩, Ak, ck⟩ := p
    dsimp only at hpe e0 e1 e2 e3 f1 f2 hrd
    unfold bk1 at hpe
    injection hpe with g1 hpe
    injection hpe with g2 hpe
    injection hpe with g3 g4
    have hjn : 8 * j < l.length := by unfold nbP at hnl; omega
    have hk8 : kk ≤ 8 := by omega
    have hah := right_last (rightP_take HR.out (8 * j))
    have hah2 : -1 ≤ ah ∧ ah ≤ 1099511627776 := by rw [g2]; unfold aheadPo; omega
    have hrl : row.length ≤ 9000000 := by rw [g1]; exact rowsB_le (right_row HR.out j)
    have HGood : Hid (GoodB ah (blkPo l j) kk ∧ row = rowsB ah (blkPo l j)) := hide ⟨by rw [g2, g4]; exact good_of HR.out hjn, by rw [g1, g2]⟩
    obtain ⟨r, hr⟩ : ∃ r, row.length = r := ⟨_, rfl⟩
    rw [hr] at e0 f1 hrl
    have HPo := hide (fun W (f : Fr No w W) => posts_any Ak r ck w.heap.size row ah la kk W hr f1 f2 (by omega) f.size (hrd.fr0 f) hk8 hah2)
    unfold maxLen at f2
    have i0 : (0 : Int) ≤ (j : Int) := by omega
    have i1 : (j : Int) < (nb : Int) := by omega
    have hl1 : ldS l j = .here (8 * j) := if_pos (by rw [← hnl]; exact hlt)
    rw [hl1]
    have HJn := hide hjn
    clear hib hp hB hrd g1 g2 g3 g4 hah hr hnb hnl hl1 hjn
    go_enter Try.func57, Try.ntmps57
    go_wp2_with (fail)
    go_quiet (fail)
    go_wp2_with (fail)
    have HK0 : Hid ((w.drewN nq).drew.cell? ⟨X, 2, none⟩ = some (.pointer (some ⟨G, 0, none⟩)) ∧ (w.drewN nq).drew.cell? ⟨X, 3, none⟩ = some (.int .i64 (j : Nat)) ∧ (w.drewN nq).drew.cell? ⟨G, 0, none⟩ = some (.slice (some ad) nb c) ∧ (w.drewN nq).drew.cell? (ad.add (j * 4)) = some (.slice Ak r ck) ∧ (w.drewN nq).drew.cell? ⟨(ad.add (j * 4)).block, (ad.add (j * 4)).off + 1, none⟩ = some (.int .i64 ah) ∧ (w.drewN nq).drew.cell? ⟨(ad.add (j * 4)).block, (ad.add (j * 4)).off + 2, none⟩ = some (.int .i64 la) ∧ (w.drewN nq).drew.cell? ⟨(ad.add (j * 4)).block, (ad.add (j * 4)).off + 3, none⟩ = some (.int .i64 (kk : Nat))) := hide ⟨c2, c3, k0, e0, e1, e2, e3⟩
    have HCs := hide (And.intro c2 (And.intro c3 (And.intro k0 (And.intro e0 (And.intro e1 (And.intro e2 e3))))))
    have HAd : Hid (∀ W, Fr (Is X) w W → W.cell? (ad.add (j * 4)) = some (.slice Ak r ck) ∧ W.cell? ⟨(ad.add (j * 4)).block, (ad.add (j * 4)).off + 1, none⟩ = some (.int .i64 ah) ∧ W.cell? ⟨(ad.add (j * 4)).block, (ad.add (j * 4)).off + 2, none⟩ = some (.int .i64 la) ∧ W.cell? ⟨(ad.add (j * 4)).block, (ad.add (j * 4)).off + 3, none⟩ = some (.int .i64 (kk : Nat))) := hide (fun W f => by
      have hb : ¬ Is X (ad.add (j * 4)).block := HXA.out
      exact ⟨f.cell e0 hb, f.cell e1 hb, f.cell e2 hb, f.cell e3 hb⟩)
    go_region_held3 (fun W => W.cell? ⟨X, 2, none⟩ = some (.pointer (some ⟨G, 0, none⟩)) ∧ W.cell? ⟨X, 3, none⟩ = some (.int .i64 (j : Nat)) ∧ W.cell? ⟨G, 0, none⟩ = some (.slice (some ad) nb c) ∧ W.cell? (ad.add (j * 4)) = some (.slice Ak r ck) ∧ W.cell? ⟨(ad.add (j * 4)).block, (ad.add (j * 4)).off + 1, none⟩ = some (.int .i64 ah) ∧ W.cell? ⟨(ad.add (j * 4)).block, (ad.add (j * 4)).off + 2, none⟩ = some (.int .i64 la) ∧ W.cell? ⟨(ad.add (j * 4)).block, (ad.add (j * 4)).off + 3, none⟩ = some (.int .i64 (kk : Nat))) (first | exact HK0.out | exact HK8.out | exact HK9.out) (first
      | (go_at_call 52; refine (HPo.out _ ((Fr.refl No w).drewN nq).drew).mono ?_; rintro en w8 ⟨hfr, v8, ps8, ok, rfl, hps, hgood, hlen⟩; obtain ⟨A8, c8, rfl, -⟩ := hps.row.form; have HF8 : Hid (Fr No w w8) := hide ((((Fr.refl No w).drewN nq).drew).tr hfr); have HPs8 := hide (hps.lower (show base ≤ _ from HXw.out)); have HPl8 : Hid (ps8.map (·.1) = blkPo l j) := hide (hgood _ HGood.out.1 HGood.out.2).1; have h8 := HF8.out.blk HQ.out (fun h => h); have HQ8 := hide h8; have HK8 := hide (p := _ ∧ _ ∧ _ ∧ _ ∧ _ ∧ _ ∧ _) ⟨HF8.out.cell HCs.out.1 (fun h => h), HF8.out.cell HCs.out.2.1 (fun h => h), HF8.out.cell HCs.out.2.2.1 (fun h => h), HF8.out.cell HCs.out.2.2.2.1 (fun h => h), HF8.out.cell HCs.out.2.2.2.2.1 (fun h => h), HF8.out.cell HCs.out.2.2.2.2.2.1 (fun h => h), HF8.out.cell HCs.out.2.2.2.2.2.2 (fun h => h)⟩; have h9 := it_put0 h8 (.slice A8 ps8.length c8); have f9 : Fr (Is X) w (w8.setCell ⟨X, 0, none⟩ (.slice A8 ps8.length c8)) := ((HF8.out.any (Is X)).put 0 _); have HK9 := hide (p := _ ∧ _ ∧ _ ∧ _ ∧ _ ∧ _ ∧ _) ⟨cell_of_row _ _ 2 _ _ _ h9, cell_of_row _ _ 3 _ _ _ h9, f9.cell HCs.out.2.2.1 HXG.out, HAd.out _ f9⟩; have x0 : w8.cell? ⟨X, 0, none⟩ = some pv := cell_of_row _ _ 0 _ _ _ h8; have x0z : w8.frozen? ⟨X, 0, none⟩ = false := frozen_of_row _ _ _ _ _ h8; have x1 : w8.cell? ⟨X, 1, none⟩ = some (.int .i64 a) := cell_of_row _ _ 1 _ _ _ h8; have x1z : w8.frozen? ⟨X, 1, none⟩ = false := frozen_of_row _ _ _ _ _ h8; have x3 : w8.cell? ⟨X, 3, none⟩ = some (.int .i64 (j : Nat)) := cell_of_row _ _ 3 _ _ _ h8; have x3z : w8.frozen? ⟨X, 3, none⟩ = false := frozen_of_row _ _ _ _ _ h8; clear hfr hps hgood hlen h8 h9 f9))
    go_wp2_with (fail)
    go_ret
    have hq := it_put3 (it_put1 (it_put0 HQ8.out (.slice A8 ps8.length c8)) (.int .i64 0)) (.int .i64 ((j : Int) + 1))
    have hf : Fr (Is X) w8 (((w8.setCell ⟨X, 0, none⟩ (.slice A8 ps8.length c8)).setCell ⟨X, 1, none⟩ (.int .i64 0)).setCell ⟨X, 3, none⟩ (.int .i64 ((j : Int) + 1))) := (((Fr.refl (Is X) w8).put 0 _).put 1 _).put 3 _
    refine ⟨(HF8.out.any _).ts hf, rfl, ⟨⟨_, ps8, ?_, HPs8.out.off hf (off_is HQ8.out (by decide)) (off_is HQ8.out (by decide)), ?_⟩, HX.out, fun i hi => by cases hi; exact HJn.out⟩⟩
    · rw [hq]
      simp only [itAt, itNx]
      rw [show 8 * j % 8 = 0 by omega, show 8 * j / 8 = j by omega]
      rfl
    · rw [HPl8.out, itPs, show 8 * j / 8 = j by omega]
  · have d1 : decide ((nb : Int) ≤ (j : Int)) = true := decide_eq_true (by omega)
    have d1b : decide (nb ≤ j) = true := decide_eq_true (by omega)
    have hl1 : ldS l j = .done := if_neg (by rw [← hnl]; exact hlt)
    rw [hl1]
    clear hnb hnl hl1 hlt
    go_enter Try.func57, Try.ntmps57
    go_wp2_with (fail)
    go_quiet (fail)
    go_wp2_with (fail)
    go_ret
    refine ⟨(((((Fr.refl (Is X) w).drewN _).put 0 _).put 1 _).put 3 _), rfl, ItM.done (w := w) ?_ HX.out⟩
    have h1 := heap_setCell_same (w.drewN nq) X 0 _ _ (.slice none 0 0) HQ.out
    have h2 := heap_setCell_same _ X 1 _ _ (.int .i64 0) h1
    have h3 := heap_setCell_same _ X 3 _ _ (.int .i64 1073741824) h2
    simpa using h3
end Go.Proofs.Ythlbfnoahdjdeaa
namespace Go.Proofs.Ythlbfnoahdjdeaa
set_option linter.unusedVariables false
set_option linter.unusedSimpArgs false
open Go.RowKit

/-- a list or none. -/
def LvM (w : World) (B : Nat) (lv : Value) (l : List Po) : Prop := (lv = .pointer none ∧ l = []) ∨ ∃ G n, lv = .pointer (some ⟨G, 0, none⟩) ∧ LstM w B G (bksOf l (nbP l.length)) n
theorem LvM.fr0 {w w' : World} {B : Nat} {lv : Value} {l : List Po} (h : LvM w B lv l) (f : Fr No w w') : LvM w' B lv l := by
  rcases h with h | ⟨G, n, h1, h2⟩
  · exact .inl h
  · exact .inr ⟨G, n, h1, h2.fr0 f⟩
theorem LvM.off {S : Nat → Prop} {w w' : World} {B : Nat} {lv : Value} {l : List Po} (h : LvM w B lv l) (f : Fr S w w') (h0 : Off S w 87) (h1 : Off S w 90) (h2 : Off S w 5) : LvM w' B lv l := by
  rcases h with h | ⟨G, n, h3, h4⟩
  · exact .inl h
  · obtain ⟨v, bs, q1, _⟩ := h4.ex
    exact .inr ⟨G, n, h3, h4.off f (h0 _ _ _ q1) h1 h2⟩
theorem ItM.off {S : Nat → Prop} {w w' : World} {base X : Nat} {lv : Value} {l : List Po} {s : ItS} (h : ItM w base X lv l s) (f : Fr S w w') (h0 : ¬ S X) (h1 : Off S w 58) (h2 : Off S w 3) : ItM w' base X lv l s := by
  obtain ⟨pv, ps, q, hp, hm⟩ := h.ex
  exact ⟨⟨pv, ps, f.blk q h0, hp.off f h1 h2, hm⟩, h.lo, h.ok⟩
theorem ItM.fr0 {w w' : World} {base X : Nat} {lv : Value} {l : List Po} {s : ItS} (h : ItM w base X lv l s) (f : Fr No w w') : ItM w' base X lv l s := h.off f (fun h => h) (fun _ _ _ _ h => h) (fun _ _ _ _ h => h)
theorem ItM.row {w : World} {base X : Nat} {lv : Value} {l : List Po} {s : ItS} (h : ItM w base X lv l s) : ∃ cs, w.heap[X]? = some (.cells cs 97 (0, 0)) := by
  obtain ⟨pv, ps, q, hp, hm⟩ := h.ex
  exact ⟨_, q⟩
/-- a walk's own write leaves lists and other walks. -/
theorem ItM.offIs {w : World} {base X : Nat} {lv : Value} {l : List Po} {s : ItS} (h : ItM w base X lv l s) {T : TypeId} (hT : T ≠ 97) : Off (Is X) w T := by
  obtain ⟨cs, q⟩ := h.row
  exact off_is q hT
theorem load_lv (base B X j : Nat) (pv lv : Value) (a : Int) (l : List Po) (w : World) (q : w.heap[X]? = some (.cells #[pv, .int .i64 a, lv, .int .i64 (j : Nat)] 97 (0, 0))) (hX : base ≤ X)
    (h : LvM w B lv l) (hR : rightP l) (hj : j ≤ 1073741824) :
    Calls Try.prog 57 #[.pointer (some ⟨X, 0, none⟩)] w (LoadQ w base X lv l (ldS l j)) := by
  have hXw := (Array.getElem?_eq_some_iff.1 q).1
  rcases h with ⟨rfl, rfl⟩ | ⟨G, n, rfl, h⟩
  · exact load_nil base X j pv a w q hX
  · exact load_any base B X G n j pv a l w q hX (by omega) h hR hj

set_option maxRecDepth 100000 in
set_option maxHeartbeats 1600000 in
theorem next_nil (w : World) : Calls Try.prog 19 #[.pointer none] w (Ret (.bool false) w) := by
  go_enter Try.func19, Try.ntmps19
  go_wp2
  go_ret
  exact ⟨rfl, rfl⟩
theorem nx_ld {l : List Po} {i : Nat} (hi : i < l.length) (h : ¬ i % 8 + 1 < (blkPo l (i / 8)).length) : ldS l (i / 8 + 1) = nxS l (.here i) := by
  rw [blkPo_len] at h
  rw [ldS_eq, nxS]
  by_cases e : i % 8 = 7
  · rw [show 8 * (i / 8 + 1) = i + 1 by omega]
  · rw [stS_past (by omega), stS_past (by omega)]
theorem nx_in {l : List Po} {i : Nat} (h : i % 8 + 1 < (blkPo l (i / 8)).length) : i + 1 < l.length ∧ (i + 1) / 8 = i / 8 ∧ (i + 1) % 8 = i % 8 + 1 := by
  rw [blkPo_len] at h
  omega

set_option maxRecDepth 100000 in
set_option maxHeartbeats 1600000 in
theorem next_any (base B X : Nat) (lv : Value) (l : List Po) (s : ItS) (w : World) (h : ItM w base X lv l s) (hL : LvM w B lv l) (hR : rightP l) :
    Calls Try.prog 19 #[.pointer (some ⟨X, 0, none⟩)] w (LoadQ w base X lv l (nxS l s)) := by
  have HH := hide (fun q => here_any base X lv l s (w.drewN q) (h.fr0 ((Fr.refl No w).drewN q)))
  obtain ⟨pv, ps, hq, hp, hm⟩ := h.ex
  have hlo := h.lo
  have hok := h.ok
  have HP := hide hp
  have HMp := hide hm
  have HQ := hide hq
  cases s with
  | start =>
    simp only [itOn] at HH
    have HLd := hide (fun q => load_lv base B X 0 pv lv (-1) l (w.drewN q) hq hlo (hL.fr0 ((Fr.refl No w).drewN q)) hR (by omega))
    rw [show ldS l 0 = nxS l .start from ldS_eq l 0] at HLd
    clear hq hp hm hL hR hok hlo h
    go_enter Try.func19, Try.ntmps19
    go_wp2_with (fail)
    go_quiet ((go_at_call 56; exact Calls.quiet_of (HH.out _)))
    go_wp2_with (fail)
    refine (HLd.out _).mono ?_
    rintro en w2 ⟨hfr, rfl, hit⟩
    have HFr : Hid (Fr (Is X) w w2) := hide (Fr.of_drewN hfr)
    have HIt := hide hit
    clear hfr hit
    go_wp2_with (fail)
    go_ret
    exact ⟨HFr.out, rfl, HIt.out⟩
  | done =>
    simp only [itOn] at HH
    have HLd := hide (fun q => load_lv base B X 1073741824 pv lv 0 l (w.drewN q) hq hlo (hL.fr0 ((Fr.refl No w).drewN q)) hR (by omega))
    rw [show ldS l 1073741824 = nxS l .done from if_neg (by have := right_16 hR; unfold nbP; omega)] at HLd
    clear hq hp hm hL hR hok hlo h
    go_enter Try.func19, Try.ntmps19
    go_wp2_with (fail)
    go_quiet ((go_at_call 56; exact Calls.quiet_of (HH.out _)))
    go_wp2_with (fail)
    refine (HLd.out _).mono ?_
    rintro en w2 ⟨hfr, rfl, hit⟩
    have HFr : Hid (Fr (Is X) w w2) := hide (Fr.of_drewN hfr)
    have HIt := hide hit
    clear hfr hit
    go_wp2_with (fail)
    go_ret
    exact ⟨HFr.out, rfl, HIt.out⟩
  | here i =>
    simp only [itOn] at HH
    have hil := hok i rfl
    obtain ⟨m, hm2⟩ : ∃ m, (blkPo l (i / 8)).length = m := ⟨_, rfl⟩
    have hpl : ps.length = m := by rw [← hm2, ← List.length_map (f := (·.1)), hm]; rfl
    have hm8 : m ≤ 8 := by rw [← hm2, blkPo_len]; omega
    obtain ⟨A, c, rfl, o1, o2, _, _, _⟩ := hp.row.form
    rw [hpl] at hq HQ o1
    simp only [itAt, itNx] at hq HQ
    obtain ⟨k, hk⟩ : ∃ k, i % 8 = k := ⟨_, rfl⟩
    rw [hk] at hq HQ
    have c0 : w.cell? ⟨X, 0, none⟩ = some (.slice A m c) := cell_of_row _ _ 0 _ _ _ hq
    have c1 : w.cell? ⟨X, 1, none⟩ = some (.int .i64 (k : Nat)) := cell_of_row _ _ 1 _ _ _ hq
    have z1 : w.frozen? ⟨X, 1, none⟩ = false := frozen_of_row _ _ _ _ _ hq
    have hk8 : k ≤ 8 := by omega
    have HPl := hide hpl
    by_cases hlt : k + 1 < m
    · obtain ⟨n1, n2, n3⟩ := nx_in (l := l) (i := i) (by rw [hk, hm2]; exact hlt)
      have HN := hide (And.intro n1 (And.intro n2 n3))
      have HK := hide hk
      have d1 : decide (((k : Int) + 1) < (m : Int)) = true := decide_eq_true (by omega)
      have d1b : decide (k + 1 < m) = true := decide_eq_true hlt
      have HLo := hide hlo
      clear hp hm hL hR hok hlo h hm2 hpl hk hil o1 o2 hlt n1 n2 n3 hq
      go_enter Try.func19, Try.ntmps19
      go_wp2_with (fail)
      go_quiet ((go_at_call 56; exact Calls.quiet_of (HH.out _)))
      go_wp2_with (fail)
      go_ret
      have e : nxS l (.here i) = .here (i + 1) := stS_in HN.out.1
      rw [e]
      have f9 : Fr (Is X) w ((w.drewN nq).setCell ⟨X, 1, none⟩ (.int .i64 ((k : Int) + 1))) := ((Fr.refl (Is X) w).drewN nq).put 1 _
      refine ⟨by simpa using f9, rfl, ⟨⟨.slice A m c, ps, ?_, by rw [← HPl.out]; exact HP.out.off (by simpa using f9) (off_is HQ.out (by decide)) (off_is HQ.out (by decide)), ?_⟩, HLo.out, fun j hj => by cases hj; exact HN.out.1⟩⟩
      · have h1 := heap_setCell_same (w.drewN nq) X 1 _ _ (.int .i64 ((k : Int) + 1)) HQ.out
        simp only [itAt, itNx]
        rw [HN.out.2.1, HN.out.2.2, HK.out]
        simpa using h1
      · rw [HMp.out]
        simp only [itPs]
        rw [HN.out.2.1]
    · have HLd := hide (fun q => load_lv base B X (i / 8 + 1) _ lv k l (w.drewN q) hq hlo (hL.fr0 ((Fr.refl No w).drewN q)) hR (by have := right_16 hR; omega))
      rw [nx_ld hil (by rw [hk, hm2]; exact hlt)] at HLd
      have d1 : decide (((k : Int) + 1) < (m : Int)) = false := decide_eq_false (by omega)
      have d1b : decide (k + 1 < m) = false := decide_eq_false hlt
      clear hp hm hL hR hok hlo h hm2 hpl hk hil o1 o2 hlt hq
      go_enter Try.func19, Try.ntmps19
      go_wp2_with (fail)
      go_quiet ((go_at_call 56; exact Calls.quiet_of (HH.out _)))
      go_wp2_with (fail)
      refine (HLd.out _).mono ?_
      rintro en w2 ⟨hfr, rfl, hit⟩
      have HFr : Hid (Fr (Is X) w w2) := hide (Fr.of_drewN hfr)
      have HIt := hide hit
      clear hfr hit
      go_wp2_with (fail)
      go_ret
      exact ⟨HFr.out, rfl, HIt.out⟩
end Go.Proofs.Ythlbfnoahdjdeaa
namespace Go.Proofs.Ythlbfnoahdjdeaa
set_option linter.unusedVariables false
set_option linter.unusedSimpArgs false
open Go.RowKit

def docS (l : List Po) : ItS → Int
  | .start => -1
  | .here i => (l.getD i noPo).1
  | .done => 16384
def posnS (l : List Po) : ItS → List Int
  | .here i => (l.getD i noPo).2
  | _ => []
/-- the post at hand. -/
theorem ItM.post {w : World} {base X : Nat} {lv : Value} {l : List Po} {i : Nat} (h : ItM w base X lv l (.here i)) :
    ∃ (ad : Addr) (Ak : Option Addr) (m c ck k nk : Nat), i % 8 = k ∧ k < m ∧ m ≤ 8 ∧ m = (blkPo l (i / 8)).length ∧ w.cell? ⟨X, 0, none⟩ = some (.slice (some ad) m c) ∧ w.cell? ⟨X, 1, none⟩ = some (.int .i64 (k : Nat)) ∧ w.cell? (ad.add (k * 2)) = some (.int .i64 (l.getD i noPo).1) ∧
      w.cell? ⟨(ad.add (k * 2)).block, (ad.add (k * 2)).off + 1, none⟩ = some (.slice Ak nk ck) ∧ (l.getD i noPo).2.length = nk ∧ nk ≤ ck ∧ ck ≤ maxLen ∧ Rd w w.heap.size Ak (iz .i64 (l.getD i noPo).2) := by
  obtain ⟨A, m, c, ⟨c0, c1, c2, c3⟩, hn, h1, h2, hr⟩ := h.parts
  have hil := h.ok i rfl
  have h3 := it_len hil
  simp only [itAt, itPs] at c1 hn hr
  obtain ⟨ad, Ak, ck, rfl, _, p0, p1, p2, p3, p4⟩ := hr.at h3
  have e : (blkPo l (i / 8)).getD (i % 8) noPo = l.getD i noPo := by rw [blk_getD l (by omega), show 8 * (i / 8) + i % 8 = i by omega]
  rw [e] at p0 p1 p2 p4
  exact ⟨ad, Ak, m, c, ck, i % 8, _, rfl, by rw [hn]; exact h3, by rw [hn, blkPo_len]; omega, hn, c0, c1, p0, p1, rfl, p2, p3, p4⟩

set_option maxRecDepth 100000 in
set_option maxHeartbeats 1600000 in
theorem itDoc_nil (w : World) : Calls Try.prog 25 #[.pointer none] w (RetQ (.int .i64 16384) w) := by
  have HH : Hid (Calls Try.prog 56 #[.pointer none] w (RetQ (.bool false) w)) := hide (by
    go_enter Try.func56, Try.ntmps56
    go_wp2
    go_quiet (fail)
    go_wp2
    go_ret
    exact ⟨rfl, _, rfl⟩)
  go_enter Try.func25, Try.ntmps25
  go_wp2_with (fail)
  refine HH.out.mono ?_
  rintro en w2 ⟨rfl, q, rfl⟩
  go_wp2_with (fail)
  go_ret
  exact ⟨rfl, q, rfl⟩

set_option maxRecDepth 100000 in
set_option maxHeartbeats 1600000 in
theorem itDoc_any (base X : Nat) (lv : Value) (l : List Po) (s : ItS) (w : World) (h : ItM w base X lv l s) :
    Calls Try.prog 25 #[.pointer (some ⟨X, 0, none⟩)] w (RetQ (.int .i64 (docS l s)) w) := by
  have HH := hide (here_any base X lv l s w h)
  have HIt := hide h
  cases s with
  | start =>
    clear h
    go_enter Try.func25, Try.ntmps25
    go_wp2_with (fail)
    refine HH.out.mono ?_
    rintro en w2 ⟨rfl, q, rfl⟩
    obtain ⟨A, n, c, ⟨c0, c1, c2, c3⟩, _⟩ := (HIt.out.fr0 ((Fr.refl No w).drewN q)).parts
    simp only [itAt] at c1
    clear c0 c2 c3
    go_wp2_with (fail)
    go_ret
    exact ⟨rfl, q, rfl⟩
  | done =>
    clear h
    go_enter Try.func25, Try.ntmps25
    go_wp2_with (fail)
    refine HH.out.mono ?_
    rintro en w2 ⟨rfl, q, rfl⟩
    obtain ⟨A, n, c, ⟨c0, c1, c2, c3⟩, _⟩ := (HIt.out.fr0 ((Fr.refl No w).drewN q)).parts
    simp only [itAt] at c1
    clear c0 c2 c3
    go_wp2_with (fail)
    go_ret
    exact ⟨rfl, q, rfl⟩
  | here i =>
    clear h
    go_enter Try.func25, Try.ntmps25
    go_wp2_with (fail)
    refine HH.out.mono ?_
    rintro en w2 ⟨rfl, q, hw⟩
    have HW := hide hw
    have HI2 : Hid (ItM w2 base X lv l (.here i)) := hide (by rw [hw]; exact HIt.out.fr0 ((Fr.refl No w).drewN q))
    clear hw
    obtain ⟨ad, Ak, m, c, ck, k, nk, -, h1, h2, -, c0, c1, p0, -⟩ := HI2.out.post
    obtain ⟨x, hx⟩ : ∃ x, (l.getD i noPo).1 = x := ⟨_, rfl⟩
    rw [hx] at p0
    have i0 : (0 : Int) ≤ (k : Int) := by omega
    have i1 : (k : Int) < (m : Int) := by omega
    have HX := hide hx
    clear hx h1 h2
    go_wp2_with (fail)
    go_quiet (fail)
    go_wp2_with (fail)
    go_ret
    exact ⟨by simp only [docS]; rw [HX.out]; rfl, _, by rw [HW.out]; exact World.drewN_drewN _ _ _⟩

set_option maxRecDepth 100000 in
set_option maxHeartbeats 1600000 in
theorem itFreq_any (base X : Nat) (lv : Value) (l : List Po) (s : ItS) (w : World) (h : ItM w base X lv l s) :
    Calls Try.prog 27 #[.pointer (some ⟨X, 0, none⟩)] w (RetQ (.int .i64 ((posnS l s).length : Nat)) w) := by
  have HH := hide (here_any base X lv l s w h)
  have HIt := hide h
  cases s with
  | here i =>
    clear h
    go_enter Try.func27, Try.ntmps27
    go_wp2_with (fail)
    refine HH.out.mono ?_
    rintro en w2 ⟨rfl, q, hw⟩
    have HW := hide hw
    have HI2 : Hid (ItM w2 base X lv l (.here i)) := hide (by rw [hw]; exact HIt.out.fr0 ((Fr.refl No w).drewN q))
    clear hw
    obtain ⟨ad, Ak, m, c, ck, k, nk, -, h1, h2, -, c0, c1, p0, p1, hx, -⟩ := HI2.out.post
    have i0 : (0 : Int) ≤ (k : Int) := by omega
    have i1 : (k : Int) < (m : Int) := by omega
    have HX := hide hx
    clear hx h1 h2 p0
    go_wp2_with (fail)
    go_quiet (fail)
    go_wp2_with (fail)
    go_ret
    exact ⟨by simp only [posnS]; rw [HX.out]; rfl, _, by rw [HW.out]; exact World.drewN_drewN _ _ _⟩
  | start | done =>
    clear h
    go_enter Try.func27, Try.ntmps27
    go_wp2_with (fail)
    refine HH.out.mono ?_
    rintro en w2 ⟨rfl, q, rfl⟩
    go_wp2_with (fail)
    go_ret
    exact ⟨rfl, q, rfl⟩
end Go.Proofs.Ythlbfnoahdjdeaa
namespace Go.Proofs.Ythlbfnoahdjdeaa
set_option linter.unusedVariables false
set_option linter.unusedSimpArgs false
open Go.RowKit

def AdvQ (w : World) (base X : Nat) (lv : Value) (l : List Po) (d : Int) (s : ItS) (en : Ending) (w' : World) : Prop :=
  Fr (Is X) w w' ∧ ∃ k, IsF l d (posS l s) k ∧ en = .returned (.bool (decide (k < l.length))) ∧ ItM w' base X lv l (stS l k)
/-- the number in a cell. -/
def cellI (w : World) (X i : Nat) : Nat := match w.cell? ⟨X, i, none⟩ with
  | some v => (intOf v).toNat
  | none => 0
theorem cellI_of {w : World} {X i k : Nat} (h : w.cell? ⟨X, i, none⟩ = some (.int .i64 (k : Nat))) : cellI w X i = k := by
  unfold cellI
  rw [h]
  simp [intOf]
/-- must another block be loaded? -/
def goIn (l : List Po) (d : Int) : ItS → Bool
  | .here i => decide (lastD (l.take (8 * (i / 8 + 1))) < d)
  | _ => true
set_option maxRecDepth 100000 in
set_option maxHeartbeats 1600000 in
theorem adv_nil (d : Int) (w : World) : Calls Try.prog 21 #[.pointer none, .int .i64 d] w (Ret (.bool false) w) := by
  go_enter Try.func21, Try.ntmps21
  go_wp2
  go_ret
  exact ⟨rfl, rfl⟩
/-- the block's last post. -/
theorem ItM.lastPost {w : World} {base X : Nat} {lv : Value} {l : List Po} {i : Nat} (h : ItM w base X lv l (.here i)) :
    ∃ (ad : Addr) (m1 c : Nat), m1 < 8 ∧ w.cell? ⟨X, 0, none⟩ = some (.slice (some ad) (m1 + 1) c) ∧ w.cell? (ad.add (m1 * 2)) = some (.int .i64 (lastD (l.take (8 * (i / 8 + 1))))) := by
  obtain ⟨A, m, c, ⟨c0, c1, c2, c3⟩, hn, h1, h2, hr⟩ := h.parts
  have hil := h.ok i rfl
  have h3 := it_len hil
  simp only [itAt, itPs] at c1 hn hr
  have h4 := blkPo_len l (i / 8)
  obtain ⟨m1, hm1⟩ : ∃ m1, m = m1 + 1 := ⟨m - 1, by omega⟩
  subst hm1
  obtain ⟨ad, Ak, ck, rfl, _, p0, _⟩ := hr.at (k := m1) (by omega)
  have e : (blkPo l (i / 8)).getD m1 noPo = l.getD (8 * (i / 8) + m1) noPo := blk_getD l (by omega)
  rw [e] at p0
  refine ⟨ad, m1, c, by omega, c0, ?_⟩
  rw [blk_lastD (by omega), show min (8 * (i / 8) + 7) (l.length - 1) = 8 * (i / 8) + m1 by omega]
  exact p0
theorem ItM.step {w : World} {base X : Nat} {lv : Value} {l : List Po} {i k : Nat} (h : ItM w base X lv l (.here i)) (hin : i % 8 + 1 < (blkPo l (i / 8)).length) (hk : i % 8 = k) :
    ItM (w.setCell ⟨X, 1, none⟩ (.int .i64 ((k : Int) + 1))) base X lv l (.here (i + 1)) := by
  obtain ⟨n1, n2, n3⟩ := nx_in hin
  obtain ⟨pv, ps, q, hp, hm⟩ := h.ex
  have f9 : Fr (Is X) w (w.setCell ⟨X, 1, none⟩ (.int .i64 ((k : Int) + 1))) := (Fr.refl (Is X) w).put 1 _
  refine ⟨⟨pv, ps, ?_, hp.off f9 (off_is q (by decide)) (off_is q (by decide)), ?_⟩, h.lo, fun j hj => by cases hj; exact n1⟩
  · rw [it_put1 q]
    simp only [itAt, itNx]
    rw [n2, n3, hk]
    rfl
  · rw [hm]
    simp only [itPs]
    rw [n2]
end Go.Proofs.Ythlbfnoahdjdeaa
namespace Go.Proofs.Ythlbfnoahdjdeaa
set_option linter.unusedVariables false
set_option linter.unusedSimpArgs false
open Go.RowKit

theorem LstM.g0 {w : World} {B G n : Nat} {l : List Po} (h : LstM w B G (bksOf l (nbP l.length)) n) : ∃ A c, w.cell? ⟨G, 0, none⟩ = some (.slice A (nbP l.length) c) := by
  obtain ⟨v, bs, q1, q2, q3⟩ := h.ex
  obtain ⟨A, c, rfl, o1, o2, _, _, _⟩ := q3.row.form
  have hnl : bs.length = nbP l.length := by rw [← List.length_map (f := (·.1)), q2, bksOf_len]
  have k0 : w.cell? ⟨G, 0, none⟩ = some (.slice A bs.length c) := cell_of_row _ _ 0 _ _ _ q1
  rw [hnl] at k0
  exact ⟨A, c, k0⟩
theorem LstM.la {w : World} {B G n : Nat} {l : List Po} (h : LstM w B G (bksOf l (nbP l.length)) n) {j : Nat} (hj : j < nbP l.length) :
    ∃ ad c, w.cell? ⟨G, 0, none⟩ = some (.slice (some ad) (nbP l.length) c) ∧ w.cell? ⟨(ad.add (j * 4)).block, (ad.add (j * 4)).off + 2, none⟩ = some (.int .i64 (lastD (l.take (8 * (j + 1))))) := by
  obtain ⟨v, bs, q1, q2, q3⟩ := h.ex
  obtain ⟨A, c, rfl, o1, o2, _, _, _⟩ := q3.row.form
  have hnl : bs.length = nbP l.length := by rw [← List.length_map (f := (·.1)), q2, bksOf_len]
  have k0 : w.cell? ⟨G, 0, none⟩ = some (.slice A bs.length c) := cell_of_row _ _ 0 _ _ _ q1
  have hib : j < bs.length := by omega
  have hp : bs[j]? = some bs[j] := List.getElem?_eq_getElem hib
  have hpe : bs[j].1 = bk1 l j := by
    have h1 : (bs.map (·.1))[j]? = some bs[j].1 := by rw [List.getElem?_map, hp]; rfl
    rw [q2, bksOf, List.getElem?_map, List.getElem?_range hj] at h1
    injection h1 with h1
    exact h1.symm
  obtain ⟨ad, rfl, e0, e1, e2, e3, _⟩ := q3.at hp
  rw [hpe] at e2
  rw [hnl] at k0
  exact ⟨ad, c, k0, e2⟩
def nxN : ItS → Nat
  | .start => 0
  | .here i => i / 8 + 1
  | .done => 1073741824
theorem itNx_eq (s : ItS) : itNx s = (nxN s : Nat) := by cases s <;> rfl
def BelowD (l : List Po) (d : Int) (p j : Nat) : Prop := ∀ t, p ≤ t → t < j → t < l.length → (l.getD t noPo).1 < d
theorem below_go {l : List Po} (hR : rightP l) {d : Int} {s : ItS} (hok : ∀ i, s = .here i → i < l.length) (h : goIn l d s = true) : BelowD l d (posS l s) (8 * nxN s) := by
  intro t h1 h2 h3
  cases s with
  | start => simp [nxN] at h2
  | done => simp only [posS] at h1; omega
  | here i =>
    have hi := hok i rfl
    simp only [posS] at h1
    simp only [nxN] at h2
    simp only [goIn] at h
    exact blk_below hR (j := i / 8) (by omega) (of_decide_eq_true h) (by omega) h2 h3
theorem adv_more {l : List Po} {d : Int} {i : Nat} (hi : i < l.length) (h1 : (l.getD i noPo).1 < d) (h2 : d ≤ lastD (l.take (8 * (i / 8 + 1)))) : i % 8 + 1 < (blkPo l (i / 8)).length := by
  rw [blk_lastD (by omega)] at h2
  rw [blkPo_len]
  obtain ⟨m, hm⟩ : ∃ m, min (8 * (i / 8) + 7) (l.length - 1) = m := ⟨_, rfl⟩
  rw [hm] at h2
  by_cases e : i = m
  · subst e; omega
  · omega
theorem lastD_get {l : List Po} (hR : rightP l) {j : Nat} (hj : 8 * j < l.length) : True := trivial
/-- where Advance stands ahead of its second loop. -/
structure AdvM (w W : World) (base X : Nat) (lv : Value) (l : List Po) (d : Int) (p i : Nat) : Prop where
  it : ItM W base X lv l (.here i)
  fr : Fr (Is X) w W
  lo : p ≤ i
  lt : BelowD l d p i
  la : d ≤ lastD (l.take (8 * (i / 8 + 1)))

set_option maxRecDepth 100000 in
set_option maxHeartbeats 4000000 in
theorem adv_any (base B X : Nat) (lv : Value) (l : List Po) (s : ItS) (d : Int) (w : World) (h : ItM w base X lv l s) (hL : LvM w B lv l) (hR : rightP l) :
    Calls Try.prog 21 #[.pointer (some ⟨X, 0, none⟩), .int .i64 d] w (AdvQ w base X lv l d s) := by
  have HH := hide (fun q => here_any base X lv l s (w.drewN q) (h.fr0 ((Fr.refl No w).drewN q)))
  obtain ⟨pv, ps, hq, hp, hm⟩ := h.ex
  have HIt := hide h
  have HLo := hide h.lo
  have hok := h.ok
  have HQ := hide hq
  have HR := hide hR
  have HOk := hide hok
  have HLv := hide hL
  obtain ⟨p, hps⟩ : ∃ p, posS l s = p := ⟨_, rfl⟩
  have HPs := hide hps
  have hpl : p ≤ l.length := by
    rw [← hps]
    cases s with
    | start => simp [posS]
    | done => simp [posS]
    | here i => have := hok i rfl; simp only [posS]; omega
  have HPl := hide hpl
  obtain ⟨g, hg⟩ : ∃ g, goIn l d s = g := ⟨_, rfl⟩
  have HG := hide hg
  have HOffX : Hid (∀ T : TypeId, T ≠ 97 → Off (Is X) w T) := hide (fun T hT => h.offIs hT)
  clear h hq hp hm hok hL hR hps hpl hg
  go_enter Try.func21, Try.ntmps21
  go_upto_region 3 with (fail)
  refine wp_named fun K hK => ?_
  go_cut [32] from 7 to 32 (fun v wx => v = .bool g ∧ Hid (∃ q, wx = w.drewN q))
  case first =>
    have hgv := HG.out
    cases s with
    | start =>
      simp only [itOn] at HH
      obtain rfl : true = g := hgv
      go_quiet ((go_at_call 56; exact Calls.quiet_of (HH.out _)))
      go_wp2_with (fail)
      go_meet
      exact ⟨rfl, hide ⟨_, rfl⟩⟩
    | done =>
      simp only [itOn] at HH
      obtain rfl : true = g := hgv
      go_quiet ((go_at_call 56; exact Calls.quiet_of (HH.out _)))
      go_wp2_with (fail)
      go_meet
      exact ⟨rfl, hide ⟨_, rfl⟩⟩
    | here i =>
      simp only [itOn] at HH
      obtain ⟨ad, m1, c, hm1, c0, p0⟩ := HIt.out.lastPost
      simp only [goIn] at hgv
      obtain ⟨x, hx⟩ : ∃ x, lastD (l.take (8 * (i / 8 + 1))) = x := ⟨_, rfl⟩
      rw [hx] at p0 hgv
      obtain ⟨m, hmm⟩ : ∃ m, m1 + 1 = m := ⟨_, rfl⟩
      rw [hmm] at c0
      have im : (m : Int) - 1 = (m1 : Int) := by omega
      have imw : IntKind.i64.wrap (m1 : Int) = (m1 : Int) := IntWalk.i64_in _ (by omega)
      have i0 : (0 : Int) ≤ (m1 : Int) := by omega
      have i1 : (m1 : Int) < (m : Int) := by omega
      clear hx hmm hm1
      cases g with
      | true =>
        go_quiet ((go_at_call 56; exact Calls.quiet_of (HH.out _)))
        go_wp2_with (fail)
        go_meet
        exact ⟨rfl, hide ⟨_, rfl⟩⟩
      | false =>
        go_quiet ((go_at_call 56; exact Calls.quiet_of (HH.out _)))
        go_wp2_with (fail)
        go_meet
        exact ⟨rfl, hide ⟨_, rfl⟩⟩
  case rest =>
  obtain ⟨rfl, HW1⟩ := hcut
  obtain ⟨w1, rfl⟩ : ∃ W : World, W = wc := ⟨_, rfl⟩
  refine hK _ _ ?_
  clear hK K
  have HF1 : Hid (Fr (Is X) w w1) := hide (by obtain ⟨q, rfl⟩ := HW1.out; exact (Fr.refl (Is X) w).drewN q)
  have HIt1 : Hid (ItM w1 base X lv l s) := hide (by obtain ⟨q, rfl⟩ := HW1.out; exact HIt.out.fr0 ((Fr.refl No w).drewN q))
  have HQ1 : Hid (w1.heap[X]? = some (.cells #[pv, .int .i64 (itAt s), lv, .int .i64 (nxN s : Nat)] 97 (0, 0))) := hide (by rw [← itNx_eq]; obtain ⟨q, rfl⟩ := HW1.out; exact HQ.out)
  clear HIt HQ HW1 HH
  go_upto_if 32 with (fail)
  refine wp_named fun K hK => ?_
  go_cut [] from 33 to 80 (fun wx => ∃ i, Hid (AdvM w wx base X lv l d p i))
  case first =>
    cases g with
    | false =>
      go_wp2_with (fail)
      go_meet
      cases s with
      | start => exact absurd HG.out (by simp [goIn])
      | done => exact absurd HG.out (by simp [goIn])
      | here i =>
        have h1 := HG.out
        simp only [goIn] at h1
        have h2 := of_decide_eq_false h1
        have h3 := HPs.out
        simp only [posS] at h3
        subst h3
        exact ⟨i, hide ⟨HIt1.out, HF1.out, Nat.le_refl _, fun t h1 h2 _ => by omega, by omega⟩⟩
    | true =>
      have HBl := hide (below_go HR.out HOk.out HG.out)
      rw [HPs.out] at HBl
      obtain ⟨j0, hj0⟩ : ∃ j0, nxN s = j0 := ⟨_, rfl⟩
      obtain ⟨av, hav⟩ : ∃ a, itAt s = a := ⟨_, rfl⟩
      rw [hj0, hav] at HQ1
      rw [hj0] at HBl
      have hj1 : j0 ≤ 1073741824 := by
        rw [← hj0]
        cases s with
        | start => simp [nxN]
        | done => simp [nxN]
        | here i => have h1 := HOk.out i rfl; have h2 := right_16 HR.out; simp only [nxN]; omega
      have HPj : Hid (p ≤ 8 * j0 ∨ l.length ≤ 8 * j0) := hide (by
        rw [← hj0, ← HPs.out]
        cases s with
        | start => simp [posS]
        | done => right; have h2 := right_16 HR.out; simp only [nxN]; omega
        | here i => left; simp only [posS, nxN]; omega)
      clear hj0 hav HIt1 HG
      go_wp2_with (fail)
      go_loopw [] (fun wr => ∃ j : Nat, j ≤ 1073741824 ∧ Hid (wr.heap[X]? = some (.cells #[pv, .int .i64 av, lv, .int .i64 (j : Nat)] 97 (0, 0))) ∧ Hid (Fr (Is X) w wr) ∧ Hid (BelowD l d p (8 * j)) ∧ Hid (p ≤ 8 * j ∨ l.length ≤ 8 * j)) (fun wr => nbP l.length - cellI wr X 3)
      case atStart => exact ⟨j0, hj1, HQ1, HF1, HBl, HPj⟩
      case round =>
        obtain ⟨wo, rfl⟩ : ∃ wo : World, wo = wr := ⟨_, rfl⟩
        obtain ⟨j, hj, HQo, HFo, HBo, HPo⟩ := hrel
        have c2 : wo.cell? ⟨X, 2, none⟩ = some lv := cell_of_row _ _ 2 _ _ _ HQo.out
        have c3 : wo.cell? ⟨X, 3, none⟩ = some (.int .i64 (j : Nat)) := cell_of_row _ _ 3 _ _ _ HQo.out
        have HLo2 : Hid (LvM wo B lv l) := hide (HLv.out.off HFo.out (HOffX.out _ (by decide)) (HOffX.out _ (by decide)) (HOffX.out _ (by decide)))
        obtain ⟨g4, hg4⟩ : ∃ g4, decide (j < nbP l.length ∧ lastD (l.take (8 * (j + 1))) < d) = g4 := ⟨_, rfl⟩
        have HG4 := hide hg4
        go_upto_region 4 with (fail)
        refine wp_named fun K2 hK2 => ?_
        go_cut [70] from 33 to 70 (fun v wx => v = .bool g4 ∧ Hid (∃ q, wx = wo.drewN q))
        case first =>
          rcases HLo2.out with ⟨rfl, rfl⟩ | ⟨G, n, rfl, hl⟩
          · obtain rfl : false = g4 := by rw [← hg4]; simp [nbP]
            clear hg4
            go_quiet (fail)
            go_wp2_with (fail)
            go_meet
            exact ⟨rfl, hide ⟨_, rfl⟩⟩
          · by_cases hjn : j < nbP l.length
            · obtain ⟨ad, c, k0, k2⟩ := hl.la hjn
              obtain ⟨nb, hnb⟩ : ∃ nb, nbP l.length = nb := ⟨_, rfl⟩
              obtain ⟨x, hx⟩ : ∃ x, lastD (l.take (8 * (j + 1))) = x := ⟨_, rfl⟩
              rw [hx] at k2 hg4
              rw [hnb] at k0 hjn hg4
              have hxg : decide (x < d) = g4 := by rw [← hg4]; simp [hjn]
              have d1 : decide ((j : Int) < (nb : Int)) = true := decide_eq_true (by omega)
              have d1b : decide (j < nb) = true := decide_eq_true hjn
              have i0 : (0 : Int) ≤ (j : Int) := by omega
              have i1 : (j : Int) < (nb : Int) := by omega
              clear hl hg4 hx hnb
              go_quiet (fail)
              go_wp2_with (fail)
              go_meet
              exact ⟨by simp [hxg], hide ⟨_, rfl⟩⟩
            · obtain rfl : false = g4 := by rw [← hg4]; simp [hjn]
              obtain ⟨A, c, k0⟩ := hl.g0
              obtain ⟨nb, hnb⟩ : ∃ nb, nbP l.length = nb := ⟨_, rfl⟩
              rw [hnb] at k0 hjn
              have d1 : decide ((j : Int) < (nb : Int)) = false := decide_eq_false (by omega)
              have d1b : decide (j < nb) = false := decide_eq_false hjn
              clear hl hg4 hnb hjn
              go_quiet (fail)
              go_wp2_with (fail)
              go_meet
              exact ⟨rfl, hide ⟨_, rfl⟩⟩
        case rest =>
        obtain ⟨rfl, HWd⟩ := hcut
        obtain ⟨wd, rfl⟩ : ∃ W : World, W = wc := ⟨_, rfl⟩
        refine hK2 _ _ ?_
        clear hK2 K2 c2 c3 hg4
        have HFd : Hid (Fr (Is X) w wd) := hide (by obtain ⟨q, rfl⟩ := HWd.out; exact HFo.out.drewN q)
        have HFod : Hid (Fr No wo wd) := hide (by obtain ⟨q, rfl⟩ := HWd.out; exact (Fr.refl No wo).drewN q)
        have HQd := hide (HFod.out.blk HQo.out (fun h => h))
        cases g4 with
        | true =>
          obtain ⟨hj4, hx4⟩ := of_decide_eq_true HG4.out
          have hj5 : 8 * j < l.length := by unfold nbP at hj4; omega
          have hnb5 : nbP l.length ≤ 2048 := by have := right_16 HR.out; unfold nbP; omega
          have HB2 : Hid (BelowD l d p (8 * (j + 1))) := hide (fun t h1 h2 h3 => by
            by_cases h4 : t < 8 * j
            · exact HBo.out t h1 h4 h3
            · exact blk_below HR.out hj5 hx4 (by omega) h2 h3)
          have c3 : wd.cell? ⟨X, 3, none⟩ = some (.int .i64 (j : Nat)) := cell_of_row _ _ 3 _ _ _ HQd.out
          have z3 : wd.frozen? ⟨X, 3, none⟩ = false := frozen_of_row _ _ _ _ _ HQd.out
          have HN5 := hide (And.intro hj4 hnb5)
          clear hj4 hx4 hj5 hnb5
          go_wp2_with (fail)
          go_roundw
          case rel => exact ⟨j + 1, by have := HN5.out; omega, hide (it_put3 HQd.out _), hide (HFd.out.put 3 _), HB2, hide (by have := HPo.out; omega)⟩
          case measure =>
            have e1 := cellI_of (cell_of_row _ _ 3 _ _ _ HQo.out : wo.cell? ⟨X, 3, none⟩ = some (.int .i64 (j : Nat)))
            have e2 := cellI_of (k := j + 1) (cell_of_row _ _ 3 _ _ _ (it_put3 HQd.out (.int .i64 ((j : Int) + 1))))
            rw [e1, e2]
            have := HN5.out
            omega
        | false =>
          have HX4 := hide (of_decide_eq_false HG4.out)
          have HLd := hide (load_lv base B X j pv lv av l wd HQd.out HLo.out (HLo2.out.fr0 HFod.out) HR.out hj)
          by_cases hjn : j < nbP l.length
          · have hl1 : ldS l j = .here (8 * j) := if_pos hjn
            rw [hl1] at HLd
            have HAl : Hid (∀ W, Fr (Is X) wd W → ItM W base X lv l (.here (8 * j)) → AdvM w W base X lv l d p (8 * j)) := hide (fun W f hi => by
              have h8 : 8 * j < l.length := by unfold nbP at hjn; omega
              refine ⟨hi, HFd.out.ts f, ?_, HBo.out, ?_⟩
              · rcases HPo.out with h | h
                · exact h
                · omega
              · rw [show 8 * j / 8 = j by omega]
                have h9 := HX4.out
                by_cases h10 : lastD (l.take (8 * (j + 1))) < d
                · exact absurd ⟨hjn, h10⟩ h9
                · omega)
            clear hjn hl1
            go_wp2_with (fail)
            refine HLd.out.mono ?_
            rintro en w5 ⟨hfr, he, hit⟩
            simp only [itOn] at he
            subst he
            have HA5 := hide (HAl.out w5 hfr hit)
            clear hfr hit
            go_wp2_with (fail)
            go_meet
            exact ⟨8 * j, HA5⟩
          · have hl1 : ldS l j = .done := if_neg hjn
            rw [hl1] at HLd
            have HLn : Hid (l.length ≤ 8 * j) := hide (by unfold nbP at hjn; omega)
            clear hjn hl1
            go_wp2_with (fail)
            refine HLd.out.mono ?_
            rintro en w5 ⟨hfr, he, hit⟩
            simp only [itOn] at he
            subst he
            have HF5 := hide (HFd.out.ts hfr)
            have HI5 := hide hit
            clear hfr hit
            go_wp2_with (fail)
            go_ret
            refine ⟨HF5.out, l.length, ⟨by rw [HPs.out]; exact HPl.out, Nat.le_refl _, by rw [HPs.out]; exact fun t h1 h2 => HBo.out t h1 (by have := HLn.out; omega) h2, fun h => absurd h (Nat.lt_irrefl _)⟩, by rw [decide_eq_false (Nat.lt_irrefl _)]; rfl, ?_⟩
            rw [stS_past (Nat.le_refl _)]
            exact HI5.out
  case rest =>
  obtain ⟨i, HA⟩ := hcut
  obtain ⟨w3, rfl⟩ : ∃ W : World, W = wc := ⟨_, rfl⟩
  refine hK _ _ ?_
  clear hK K HF1 HIt1 HQ1
  go_wp2_with (fail)
  go_loopw [] (fun wr => ∃ i : Nat, Hid (AdvM w wr base X lv l d p i)) (fun wr => 8 - cellI wr X 1)
  case atStart => exact ⟨i, HA⟩
  case round =>
    obtain ⟨wo, rfl⟩ : ∃ wo : World, wo = wr := ⟨_, rfl⟩
    obtain ⟨i, HAo⟩ := hrel
    clear HA
    obtain ⟨ad, Ak, m, c, ck, k, nk, hk, hkm, hm8, hmb, c0, c1, p0, -⟩ := HAo.out.it.post
    obtain ⟨x, hx⟩ : ∃ x, (l.getD i noPo).1 = x := ⟨_, rfl⟩
    rw [hx] at p0
    have i0 : (0 : Int) ≤ (k : Int) := by omega
    have i1 : (k : Int) < (m : Int) := by omega
    have HK := hide hk
    have HX := hide hx
    have hil := HAo.out.it.ok i rfl
    have HIl := hide hil
    by_cases hlt : x < d
    · have hmo := adv_more hil (by rw [hx]; exact hlt) HAo.out.la
      have HMo := hide hmo
      have d1 : decide (x < d) = true := decide_eq_true hlt
      obtain ⟨n1, n2, n3⟩ := nx_in hmo
      have HN := hide (And.intro n2 n3)
      have HB2 : Hid (BelowD l d p (i + 1)) := hide (fun t h1 h2 h3 => by
        by_cases h4 : t = i
        · rw [h4, hx]; exact hlt
        · exact HAo.out.lt t h1 (by omega) h3)
      clear hk hx hmo hil hlt n1 n2 n3 hmb hkm
      have hk7 : k ≤ 7 := by have := HK.out; omega
      clear hm8
      go_wp2_with (fail)
      go_quiet (fail)
      have z1 : (wo.drewN nq).frozen? ⟨X, 1, none⟩ = false := by obtain ⟨pv, ps, q, _⟩ := HAo.out.it.ex; exact frozen_of_row (wo.drewN nq) _ _ _ _ q
      go_wp2_with (fail)
      go_roundw
      case rel => exact ⟨i + 1, hide ⟨(HAo.out.it.fr0 ((Fr.refl No wo).drewN nq)).step HMo.out HK.out, (HAo.out.fr.drewN nq).put 1 _, Nat.le_trans HAo.out.lo (Nat.le_succ _), HB2.out, by rw [HN.out.1]; exact HAo.out.la⟩⟩
      case measure =>
        have e1 := cellI_of c1
        have hs := (HAo.out.it.fr0 ((Fr.refl No wo).drewN nq)).step HMo.out HK.out
        obtain ⟨A2, n2, cc2, ⟨_, f1, _⟩, _⟩ := hs.parts
        simp only [itAt] at f1
        rw [HN.out.2, HK.out] at f1
        have e2 := cellI_of f1
        rw [e1, e2]
        omega
    · have d1 : decide (x < d) = false := decide_eq_false hlt
      have HGe : Hid (d ≤ x) := hide (by omega)
      clear hk hx hil hlt hmb hkm hm8
      go_wp2_with (fail)
      go_quiet (fail)
      go_wp2_with (fail)
      go_ret
      refine ⟨HAo.out.fr.drewN _, i, ⟨by rw [HPs.out]; exact HAo.out.lo, Nat.le_of_lt HIl.out, by rw [HPs.out]; exact fun t h1 h2 => HAo.out.lt t h1 h2 (Nat.lt_trans h2 HIl.out), fun _ => by rw [HX.out]; exact HGe.out⟩, by rw [decide_eq_true HIl.out]; rfl, ?_⟩
      rw [stS_in HIl.out]
      exact HAo.out.it.fr0 ((Fr.refl No wo).drewN _)
end Go.Proofs.Ythlbfnoahdjdeaa
namespace Go.Proofs.Ythlbfnoahdjdeaa
set_option linter.unusedVariables false
set_option linter.unusedSimpArgs false
open Go.RowKit

theorem rows_inj3 : ∀ (a : Int) (b c : List Po), docsL a b = docsL a c → freqsL b = freqsL c → placesL b = placesL c → b = c
  | _, [], [], _, _, _ => rfl
  | _, [], y :: r, h, _, _ => by simp [docsL] at h
  | _, y :: r, [], h, _, _ => by simp [docsL] at h
  | a, x :: r, y :: t, h1, h2, h3 => by
    simp only [docsL, List.cons.injEq] at h1
    simp only [freqsL, List.map_cons, List.cons.injEq] at h2
    have e1 : x.1 = y.1 := by omega
    have e2 : x.2.length = y.2.length := by omega
    have h4 : deltaL 0 x.2 ++ placesL r = deltaL 0 y.2 ++ placesL t := by simpa [placesL] using h3
    obtain ⟨h5, h6⟩ := List.append_inj h4 (by rw [deltaL_len, deltaL_len, e2])
    have e3 := deltaL_inj _ _ _ h5
    have h7 : docsL x.1 r = docsL x.1 t := by rw [h1.2, e1]
    have e4 := rows_inj3 x.1 r t h7 h2.2 h6
    rw [e4, show x = y from Prod.ext e1 e3]
theorem rowsB_inj {a : Int} {b c : List Po} {n : Nat} (h1 : GoodB a b n) (h2 : GoodB a c n) (h : rowsB a b = rowsB a c) : b = c := by
  obtain ⟨p1, p2, p3⟩ := take_rows h1
  obtain ⟨q1, q2, q3⟩ := take_rows h2
  rw [h, q1] at p1
  injection p1 with e1 e2
  rw [← e2, q2] at p2
  injection p2 with e3 e4
  have e5 : sumP b = sumP c := by
    rw [← sumF_freqs b (fun x hx => (h1.row.d x hx).2.2.1), ← sumF_freqs c (fun x hx => (h2.row.d x hx).2.2.1), e3]
  rw [← e4, e5, q3] at p3
  injection p3 with e6 _
  exact (rows_inj3 a _ _ e1 e3 e6).symm
theorem exists_ps (la : Int) (row : List UInt8) (k : Nat) (last : Int) : ∃ ps ok, PsR la row k last ps ok := by
  by_cases h : ∃ blk, GoodB la blk k ∧ row = rowsB la blk
  · obtain ⟨blk, h1, h2⟩ := h
    refine ⟨blk, decide (lastOr la blk = last), fun b g1 g2 => ?_⟩
    have e : blk = b := rowsB_inj h1 g1 (by rw [← h2, ← g2])
    subst e
    exact ⟨rfl, by rw [decide_eq_true_iff]⟩
  · exact ⟨[], true, fun b g1 g2 => absurd ⟨b, g1, g2⟩ h⟩
theorem poI_ex {bs : List UInt8} {n : Nat} {a0 : Nat} {e0 : Int} (h : sizeS bs 0 0 16384 = (n, a0, e0)) : ∀ j, 8 * j < n + 8 → ∃ a e la all bks, PoI bs n j a e la all bks
  | 0, _ => ⟨_, _, _, _, _, po_start h⟩
  | j + 1, hj => by
    obtain ⟨a, e, la, all, bks, h1⟩ := poI_ex h j (by omega)
    obtain ⟨sz, a1, e1, hs1⟩ : ∃ sz a1 e1, sizeS bs a e (bs.length : Nat) = (sz, a1, e1) := ⟨_, _, _, rfl⟩
    obtain ⟨d, a2, e2, hs2⟩ : ∃ d a2 e2, sizeS bs a1 e1 16384 = (d, a2, e2) := ⟨_, _, _, rfl⟩
    obtain ⟨row, a3, e3, hs3⟩ : ∃ row a3 e3, bytesS bs a2 e2 (sz : Nat) = (row, a3, e3) := ⟨_, _, _, rfl⟩
    obtain ⟨ps, ok, hp⟩ := exists_ps la row (min 8 (n - 8 * j)) (la + d)
    exact ⟨_, _, _, _, _, po_step h1 (by omega) hs1 hs2 hs3 hp⟩
theorem buildP_inj {bs : List UInt8} {l m : List Po} (h : FormP bs l) (h2 : FormP bs m) : l = m := by
  obtain ⟨n, a0, e0, hs⟩ : ∃ n a e, sizeS bs 0 0 16384 = (n, a, e) := ⟨_, _, _, rfl⟩
  obtain ⟨a, e, la, all, bks, h1⟩ := poI_ex hs ((n + 7) / 8) (by omega)
  have e1 := (po_end h1 (by omega) h).1
  have e2 := (po_end h1 (by omega) h2).1
  rw [← e1, e2]
end Go.Proofs.Ythlbfnoahdjdeaa
namespace Go.Proofs.Ythlbfnoahdjdeaa
set_option linter.unusedVariables false
set_option linter.unusedSimpArgs false
open Go.RowKit

def GivesI (w : World) (xs : List Int) (en : Ending) (w' : World) : Prop := ∃ v, en = .returned v ∧ Own w' w.heap.size 3 1 v xs.length (iz .i64 xs) ∧ Fr No w w'
set_option maxRecDepth 100000 in
set_option maxHeartbeats 400000 in
theorem cloneInt_any (A : Option Addr) (n c B : Nat) (xs : List Int) (w : World) (hl : xs.length = n) (hn : n ≤ c) (hc : c ≤ maxLen) (hb : n ≤ 17592186044416) (hr : Rd w B A (iz .i64 xs)) :
    Calls Try.prog 58 #[.slice A n c] w (GivesI w xs) := by
  have HR := hide hr; clear hr
  have HL := hide hl; clear hl
  obtain ⟨i0, hi, hz, hsz, hby⟩ := info_parts Try.infoIn
  cases A with
  | none =>
    have he := fun W => Lib.run_eql_slice_nil (P := Try.prog) W 52 3 none n c 0 0 Try.underlying52
    go_enter Try.func58, Try.ntmps58
    go_wp2
    go_ret
    have h0 := HR.out.iz_nil
    subst h0
    exact ⟨_, rfl, Own.nil _ _ _ _, Fr.refl _ _⟩
  | some ad =>
    have he := fun W => Lib.run_eql_slice_nil (P := Try.prog) W 52 3 (some ad) n c 0 0 Try.underlying52
    have HS := hide (Src.ofRd (P := Try.prog) (size := 1) (w.alloc (.cells #[] 3)) Try.underlying52 (some ad) n c (iz .i64 xs) (by rw [iz_len, HL.out]; omega) (by omega) (HR.out.fr0 ((Fr.refl _ _).alloc _)) (iz_one _ _))
    go_enter Try.func58, Try.ntmps58
    have b1 : (0 + n) * 8 ≤ 140737488355328 := by omega
    have b2 : 0 + n ≤ maxLen := by unfold maxLen at *; omega
    have b3 : w.heap.size ≤ (w.alloc (.cells #[] 3)).heap.size := by simp
    go_wp2_with (at_builtin; (refine wpList_append_gen _ rfl (.tmp 5) (.tmp 6) 52 52 rfl w.heap.size 3 i0 (.int .i64 0) 1 8 Try.underlying52 hi hz hsz hby rfl _ 0 [] rfl (own_empty w 3) _ n (iz .i64 xs) rfl HS.out b1 b2 b3 ?_); intro v' w' hown hfr hat)
    go_ret
    refine ⟨v', rfl, by simpa [HL.out] using hown, ?_⟩
    exact ((Fr.refl No w).alloc _).own hfr (fun g h => .inl (Nat.le_of_eq (Option.some.inj h)))
theorem posn_le {l : List Po} (hR : rightP l) (s : ItS) : (posnS l s).length ≤ 1048576 := by
  cases s with
  | here i =>
    by_cases h : i < l.length
    · have h1 := hR i h
      have h2 := h1.2.2.2.1
      simp only [posnS]
      omega
    · have e : l.getD i noPo = noPo := by rw [List.getD, List.getElem?_eq_none (by omega)]; rfl
      simp only [posnS]
      rw [e]
      simp [noPo]
  | _ => simp [posnS]

set_option maxRecDepth 100000 in
set_option maxHeartbeats 1600000 in
theorem itPos_any (base X : Nat) (lv : Value) (l : List Po) (s : ItS) (w : World) (h : ItM w base X lv l s) (hR : rightP l) :
    Calls Try.prog 23 #[.pointer (some ⟨X, 0, none⟩)] w (GivesI w (posnS l s)) := by
  have HH := hide (here_any base X lv l s w h)
  have HIt := hide h
  have HLe := hide (posn_le hR s)
  cases s with
  | here i =>
    clear h
    go_enter Try.func23, Try.ntmps23
    go_wp2_with (fail)
    refine HH.out.mono ?_
    rintro en w2 ⟨rfl, q, hw⟩
    have HI2 : Hid (ItM w2 base X lv l (.here i)) := hide (by rw [hw]; exact HIt.out.fr0 ((Fr.refl No w).drewN q))
    have HF2 : Hid (Fr No w w2) := hide (by rw [hw]; exact (Fr.refl No w).drewN q)
    clear hw
    obtain ⟨ad, Ak, m, c, ck, k, nk, -, h1, h2, -, c0, c1, p0, p1, hx, hx2, hx3, hx4⟩ := HI2.out.post
    have i0 : (0 : Int) ≤ (k : Int) := by omega
    have i1 : (k : Int) < (m : Int) := by omega
    have HX := hide hx
    have HCl := hide (cloneInt_any Ak nk ck w2.heap.size _ w2.drew hx hx2 hx3 (by have := HLe.out; simp only [posnS] at this; omega) (hx4.fr0 (Fr.refl No w2).drew))
    have HK0 : Hid (w2.drew.cell? ⟨X, 0, none⟩ = some (.slice (some ad) m c) ∧ w2.drew.cell? ⟨X, 1, none⟩ = some (.int .i64 (k : Nat)) ∧ w2.drew.cell? ⟨(ad.add (k * 2)).block, (ad.add (k * 2)).off + 1, none⟩ = some (.slice Ak nk ck)) := hide ⟨c0, c1, p1⟩
    clear hx h1 h2 p0 hx2 hx3 hx4
    go_wp2_with (fail)
    go_region_held3 (fun W => W.cell? ⟨X, 0, none⟩ = some (.slice (some ad) m c) ∧ W.cell? ⟨X, 1, none⟩ = some (.int .i64 (k : Nat)) ∧ W.cell? ⟨(ad.add (k * 2)).block, (ad.add (k * 2)).off + 1, none⟩ = some (.slice Ak nk ck)) (first | exact HK0.out | exact HK8.out) (first
      | (go_at_call 58; refine HCl.out.mono ?_; rintro en w8 ⟨v8, rfl, hown, hfr⟩; have HO8 := hide hown; have HF8 := hide hfr; have HK8 := hide (p := _ ∧ _ ∧ _) ⟨hfr.cell HK0.out.1 (fun h => h), hfr.cell HK0.out.2.1 (fun h => h), hfr.cell HK0.out.2.2 (fun h => h)⟩; clear hown hfr))
    go_wp2_with (fail)
    go_ret
    exact ⟨v8, rfl, HO8.out.lower (HF2.out.size), HF2.out.tr ((Fr.refl No w2).drew.tr HF8.out)⟩
  | start | done =>
    clear h
    go_enter Try.func23, Try.ntmps23
    go_wp2_with (fail)
    refine HH.out.mono ?_
    rintro en w2 ⟨rfl, q, rfl⟩
    go_wp2_with (fail)
    go_ret
    exact ⟨_, rfl, Own.nil _ _ _ _, (Fr.refl No w).drewN q⟩
end Go.Proofs.Ythlbfnoahdjdeaa
namespace Go.Proofs.Ythlbfnoahdjdeaa
set_option linter.unusedVariables false
set_option linter.unusedSimpArgs false
open Go.RowKit

set_option maxRecDepth 100000 in
set_option maxHeartbeats 800000 in
theorem kbytes_any (A B : Option Addr) (n c m d b1 b2 : Nat) (xs ys : List UInt8) (w : World) (hx : xs.length = n) (hy : ys.length = m) (hn : n ≤ c) (hc : c ≤ maxLen) (hm : m ≤ d) (hd : d ≤ maxLen) (hr : Rd w b1 A (by8 xs)) (hs : Rd w b2 B (by8 ys)) :
    Calls Try.prog 14 #[.slice A n c, .slice B m d] w (RetQ (.bool (decide (xs = ys))) w) := by
  unfold maxLen at hc hd
  have HX := hide hx
  have HY := hide hy
  have HR := hide hr
  have HS := hide hs
  clear hx hy hr hs
  by_cases hnm : n = m
  · subst hnm
    have hb : ((n : Int) != n) = false := by simp
    go_enter Try.func14, Try.ntmps14
    go_wp2
    go_loopw [5] (fun i wr => ∃ k nq : Nat, k ≤ n ∧ i = .int .i64 k ∧ wr = w.drewN nq ∧ Hid (xs.take k = ys.take k)) (fun i _ => n - (intOf i).toNat)
    case atStart => exact ⟨0, 0, by omega, rfl, rfl, hide rfl⟩
    case round =>
      obtain ⟨k, nq, hk, rfl, rfl, HT⟩ := hrel
      by_cases hlt : k < n
      · have h1 : k < xs.length := by rw [HX.out]; exact hlt
        have h2 : k < ys.length := by rw [HY.out]; exact hlt
        obtain ⟨ad, rfl, _, hcell⟩ := HR.out.byte h1
        obtain ⟨bd, rfl, _, hcell2⟩ := HS.out.byte h2
        have HE := hide (fun he => take_succ_eq h1 h2 HT.out he)
        have HN := hide (show xs.getD k 0 ≠ ys.getD k 0 → xs ≠ ys from fun h e => h (by rw [e]))
        clear h1 h2
        generalize xs.getD k 0 = x at hcell HE HN
        generalize ys.getD k 0 = y at hcell2 HE HN
        by_cases he : x = y
        · subst he
          have HE' := hide (HE.out rfl)
          clear HE
          have hb2 : ((x.toNat : Int) != x.toNat) = false := by simp
          go_wp2
          go_quiet (fail)
          go_wp2
          go_round
          case rel => exact ⟨k + 1, _, by omega, by go_num, rfl, HE'⟩
          case measure => simp [intOf]; omega
        · have hb2 : ((x.toNat : Int) != y.toNat) = true := by
            simp
            intro h
            exact he (UInt8.toNat_inj.1 (by omega))
          go_wp2
          go_quiet (fail)
          go_wp2
          go_ret
          exact ⟨by simp [HN.out he], _, World.drewN_drewN _ _ _⟩
      · have HF := hide (show xs = ys by
          have h := HT.out
          rwa [List.take_of_length_le (by rw [HX.out]; omega), List.take_of_length_le (by rw [HY.out]; omega)] at h)
        go_wp2
        go_ret
        exact ⟨by simp [HF.out], _, rfl⟩
  · have hb : ((n : Int) != m) = true := by simp; omega
    have HF := hide (show xs ≠ ys from fun e => hnm (by rw [← HX.out, ← HY.out, e]))
    go_enter Try.func14, Try.ntmps14
    go_wp2
    go_ret
    exact ⟨by simp [HF.out], 0, rfl⟩

end Go.Proofs.Ythlbfnoahdjdeaa
