/- The document's bytes of a set: Bytes. -/
import Derived.Test.YtapfbjaopbcgjaaDoorRef14
import Derived.Test.YtapfbjaopbcgjaaDoorBytesL
import Derived.Test.YtapfbjaopbcgjaaDoorRefUint
namespace Go.Proofs.YtapfbjaopbcgjaaDoor
set_option linter.unusedVariables false
set_option linter.unusedSimpArgs false
open Go.RowKit

def fK (l : List Bool) (k : Nat) : Nat → Bool := fun j => decide (j < k) && hasN l j
theorem fK_all (l : List Bool) : byf (fK l l.length) (byteN l.length) = setB l := byf_congr fun j _ => by
  unfold fK
  by_cases h : j < l.length
  · rw [decide_eq_true h]; rfl
  · rw [hasN_big (by omega)]; simp
theorem fK_on {l : List Bool} {k : Nat} (h : hasN l k = true) : orf (fK l k) k = fK l (k + 1) := by
  funext j
  unfold orf fK
  by_cases e : j = k
  · subst e; simp [h]
  · rw [decide_eq_false e, Bool.or_false]
    congr 1
    apply decide_eq_decide.2
    omega
theorem fK_off {l : List Bool} {k : Nat} (h : hasN l k = false) : fK l (k + 1) = fK l k := by
  funext j
  unfold fK
  by_cases e : j = k
  · subst e; simp [h]
  · congr 1
    apply decide_eq_decide.2
    omega
theorem byf_more {f : Nat → Bool} {m : Nat} (h : ∀ j, 8 * m ≤ j → f j = false) : byf f m ++ [0] = byf f (m + 1) := by
  unfold byf
  rw [List.range_succ, List.map_append]
  congr 1
  have : wN (fun j => f (8 * m + j)) 8 = wN (fun _ => false) 8 := wN_congr (fun j hj => h _ (by omega))
  have h0 : wN (fun _ => false) 8 = 0 := by decide
  simp [this, h0]
theorem set_behind (a b : List UInt8) {q k : Nat} (hq : a.length = q) (v : Value) : (by8 (a ++ b)).set (q + k) v = by8 a ++ (by8 b).set k v := by
  subst hq
  rw [by8_append, List.set_append, if_neg (by simp [by8])]
  simp [by8]

set_option maxRecDepth 100000 in
set_option maxHeartbeats 4000000 in
theorem refBytes_any (A : Option Addr) (n c B : Nat) (l : List Bool) (w : World) (hl : l.length = n) (hn : n ≤ c) (hc : c ≤ maxLen) (hn2 : n ≤ 16384) (hB : B ≤ w.heap.size) (hr : Rd w B A (bz l)) :
    Calls Tryd.prog 41 #[.slice A n c] w (GivesB w (enc l.length ++ setB l)) := by
  obtain ⟨i0, hi, hz, hsz, hby⟩ := info_parts Tryd.info5
  have HL := hide hl
  have HR := hide hr
  have HB := hide hB
  have HU := hide (refUint_any n w (by omega))
  have hen := (enc_len n).2
  obtain ⟨q, hq⟩ : ∃ q, q = (enc n).length := ⟨_, rfl⟩
  obtain ⟨en8, hen8⟩ : ∃ e, e = enc n := ⟨_, rfl⟩
  rw [← hen8] at HU hq hen
  rw [← hq] at hen
  have HQ := hide hq
  have HE := hide hen8
  unfold maxLen at hc
  have hwn : IntKind.u64.wrap (n : Int) = (n : Int) := by rw [IntKind.wrap_u64]; omega
  clear hl hr hB hq hen8
  go_enter Tryd.func41, Tryd.ntmps41
  go_wp2_with (go_at_call 64; refine HU.out.mono ?_; rintro en w1 ⟨v1, rfl, hown, hfr⟩; rw [← HQ.out] at hown; have O1 := hide hown; have F1 := hide hfr; obtain ⟨A1, c1, rfl, p1, p2, _⟩ := hown.form; unfold maxLen at p2; clear hown hfr)
  clear hwn
  go_loopw [3, 5] (fun v i wr => ∃ (k m : Nat), k ≤ n ∧ m ≤ 2049 ∧ i = .int .i64 k ∧ Hid (m = (k + 7) / 8) ∧ Hid (Own wr w.heap.size 5 1 v (q + m) (by8 (en8 ++ byf (fK l k) m))) ∧ Hid (Fr No w wr)) (fun _ i _ => n - (intOf i).toNat)
  case atStart => exact ⟨0, 0, by omega, by omega, rfl, hide rfl, hide (by simp [byf]; exact O1.out), F1⟩
  case round =>
    clear O1 F1
    obtain ⟨k, m, hk, hm1, rfl, HM, OW, FW⟩ := hrel
    obtain ⟨Av, cv, rfl, hv1, hv2, _⟩ := OW.out.form
    unfold maxLen at hv2
    have hsz1 := FW.out.size
    by_cases hlt : k < n
    · obtain ⟨ad, rfl, had, hcell⟩ := (HR.out.fr0 FW.out).boolAt (j := k) (by rw [HL.out]; exact hlt)
      have hk16 : k < 16384 := by omega
      have hk8 : k / 8 < k / 8 + 1 := by omega
      have hblt := wN_lt (fun j => fK l k (8 * (k / 8) + j)) 8
      have HV := hide (on_val8 _ k hblt)
      rw [IntKind.wrap_u8'] at HV
      have HS := hide (byf_or (f := fK l k) (m := k / 8 + 1) (x := k) hk8)
      have hb8 : (by8 (byf (fK l k) (k / 8 + 1)))[k / 8]? = some (.int .u8 ((wN (fun j => fK l k (8 * (k / 8) + j)) 8 : Nat) : Int)) := by
        simp [by8, byf]
        omega
      have hb9 : (by8 (en8 ++ byf (fK l k) (k / 8 + 1)))[q + k / 8]? = some (.int .u8 ((wN (fun j => fK l k (8 * (k / 8) + j)) 8 : Nat) : Int)) := by
        rw [by8_append, List.getElem?_append_right (by rw [by8_length, HQ.out]; omega), by8_length, ← HQ.out, Nat.add_sub_cancel_left]
        exact hb8
      have HB9 := hide hb9
      have hx5 : IntKind.u64.wrap ((k : Int) % 8) = (k : Int) % 8 := by rw [IntKind.wrap_u64]; omega
      clear hb8 hb9
      generalize wN (fun j => fK l k (8 * (k / 8) + j)) 8 = bv at hblt HV HS HB9
      have HCell := hide (fun W (f : Fr No w W) => (HR.out.fr0 f).boolAt (j := k) (by rw [HL.out]; exact hlt))
      by_cases h8 : k % 8 = 0
      · have hd : ((k : Int) % 8 == 0) = true := by simp; omega
        obtain rfl : m = k / 8 := by have := HM.out; omega
        have b1 : (q + k / 8 + 1) * 1 ≤ 140737488355328 := by omega
        have b2 : q + k / 8 + 1 ≤ maxLen := by unfold maxLen; omega
        have HO2 : Hid (∀ v2 w2, Own w2 w.heap.size 5 1 v2 (q + k / 8 + 1) (by8 (en8 ++ byf (fK l k) (k / 8)) ++ [.int .u8 0]) → Own w2 w.heap.size 5 1 v2 (q + k / 8 + 1) (by8 (en8 ++ byf (fK l k) (k / 8 + 1)))) := hide (fun v2 w2 h => by
          have e : by8 (en8 ++ byf (fK l k) (k / 8)) ++ [.int .u8 0] = by8 (en8 ++ byf (fK l k) (k / 8 + 1)) := by
            rw [← byf_more (f := fK l k) (m := k / 8) (fun j hj => by unfold fK; rw [decide_eq_false (by omega)]; rfl), ← List.append_assoc, by8_append (en8 ++ _)]
            rfl
          rw [e] at h
          exact h)
        cases hb : hasN l k with
        | true =>
          have HFk := hide (fK_on hb)
          rw [hb] at HCell
          clear hb h8 hcell
          go_wp2_with (at_builtin; refine wpList_append_gen _ rfl (.tmp 21) (.tmp 22) 50 50 rfl w.heap.size 5 i0 (.int .u8 0) 1 1 Tryd.underlying50 hi hz hsz hby rfl (.slice Av (q + k / 8) cv) (q + k / 8) _ rfl (OW.out.fr0 ((Fr.refl No wr).alloc (.cells #[.int .u8 0] 5))) _ 1 [.int .u8 0] rfl (Src.one (P := Tryd.prog) wr (e := 5) Tryd.underlying50 (.int .u8 0) rfl) b1 b2 (by simp; omega) ?_; intro v2 w2 hown hfr hat; obtain ⟨A2, c2, rfl, r1, r2, _⟩ := hown.form; unfold maxLen at r2; have O2 := hide (HO2.out _ _ hown); have F2 : Hid (Fr No w w2) := hide ((FW.out.alloc _).own hfr (fun g hg => .inl (OW.out.lt g hg).1)); obtain ⟨ad2, ead2, _, hcell2⟩ := HCell.out w2 F2.out; injection ead2 with ead2; subst ead2; obtain ⟨gS, rfl, hgS, _, hcS, hfS, hstS⟩ := O2.out.store (k := q + k / 8) (by omega); rw [HB9.out] at hcS; have HSt := hide hstS; clear hstS; clear hown hfr hat)
          go_roundw
          case rel => exact ⟨k + 1, k / 8 + 1, by omega, by omega, by go_num, hide (by omega), hide (by rw [HV.out]; have h := HSt.out (.int .u8 ((bv ||| 2 ^ (k % 8) : Nat) : Int)); rw [set_behind _ _ HQ.out.symm, HS.out, HFk.out, ← by8_append] at h; exact h), hide (F2.out.own1 ((Fr.refl (Is gS) _).setCell (p := ⟨gS, q + k / 8, none⟩) (fun _ => rfl) _) hgS)⟩
          case measure => simp [intOf]; omega
        | false =>
          have HFk := hide (fK_off hb)
          rw [hb] at HCell
          clear hb h8 hcell
          go_wp2_with (at_builtin; refine wpList_append_gen _ rfl (.tmp 21) (.tmp 22) 50 50 rfl w.heap.size 5 i0 (.int .u8 0) 1 1 Tryd.underlying50 hi hz hsz hby rfl (.slice Av (q + k / 8) cv) (q + k / 8) _ rfl (OW.out.fr0 ((Fr.refl No wr).alloc (.cells #[.int .u8 0] 5))) _ 1 [.int .u8 0] rfl (Src.one (P := Tryd.prog) wr (e := 5) Tryd.underlying50 (.int .u8 0) rfl) b1 b2 (by simp; omega) ?_; intro v2 w2 hown hfr hat; obtain ⟨A2, c2, rfl, r1, r2, _⟩ := hown.form; unfold maxLen at r2; have O2 := hide (HO2.out _ _ hown); have F2 : Hid (Fr No w w2) := hide ((FW.out.alloc _).own hfr (fun g hg => .inl (OW.out.lt g hg).1)); obtain ⟨ad2, ead2, _, hcell2⟩ := HCell.out w2 F2.out; injection ead2 with ead2; subst ead2;  clear hown hfr hat)
          go_roundw
          case rel => exact ⟨k + 1, k / 8 + 1, by omega, by omega, by go_num, hide (by omega), hide (by rw [HFk.out]; exact O2.out), F2⟩
          case measure => simp [intOf]; omega
      · have hd : ((k : Int) % 8 == 0) = false := by simp; omega
        obtain rfl : m = k / 8 + 1 := by have := HM.out; omega
        cases hb : hasN l k with
        | true =>
          have HFk := hide (fK_on hb)
          rw [hb] at hcell
          obtain ⟨gS, rfl, hgS, _, hcS, hfS, hstS⟩ := OW.out.store (k := q + k / 8) (by omega)
          rw [HB9.out] at hcS
          have HSt := hide hstS
          clear hstS hb h8 HCell
          go_wp2
          go_roundw
          case rel => exact ⟨k + 1, k / 8 + 1, by omega, by omega, by go_num, hide (by omega), hide (by rw [HV.out]; have h := HSt.out (.int .u8 ((bv ||| 2 ^ (k % 8) : Nat) : Int)); rw [set_behind _ _ HQ.out.symm, HS.out, HFk.out, ← by8_append] at h; exact h), hide (FW.out.own1 ((Fr.refl (Is gS) _).setCell (p := ⟨gS, q + k / 8, none⟩) (fun _ => rfl) _) hgS)⟩
          case measure => simp [intOf]; omega
        | false =>
          have HFk := hide (fK_off hb)
          rw [hb] at hcell
          clear hb h8 HCell
          go_wp2
          go_roundw
          case rel => exact ⟨k + 1, k / 8 + 1, by omega, by omega, by go_num, hide (by omega), hide (by rw [HFk.out]; exact OW.out), FW⟩
          case measure => simp [intOf]; omega
    · obtain rfl : k = n := by omega
      go_wp2
      go_ret
      refine ⟨_, rfl, ?_, FW.out⟩
      have h := OW.out
      have e1 : m = byteN l.length := by unfold byteN; rw [HL.out]; exact HM.out
      have e2 : byf (fK l k) m = setB l := by rw [e1, ← HL.out]; exact fK_all l
      have e3 : (enc l.length ++ setB l).length = q + m := by rw [List.length_append, HL.out, ← HE.out, ← HQ.out, ← e2, byf_len]
      rw [e2, HE.out] at h
      rw [e3, HL.out]
      exact h
end Go.Proofs.YtapfbjaopbcgjaaDoor
