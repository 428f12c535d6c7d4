/- kept: are points that were lent as they were? -/
import Derived.Test.YtkenjhalamdjfaaBkLe
import Derived.BigQuiet
namespace Go.Proofs.Ytkenjhalamdjfaa
set_option linter.unusedVariables false
set_option linter.unusedSimpArgs false
open Go.RowKit

/-- a lent point's two cells. -/
theorem LentPo.at {w : World} {base c n : Nat} {A : Option Addr} {l : List Po} (h : LentPo w base A n c l) (hl : l.length = n) {k : Nat} (hk : k < n) :
    ∃ (ad : Addr) (Ak : Option Addr) (ck : Nat), A = some ad ∧ w.cell? (ad.add (k * 2)) = some (.int .i64 (l.getD k noPo).1) ∧
      w.cell? ⟨(ad.add (k * 2)).block, (ad.add (k * 2)).off + 1, none⟩ = some (.slice Ak (l.getD k noPo).2.length ck) ∧ (l.getD k noPo).2.length + 1 ≤ ck ∧ ck ≤ maxLen ∧ Rd w w.heap.size Ak (iz .i64 ((l.getD k noPo).2 ++ [-7171])) := by
  obtain ⟨ps, rfl, h2, h3⟩ := h.ex
  rw [List.length_map] at hl
  obtain ⟨p, hp⟩ : ∃ p, ps[k]? = some p := ⟨_, List.getElem?_eq_getElem (by omega)⟩
  have e : (ps.map (·.1)).getD k noPo = p.1 := by simp [hp]
  rw [e]
  obtain ⟨a1, a2⟩ := pFlat_at hp
  obtain ⟨ad, h4, h5, h6⟩ := h2.rd _ _ a1
  obtain ⟨ad', h7, h8, h9⟩ := h2.rd _ _ a2
  rw [h4] at h7
  injection h7 with h7
  subst h7
  have h10 := h3 p (List.mem_of_getElem? hp)
  have h11 := h10.le
  rw [add_litP] at h9
  exact ⟨ad, p.2.1, p.2.2, h4, h6, h9, h11.2.1, h11.2.2, Own.rd h10⟩

set_option maxRecDepth 100000 in
set_option maxHeartbeats 2000000 in
theorem keptPo_any (A B : Option Addr) (n c m d base b2 : Nat) (l : List Po) (w : World) (hl : l.length = n) (hl2 : l.length = m) (hm : m ≤ d) (hd : d ≤ maxLen) (h : LentPo w base A n c l) (hr : RdPo w b2 B l) :
    Calls Try.prog 8 #[.slice A n c, .slice B m d] w (RetQ (.bool true) w) := by
  obtain rfl : n = m := by omega
  obtain ⟨-, hnc, hcm⟩ := h.rd
  have HL := hide hl
  have HH := hide h
  have HR := hide hr
  unfold maxLen at hcm hd
  clear hl hl2 h hr
  go_enter Try.func8, Try.ntmps8
  go_wp2
  go_loopw [5] (fun ix wr => ∃ k : Nat, k ≤ n ∧ ix = .int .i64 k ∧ Hid (∃ q, wr = w.drewN q)) (fun ix _ => n - (intOf ix).toNat)
  case atStart => exact ⟨0, by omega, rfl, hide ⟨0, rfl⟩⟩
  case round =>
    obtain ⟨wo, rfl⟩ : ∃ wo : World, wo = wr := ⟨_, rfl⟩
    obtain ⟨k, hk, rfl, HW⟩ := hrel
    have HFw : Hid (Fr No w wo) := hide (by obtain ⟨q, rfl⟩ := HW.out; exact (Fr.refl No w).drewN q)
    by_cases hlt : k < n
    · have h1 : k < l.length := by rw [HL.out]; exact hlt
      obtain ⟨ad, Ak, ck, rfl, c0, c1, o1, o2, o3⟩ := (HH.out.fr0 HFw.out).at HL.out hlt
      obtain ⟨bd, Bk, dk, rfl, -, d0, d1, p1, p2, p3⟩ := (HR.out.fr0 HFw.out).at h1
      obtain ⟨E, hE⟩ : ∃ E, l.getD k noPo = E := ⟨_, rfl⟩
      rw [hE] at c0 c1 o1 o3 d0 d1 p1 p3
      obtain ⟨pm, hpm⟩ : ∃ pm, E.2.length = pm := ⟨_, rfl⟩
      rw [hpm] at c1 o1 d1 p1
      obtain ⟨dd, hdd⟩ : ∃ x, E.1 = x := ⟨_, rfl⟩
      rw [hdd] at c0 d0
      have HKp := hide (fun t => keptI64_any Ak Bk pm ck pm dk wo.heap.size b2 E.2 (wo.drewN t) hpm hpm o1 o2 p1 p2 (o3.fr0 ((Fr.refl No wo).drewN t)) (p3.fr0 ((Fr.refl No wo).drewN t)))
      have hb : (dd != dd) = false := by simp
      have i0 : (0 : Int) ≤ (k : Int) := by omega
      have i1 : (k : Int) < (n : Int) := by omega
      clear h1 hE hpm hdd o1 o2 o3 p1 p2 p3
      go_wp2
      go_quiet ((go_at_call 16; exact Calls.quiet_of (HKp.out _)))
      go_wp2
      go_round
      case rel => exact ⟨k + 1, by omega, by go_num, hide (by obtain ⟨q, hq⟩ := HW.out; exact ⟨_, by rw [hq]; exact World.drewN_drewN _ _ _⟩)⟩
      case measure => simp [intOf]; omega
    · obtain rfl : k = n := by omega
      clear hlt
      go_wp2
      go_ret
      exact ⟨by simp, HW.out⟩
end Go.Proofs.Ytkenjhalamdjfaa
