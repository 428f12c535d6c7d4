/- lent: points in memory of their own; the document's. -/
import Derived.Test.YtkenjhalamdjfaaBkM
import Derived.Test.YtkenjhalamdjfaaKitI64
import Derived.Test.YtkenjhalamdjfaaWpN
import Derived.Test.YtkenjhalamdjfaaMem4
import Derived.Test.YtkenjhalamdjfaaStepA
import Derived.Deep.RegionLaw
import Derived.Deep.DeepCutAuto
namespace Go.Proofs.Ytkenjhalamdjfaa
set_option linter.unusedVariables false
set_option linter.unusedSimpArgs false
open Go.RowKit

def LentN10 (w : World) (base : Nat) (p : PoL) : Prop := Own w base 2 1 (.slice p.2.1 (p.1.2.length + 1) p.2.2) (p.1.2.length + 1) (iz .i64 (p.1.2 ++ [-7171]))
structure LentPo (w : World) (base : Nat) (A : Option Addr) (n c : Nat) (l : List Po) : Prop where
  ex : ∃ ps : List PoL, ps.map (·.1) = l ∧ Own w base 37 2 (.slice A n c) n (pFlat ps) ∧ ∀ p ∈ ps, LentN10 w base p
theorem LentPo.off {S : Nat → Prop} {w w' : World} {base n c : Nat} {A : Option Addr} {l : List Po} (h : LentPo w base A n c l) (f : Fr S w w') (h1 : Off S w 37) (h2 : Off S w 2) : LentPo w' base A n c l := by
  obtain ⟨ps, q1, q2, q3⟩ := h.ex
  exact ⟨ps, q1, q2.off f h1, fun p hp => Own.off (q3 p hp) f h2⟩
theorem LentPo.fr0 {w w' : World} {base n c : Nat} {A : Option Addr} {l : List Po} (h : LentPo w base A n c l) (f : Fr No w w') : LentPo w' base A n c l := h.off f (fun _ _ _ _ h => h) (fun _ _ _ _ h => h)
/-- lent points, read. -/
theorem LentPo.rd {w : World} {base n c : Nat} {A : Option Addr} {l : List Po} (h : LentPo w base A n c l) : RdPo w w.heap.size A l ∧ n ≤ c ∧ c ≤ maxLen := by
  obtain ⟨ps, q1, q2, q3⟩ := h.ex
  refine ⟨⟨ps, q1, q2.rd, fun p hp => ?_⟩, q2.le.2.1, q2.le.2.2⟩
  have h3 := q3 p hp
  have h4 := h3.le
  refine ⟨by omega, h4.2.2, ?_⟩
  have h5 := (Own.rd h3).tk p.1.2.length
  rw [← iz_take, List.take_left] at h5
  exact h5
/-- the document's points: their places lie where they did. -/
structure RefPo (w : World) (base B : Nat) (A : Option Addr) (n c : Nat) (l : List Po) : Prop where
  ex : ∃ ps : List PoL, ps.map (·.1) = l ∧ Own w base 38 2 (.slice A n c) n (pFlat ps) ∧ ∀ p ∈ ps, p.1.2.length ≤ p.2.2 ∧ p.2.2 ≤ maxLen ∧ Rd w B p.2.1 (iz .i64 p.1.2)
theorem RefPo.fr0 {w w' : World} {base B n c : Nat} {A : Option Addr} {l : List Po} (h : RefPo w base B A n c l) (f : Fr No w w') : RefPo w' base B A n c l := by
  obtain ⟨ps, q1, q2, q3⟩ := h.ex
  exact ⟨ps, q1, q2.fr0 f, fun p hp => ⟨(q3 p hp).1, (q3 p hp).2.1, (q3 p hp).2.2.fr0 f⟩⟩
theorem RefPo.rd {w : World} {base B n c : Nat} {A : Option Addr} {l : List Po} (h : RefPo w base B A n c l) (hB : B ≤ w.heap.size) : RdPo w w.heap.size A l ∧ n ≤ c ∧ c ≤ maxLen := by
  obtain ⟨ps, q1, q2, q3⟩ := h.ex
  exact ⟨⟨ps, q1, q2.rd, fun p hp => ⟨(q3 p hp).1, (q3 p hp).2.1, (q3 p hp).2.2.more hB⟩⟩, q2.le.2.1, q2.le.2.2⟩

theorem src_bp (w : World) (d : Int) (A : Option Addr) (m c : Nat) : Src Try.prog 2 23 (.slice (some ⟨w.heap.size, 0, none⟩) 1 1) 1 [.int .i64 d, .slice A m c] (w.alloc (.cells #[.int .i64 d, .slice A m c] 37)) :=
  Src.ofRd (P := Try.prog) (size := 2) _ Try.underlying23 (some ⟨w.heap.size, 0, none⟩) 1 1 [.int .i64 d, .slice A m c] rfl (by omega) (Rd.block (heap_alloc_new w (.cells #[.int .i64 d, .slice A m c] 37))) (by simp [Value.oneCell'])
theorem src_rp (w : World) (d : Int) (A : Option Addr) (m c : Nat) : Src Try.prog 2 24 (.slice (some ⟨w.heap.size, 0, none⟩) 1 1) 1 [.int .i64 d, .slice A m c] (w.alloc (.cells #[.int .i64 d, .slice A m c] 38)) :=
  Src.ofRd (P := Try.prog) (size := 2) _ Try.underlying24 (some ⟨w.heap.size, 0, none⟩) 1 1 [.int .i64 d, .slice A m c] rfl (by omega) (Rd.block (heap_alloc_new w (.cells #[.int .i64 d, .slice A m c] 38))) (by simp [Value.oneCell'])
set_option maxRecDepth 100000 in
set_option maxHeartbeats 2000000 in
theorem lentPo_any (A : Option Addr) (n c B : Nat) (l : List Po) (w : World) (hl : l.length = n) (hn : n ≤ c) (hc : c ≤ maxLen) (hc2 : n * 32 ≤ 140737488355328) (hns : ∀ e ∈ l, (e.2.length + 1) * 8 ≤ 140737488355328) (hB : B ≤ w.heap.size) (hr : RdPo w B A l) :
    Calls Try.prog 4 #[.slice A n c] w (fun en w' => ∃ A1 c1 A2 c2, en = .returned (.tuple #[.slice A1 n c1, .slice A2 n c2]) ∧ LentPo w' w.heap.size A1 n c1 l ∧ RefPo w' w.heap.size B A2 n c2 l ∧ Fr No w w') := by
  obtain ⟨ip, hip, hipz, hipsz, hipby⟩ := info_parts Try.infoBP
  obtain ⟨iq, hiq, hiqz, hiqsz, hiqby⟩ := info_parts Try.infoRP
  have HL := hide hl
  have HR := hide hr
  have HNS := hide hns
  have HF0 := hide (Fr.refl No w)
  clear hl hr hns
  go_enter Try.func4, Try.ntmps4
  go_wp2
  go_loopw [4, 5, 6] (fun v u ix wr => ∃ (j : Nat) (ps qs : List PoL), j ≤ n ∧ ix = .int .i64 (j : Nat) ∧ Hid (ps.map (·.1) = l.take j) ∧ Hid (Own wr w.heap.size 37 2 v j (pFlat ps)) ∧ Hid (∀ p ∈ ps, LentN10 wr w.heap.size p) ∧ Hid (qs.map (·.1) = l.take j) ∧ Hid (Own wr w.heap.size 38 2 u j (pFlat qs)) ∧ Hid (∀ p ∈ qs, p.1.2.length ≤ p.2.2 ∧ p.2.2 ≤ maxLen ∧ Rd w B p.2.1 (iz .i64 p.1.2)) ∧ Hid (Fr No w wr)) (fun _ _ ix _ => n - (intOf ix).toNat)
  case atStart => exact ⟨0, [], [], by omega, by go_num, hide (by simp), hide (Own.nil _ _ _ _), hide (fun p hp => by simp at hp), hide (by simp), hide (Own.nil _ _ _ _), hide (fun p hp => by simp at hp), HF0⟩
  case round =>
    obtain ⟨wo, rfl⟩ : ∃ wo : World, wo = wr := ⟨_, rfl⟩
    obtain ⟨j, ps, qs, hj, rfl, HPs, HO, HN, HQs, HP, HM2, HFr⟩ := hrel
    clear HF0
    by_cases hlt : j < n
    · have hjl : j < l.length := by rw [HL.out]; exact hlt
      obtain ⟨ad, Ak, ck, rfl, _, g0, g1, e1, e2, hrk0⟩ := HR.out.at hjl
      have k0 := HFr.out.cell g0 (fun h => h)
      have k1 := HFr.out.cell g1 (fun h => h)
      have hrk := hrk0.fr0 HFr.out
      have hmem : l.getD j noPo ∈ l := getP_mem hjl
      have hsz := HNS.out _ hmem
      have HTk := hide (take_snocP hjl)
      obtain ⟨E, hE⟩ : ∃ E, l.getD j noPo = E := ⟨_, rfl⟩
      rw [hE] at k0 k1 e1 hrk hrk0 hsz HTk g0 g1
      obtain ⟨m, hm⟩ : ∃ m, E.2.length = m := ⟨_, rfl⟩
      obtain ⟨d, hd⟩ : ∃ d, E.1 = d := ⟨_, rfl⟩
      rw [hm] at k1 e1 hsz g1
      rw [hd] at k0 g0
      have HG0 := hide g0
      have HG1 := hide g1
      clear g0 g1
      have HM := hide hm
      have HD := hide hd
      have HRk := hide hrk0
      have HEc := hide (And.intro e1 e2)
      have HLe := hide (lentI64_any Ak m ck B E.2 wo.drew hm hsz (hrk.fr0 (Fr.refl No wo).drew))
      have k0d : wo.drew.cell? (ad.add (j * 2)) = some (.int .i64 d) := k0
      have k1d : wo.drew.cell? ⟨(ad.add (j * 2)).block, (ad.add (j * 2)).off + 1, none⟩ = some (.slice Ak m ck) := k1
      have i0 : (0 : Int) ≤ (j : Int) := by omega
      have i1 : (j : Int) < (n : Int) := by omega
      have b1 : (j + 1) * 32 ≤ 140737488355328 := by omega
      have b2 : j + 1 ≤ maxLen := by unfold maxLen; omega
      unfold maxLen at e2
      clear hE hm hd hmem hrk hrk0 hjl k0 k1 hsz
      have HAl := hide (fun (W : World) (f : Fr No wo W) (A3 : Option Addr) (c3 : Nat) => HO.out.fr0 (f.alloc (.cells #[.int .i64 d, .slice A3 m c3] 37)))
      have HZl := hide (fun (W : World) (f : Fr No wo W) (A3 : Option Addr) (c3 : Nat) => ((HFr.out.tr f).alloc (.cells #[.int .i64 d, .slice A3 m c3] 37)).size)
      go_upto_region 6 with (fail)
      refine wp_named fun K hK => ?_
      go_cut [4] from 7 to 27 (fun v wx => ∃ ps2 : List PoL, Hid (ps2.map (·.1) = l.take (j + 1)) ∧ Hid (Own wx w.heap.size 37 2 v (j + 1) (pFlat ps2)) ∧ Hid (∀ p ∈ ps2, LentN10 wx w.heap.size p) ∧ Hid (Fr No w wx) ∧ Hid (Own wx w.heap.size 38 2 u5 j (pFlat qs)))
      case first =>
        go_region_law (first
          | (refine step_append_any rfl (.tmp 13) (.tmp 26) 23 23 rfl w.heap.size 37 ip (.agg #[.int .i64 0, .slice none 0 0]) 2 32 Try.underlying23 hip hipz hipsz hipby rfl u4 j (pFlat ps) rfl HO5.out _ 1 [.int .i64 d, .slice A3 m c3] rfl HS5.out b1 b2 b3 ?_; intro v6 w6 hown hfr; have HO6 := hide hown; have HF6 := hide hfr; clear hown hfr)
          | (go_simp; go_at_call 9; refine HLe.out.mono ?_; rintro en w3 ⟨A3, c3, he, hown, hfr⟩; rw [HM.out] at he hown; subst he; have HO3 := hide hown; have hfr3 : Fr No wo w3 := (Fr.refl No wo).drew.tr hfr; have HF3 := hide hfr3; have k03 := hfr3.cell k0d (fun h => h); have HO5 := hide (HAl.out w3 hfr3 A3 c3); have HS5 := hide (src_bp w3 d A3 m c3); have b3 := (HZl.out w3 hfr3 A3 c3); clear hown hfr hfr3))
        all_goals (go_wp2; go_meet)
        all_goals (
          have fA : Fr No w3 (w3.alloc (.cells #[.int .i64 d, .slice A3 m c3] 37)) := (Fr.refl No w3).alloc _
          refine ⟨ps ++ [(E, A3, c3)], hide ?_, hide ?_, hide ?_, hide ?_, hide ?_⟩
          · rw [List.map_append, HPs.out, HTk.out]; rfl
          · rw [pFlat_snoc]
            unfold pRow
            dsimp only
            rw [HM.out, HD.out]
            exact HO6.out
          · intro p hp
            rcases List.mem_append.1 hp with hp | hp
            · exact ((Own.fr0 (HN.out p hp) HF3.out).fr0 fA).off HF6.out (off_own HO5.out (by decide))
            · rw [List.mem_singleton.1 hp]
              unfold LentN10
              dsimp only
              rw [HM.out]
              exact ((HO3.out.lower HFr.out.size).fr0 fA).off HF6.out (off_own HO5.out (by decide))
          · exact ((HFr.out.tr HF3.out).tr fA).own HF6.out (fun k hk => .inl (HO5.out.lt k hk).1)
          · exact ((HP.out.fr0 HF3.out).fr0 fA).off HF6.out (off_own HO5.out (by decide)))
      case rest =>
      obtain ⟨ps2, HP2, HO2, HN2, HF2, HU2⟩ := hcut
      obtain ⟨w7, rfl⟩ : ∃ W : World, W = wc := ⟨_, rfl⟩
      refine hK _ _ ?_
      clear hK K k0d k1d HAl HZl HLe
      have k0d : w7.drew.cell? (ad.add (j * 2)) = some (.int .i64 d) := HF2.out.cell HG0.out (fun h => h)
      have k1d : w7.drew.cell? ⟨(ad.add (j * 2)).block, (ad.add (j * 2)).off + 1, none⟩ = some (.slice Ak m ck) := HF2.out.cell HG1.out (fun h => h)
      have HO5 := hide ((HU2.out.fr0 ((Fr.refl No w7).drew)).fr0 ((Fr.refl No w7.drew).alloc (.cells #[.int .i64 d, .slice Ak m ck] 38)))
      have HS5 := hide (src_rp w7.drew d Ak m ck)
      have b3 : w.heap.size ≤ (w7.drew.alloc (.cells #[.int .i64 d, .slice Ak m ck] 38)).heap.size := ((HF2.out.drew).alloc _).size
      go_upto_region 7 with (fail)
      refine wp_named fun K hK => ?_
      go_cut [5] from 28 to 41 (fun u wx => ∃ qs2 : List PoL, Hid (qs2.map (·.1) = l.take (j + 1)) ∧ Hid (Own wx w.heap.size 38 2 u (j + 1) (pFlat qs2)) ∧ Hid (∀ p ∈ qs2, p.1.2.length ≤ p.2.2 ∧ p.2.2 ≤ maxLen ∧ Rd w B p.2.1 (iz .i64 p.1.2)) ∧ Hid (Fr No w wx) ∧ Hid (Own wx w.heap.size 37 2 u4 (j + 1) (pFlat ps2)) ∧ Hid (∀ p ∈ ps2, LentN10 wx w.heap.size p))
      case first =>
        go_region_law (refine step_append_any rfl (.tmp 28) (.tmp 40) 24 24 rfl w.heap.size 38 iq (.agg #[.int .i64 0, .slice none 0 0]) 2 32 Try.underlying24 hiq hiqz hiqsz hiqby rfl u5 j (pFlat qs) rfl HO5.out _ 1 [.int .i64 d, .slice Ak m ck] rfl HS5.out b1 b2 b3 ?_; intro v6 w6 hown hfr; have HO6 := hide hown; have HF6 := hide hfr; clear hown hfr)
        all_goals (go_wp2; go_meet)
        all_goals (
          have fA : Fr No w7 (w7.drew.alloc (.cells #[.int .i64 d, .slice Ak m ck] 38)) := ((Fr.refl No w7).drew).alloc _
          refine ⟨qs ++ [(E, Ak, ck)], hide ?_, hide ?_, hide ?_, hide ?_, hide ?_, hide ?_⟩
          · rw [List.map_append, HQs.out, HTk.out]; rfl
          · rw [pFlat_snoc]
            unfold pRow
            dsimp only
            rw [HM.out, HD.out]
            exact HO6.out
          · intro p hp
            rcases List.mem_append.1 hp with hp | hp
            · exact HM2.out p hp
            · rw [List.mem_singleton.1 hp]
              dsimp only
              rw [HM.out]
              exact ⟨HEc.out.1, HEc.out.2, HRk.out⟩
          · exact (HF2.out.tr fA).own HF6.out (fun k hk => .inl (HO5.out.lt k hk).1)
          · exact (HO2.out.fr0 fA).off HF6.out (off_own HO5.out (by decide))
          · intro p hp
            exact ((Own.fr0 (HN2.out p hp) fA)).off HF6.out (off_own HO5.out (by decide)))
      case rest =>
      obtain ⟨qs2, HQ2, HV2, HR2, HF8, HO8, HN8⟩ := hcut
      obtain ⟨w8, rfl⟩ : ∃ W : World, W = wc := ⟨_, rfl⟩
      refine hK _ _ ?_
      clear hK K k0d k1d
      go_wp2_with (fail)
      go_roundw
      case rel => exact ⟨j + 1, ps2, qs2, by omega, by go_num, HP2, HO8, HN8, HQ2, HV2, HR2, HF8⟩
      case measure => simp [intOf]; omega
    · obtain rfl : j = n := by omega
      have hall : l.take j = l := List.take_of_length_le (by rw [HL.out]; exact Nat.le_refl _)
      rw [hall] at HPs HQs
      obtain ⟨A1, c1, rfl, x1, x2, _⟩ := HO.out.form
      obtain ⟨A2, c2, rfl, y1, y2, _⟩ := HP.out.form
      unfold maxLen at x2 y2
      clear hall hlt
      go_wp2
      go_ret2
      exact ⟨A1, c1, A2, c2, rfl, ⟨ps, HPs.out, HO.out, HN.out⟩, ⟨qs, HQs.out, HP.out, fun p hp => ⟨(HM2.out p hp).1, (HM2.out p hp).2.1, (HM2.out p hp).2.2.fr0 HFr.out⟩⟩, HFr.out⟩
end Go.Proofs.Ytkenjhalamdjfaa
