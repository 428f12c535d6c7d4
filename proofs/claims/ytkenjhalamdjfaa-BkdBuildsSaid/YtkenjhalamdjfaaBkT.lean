/- The document's sorted, walked. -/
import Derived.Test.YtkenjhalamdjfaaBkR
import Derived.Test.YtkenjhalamdjfaaBkLe
namespace Go.Proofs.Ytkenjhalamdjfaa
set_option linter.unusedVariables false
set_option linter.unusedSimpArgs false
open Go.RowKit

theorem pFlat_takeT (ps : List PoL) (k : Nat) : pFlat (ps.take k) = (pFlat ps).take (k * 2) := by
  induction ps generalizing k with
  | nil => simp [pFlat]
  | cons p r ih =>
    cases k with
    | zero => simp [pFlat]
    | succ k =>
      have e : pFlat (p :: r) = pRow p ++ pFlat r := rfl
      have e2 : pFlat (p :: r.take k) = pRow p ++ pFlat (r.take k) := rfl
      rw [List.take_succ_cons, e, e2, ih, show (k + 1) * 2 = (pRow p).length + k * 2 by simp [pRow]; omega, List.take_length_add_append]
theorem pFlat_dropT (ps : List PoL) (k : Nat) : pFlat (ps.drop k) = (pFlat ps).drop (k * 2) := by
  induction ps generalizing k with
  | nil => simp [pFlat]
  | cons p r ih =>
    cases k with
    | zero => simp
    | succ k =>
      have e : pFlat (p :: r) = pRow p ++ pFlat r := rfl
      rw [List.drop_succ_cons, e, ih, show (k + 1) * 2 = (pRow p).length + k * 2 by simp [pRow]; omega, List.drop_length_add_append]
theorem RdPo.take {w : World} {B : Nat} {A : Option Addr} {l : List Po} (h : RdPo w B A l) (k : Nat) : RdPo w B A (l.take k) := by
  obtain ⟨ps, h1, h2, h3⟩ := h.ex
  exact ⟨ps.take k, by rw [← h1, List.map_take], by rw [pFlat_takeT]; exact h2.tk (k * 2), fun p hp => h3 p (List.mem_of_mem_take hp)⟩
theorem RdPo.drop {w : World} {B : Nat} {ad : Addr} {l : List Po} (h : RdPo w B (some ad) l) (k : Nat) : RdPo w B (some (ad.add (k * 2))) (l.drop k) := by
  obtain ⟨ps, h1, h2, h3⟩ := h.ex
  exact ⟨ps.drop k, by rw [← h1, List.map_drop], by rw [pFlat_dropT]; exact h2.dr (k * 2), fun p hp => h3 p (List.mem_of_mem_drop hp)⟩
theorem RdPo.more {w : World} {B B' : Nat} {A : Option Addr} {l : List Po} (h : RdPo w B A l) (hb : B ≤ B') : RdPo w B' A l := by
  obtain ⟨ps, h1, h2, h3⟩ := h.ex
  exact ⟨ps, h1, h2.more hb, fun p hp => ⟨(h3 p hp).1, (h3 p hp).2.1, (h3 p hp).2.2.more hb⟩⟩
theorem RdPo.empty (w : World) (B : Nat) (A : Option Addr) : RdPo w B A [] := ⟨[], rfl, fun j u hu => by simp [pFlat] at hu, fun p hp => nomatch hp⟩
/-- a row of points that is read: it lies below B, or in a block of points; the places lie below B. -/
structure RdS (w : World) (B : Nat) (A : Option Addr) (l : List Po) : Prop where
  ex : ∃ ps : List PoL, ps.map (·.1) = l ∧ (∀ (j : Nat) u, (pFlat ps)[j]? = some u → ∃ ad, A = some ad ∧ (ad.block < B ∨ ∃ cs fz, w.heap[ad.block]? = some (.cells cs 38 fz)) ∧ w.cell? (ad.add j) = some u) ∧ ∀ p ∈ ps, p.1.2.length ≤ p.2.2 ∧ p.2.2 ≤ maxLen ∧ Rd w B p.2.1 (iz .i64 p.1.2)
theorem RdS.of {w : World} {B : Nat} {A : Option Addr} {l : List Po} (h : RdPo w B A l) : RdS w B A l := by
  obtain ⟨ps, h1, h2, h3⟩ := h.ex
  exact ⟨ps, h1, fun j u hu => by obtain ⟨ad, e, hb, hc⟩ := h2 j u hu; exact ⟨ad, e, .inl hb, hc⟩, h3⟩
theorem RdS.rd {w : World} {B : Nat} {A : Option Addr} {l : List Po} (h : RdS w B A l) (hB : B ≤ w.heap.size) : RdPo w w.heap.size A l := by
  obtain ⟨ps, h1, h2, h3⟩ := h.ex
  refine ⟨ps, h1, fun j u hu => ?_, fun p hp => ⟨(h3 p hp).1, (h3 p hp).2.1, (h3 p hp).2.2.more hB⟩⟩
  obtain ⟨ad, e, hb, hc⟩ := h2 j u hu
  refine ⟨ad, e, ?_, hc⟩
  rcases hb with hb | ⟨cs, fz, hb⟩
  · omega
  · exact (Array.getElem?_eq_some_iff.1 hb).1
theorem RdS.off {S : Nat → Prop} {w w' : World} {B : Nat} {A : Option Addr} {l : List Po} (h : RdS w B A l) (f : Fr S w w') (hB : ∀ k, k < B → ¬ S k) (ho : Off S w 38) : RdS w' B A l := by
  obtain ⟨ps, h1, h2, h3⟩ := h.ex
  refine ⟨ps, h1, fun j u hu => ?_, fun p hp => ⟨(h3 p hp).1, (h3 p hp).2.1, (h3 p hp).2.2.fr f hB⟩⟩
  obtain ⟨ad, e, hb, hc⟩ := h2 j u hu
  have hS : ¬ S ad.block := by
    rcases hb with hb | ⟨cs, fz, hb⟩
    · exact hB _ hb
    · exact ho _ _ _ hb
  refine ⟨ad, e, ?_, f.cell hc (by rw [block_of_add]; exact hS)⟩
  rcases hb with hb | ⟨cs, fz, hb⟩
  · exact .inl hb
  · exact .inr ⟨cs, fz, f.blk hb hS⟩
theorem RdS.fr0 {w w' : World} {B : Nat} {A : Option Addr} {l : List Po} (h : RdS w B A l) (f : Fr No w w') : RdS w' B A l := h.off f (fun _ _ h => h) (fun _ _ _ _ h => h)
theorem RdS.own {w : World} {B base n c : Nat} {A : Option Addr} {ps : List PoL} (h : Own w base 38 2 (.slice A n c) n (pFlat ps)) (hp : ∀ p ∈ ps, p.1.2.length ≤ p.2.2 ∧ p.2.2 ≤ maxLen ∧ Rd w B p.2.1 (iz .i64 p.1.2)) : RdS w B A (ps.map (·.1)) := by
  refine ⟨ps, rfl, fun j u hu => ?_, hp⟩
  obtain ⟨ad, e, hb, hc⟩ := h.rd j u hu
  subst e
  refine ⟨ad, rfl, .inr ?_, hc⟩
  obtain ⟨_, A', c', hv, _, _, hA⟩ := h
  injection hv with e1 _ _
  rcases hA with ⟨e2, _⟩ | ⟨g, cur, e2, _, hh, _⟩
  · rw [e2] at e1; cases e1
  · rw [e2] at e1
    injection e1 with e1
    subst e1
    exact ⟨cur, _, hh⟩
/-- a point's two cells. -/
theorem RdS.at {w : World} {B : Nat} {A : Option Addr} {l : List Po} (h : RdS w B A l) {k : Nat} (hk : k < l.length) :
    ∃ (ad : Addr) (Ak : Option Addr) (c : Nat), A = some ad ∧ True ∧ w.cell? (ad.add (k * 2)) = some (.int .i64 (l.getD k noPo).1) ∧
      w.cell? ⟨(ad.add (k * 2)).block, (ad.add (k * 2)).off + 1, none⟩ = some (.slice Ak (l.getD k noPo).2.length c) ∧ (l.getD k noPo).2.length ≤ c ∧ c ≤ maxLen ∧ Rd w B Ak (iz .i64 (l.getD k noPo).2) := by
  obtain ⟨ps, rfl, h2, h3⟩ := h.ex
  rw [List.length_map] at hk
  obtain ⟨p, hp⟩ : ∃ p, ps[k]? = some p := ⟨_, List.getElem?_eq_getElem hk⟩
  have e : (ps.map (·.1)).getD k noPo = p.1 := by simp [hp]
  rw [e]
  obtain ⟨a1, a2⟩ := pFlat_at hp
  obtain ⟨ad, h4, h5, h6⟩ := h2 _ _ a1
  obtain ⟨ad', h7, h8, h9⟩ := h2 _ _ a2
  rw [h4] at h7
  injection h7 with h7
  subst h7
  have h10 := h3 p (List.mem_of_getElem? hp)
  rw [add_litP] at h9
  exact ⟨ad, p.2.1, p.2.2, h4, trivial, h6, h9, h10.1, h10.2.1, h10.2.2⟩
theorem RdS.empty (w : World) (B : Nat) (A : Option Addr) : RdS w B A [] := ⟨[], rfl, fun j u hu => by simp [pFlat] at hu, fun p hp => nomatch hp⟩
theorem RdS.drop {w : World} {B : Nat} {ad : Addr} {l : List Po} (h : RdS w B (some ad) l) (k : Nat) : RdS w B (some (ad.add (k * 2))) (l.drop k) := by
  obtain ⟨ps, h1, h2, h3⟩ := h.ex
  refine ⟨ps.drop k, by rw [← h1, List.map_drop], fun j u hu => ?_, fun p hp => h3 p (List.mem_of_mem_drop hp)⟩
  rw [pFlat_dropT, List.getElem?_drop] at hu
  obtain ⟨ad', e, hb, hc⟩ := h2 _ u hu
  cases e
  exact ⟨_, rfl, by rw [block_of_add]; exact hb, by rw [add_of_add]; exact hc⟩
theorem RdS.take {w : World} {B : Nat} {A : Option Addr} {l : List Po} (h : RdS w B A l) (k : Nat) : RdS w B A (l.take k) := by
  obtain ⟨ps, h1, h2, h3⟩ := h.ex
  refine ⟨ps.take k, by rw [← h1, List.map_take], fun j u hu => ?_, fun p hp => h3 p (List.mem_of_mem_take hp)⟩
  rw [pFlat_takeT, List.getElem?_take] at hu
  split at hu
  · exact h2 j u hu
  · cases hu
/-- what is left behind the first point. -/
theorem RdS.tail {w : World} {B c : Nat} {ad : Addr} {p : Po} {r : List Po} (h : RdS w B (some ad) (p :: r)) (hc : (p :: r).length ≤ c) : RdS w B (if c = 1 then some ad else some (ad.add (1 * 2))) r := by
  split
  · rename_i e
    have : r = [] := by
      cases r with
      | nil => rfl
      | cons q t => simp at hc; omega
    subst this
    exact RdS.empty _ _ _
  · exact h.drop 1
def SrtQ (w : World) (B : Nat) (l : List Po) (n : Nat) (en : Ending) (w' : World) : Prop := ∃ A c, en = .returned (.slice A n c) ∧ n ≤ c ∧ c ≤ maxLen ∧ RdS w' B A l ∧ Fr No w w'
set_option maxRecDepth 100000 in
set_option maxHeartbeats 8000000 in
theorem sorted_any (d dims : Nat) (hdd : d < dims) : ∀ (n : Nat) (A : Option Addr) (c B : Nat) (l : List Po) (w : World), l.length = n → n ≤ 1048576 → n ≤ c → c ≤ maxLen → B ≤ w.heap.size → (∀ p ∈ l, p.2.length = dims) → RdPo w B A l →
    Calls Try.prog 23 #[.slice A n c, .int .i64 (d : Nat)] w (SrtQ w B (sortP d l) n) := by
  intro n
  induction n using Nat.strongRecOn with
  | ind n ih =>
    intro A c B l w hl hnb hn hc hB hd hr
    have HL := hide hl
    have HC := hide hc
    by_cases h2 : n < 2
    · have hs : sortP d l = l := sort_short (by rw [hl]; exact h2)
      have HS := hide hs
      have HR := hide (RdS.of hr)
      unfold maxLen at hc
      clear hl hr ih hd hs
      go_enter Try.func23, Try.ntmps23
      go_wp2
      go_ret
      exact ⟨A, c, rfl, hn, HC.out, by rw [HS.out]; exact HR.out, Fr.refl _ _⟩
    obtain ⟨iq, hiq, hiqz, hiqsz, hiqby⟩ := info_parts Try.infoRP
    have HIh := hide ih
    have HR := hide hr
    have HD := hide hd
    obtain ⟨k, hk⟩ : ∃ k, k = n / 2 := ⟨_, rfl⟩
    have ek : (n : Int) / 2 = (k : Int) := by omega
    have hkn : k < n := by omega
    have hk1 : 1 ≤ k := by omega
    obtain ⟨ad, _, _, rfl, _⟩ := hr.at (k := 0) (by rw [hl]; omega)
    have HA := hide (HIh.out k hkn (some ad) c B (l.take k) w (by rw [List.length_take, hl]; omega) (by omega) (by omega) hc hB (fun p hp => hd p (List.mem_of_mem_take hp)) (hr.take k))
    have HB := hide (fun W (f : Fr No w W) => HIh.out (n - k) (by omega) (some (ad.add (k * 2))) (c - k) B (l.drop k) W (by rw [List.length_drop, hl]) (by omega) (by omega) (by omega) (Nat.le_trans hB f.size) (fun p hp => hd p (List.mem_of_mem_drop hp)) ((hr.drop k).fr0 f))
    have hkle : k ≤ n := by omega
    have hck : ¬ c = k := by omega
    unfold maxLen at hc
    clear hl hr ih hd hk
    go_enter Try.func23, Try.ntmps23
    go_wp2_with (fail)
    refine HA.out.mono ?_
    rintro en w1 ⟨A1, c1, rfl, x1, x2, hra, hf⟩
    have HF1 := hide hf
    have HRa := hide hra
    have HBc := hide (HB.out w1 hf)
    have HX2 := hide x2
    unfold maxLen at x2
    clear hf hra HA HB
    go_wp2_with (fail)
    refine HBc.out.mono ?_
    rintro en w2 ⟨A2, c2, rfl, y1, y2, hrb, hf⟩
    have HF2 := hide (HF1.out.tr hf)
    have HRa2 := hide (HRa.out.fr0 hf)
    have HRb2 := hide hrb
    have HDa : Hid (∀ p ∈ sortP d (l.take k), p.2.length = dims) := hide (fun p hp => HD.out p (List.mem_of_mem_take (sortP_mem.1 hp)))
    have HDb : Hid (∀ p ∈ sortP d (l.drop k), p.2.length = dims) := hide (fun p hp => HD.out p (List.mem_of_mem_drop (sortP_mem.1 hp)))
    have HMg := hide (sort_merge d k l)
    have HLa : Hid ((sortP d (l.take k)).length = k) := hide (by rw [sortP_len, List.length_take, HL.out]; omega)
    have HLb : Hid ((sortP d (l.drop k)).length = n - k) := hide (by rw [sortP_len, List.length_drop, HL.out])
    have HFz := hide (Fr.refl No w2)
    unfold maxLen at y2
    clear hf hrb HBc HRa HF1
    go_wp2_with (fail)
    go_loopw [5, 6, 7] (fun va vb vo wr => ∃ (Aa Ab : Option Addr) (na ca nb cb m : Nat) (rr ss : List Po) (os : List PoL), va = .slice Aa na ca ∧ vb = .slice Ab nb cb ∧ na ≤ ca ∧ ca ≤ 2 ^ 63 - 1 ∧ nb ≤ cb ∧ cb ≤ 2 ^ 63 - 1 ∧ m + na + nb = n ∧ Hid (rr.length = na) ∧ Hid (ss.length = nb) ∧ Hid (RdS w2 B Aa rr) ∧ Hid (RdS w2 B Ab ss) ∧ Hid (os.map (·.1) ++ rr.merge ss (leP d) = sortP d l) ∧ Hid (∀ p ∈ rr, p.2.length = dims) ∧ Hid (∀ p ∈ ss, p.2.length = dims) ∧ Hid (Own wr w2.heap.size 38 2 vo m (pFlat os)) ∧ Hid (∀ p ∈ os, p.1.2.length ≤ p.2.2 ∧ p.2.2 ≤ maxLen ∧ Rd w2 B p.2.1 (iz .i64 p.1.2)) ∧ Hid (Fr No w2 wr)) (fun va vb _ _ => (match va with | .slice _ x _ => x | _ => 0) + (match vb with | .slice _ x _ => x | _ => 0))
    case atStart => exact ⟨A1, A2, k, c1, n - k, c2, 0, _, _, [], rfl, rfl, x1, x2, y1, y2, by omega, HLa, HLb, HRa2, HRb2, hide (by rw [List.map_nil, List.nil_append]; exact HMg.out), HDa, HDb, hide (Own.nil _ _ _ _), hide (fun p hp => by cases hp), HFz⟩
    case round =>
      clear HLa HLb HRa2 HRb2 HDa HDb
      obtain ⟨wo, rfl⟩ : ∃ wo : World, wo = wr := ⟨_, rfl⟩
      obtain ⟨Aa, Ab, na, ca, nb, cb, m, rr, ss, os, rfl, rfl, g1, g2, g3, g4, hmn, HRl, HSl, HRr, HRs, HMe, HDr, HDs, HO, HOs, HF⟩ := hrel
      by_cases hend : na = 0 ∧ nb = 0
      · obtain ⟨rfl, rfl⟩ := hend
        obtain ⟨A3, c3, rfl, z1, z2, _, z3, _⟩ := HO.out.form
        obtain rfl : m = n := by omega
        have hr0 : rr = [] := List.eq_nil_of_length_eq_zero HRl.out
        have hs0 : ss = [] := List.eq_nil_of_length_eq_zero HSl.out
        have hres : os.map (·.1) = sortP d l := by rw [← HMe.out, hr0, hs0]; simp [List.merge]
        have HRes := hide hres
        have HO3 := hide HO.out
        have HZ12 := hide (And.intro z1 z2)
        unfold maxLen at z2
        clear hr0 hs0 hres z3
        go_wp2_with (fail)
        go_ret
        exact ⟨A3, c3, rfl, HZ12.out.1, HZ12.out.2, by rw [← HRes.out]; exact RdS.own HO3.out (fun p hp => ⟨(HOs.out p hp).1, (HOs.out p hp).2.1, (HOs.out p hp).2.2.fr0 HF.out⟩), HF2.out.tr HF.out⟩
      · by_cases hna : na = 0
        · subst hna
          have hnb : 0 < nb := by omega
          obtain ⟨pb, tb, rfl⟩ : ∃ y s', ss = y :: s' := by
            match ss, HSl.out with
            | [], h => simp at h; omega
            | y :: s', _ => exact ⟨y, s', rfl⟩
          obtain ⟨adb, Eb, qb, rfl, _, kb0, kb1, gb1, gb2, hrb⟩ := HRs.out.at (k := 0) (by simp)
          have ezb : (pb :: tb).getD 0 noPo = pb := rfl
          rw [ezb] at kb0 kb1 gb1 hrb
          rw [Nat.zero_mul, Addr.add_zero'] at kb0 kb1
          have HQb := hide (And.intro gb1 (And.intro gb2 hrb))
          have hmb : dims = pb.2.length := (HDs.out _ List.mem_cons_self).symm
          obtain ⟨eb, heb⟩ : ∃ x, x = pb.1 := ⟨_, rfl⟩
          rw [← hmb] at kb1 gb1
          rw [← hmb] at HQb
          rw [← heb] at kb0
          have HMb := hide hmb
          have HEb := hide heb
          have kb0 := HF.out.cell kb0 (fun h => h)
          have kb1 := HF.out.cell kb1 (fun h => h)
          have HKb0 := hide kb0
          have HKb1 := hide kb1
          unfold maxLen at gb2
          clear ezb hmb heb
          have hr0 : rr = [] := List.eq_nil_of_length_eq_zero HRl.out
          have HMn : Hid ((os ++ [(pb, Eb, qb)]).map (·.1) ++ rr.merge tb (leP d) = sortP d l) := hide (by rw [← HMe.out, merge_b (by rw [hr0]; exact .inl rfl), List.map_append, List.append_assoc]; rfl)
          have d1 : decide ((0 : Int) < (nb : Int)) = true := decide_eq_true (by omega)
          have d2 : decide (0 < nb) = true := decide_eq_true hnb
          clear hr0 kb0 kb1 hend
          go_wp2_with (fail)
          go_quiet (fail)
          have HF4 : Hid (Fr No wo (wo.drewN nq)) := hide ((Fr.refl No wo).drewN nq)
          obtain ⟨w4, hw4⟩ : ∃ x, x = wo.drewN nq := ⟨_, rfl⟩
          rw [← hw4] at HF4 ⊢
          clear hw4
          have kb0 := HF4.out.cell HKb0.out (fun h => h)
          have kb1 := HF4.out.cell HKb1.out (fun h => h)
          have HOa := hide ((HO.out.fr0 HF4.out).fr0 ((Fr.refl No w4).alloc (.cells #[.int .i64 eb, .slice Eb dims qb] 38)))
          have HSa := hide (src_rp w4 eb Eb dims qb)
          have hza : w2.heap.size ≤ (w4.alloc (.cells #[.int .i64 eb, .slice Eb dims qb] 38)).heap.size := ((HF.out.tr HF4.out).alloc _).size
          have b1 : (m + 1) * 32 ≤ 140737488355328 := by omega
          have b2 : m + 1 ≤ maxLen := by unfold maxLen; omega
          by_cases hc1 : cb = 1
          · subst hc1
            go_wp2_with (at_builtin; refine wpList_append_gen _ rfl (.tmp 52) (.tmp 56) 24 24 rfl w2.heap.size 38 iq (.agg #[.int .i64 0, .slice none 0 0]) 2 32 Try.underlying24 hiq hiqz hiqsz hiqby rfl u7 m (pFlat os) rfl HOa.out _ 1 [.int .i64 eb, .slice Eb dims qb] rfl HSa.out b1 b2 hza ?_; intro v5 w5 hown hfr hat; have HO5 := hide hown; have HF5 := hide ((HF.out.tr HF4.out).alloc (.cells #[.int .i64 eb, .slice Eb dims qb] 38)); have HF6 : Hid (Fr No w2 w5) := hide (HF5.out.own hfr (fun g hg => .inl (HOa.out.lt g hg).1)); clear hown hfr hat)
            go_roundw
            case rel =>
              refine ⟨_, some adb, _, ca, 0, 0, m + 1, rr, tb, os ++ [(pb, Eb, qb)], rfl, rfl, by omega, by omega, by omega, by omega, by omega, ?_, ?_, ?_, ?_, ?_, ?_, ?_, ?_, ?_, HF6⟩
              · exact HRl
              · exact hide (by have := HSl.out; simp only [List.length_cons] at this; omega)
              · exact HRr
              · exact hide (by have h := HRs.out.tail (c := 1) (by have := HSl.out; omega); rw [if_pos rfl] at h; exact h)
              · exact HMn
              · exact HDr
              · exact hide (fun x hx => HDs.out x (List.mem_cons_of_mem _ hx))
              · exact hide (by rw [pFlat_snoc]; unfold pRow; dsimp only; rw [← HEb.out, ← HMb.out]; exact HO5.out)
              · exact hide (fun x hx => by
                  rcases List.mem_append.1 hx with hx | hx
                  · exact HOs.out x hx
                  · rw [List.mem_singleton.1 hx]; exact ⟨by dsimp only; rw [← HMb.out]; exact HQb.out.1, HQb.out.2.1, HQb.out.2.2⟩)
            case measure => simp; omega
          · have hc1' : ¬ (cb = 1) := hc1
            go_wp2_with (at_builtin; refine wpList_append_gen _ rfl (.tmp 52) (.tmp 56) 24 24 rfl w2.heap.size 38 iq (.agg #[.int .i64 0, .slice none 0 0]) 2 32 Try.underlying24 hiq hiqz hiqsz hiqby rfl u7 m (pFlat os) rfl HOa.out _ 1 [.int .i64 eb, .slice Eb dims qb] rfl HSa.out b1 b2 hza ?_; intro v5 w5 hown hfr hat; have HO5 := hide hown; have HF5 := hide ((HF.out.tr HF4.out).alloc (.cells #[.int .i64 eb, .slice Eb dims qb] 38)); have HF6 : Hid (Fr No w2 w5) := hide (HF5.out.own hfr (fun g hg => .inl (HOa.out.lt g hg).1)); clear hown hfr hat)
            go_roundw
            case rel =>
              refine ⟨_, some (adb.add (1 * 2)), _, ca, nb - 1, cb - 1, m + 1, rr, tb, os ++ [(pb, Eb, qb)], rfl, rfl, by omega, by omega, by omega, by omega, by omega, ?_, ?_, ?_, ?_, ?_, ?_, ?_, ?_, ?_, HF6⟩
              · exact HRl
              · exact hide (by have := HSl.out; simp only [List.length_cons] at this; omega)
              · exact HRr
              · exact hide (by have h := HRs.out.tail (c := cb) (by have := HSl.out; omega); rw [if_neg hc1] at h; exact h)
              · exact HMn
              · exact HDr
              · exact hide (fun x hx => HDs.out x (List.mem_cons_of_mem _ hx))
              · exact hide (by rw [pFlat_snoc]; unfold pRow; dsimp only; rw [← HEb.out, ← HMb.out]; exact HO5.out)
              · exact hide (fun x hx => by
                  rcases List.mem_append.1 hx with hx | hx
                  · exact HOs.out x hx
                  · rw [List.mem_singleton.1 hx]; exact ⟨by dsimp only; rw [← HMb.out]; exact HQb.out.1, HQb.out.2.1, HQb.out.2.2⟩)
            case measure => simp; omega
        · have hna' : 0 < na := by omega
          obtain ⟨pa, ta, rfl⟩ : ∃ y s', rr = y :: s' := by
            match rr, HRl.out with
            | [], h => simp at h; omega
            | y :: s', _ => exact ⟨y, s', rfl⟩
          obtain ⟨ada, Ea, qa, rfl, _, ka0, ka1, ga1, ga2, hra⟩ := HRr.out.at (k := 0) (by simp)
          have eza : (pa :: ta).getD 0 noPo = pa := rfl
          rw [eza] at ka0 ka1 ga1 hra
          rw [Nat.zero_mul, Addr.add_zero'] at ka0 ka1
          have HQa := hide (And.intro ga1 (And.intro ga2 hra))
          have hma : dims = pa.2.length := (HDr.out _ List.mem_cons_self).symm
          obtain ⟨ea, hea⟩ : ∃ x, x = pa.1 := ⟨_, rfl⟩
          rw [← hma] at ka1 ga1
          rw [← hma] at HQa
          rw [← hea] at ka0
          have HMa := hide hma
          have HEa := hide hea
          have ka0 := HF.out.cell ka0 (fun h => h)
          have ka1 := HF.out.cell ka1 (fun h => h)
          have HKa0 := hide ka0
          have HKa1 := hide ka1
          unfold maxLen at ga2
          clear eza hma hea
          have a1 : decide ((0 : Int) < (na : Int)) = true := decide_eq_true (by omega)
          have a2 : decide (0 < na) = true := decide_eq_true hna'
          have a3 : ((na : Int) == 0) = false := by simpa using (by omega : ¬ na = 0)
          by_cases hnb : nb = 0
          · subst hnb
            have hs0 : ss = [] := List.eq_nil_of_length_eq_zero HSl.out
            have HMn : Hid ((os ++ [(pa, Ea, qa)]).map (·.1) ++ ta.merge ss (leP d) = sortP d l) := hide (by rw [← HMe.out, merge_a (by rw [hs0]; exact .inl rfl), List.map_append, List.append_assoc]; rfl)
            clear hs0 ka0 ka1 hend hna
            go_wp2_with (fail)
            go_quiet (fail)
            have HF4 : Hid (Fr No wo (wo.drewN nq)) := hide ((Fr.refl No wo).drewN nq)
            obtain ⟨w4, hw4⟩ : ∃ x, x = wo.drewN nq := ⟨_, rfl⟩
            rw [← hw4] at HF4 ⊢
            clear hw4
            have ka0 := HF4.out.cell HKa0.out (fun h => h)
            have ka1 := HF4.out.cell HKa1.out (fun h => h)
            have HOa := hide ((HO.out.fr0 HF4.out).fr0 ((Fr.refl No w4).alloc (.cells #[.int .i64 ea, .slice Ea dims qa] 38)))
            have HSa := hide (src_rp w4 ea Ea dims qa)
            have hza : w2.heap.size ≤ (w4.alloc (.cells #[.int .i64 ea, .slice Ea dims qa] 38)).heap.size := ((HF.out.tr HF4.out).alloc _).size
            have b1 : (m + 1) * 32 ≤ 140737488355328 := by omega
            have b2 : m + 1 ≤ maxLen := by unfold maxLen; omega
            by_cases hc1 : ca = 1
            · subst hc1
              go_wp2_with (at_builtin; refine wpList_append_gen _ rfl (.tmp 60) (.tmp 64) 24 24 rfl w2.heap.size 38 iq (.agg #[.int .i64 0, .slice none 0 0]) 2 32 Try.underlying24 hiq hiqz hiqsz hiqby rfl u7 m (pFlat os) rfl HOa.out _ 1 [.int .i64 ea, .slice Ea dims qa] rfl HSa.out b1 b2 hza ?_; intro v5 w5 hown hfr hat; have HO5 := hide hown; have HF5 := hide ((HF.out.tr HF4.out).alloc (.cells #[.int .i64 ea, .slice Ea dims qa] 38)); have HF6 : Hid (Fr No w2 w5) := hide (HF5.out.own hfr (fun g hg => .inl (HOa.out.lt g hg).1)); clear hown hfr hat)
              go_roundw
              case rel =>
                refine ⟨some ada, _, 0, 0, _, cb, m + 1, ta, ss, os ++ [(pa, Ea, qa)], rfl, rfl, by omega, by omega, by omega, by omega, by omega, ?_, ?_, ?_, ?_, ?_, ?_, ?_, ?_, ?_, HF6⟩
                · exact hide (by have := HRl.out; simp only [List.length_cons] at this; omega)
                · exact HSl
                · exact hide (by have h := HRr.out.tail (c := 1) (by have := HRl.out; omega); rw [if_pos rfl] at h; exact h)
                · exact HRs
                · exact HMn
                · exact hide (fun x hx => HDr.out x (List.mem_cons_of_mem _ hx))
                · exact HDs
                · exact hide (by rw [pFlat_snoc]; unfold pRow; dsimp only; rw [← HEa.out, ← HMa.out]; exact HO5.out)
                · exact hide (fun x hx => by
                    rcases List.mem_append.1 hx with hx | hx
                    · exact HOs.out x hx
                    · rw [List.mem_singleton.1 hx]; exact ⟨by dsimp only; rw [← HMa.out]; exact HQa.out.1, HQa.out.2.1, HQa.out.2.2⟩)
              case measure => simp; omega
            · have hc1' : ¬ (ca = 1) := hc1
              go_wp2_with (at_builtin; refine wpList_append_gen _ rfl (.tmp 60) (.tmp 64) 24 24 rfl w2.heap.size 38 iq (.agg #[.int .i64 0, .slice none 0 0]) 2 32 Try.underlying24 hiq hiqz hiqsz hiqby rfl u7 m (pFlat os) rfl HOa.out _ 1 [.int .i64 ea, .slice Ea dims qa] rfl HSa.out b1 b2 hza ?_; intro v5 w5 hown hfr hat; have HO5 := hide hown; have HF5 := hide ((HF.out.tr HF4.out).alloc (.cells #[.int .i64 ea, .slice Ea dims qa] 38)); have HF6 : Hid (Fr No w2 w5) := hide (HF5.out.own hfr (fun g hg => .inl (HOa.out.lt g hg).1)); clear hown hfr hat)
              go_roundw
              case rel =>
                refine ⟨some (ada.add (1 * 2)), _, na - 1, ca - 1, _, cb, m + 1, ta, ss, os ++ [(pa, Ea, qa)], rfl, rfl, by omega, by omega, by omega, by omega, by omega, ?_, ?_, ?_, ?_, ?_, ?_, ?_, ?_, ?_, HF6⟩
                · exact hide (by have := HRl.out; simp only [List.length_cons] at this; omega)
                · exact HSl
                · exact hide (by have h := HRr.out.tail (c := ca) (by have := HRl.out; omega); rw [if_neg hc1] at h; exact h)
                · exact HRs
                · exact HMn
                · exact hide (fun x hx => HDr.out x (List.mem_cons_of_mem _ hx))
                · exact HDs
                · exact hide (by rw [pFlat_snoc]; unfold pRow; dsimp only; rw [← HEa.out, ← HMa.out]; exact HO5.out)
                · exact hide (fun x hx => by
                    rcases List.mem_append.1 hx with hx | hx
                    · exact HOs.out x hx
                    · rw [List.mem_singleton.1 hx]; exact ⟨by dsimp only; rw [← HMa.out]; exact HQa.out.1, HQa.out.2.1, HQa.out.2.2⟩)
              case measure => simp; omega
          · have hnb' : 0 < nb := by omega
            obtain ⟨pb, tb, rfl⟩ : ∃ y s', ss = y :: s' := by
              match ss, HSl.out with
              | [], h => simp at h; omega
              | y :: s', _ => exact ⟨y, s', rfl⟩
            obtain ⟨adb, Eb, qb, rfl, _, kb0, kb1, gb1, gb2, hrb⟩ := HRs.out.at (k := 0) (by simp)
            have ezb : (pb :: tb).getD 0 noPo = pb := rfl
            rw [ezb] at kb0 kb1 gb1 hrb
            rw [Nat.zero_mul, Addr.add_zero'] at kb0 kb1
            have HQb := hide (And.intro gb1 (And.intro gb2 hrb))
            have hmb : dims = pb.2.length := (HDs.out _ List.mem_cons_self).symm
            obtain ⟨eb, heb⟩ : ∃ x, x = pb.1 := ⟨_, rfl⟩
            rw [← hmb] at kb1 gb1
            rw [← hmb] at HQb
            rw [← heb] at kb0
            have HMb := hide hmb
            have HEb := hide heb
            have kb0 := HF.out.cell kb0 (fun h => h)
            have kb1 := HF.out.cell kb1 (fun h => h)
            have HKb0 := hide kb0
            have HKb1 := hide kb1
            unfold maxLen at gb2
            clear ezb hmb heb
            have d1 : decide ((0 : Int) < (nb : Int)) = true := decide_eq_true (by omega)
            have d2 : decide (0 < nb) = true := decide_eq_true hnb'
            have HBe := hide (below_any d dims qb qa B eb ea pb.2 pa.2 Eb Ea wo.drew hdd HMb.out.symm HMa.out.symm HQb.out.1 HQb.out.2.1 HQa.out.1 HQa.out.2.1 (HQb.out.2.2.fr0 HF.out.drew) (HQa.out.2.2.fr0 HF.out.drew))
            rw [HEb.out, HEa.out] at HBe
            have eb1 : belP d (pb.1, pb.2) (pa.1, pa.2) = belP d pb pa := rfl
            rw [eb1, ← HEb.out, ← HEa.out] at HBe
            obtain ⟨tb_, htb⟩ : ∃ x, x = belP d pb pa := ⟨_, rfl⟩
            rw [← htb] at HBe
            have HTb := hide htb
            have hS : wo.cell? adb = some (.int .i64 eb) ∧ wo.cell? ⟨adb.block, adb.off + 1, none⟩ = some (.slice Eb dims qb) ∧ wo.cell? ada = some (.int .i64 ea) ∧ wo.cell? ⟨ada.block, ada.off + 1, none⟩ = some (.slice Ea dims qa) := ⟨kb0, kb1, ka0, ka1⟩
            have HS := hide hS
            clear hS eb1 htb hend hna hnb
            go_wp2_with (fail)
            go_region_held3 (fun W => W.cell? adb = some (.int .i64 eb) ∧ W.cell? ⟨adb.block, adb.off + 1, none⟩ = some (.slice Eb dims qb) ∧ W.cell? ada = some (.int .i64 ea) ∧ W.cell? ⟨ada.block, ada.off + 1, none⟩ = some (.slice Ea dims qa)) (first | exact HS4.out | exact HS.out) (first | (go_at_call 38; refine HBe.out.mono ?_; rintro en w4 ⟨rfl, hfr⟩; have HF4 : Hid (Fr No wo w4) := hide ((Fr.refl No wo).drew.tr hfr); have HS4 := hide (And.intro (HF4.out.cell HS.out.1 (fun h => h)) (And.intro (HF4.out.cell HS.out.2.1 (fun h => h)) (And.intro (HF4.out.cell HS.out.2.2.1 (fun h => h)) (HF4.out.cell HS.out.2.2.2 (fun h => h))))); clear hfr))
            all_goals (cases tb_)
            all_goals first
              | (have hx : belP d pb pa = true := HTb.out.symm
                 have HMn : Hid ((os ++ [(pb, Eb, qb)]).map (·.1) ++ (pa :: ta).merge tb (leP d) = sortP d l) := hide (by rw [← HMe.out, merge_b (.inr ⟨pa, ta, rfl, by rw [leP_bel, hx]; rfl⟩), List.map_append, List.append_assoc]; rfl)
                 clear kb0 kb1 ka0 ka1
                 have kb0 := HF4.out.cell HKb0.out (fun h => h)
                 have kb1 := HF4.out.cell HKb1.out (fun h => h)
                 have HOa := hide ((HO.out.fr0 HF4.out).fr0 ((Fr.refl No w4).alloc (.cells #[.int .i64 eb, .slice Eb dims qb] 38)))
                 have HSa := hide (src_rp w4 eb Eb dims qb)
                 have hza : w2.heap.size ≤ (w4.alloc (.cells #[.int .i64 eb, .slice Eb dims qb] 38)).heap.size := ((HF.out.tr HF4.out).alloc _).size
                 have b1 : (m + 1) * 32 ≤ 140737488355328 := by omega
                 have b2 : m + 1 ≤ maxLen := by unfold maxLen; omega
                 by_cases hc1 : cb = 1
                 · subst hc1
                   go_wp2_with (at_builtin; refine wpList_append_gen _ rfl (.tmp 52) (.tmp 56) 24 24 rfl w2.heap.size 38 iq (.agg #[.int .i64 0, .slice none 0 0]) 2 32 Try.underlying24 hiq hiqz hiqsz hiqby rfl u7 m (pFlat os) rfl HOa.out _ 1 [.int .i64 eb, .slice Eb dims qb] rfl HSa.out b1 b2 hza ?_; intro v5 w5 hown hfr hat; have HO5 := hide hown; have HF5 := hide ((HF.out.tr HF4.out).alloc (.cells #[.int .i64 eb, .slice Eb dims qb] 38)); have HF6 : Hid (Fr No w2 w5) := hide (HF5.out.own hfr (fun g hg => .inl (HOa.out.lt g hg).1)); clear hown hfr hat)
                   go_roundw
                   case rel =>
                     refine ⟨_, some adb, _, ca, 0, 0, m + 1, (pa :: ta), tb, os ++ [(pb, Eb, qb)], rfl, rfl, by omega, by omega, by omega, by omega, by omega, ?_, ?_, ?_, ?_, ?_, ?_, ?_, ?_, ?_, HF6⟩
                     · exact HRl
                     · exact hide (by have := HSl.out; simp only [List.length_cons] at this; omega)
                     · exact HRr
                     · exact hide (by have h := HRs.out.tail (c := 1) (by have := HSl.out; omega); rw [if_pos rfl] at h; exact h)
                     · exact HMn
                     · exact HDr
                     · exact hide (fun x hx => HDs.out x (List.mem_cons_of_mem _ hx))
                     · exact hide (by rw [pFlat_snoc]; unfold pRow; dsimp only; rw [← HEb.out, ← HMb.out]; exact HO5.out)
                     · exact hide (fun x hx => by
                         rcases List.mem_append.1 hx with hx | hx
                         · exact HOs.out x hx
                         · rw [List.mem_singleton.1 hx]; exact ⟨by dsimp only; rw [← HMb.out]; exact HQb.out.1, HQb.out.2.1, HQb.out.2.2⟩)
                   case measure => simp; omega
                 · have hc1' : ¬ (cb = 1) := hc1
                   go_wp2_with (at_builtin; refine wpList_append_gen _ rfl (.tmp 52) (.tmp 56) 24 24 rfl w2.heap.size 38 iq (.agg #[.int .i64 0, .slice none 0 0]) 2 32 Try.underlying24 hiq hiqz hiqsz hiqby rfl u7 m (pFlat os) rfl HOa.out _ 1 [.int .i64 eb, .slice Eb dims qb] rfl HSa.out b1 b2 hza ?_; intro v5 w5 hown hfr hat; have HO5 := hide hown; have HF5 := hide ((HF.out.tr HF4.out).alloc (.cells #[.int .i64 eb, .slice Eb dims qb] 38)); have HF6 : Hid (Fr No w2 w5) := hide (HF5.out.own hfr (fun g hg => .inl (HOa.out.lt g hg).1)); clear hown hfr hat)
                   go_roundw
                   case rel =>
                     refine ⟨_, some (adb.add (1 * 2)), _, ca, nb - 1, cb - 1, m + 1, (pa :: ta), tb, os ++ [(pb, Eb, qb)], rfl, rfl, by omega, by omega, by omega, by omega, by omega, ?_, ?_, ?_, ?_, ?_, ?_, ?_, ?_, ?_, HF6⟩
                     · exact HRl
                     · exact hide (by have := HSl.out; simp only [List.length_cons] at this; omega)
                     · exact HRr
                     · exact hide (by have h := HRs.out.tail (c := cb) (by have := HSl.out; omega); rw [if_neg hc1] at h; exact h)
                     · exact HMn
                     · exact HDr
                     · exact hide (fun x hx => HDs.out x (List.mem_cons_of_mem _ hx))
                     · exact hide (by rw [pFlat_snoc]; unfold pRow; dsimp only; rw [← HEb.out, ← HMb.out]; exact HO5.out)
                     · exact hide (fun x hx => by
                         rcases List.mem_append.1 hx with hx | hx
                         · exact HOs.out x hx
                         · rw [List.mem_singleton.1 hx]; exact ⟨by dsimp only; rw [← HMb.out]; exact HQb.out.1, HQb.out.2.1, HQb.out.2.2⟩)
                   case measure => simp; omega)
              | (have hx : belP d pb pa = false := HTb.out.symm
                 have HMn : Hid ((os ++ [(pa, Ea, qa)]).map (·.1) ++ ta.merge (pb :: tb) (leP d) = sortP d l) := hide (by rw [← HMe.out, merge_a (.inr ⟨pb, tb, rfl, by rw [leP_bel, hx]; rfl⟩), List.map_append, List.append_assoc]; rfl)
                 clear kb0 kb1 ka0 ka1
                 have ka0 := HF4.out.cell HKa0.out (fun h => h)
                 have ka1 := HF4.out.cell HKa1.out (fun h => h)
                 have HOa := hide ((HO.out.fr0 HF4.out).fr0 ((Fr.refl No w4).alloc (.cells #[.int .i64 ea, .slice Ea dims qa] 38)))
                 have HSa := hide (src_rp w4 ea Ea dims qa)
                 have hza : w2.heap.size ≤ (w4.alloc (.cells #[.int .i64 ea, .slice Ea dims qa] 38)).heap.size := ((HF.out.tr HF4.out).alloc _).size
                 have b1 : (m + 1) * 32 ≤ 140737488355328 := by omega
                 have b2 : m + 1 ≤ maxLen := by unfold maxLen; omega
                 by_cases hc1 : ca = 1
                 · subst hc1
                   go_wp2_with (at_builtin; refine wpList_append_gen _ rfl (.tmp 60) (.tmp 64) 24 24 rfl w2.heap.size 38 iq (.agg #[.int .i64 0, .slice none 0 0]) 2 32 Try.underlying24 hiq hiqz hiqsz hiqby rfl u7 m (pFlat os) rfl HOa.out _ 1 [.int .i64 ea, .slice Ea dims qa] rfl HSa.out b1 b2 hza ?_; intro v5 w5 hown hfr hat; have HO5 := hide hown; have HF5 := hide ((HF.out.tr HF4.out).alloc (.cells #[.int .i64 ea, .slice Ea dims qa] 38)); have HF6 : Hid (Fr No w2 w5) := hide (HF5.out.own hfr (fun g hg => .inl (HOa.out.lt g hg).1)); clear hown hfr hat)
                   go_roundw
                   case rel =>
                     refine ⟨some ada, _, 0, 0, _, cb, m + 1, ta, (pb :: tb), os ++ [(pa, Ea, qa)], rfl, rfl, by omega, by omega, by omega, by omega, by omega, ?_, ?_, ?_, ?_, ?_, ?_, ?_, ?_, ?_, HF6⟩
                     · exact hide (by have := HRl.out; simp only [List.length_cons] at this; omega)
                     · exact HSl
                     · exact hide (by have h := HRr.out.tail (c := 1) (by have := HRl.out; omega); rw [if_pos rfl] at h; exact h)
                     · exact HRs
                     · exact HMn
                     · exact hide (fun x hx => HDr.out x (List.mem_cons_of_mem _ hx))
                     · exact HDs
                     · exact hide (by rw [pFlat_snoc]; unfold pRow; dsimp only; rw [← HEa.out, ← HMa.out]; exact HO5.out)
                     · exact hide (fun x hx => by
                         rcases List.mem_append.1 hx with hx | hx
                         · exact HOs.out x hx
                         · rw [List.mem_singleton.1 hx]; exact ⟨by dsimp only; rw [← HMa.out]; exact HQa.out.1, HQa.out.2.1, HQa.out.2.2⟩)
                   case measure => simp; omega
                 · have hc1' : ¬ (ca = 1) := hc1
                   go_wp2_with (at_builtin; refine wpList_append_gen _ rfl (.tmp 60) (.tmp 64) 24 24 rfl w2.heap.size 38 iq (.agg #[.int .i64 0, .slice none 0 0]) 2 32 Try.underlying24 hiq hiqz hiqsz hiqby rfl u7 m (pFlat os) rfl HOa.out _ 1 [.int .i64 ea, .slice Ea dims qa] rfl HSa.out b1 b2 hza ?_; intro v5 w5 hown hfr hat; have HO5 := hide hown; have HF5 := hide ((HF.out.tr HF4.out).alloc (.cells #[.int .i64 ea, .slice Ea dims qa] 38)); have HF6 : Hid (Fr No w2 w5) := hide (HF5.out.own hfr (fun g hg => .inl (HOa.out.lt g hg).1)); clear hown hfr hat)
                   go_roundw
                   case rel =>
                     refine ⟨some (ada.add (1 * 2)), _, na - 1, ca - 1, _, cb, m + 1, ta, (pb :: tb), os ++ [(pa, Ea, qa)], rfl, rfl, by omega, by omega, by omega, by omega, by omega, ?_, ?_, ?_, ?_, ?_, ?_, ?_, ?_, ?_, HF6⟩
                     · exact hide (by have := HRl.out; simp only [List.length_cons] at this; omega)
                     · exact HSl
                     · exact hide (by have h := HRr.out.tail (c := ca) (by have := HRl.out; omega); rw [if_neg hc1] at h; exact h)
                     · exact HRs
                     · exact HMn
                     · exact hide (fun x hx => HDr.out x (List.mem_cons_of_mem _ hx))
                     · exact HDs
                     · exact hide (by rw [pFlat_snoc]; unfold pRow; dsimp only; rw [← HEa.out, ← HMa.out]; exact HO5.out)
                     · exact hide (fun x hx => by
                         rcases List.mem_append.1 hx with hx | hx
                         · exact HOs.out x hx
                         · rw [List.mem_singleton.1 hx]; exact ⟨by dsimp only; rw [← HMa.out]; exact HQa.out.1, HQa.out.2.1, HQa.out.2.2⟩)
                   case measure => simp; omega)
end Go.Proofs.Ytkenjhalamdjfaa
