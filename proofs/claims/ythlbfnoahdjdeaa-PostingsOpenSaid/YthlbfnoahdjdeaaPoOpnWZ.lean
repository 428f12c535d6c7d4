/- PostingsOpen, walked. -/
import Derived.Test.YthlbfnoahdjdeaaK22
namespace Go.Proofs.Ythlbfnoahdjdeaa
set_option linter.unusedVariables false
set_option linter.unusedSimpArgs false
open Go.RowKit

theorem LvM.above {S : Nat → Prop} {w w' : World} {B : Nat} {lv : Value} {l : List Po} (h : LvM w B lv l) (f : Fr S w w') (hS : ∀ k, S k → k < B) : LvM w' B lv l := by
  rcases h with h | ⟨G, n, h1, h2⟩
  · exact .inl h
  · exact .inr ⟨G, n, h1, h2.above f hS⟩
theorem lstM_len {w : World} {B G n : Nat} {l : List Po} (h : LstM w B G (bksOf l (nbP l.length)) n) : True := trivial
/-- a list that is the bytes' own, or none. -/
structure LvO (w : World) (B : Nat) (o : Option Addr) (l : List Po) : Prop where
  ex : (o = none ∧ l = []) ∨ ∃ G, o = some ⟨G, 0, none⟩ ∧ LstM w B G (bksOf l (nbP l.length)) l.length
  ok : rightP l
theorem LvO.fr0 {w w' : World} {B : Nat} {o : Option Addr} {l : List Po} (h : LvO w B o l) (f : Fr No w w') : LvO w' B o l := by
  refine ⟨?_, h.ok⟩
  rcases h.ex with h | ⟨G, h1, h2⟩
  · exact .inl h
  · exact .inr ⟨G, h1, h2.fr0 f⟩
theorem LvO.above {S : Nat → Prop} {w w' : World} {B : Nat} {o : Option Addr} {l : List Po} (h : LvO w B o l) (f : Fr S w w') (hS : ∀ k, S k → k < B) : LvO w' B o l := by
  refine ⟨?_, h.ok⟩
  rcases h.ex with h | ⟨G, h1, h2⟩
  · exact .inl h
  · exact .inr ⟨G, h1, h2.above f hS⟩
theorem plenO {w : World} {B : Nat} {o : Option Addr} {l : List Po} (h : LvO w B o l) : Calls Try.prog 32 #[.pointer o] w (Ret (.int .i64 (l.length : Nat)) w) := by
  rcases h.ex with ⟨rfl, rfl⟩ | ⟨G, rfl, h2⟩
  · exact plen_nil w
  · exact plen_any B G l.length _ w h2
theorem ppostsO {w : World} {B : Nat} {o : Option Addr} {l : List Po} (h : LvO w B o l) : Calls Try.prog 34 #[.pointer o] w (PPostsQ w l) := by
  rcases h.ex with ⟨rfl, rfl⟩ | ⟨G, rfl, h2⟩
  · exact (pposts_nil w).mono fun en w' ⟨h1, h3⟩ => by
      subst h3
      exact ⟨Fr.refl _ _, none, [], h1, OwnPs.nil _ _, rfl⟩
  · exact pposts_any B G l.length l w h2 h.ok

/-- what both answer. -/
structure BothO (w3 : World) (B1 B2 : Nat) (o : Option Addr) (ev : Int) (Aw : Option Addr) (nw cw : Nat) (l : List Po) (ps : List PoL) : Prop where
  map : ps.map (·.1) = l
  len : ps.length = nw
  pr : OwnPr w3 B2 (.slice Aw nw cw) ps
  lv : LvO w3 B1 o l
  ev : (o = none ∧ ev = 20) ∨ ∃ G, o = some ⟨G, 0, none⟩ ∧ ev = 0
def OpnV (w2 : World) (B1 : Nat) (bs : List UInt8) (o : Option Addr) (ev : Int) : Prop := (∃ G l, o = some ⟨G, 0, none⟩ ∧ ev = 0 ∧ FormP bs l ∧ LstM w2 B1 G (bksOf l (nbP l.length)) l.length) ∨ (o = none ∧ ev = 20 ∧ ∀ l, ¬ FormP bs l)
theorem opn_v {w1 w2 : World} {bs : List UInt8} {en : Ending} (h : POpenP w1 bs en w2) : Fr No w1 w2 ∧ ∃ (o : Option Addr) (ev : Int), en = .returned (.tuple #[.pointer o, .int .i64 ev]) ∧ OpnV w2 w1.heap.size bs o ev := by
  obtain ⟨hf, hpo⟩ := h
  refine ⟨hf, ?_⟩
  rcases hpo with ⟨G, l, h1, h2, h3⟩ | ⟨h1, h2⟩
  · exact ⟨_, _, h2, .inl ⟨G, l, rfl, rfl, h1, h3⟩⟩
  · exact ⟨_, _, h2, .inr ⟨rfl, rfl, h1⟩⟩
theorem both_v {w2 w3 : World} {B1 : Nat} {bs : List UInt8} {o : Option Addr} {ev : Int} {en : Ending} (hp : OpnV w2 B1 bs o ev) (hr : ROpenP10 w2 bs en w3) :
    Fr No w2 w3 ∧ ∃ (Aw : Option Addr) (nw cw : Nat) (l : List Po) (ps : List PoL), en = .returned (.tuple #[.slice Aw nw cw, .int .i64 ev]) ∧ BothO w3 B1 w2.heap.size o ev Aw nw cw l ps := by
  obtain ⟨hf, hro⟩ := hr
  refine ⟨hf, ?_⟩
  rcases hro with ⟨Aw, nw, cw, ps, h1, h2, h3, h4⟩ | ⟨h1, h2⟩
  · rcases hp with ⟨G, l, e1, e2, h5, h6⟩ | ⟨_, _, h5⟩
    · have e3 := buildP_inj h1 h5
      refine ⟨Aw, nw, cw, l, ps, by rw [e2]; exact h2, e3, h3, h4, ⟨.inr ⟨G, e1, h6.fr0 hf⟩, h5.1⟩, .inr ⟨G, e1, e2⟩⟩
    · exact absurd h1 (h5 _)
  · rcases hp with ⟨G, l, e1, e2, h5, h6⟩ | ⟨e1, e2, h5⟩
    · exact absurd h5 (h1 _)
    · exact ⟨none, 0, 0, [], [], by rw [e2]; exact h2, rfl, rfl, OwnPr.nil _ _, ⟨.inl ⟨e1, rfl⟩, rightP_nil⟩, .inl ⟨e1, e2⟩⟩

set_option maxRecDepth 100000 in
set_option maxHeartbeats 8000000 in
theorem poopen_any (A0 : Option Addr) (n0 c0 : Nat) (bs : List UInt8) (w : World)
    (h0 : bs.length = n0) (x0 : n0 ≤ c0) (y0 : c0 ≤ maxLen) (z0 : c0 ≤ 140737488351232) (r0 : Rd w w.heap.size A0 (by8 bs)) :
    Calls Try.prog 6 #[.slice A0 n0 c0] w (RetB true w) := by
  by_cases g0 : 5000 < n0
  · have d1 : decide ((5000 : Int) < (n0 : Int)) = true := decide_eq_true (by omega)
    have d1b : decide (5000 < n0) = true := decide_eq_true g0
    clear y0 r0 h0 z0
    go_enter Try.func6, Try.ntmps6
    go_wp2_with (go_at_call 9; refine (awake10_any _).mono ?_; rintro en w4 ⟨rfl, hfr⟩; have HF4 := hide hfr; clear hfr)
    go_ret
    exact ⟨rfl, HF4.out⟩
  have d1 : decide ((5000 : Int) < (n0 : Int)) = false := decide_eq_false (by omega)
  have d1b : decide (5000 < n0) = false := decide_eq_false g0
  have hn0 : n0 ≤ 5000 := by omega
  have HL := hide h0
  have HR0 := hide r0
  have HC := hide (And.intro x0 y0)
  have HLn := hide (lent8_any A0 n0 c0 w.heap.size bs w h0 (by omega) r0)
  have HRo := hide (fun W (f : Fr No w W) => ropen10_any A0 n0 c0 w.heap.size bs W h0 x0 y0 (by omega) f.size (r0.fr0 f))
  clear y0 r0 h0 z0 g0
  go_enter Try.func6, Try.ntmps6
  go_wp2_with (fail)
  refine HLn.out.mono ?_
  rintro en w1 ⟨A1, c1, he, hob, hfr⟩
  rw [HL.out] at he hob
  subst he
  have hle := hob.le
  have HO1 := hide hob
  have HF1 := hide hfr
  have HC1 := hide hle.2
  have HBo := hide hob.lt
  have hr1 : Rd w1 w1.heap.size A1 (by8 bs) := by
    have h := hob.rd.tk bs.length
    rw [← by8_take, List.take_left] at h
    exact h
  have HOp := hide (popen_any A1 n0 c1 w1.heap.size bs w1 HL.out (by omega) hle.2.2 (by omega) (Nat.le_refl _) hr1)
  clear hob hfr hle hr1 HLn
  go_wp2_with (fail)
  refine HOp.out.mono ?_
  rintro en w2 hpo
  obtain ⟨hfr, o, ev, rfl, hpo2⟩ := opn_v hpo
  have HPo := hide hpo2
  have HF2 := hide (HF1.out.tr hfr)
  have HO2 := hide (HO1.out.fr0 hfr)
  have HS2 := hide hfr.size
  have HS12 := hide hfr.size
  clear hfr hpo hpo2 HOp HO1
  go_wp2_with (fail)
  refine (HRo.out w2 HF2.out).mono ?_
  rintro en w3 hro
  obtain ⟨hfr, Aw, nw, cw, l, ps, rfl, hbo⟩ := both_v HPo.out hro
  have HBt := hide hbo
  have HF3 := hide (HF2.out.tr hfr)
  have HO3 := hide (HO2.out.fr0 hfr)
  have HS3 := hide (Nat.le_trans HS2.out hfr.size)
  have h16 : nw ≤ 16384 := by have h := right_16 hbo.lv.ok; rw [← hbo.map, List.length_map, hbo.len] at h; exact h
  have HKp := hide (fun W (f : Fr No w3 W) => kept8_any A1 A0 n0 c1 n0 c0 W.heap.size w.heap.size bs W HL.out HL.out HC1.out.1 HC1.out.2 HC.out.1 HC.out.2 (HO3.out.fr0 f).rd (HR0.out.fr0 (HF3.out.tr f)))
  clear hfr hro hbo HPo HRo HO2 HS2
  go_upto_region 6 with (fail)
  refine wp_named fun K hK => ?_
  have HF30 := hide (Fr.refl No w3)
  have e1 : (ev != ev) = false := by simp
  go_cut [40] from 25 to 40 (fun v wx => v = .bool false ∧ Hid (Fr No w3 wx))
  case first =>
    rcases HBt.out.ev with ⟨rfl, rfl⟩ | ⟨G, rfl, rfl⟩
    · clear e1
      go_wp2_with (fail)
      refine (HKp.out w3 HF30.out).mono ?_
      rintro en w4 ⟨rfl, nq, hq⟩
      have HF4 : Hid (Fr No w3 w4) := hide (by rw [hq]; exact (Fr.refl No w3).drewN nq)
      clear hq
      go_wp2_with (fail)
      go_meet
      exact ⟨rfl, HF4⟩
    · clear e1
      go_wp2_with (fail)
      refine (HKp.out w3 HF30.out).mono ?_
      rintro en w4 ⟨rfl, nq, hq⟩
      have HF4 : Hid (Fr No w3 w4) := hide (by rw [hq]; exact (Fr.refl No w3).drewN nq)
      clear hq
      go_wp2_with (fail)
      go_meet
      exact ⟨rfl, HF4⟩
  case rest =>
  obtain ⟨rfl, HF34⟩ := hcut
  obtain ⟨w4, rfl⟩ : ∃ W : World, W = wc := ⟨_, rfl⟩
  refine hK _ _ ?_
  have HO4 := hide (HO3.out.fr0 HF34.out)
  have HFw4 := hide (HF3.out.tr HF34.out)
  have HPr4 := hide (HBt.out.pr.fr0 HF34.out)
  have HLv4 := hide (HBt.out.lv.fr0 HF34.out)
  have HLo : Hid ((by8 (bs ++ [201])).length = n0 + 1) := hide (by rw [by8_length, List.length_append, HL.out]; rfl)
  have HSz : Hid (w1.heap.size ≤ w2.heap.size) := hide HS12.out
  clear hK K HKp HF30 HO3 HF3 HF34 e1
  go_wp2_with (fail)
  go_loopw [8] (fun ix wr => ∃ (q : Nat) (Z : List Value), q ≤ n0 ∧ ix = .int .i64 q ∧ Hid (∀ j, q ≤ j → Z[j]? = (by8 (bs ++ [201]))[j]?) ∧ Hid (Own wr w.heap.size 5 1 (.slice A1 (n0 + 1) c1) (n0 + 1) Z) ∧ Hid (Fr (fun k => (Value.slice A1 (n0 + 1) c1).ownBlock = some k) w4 wr)) (fun ix _ => n0 - (intOf ix).toNat)
  case atStart => exact ⟨0, _, by omega, rfl, hide (fun j _ => rfl), HO4, hide (Fr.refl _ _)⟩
  case round =>
    obtain ⟨wo, rfl⟩ : ∃ wo : World, wo = wr := ⟨_, rfl⟩
    obtain ⟨q, Z, hq, rfl, HZ, HOq, HFq⟩ := hrel
    by_cases hlt : q < n0
    · have hcv : Z[q]? = some (.int .u8 (((bs ++ [201]).getD q 0).toNat : Nat)) := by
        rw [HZ.out q (Nat.le_refl _)]
        exact by8_get _ q (by rw [List.length_append, HL.out]; exact Nat.lt_succ_of_lt hlt)
      obtain ⟨gI, rfl, _, _, hcell, hfz, hst⟩ := HOq.out.store (k := q) (by omega)
      obtain ⟨x, hx⟩ : ∃ x : Nat, ((bs ++ [201]).getD q 0).toNat = x := ⟨_, rfl⟩
      rw [hcv, hx] at hcell
      have HST := hide hst
      have HFn : Hid (∀ v, Fr (fun k => (Value.slice (some ⟨gI, 0, none⟩) (n0 + 1) c1).ownBlock = some k) w4 (wo.setCell ⟨gI, q, none⟩ v)) := hide (fun v => HFq.out.setCell (p := ⟨gI, q, none⟩) (fun _ => rfl) v)
      have hqI : (q : Int) < (n0 : Int) := by omega
      have q0 : (0 : Int) ≤ (q : Int) := by omega
      clear hst hx hcv
      go_wp2_with (fail)
      go_roundw
      case rel => exact ⟨q + 1, _, by omega, by go_num, hide (fun j hj => by rw [List.getElem?_set_ne (by omega)]; exact HZ.out j (by omega)), hide (HST.out _), hide (HFn.out _)⟩
      case measure => simp [intOf]; omega
    · have hS : ∀ k, (Value.slice A1 (n0 + 1) c1).ownBlock = some k → k < w1.heap.size := fun k hk => (HBo.out k hk).2
      have d9 : decide ((q : Int) < (n0 : Int)) = false := decide_eq_false (by omega)
      have d9b : decide (q < n0) = false := decide_eq_false hlt
      have HLq := hide (HLv4.out.above HFq.out hS)
      have HPq := hide (HPr4.out.above HFq.out (fun k hk => by have := hS k hk; have := HSz.out; omega))
      have HFw : Hid (Fr No w wo) := hide (HFw4.out.trans HFq.out (fun k hk h2 => by have a1 := (HBo.out k h2).1; omega))
      have hll : l.length = nw := by rw [← HBt.out.map, List.length_map, HBt.out.len]
      have HLl := hide hll
      have HRw : Hid (∀ W, Fr No wo W → RdPo W W.heap.size Aw l) := hide (fun W f => by
        have h := HPq.out.fr0 f
        rw [← HBt.out.len] at h
        have h2 := h.rd
        rw [HBt.out.map] at h2
        exact h2)
      have HCw : Hid (nw ≤ cw ∧ cw ≤ maxLen) := hide (by have h := HPq.out.row.le; rw [HBt.out.len] at h; exact h.2)
      have HLe := hide (plenO HLq.out)
      rw [hll] at HLe
      have HPo1 := hide (ppostsO HLq.out)
      have e2 : ((nw : Int) == (nw : Int)) = true := by simp
      have HSm : Hid (∀ W W2 A6 ps6, Fr No wo W → Fr No W W2 → ps6.map (·.1) = l → OwnPs W2 W.heap.size (.slice A6 nw nw) ps6 → Calls Try.prog 33 #[.slice A6 nw nw, .slice Aw nw cw] W2 (fun en w' => en = .returned (.bool true) ∧ Fr No W w')) := hide (fun W W2 A6 ps6 f1 f2 hm hp => by
        have h1 : ps6.length = nw := by rw [← HLl.out, ← hm, List.length_map]
        have h3 := HRw.out W2 (f1.tr f2)
        rw [← hm] at h3
        refine (same10_any A6 Aw nw nw cw W.heap.size W2.heap.size ps6 W2 h1 h16 hp f2.size HCw.out.1 HCw.out.2 h3).mono fun en w' ⟨h4, h5⟩ => ⟨h4, ?_⟩
        exact f2.trans h5 (fun i hi h => by omega))
      clear hS hlt hll HZ HOq HFq
      go_wp2_with (fail)
      refine HLe.out.mono ?_
      rintro en w5 ⟨rfl, rfl⟩
      go_wp2_with (fail)
      refine HPo1.out.mono ?_
      rintro en w6 ⟨hfr, A6, ps6, rfl, hps6, hm6⟩
      rw [HLl.out] at hps6 ⊢
      have HS6 := hide (HSm.out wo w6 A6 ps6 (Fr.refl _ _) hfr hm6 hps6)
      clear hfr hps6 hm6 HPo1
      go_wp2_with (fail)
      refine HS6.out.mono ?_
      rintro en w7 ⟨rfl, hfr⟩
      have HF7 := hide hfr
      have HPo2 := hide (ppostsO (HLq.out.fr0 hfr))
      clear hfr HS6
      go_wp2_with (fail)
      refine HPo2.out.mono ?_
      rintro en w8 ⟨hfr, A8, ps8, rfl, hps8, hm8⟩
      rw [HLl.out] at hps8 ⊢
      have HS8 := hide (HSm.out w7 w8 A8 ps8 HF7.out hfr hm8 hps8)
      clear hfr hps8 hm8 HPo2
      go_wp2_with (fail)
      refine HS8.out.mono ?_
      rintro en w9 ⟨rfl, hfr⟩
      have HF9 := hide (HF7.out.tr hfr)
      clear hfr HS8
      go_wp2_with (fail)
      refine (awake10_any w9).mono ?_
      rintro en w10 ⟨rfl, hfr⟩
      have HF10 := hide ((HFw.out.tr HF9.out).tr hfr)
      clear hfr
      go_wp2_with (fail)
      go_ret
      exact ⟨by simp, HF10.out⟩
end Go.Proofs.Ythlbfnoahdjdeaa
