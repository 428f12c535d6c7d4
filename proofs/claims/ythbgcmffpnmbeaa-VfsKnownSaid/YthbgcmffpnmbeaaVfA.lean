/- Append. -/
import Derived.Test.YthbgcmffpnmbeaaVfY
namespace Go.Proofs.Ythbgcmffpnmbeaa
set_option linter.unusedVariables false
set_option linter.unusedSimpArgs false
open Go.RowKit Go.Maps

section
variable {w w' : World} {Z : Nat → Prop} {d N f m : Nat} {S S1 : Di} {p : Ph} {t : Tx} {r : Int} {fl : Bool} {bs : List UInt8}
theorem appS_err (h : cal S [t] = (r, false, S1)) (hr : r ≠ 0) : appS S t bs = (r, S1) := by unfold appS; rw [h]; exact if_pos ⟨hr, rfl⟩
theorem appS_none (h : cal S [t] = (r, fl, S1)) (hg : ¬ (r ≠ 0 ∧ fl = false)) (hn : appF S t = none) : appS S t bs = (if fl = true then r else 10, S1) := by
  unfold appS; rw [h]; simp only; rw [if_neg hg, hn]
theorem appS_long {x : Fi} (h : cal S [t] = (r, fl, S1)) (hg : ¬ (r ≠ 0 ∧ fl = false)) (hn : appF S t = some (f, x)) (hl : 16777216 - x.b.length < bs.length) : appS S t bs = (if fl = true then r else 3, S1) := by
  unfold appS; rw [h]; simp only; rw [if_neg hg, hn]; simp only; rw [if_pos hl]
theorem appS_fit {x : Fi} (h : cal S [t] = (r, fl, S1)) (hg : ¬ (r ≠ 0 ∧ fl = false)) (hn : appF S t = some (f, x)) (hl : ¬ 16777216 - x.b.length < bs.length) :
    appS S t bs = (r, S1.setF f ⟨x.b ++ (if fl = true then bs.take (S.part.toNat % (bs.length + 1)) else bs), x.s⟩) := by
  unfold appS; rw [h]; simp only; rw [if_neg hg, hn]; simp only; rw [if_neg hl]
theorem DirP.appd {x : Fi} {v' : Value} (h : DirP w Z d S N p) (hx : S.fs f = some x) (fr : Fr (fun k => (p.fv f).ownBlock = some k) w w') (ho : Own w' 0 5 1 v' (x.b.length + m) (by8 x.b ++ by8 bs)) (hl : v'.ownBlock = (p.fv f).ownBlock ∨ v'.ownBlock = some w.heap.size)
    (hm : bs.length = m) (hb : x.b.length + m ≤ 16777216) :
    w'.frozen? ⟨f, 0, none⟩ = false ∧ (∃ u, w'.cell? ⟨f, 0, none⟩ = some u) ∧ Step w (w'.setCell ⟨f, 0, none⟩ v') Z d (S.setF f ⟨x.b ++ bs, x.s⟩) N := by
  obtain ⟨hf, hzf, hzv⟩ := h.files f x hx
  have hc := blk_frK hf.cell fr (OfK.own hf.own) (by simp [kd])
  have f2 : Fr (Is f) w' (w'.setCell ⟨f, 0, none⟩ v') := (Fr.refl _ _).put 0 _
  refine ⟨frozen_of_row w' f 0 _ _ hc, ⟨_, cell_of_row w' f 0 _ _ _ hc⟩, h.fileW hx ((fr.mono fun i _ hi => .inr hi).ts (f2.mono fun i _ hi => .inl hi)) (v' := v') ⟨?_, ?_, ?_, ?_⟩ (hl.imp id fun e k hk => by rw [e] at hk; exact Nat.le_of_eq (Option.some.inj hk))⟩
  · rw [heap_setCell_same w' f 0 _ _ v' hc]; rfl
  · have := own_frK ho f2 (OfK.is hc) (by simp [kd])
    rw [← by8_append] at this
    show Own _ 0 _ 1 v' (x.b ++ bs).length _
    rw [List.length_append, hm]
    exact this
  · show x.s ≤ (x.b ++ bs).length
    rw [List.length_append]
    have := hf.le
    omega
  · show (x.b ++ bs).length ≤ _
    rw [List.length_append, hm]
    exact hb
end
set_option maxRecDepth 100000 in
set_option maxHeartbeats 1600000 in
theorem append_no (w : World) (Z : Nat → Prop) (d N : Nat) (S : Di) (p : Ph) (t : Tx) (B : Option Addr) (n c B0 : Nat) (bs : List UInt8) (h : DirP w Z d S N p) (hN : N < 1099511627000) (ht : t.length ≤ maxLen)
    (hbl : bs.length = n) (hbn : n ≤ c) (hbc : c ≤ maxLen) (hr : Rd w B0 B (by8 bs)) (hzb : ∀ ad, B = some ad → by8 bs = [] ∨ ¬ Z ad.block) (hpt : S.part ≤ 9223372036854775807) (hfl : (cal S [t]).2.1 = false) :
    Calls Try.prog 37 #[.pointer (some ⟨d, 0, none⟩), sv t, .slice B n c] w (fun en w' => en = .returned (.int .i64 (appS S t bs).1) ∧ Step w w' Z d (appS S t bs).2 (N + 3)) := by
  have HC := hide (call1_any h (by omega) t)
  have HZ := hide h.zd
  obtain ⟨e1, e2, e3, e4, e5⟩ := cal_fs S [t]
  generalize hc : cal S [t] = cc at *
  obtain ⟨r, fl, S1⟩ := cc
  simp only at e1 e2 e3 e4 e5
  have HT := hide ht
  have hfx : ∀ f, S1.now t = some f → ∃ x, S1.fs f = some x ∧ x.b.length ≤ 16777216 := fun f hf => by
    obtain ⟨x, hx⟩ := Option.isSome_iff_exists.1 (h.nowf t f (by rw [← e2]; exact hf))
    exact ⟨x, by rw [e1]; exact hx, (h.files f x hx).1.most⟩
  have hE : appF S t = appF S1 t := by unfold appF; rw [e1, e2]
  have HSrc := hide (fun (w2 : World) (hf : Fr (Is d) (w.alloc (.cells #[sv t] 9)) w2) => Src.ofRd (P := Try.prog) (size := 1) w2 Try.underlying35 B n c (by8 bs) (by rw [by8_length, hbl]; omega) (by omega) (rd_fr3 (hr.fr0 ((Fr.refl No w).alloc _)) hf (fun ad e => (hzb ad e).imp id fun hz hh => hz (by have e' : ad.block = d := hh; rw [e']; exact h.zd))) (by8_one _))
  have HSrc2 := hide (fun (k : Nat) (hk : k ≤ n) (w2 : World) (hf : Fr (Is d) (w.alloc (.cells #[sv t] 9)) w2) => Src.ofRd (P := Try.prog) (size := 1) w2 Try.underlying35 B k c (by8 (bs.take k)) (by rw [by8_length, List.length_take, hbl]; omega) (by omega) (by rw [by8_take]; exact (rd_fr3 (hr.fr0 ((Fr.refl No w).alloc _)) hf (fun ad e => (hzb ad e).imp id fun hz hh => hz (by have e' : ad.block = d := hh; rw [e']; exact h.zd))).tk k) (by8_one _))
  obtain ⟨i0, hi, hz, hsz, hby⟩ := info_parts Try.info5
  have hp5 : S1.part = S.part := e5
  clear h hr hzb e1 e2 e3 e4 e5
  unfold maxLen at hbc
  unfold RetC at HC
  simp only at hfl
  subst hfl
  by_cases hr : r = 0
  · subst hr
    have hg : ¬ ((0 : Int) ≠ 0 ∧ false = false) := by simp
    cases hn : S1.now t with
    | none =>
      rw [appS_none hc hg (by rw [hE]; exact appF_none hn)]
      have HNo := hide hn
      clear hn hc hfx hE
      unfold sv at *
      go_enter Try.func37, Try.ntmps37
      go_wp2_with (go_at_call 43; refine HC.out.mono ?_; rintro e w2 ⟨rfl, hp, hf⟩; have HP := hide hp; have HF := hide hf; have k0 : w2.cell? ⟨d, 0, none⟩ = some (.map (some p.nb)) := hp.cell rfl; have k7 : w2.cell? ⟨d, 7, none⟩ = some (.int .i64 S1.part) := hp.cell rfl; obtain ⟨n1, D1, a1, m1⟩ := hp.now; have hl := m1.look HT.out; unfold sv at hl; rw [HNo.out] at hl; unfold optV at hl; clear m1; clear hp hf)
      go_ret
      exact ⟨rfl, Step.of (HP.out.mono (by omega)) ((((Fr.refl No w).alloc _).any Z).ts (HF.out.isZ HZ.out))⟩
    | some f =>
      obtain ⟨x, hx, hxm⟩ := hfx f hn
      have HNo := hide hn
      have HX := hide hx
      by_cases hlg : 16777216 - x.b.length < bs.length
      · rw [appS_long hc hg (by rw [hE]; exact appF_some hn hx) hlg]
        have dl : decide ((16777216 : Int) - (x.b.length : Int) < (n : Int)) = true := decide_eq_true (by omega)
        clear hn hx hc hfx hE
        unfold sv at *
        go_enter Try.func37, Try.ntmps37
        go_wp2_with (go_at_call 43; refine HC.out.mono ?_; rintro e w2 ⟨rfl, hp, hf⟩; have HP := hide hp; have HF := hide hf; have k0 : w2.cell? ⟨d, 0, none⟩ = some (.map (some p.nb)) := hp.cell rfl; have k7 : w2.cell? ⟨d, 7, none⟩ = some (.int .i64 S1.part) := hp.cell rfl; obtain ⟨n1, D1, a1, m1⟩ := hp.now; have hl := m1.look HT.out; unfold sv at hl; rw [HNo.out] at hl; unfold optV fpt at hl; clear m1; obtain ⟨A9, c9, hq⟩ := hp.file HX.out; have q0 := hq.c0; have hv9 := hq.v; have ho9 := (hp.files f x HX.out).1.own; rw [hv9] at ho9; have HO9 := hide ho9; have HV9 := hide hv9; clear hq ho9 hv9; have HS := hide (HSrc.out w2 hf); clear hp hf)
        go_ret
        exact ⟨rfl, Step.of (HP.out.mono (by omega)) ((((Fr.refl No w).alloc _).any Z).ts (HF.out.isZ HZ.out))⟩
      · rw [appS_fit hc hg (by rw [hE]; exact appF_some hn hx) hlg]
        have dl : decide ((16777216 : Int) - (x.b.length : Int) < (n : Int)) = false := decide_eq_false (by omega)
        clear hn hx hc hfx hE
        unfold sv at *
        go_enter Try.func37, Try.ntmps37
        go_wp2_with (first | (go_at_call 43; refine HC.out.mono ?_; rintro e w2 ⟨rfl, hp, hf⟩; have HP := hide hp; have HF := hide hf; have k0 : w2.cell? ⟨d, 0, none⟩ = some (.map (some p.nb)) := hp.cell rfl; have k7 : w2.cell? ⟨d, 7, none⟩ = some (.int .i64 S1.part) := hp.cell rfl; obtain ⟨n1, D1, a1, m1⟩ := hp.now; have hl := m1.look HT.out; unfold sv at hl; rw [HNo.out] at hl; unfold optV fpt at hl; clear m1; obtain ⟨A9, c9, hq⟩ := hp.file HX.out; have q0 := hq.c0; have hv9 := hq.v; have ho9 := (hp.files f x HX.out).1.own; rw [hv9] at ho9; have HO9 := hide ho9; have HV9 := hide hv9; clear hq ho9 hv9; have HS := hide (HSrc.out w2 hf); clear hp hf) | (at_builtin; refine wpList_append_gen _ rfl (.tmp 79) (.tmp 80) 35 35 rfl 0 5 i0 (.int .u8 0) 1 1 Try.underlying35 hi hz hsz hby rfl _ x.b.length (by8 x.b) rfl HO9.out _ n (by8 bs) rfl HS.out (by omega) (by unfold maxLen; omega) (Nat.zero_le _) ?_; intro v' w3 hown hfr hat; obtain ⟨g3, ⟨u, k3⟩, hstep⟩ := HP.out.appd HX.out (bs := bs) (by rw [HV9.out]; exact hfr) hown (by rw [HV9.out]; exact hat) hbl (by omega); obtain ⟨A8, c8, rfl, -⟩ := hown.form; have HSt := hide hstep; clear hstep hown hfr hat))
        go_ret
        exact ⟨rfl, (HSt.out.ahead ((((Fr.refl No w).alloc _).any Z).ts (HF.out.isZ HZ.out))).mono (by omega)⟩
  · rw [appS_err hc hr]
    have hr' : (r != 0) = true := by simp [hr]
    clear hc hfx hE
    unfold sv at *
    go_enter Try.func37, Try.ntmps37
    go_wp2_with (go_at_call 43; refine HC.out.mono ?_; rintro e w2 ⟨rfl, hp, hf⟩; have HP := hide hp; have HF := hide hf; clear hp hf)
    go_ret
    exact ⟨rfl, Step.of (HP.out.mono (by omega)) ((((Fr.refl No w).alloc _).any Z).ts (HF.out.isZ HZ.out))⟩
end Go.Proofs.Ythbgcmffpnmbeaa
