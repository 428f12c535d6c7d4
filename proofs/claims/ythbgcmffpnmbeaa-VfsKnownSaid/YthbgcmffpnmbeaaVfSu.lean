/- sure: a script's steps, one after another. -/
import Derived.Test.YthbgcmffpnmbeaaVfSm
import Derived.Test.YthbgcmffpnmbeaaVfV
namespace Go.Proofs.Ythbgcmffpnmbeaa
set_option linter.unusedVariables false
set_option linter.unusedSimpArgs false
open Go.RowKit Go.Maps

/-- What a step's call answers. -/
def RetS1 (w : World) (Z : Nat → Prop) (d N : Nat) (S : Di) (s : Stp) (en : Ending) (w' : World) : Prop := ∃ S1, Su1 S s S1 ∧ (∃ e : Int, en = .returned (.int .i64 e)) ∧ Step w w' Z d S1 (N + 3)
/-- What a script does. -/
def RetSu (w : World) (Z : Nat → Prop) (d N : Nat) (S : Di) (l : List Stp) (en : Ending) (w' : World) : Prop := en = .returned (.tuple #[]) ∧ ∃ S', SuR S l S' ∧ Step w w' Z d S' (N + 3 * l.length)
set_option maxRecDepth 100000 in
set_option maxHeartbeats 3200000 in
theorem sure2_any (w : World) (Z T : Nat → Prop) (d N : Nat) (S : Di) (A : Option Addr) (n c B : Nat) (l : List StpV) (h : DirM w Z d S N) (hN : N + 3 * l.length < 1099511627000)
    (hl : l.length = n) (hn : n ≤ c) (hc : c ≤ maxLen) (hr : StT w T B A l) (hTB : ∀ k, k < B → T k) (hTl : ∀ k, T k → k < w.heap.size) (hZ : ∀ k, T k → ¬ Z k) (hp : S.part ≤ 9223372036854775807) :
    Calls Try.prog 10 #[.pointer (some ⟨d, 0, none⟩), .slice A n c] w (RetSu w Z d N S (l.map (·.s))) := by
  have HL := hide hl
  have HR := hide hr
  have HZ := hide hZ
  have HTB := hide hTB
  have HTl := hide hTl
  have HP := hide hp
  have H0 := hide (show SuR S ((l.take 0).map (·.s)) S from rfl)
  have H1 := hide (Step.refl h)
  have HNn := hide hN
  unfold maxLen at hc
  clear h hl hr hZ hp hN hTB hTl
  go_enter Try.func10, Try.ntmps10
  go_wp2_with (fail)
  go_loopw [4] (fun i wr => ∃ (k : Nat) (S1 : Di), k ≤ n ∧ i = .int .i64 k ∧ Hid (SuR S ((l.take k).map (·.s)) S1) ∧ Hid (Step w wr Z d S1 (N + 3 * k))) (fun i _ => n - (intOf i).toNat)
  case atStart => exact ⟨0, S, by omega, rfl, H0, H1⟩
  case round =>
    obtain ⟨k, S1, hk, rfl, HS, HSt⟩ := hrel
    by_cases hlt : k < n
    · obtain ⟨v, hv⟩ : ∃ v, l[k]? = some v := ⟨_, List.getElem?_eq_getElem (by rw [HL.out]; exact hlt)⟩
      obtain ⟨Z1, hd1, hf1, hz1, hz2⟩ := HSt.out
      obtain ⟨p1, hp1⟩ := hd1
      have HD1 := hide hp1
      obtain ⟨ad, rfl, _, ho, c0, hc9⟩ := (HR.out.fr hf1 (fun j hj hz => HZ.out j hj hz) HTB.out) k v hv
      have HO := hide ho
      have HB1 := hide (fun j (hj : j < B) (hz : Z1 j) => show False by
        have hj' := HTB.out j hj
        rcases hz2 j hz with h | h
        · exact HZ.out j hj' h
        · have := HTl.out j hj'; omega)
      have c1 := hc9 1 _ (by omega) rfl
      have c2 := hc9 2 _ (by omega) rfl
      have c3 := hc9 3 _ (by omega) rfl
      have c4 := hc9 4 _ (by omega) rfl
      have c5 := hc9 5 _ (by omega) rfl
      have c6 := hc9 6 _ (by omega) rfl
      have c7 := hc9 7 _ (by omega) rfl
      have c8 := hc9 8 _ (by omega) rfl
      clear hc9
      have hpt := HS.out.part
      have HPt := hide (show S1.part ≤ 9223372036854775807 by rw [hpt]; exact HP.out)
      have hkl : k < l.length := by rw [HL.out]; exact hlt
      have HN1 := hide (show N + 3 * k < 1099511627000 by have := HNn.out; omega)
      have HTk := hide (show l.take (k + 1) = l.take k ++ [v] by rw [List.take_add_one, hv]; rfl)
      have HNext := hide (fun (S2 : Di) (h2 : Su1 S1 v.s S2) => show SuR S ((l.take (k + 1)).map (·.s)) S2 by
        rw [HTk.out, List.map_append]
        exact HS.out.snoc h2)
      have HStN := hide (fun (W w2 : World) (fW : Fr No wr W) (S2 : Di) (h2 : Step W w2 Z1 d S2 (N + 3 * k + 3)) => show Step w w2 Z d S2 (N + 3 * (k + 1)) from
        Step.narrow (hf1.tr fW) (by have e : N + 3 * (k + 1) = N + 3 * k + 3 := (by omega); rw [e]; exact h2) hz1 hz2)
      obtain ⟨⟨κ, who, sn, se, sp, nm, ot, by_, cs⟩, A1, c1', A2, c2'⟩ := v
      simp only [StpV.cells] at c0 c1 c2 c3 c4 c5 c6 c7 c8
      simp only at HNext
      clear hv hp1 hf1 hz1 hz2 ho hpt hkl
      by_cases hk0 : κ = 0
      · subst hk0
        have HOp : Hid (∀ W, Fr No wr W → Calls Try.prog 35 #[.pointer (some ⟨d, 0, none⟩), sv nm] W (RetS1 W Z1 d (N + 3 * k) S1 ⟨0, who, sn, se, sp, nm, ot, by_, cs⟩)) := hide fun W fW => (create_any W Z1 d (N + 3 * k) S1 p1 nm (HD1.out.fr0 fW) HN1.out HO.out.nm).mono fun en w' hq => by
            obtain ⟨f, cc, h1, h2, h3, h4⟩ := hq
            exact ⟨_, .inl ⟨rfl, f, cc, h1, h2, rfl⟩, ⟨_, h3⟩, h4⟩
        unfold sv at *
        go_wp2_with (go_at_call 35; refine (HOp.out _ ((Fr.refl No wr).alloc _)).mono ?_; rintro e w2 ⟨S2, h2, ⟨ev, rfl⟩, hst⟩; have H2 := hide h2; have HSt2 := hide (HStN.out _ _ ((Fr.refl No wr).alloc _) S2 hst); clear h2 hst)
        go_round
        case rel => exact ⟨k + 1, S2, by omega, by go_num, hide (HNext.out S2 H2.out), HSt2⟩
        case measure => simp [intOf]; omega
      have hb0 : (κ == 0) = false := by simp [hk0]
      by_cases hk1 : κ = 1
      · subst hk1
        have HOp : Hid (∀ W, Fr No wr W → Calls Try.prog 37 #[.pointer (some ⟨d, 0, none⟩), sv nm, .slice A1 by_.length c1'] W (RetS1 W Z1 d (N + 3 * k) S1 ⟨1, who, sn, se, sp, nm, ot, by_, cs⟩)) := hide fun W fW => (append_any W Z1 d (N + 3 * k) S1 p1 nm A1 by_.length c1' B by_ (HD1.out.fr0 fW) HN1.out HO.out.nm rfl HO.out.l1 HO.out.m1 (HO.out.r1.fr0 fW) (fun ad e => by
            cases hby : by8 by_ with
            | nil => exact .inl rfl
            | cons u r =>
              refine .inr fun hz => ?_
              obtain ⟨ad', e', hlt', _⟩ := HO.out.r1 0 u (by simp only; rw [hby]; rfl)
              simp only at e'
              rw [e] at e'
              obtain rfl := Option.some.inj e'
              exact HB1.out _ hlt' hz) HPt.out).mono fun en w' hq => ⟨_, .inr (.inl ⟨rfl, rfl⟩), ⟨_, hq.1⟩, hq.2⟩
        unfold sv at *
        go_wp2_with (go_at_call 37; refine (HOp.out _ ((Fr.refl No wr).alloc _)).mono ?_; rintro e w2 ⟨S2, h2, ⟨ev, rfl⟩, hst⟩; have H2 := hide h2; have HSt2 := hide (HStN.out _ _ ((Fr.refl No wr).alloc _) S2 hst); clear h2 hst)
        go_round
        case rel => exact ⟨k + 1, S2, by omega, by go_num, hide (HNext.out S2 H2.out), HSt2⟩
        case measure => simp [intOf]; omega
      have hb1 : (κ == 1) = false := by simp [hk1]
      by_cases hk2 : κ = 2
      · subst hk2
        have HOp : Hid (∀ W, Fr No wr W → Calls Try.prog 12 #[.pointer (some ⟨d, 0, none⟩), sv nm] W (RetS1 W Z1 d (N + 3 * k) S1 ⟨2, who, sn, se, sp, nm, ot, by_, cs⟩)) := hide fun W fW => (sync_any W Z1 d (N + 3 * k) S1 p1 nm (HD1.out.fr0 fW) (by have := HN1.out; omega) HO.out.nm).mono fun en w' hq => ⟨_, .inr (.inr (.inl ⟨rfl, rfl⟩)), ⟨_, hq.1⟩, hq.2⟩
        unfold sv at *
        go_wp2_with (go_at_call 12; refine (HOp.out _ ((Fr.refl No wr).alloc _)).mono ?_; rintro e w2 ⟨S2, h2, ⟨ev, rfl⟩, hst⟩; have H2 := hide h2; have HSt2 := hide (HStN.out _ _ ((Fr.refl No wr).alloc _) S2 hst); clear h2 hst)
        go_round
        case rel => exact ⟨k + 1, S2, by omega, by go_num, hide (HNext.out S2 H2.out), HSt2⟩
        case measure => simp [intOf]; omega
      have hb2 : (κ == 2) = false := by simp [hk2]
      by_cases hk3 : κ = 3
      · subst hk3
        have HOp : Hid (∀ W, Fr No wr W → Calls Try.prog 13 #[.pointer (some ⟨d, 0, none⟩)] W (RetS1 W Z1 d (N + 3 * k) S1 ⟨3, who, sn, se, sp, nm, ot, by_, cs⟩)) := hide fun W fW => (syncdir_any W Z1 d (N + 3 * k) S1 p1 (HD1.out.fr0 fW) HN1.out).mono fun en w' hq => ⟨_, .inr (.inr (.inr (.inl ⟨rfl, rfl⟩))), ⟨_, hq.1⟩, hq.2⟩
        unfold sv at *
        go_wp2_with (go_at_call 13; refine (HOp.out _ ((Fr.refl No wr).alloc _)).mono ?_; rintro e w2 ⟨S2, h2, ⟨ev, rfl⟩, hst⟩; have H2 := hide h2; have HSt2 := hide (HStN.out _ _ ((Fr.refl No wr).alloc _) S2 hst); clear h2 hst)
        go_round
        case rel => exact ⟨k + 1, S2, by omega, by go_num, hide (HNext.out S2 H2.out), HSt2⟩
        case measure => simp [intOf]; omega
      have hb3 : (κ == 3) = false := by simp [hk3]
      by_cases hk4 : κ = 4
      · subst hk4
        have HOp : Hid (∀ W, Fr No wr W → Calls Try.prog 36 #[.pointer (some ⟨d, 0, none⟩), sv nm, sv ot] W (RetS1 W Z1 d (N + 3 * k) S1 ⟨4, who, sn, se, sp, nm, ot, by_, cs⟩)) := hide fun W fW => (rename_any W Z1 d (N + 3 * k) S1 p1 nm ot (HD1.out.fr0 fW) HN1.out HO.out.nm HO.out.ot).mono fun en w' hq => ⟨_, .inr (.inr (.inr (.inr (.inl ⟨rfl, rfl⟩)))), ⟨_, hq.1⟩, hq.2⟩
        unfold sv at *
        go_wp2_with (go_at_call 36; refine (HOp.out _ ((Fr.refl No wr).alloc _)).mono ?_; rintro e w2 ⟨S2, h2, ⟨ev, rfl⟩, hst⟩; have H2 := hide h2; have HSt2 := hide (HStN.out _ _ ((Fr.refl No wr).alloc _) S2 hst); clear h2 hst)
        go_round
        case rel => exact ⟨k + 1, S2, by omega, by go_num, hide (HNext.out S2 H2.out), HSt2⟩
        case measure => simp [intOf]; omega
      have hb4 : (κ == 4) = false := by simp [hk4]
      by_cases hk5 : κ = 5
      · subst hk5
        have HOp : Hid (∀ W, Fr No wr W → Calls Try.prog 38 #[.pointer (some ⟨d, 0, none⟩), sv nm] W (RetS1 W Z1 d (N + 3 * k) S1 ⟨5, who, sn, se, sp, nm, ot, by_, cs⟩)) := hide fun W fW => (delete_any W Z1 d (N + 3 * k) S1 p1 nm (HD1.out.fr0 fW) HN1.out HO.out.nm).mono fun en w' hq => ⟨_, .inr (.inr (.inr (.inr (.inr (.inl ⟨rfl, rfl⟩))))), ⟨_, hq.1⟩, hq.2⟩
        unfold sv at *
        go_wp2_with (go_at_call 38; refine (HOp.out _ ((Fr.refl No wr).alloc _)).mono ?_; rintro e w2 ⟨S2, h2, ⟨ev, rfl⟩, hst⟩; have H2 := hide h2; have HSt2 := hide (HStN.out _ _ ((Fr.refl No wr).alloc _) S2 hst); clear h2 hst)
        go_round
        case rel => exact ⟨k + 1, S2, by omega, by go_num, hide (HNext.out S2 H2.out), HSt2⟩
        case measure => simp [intOf]; omega
      have hb5 : (κ == 5) = false := by simp [hk5]
      have H2 := hide (show Su1 S1 ⟨κ, who, sn, se, sp, nm, ot, by_, cs⟩ S1 from .inr (.inr (.inr (.inr (.inr (.inr ⟨by simp only; omega, rfl⟩))))))
      clear hk0 hk1 hk2 hk3 hk4 hk5
      unfold sv at *
      go_wp2_with (fail)
      go_round
      case rel => exact ⟨k + 1, S1, by omega, by go_num, hide (HNext.out S1 H2.out), hide ((HSt.out.behind ((Fr.refl No wr).alloc _)).mono (by omega))⟩
      case measure => simp [intOf]; omega
    · obtain rfl : k = n := by omega
      have ht : l.take k = l := by rw [← HL.out]; exact List.take_length
      rw [ht] at HS
      clear ht
      go_wp2
      go_end0
      exact ⟨rfl, S1, HS.out, by rw [List.length_map, HL.out]; exact HSt.out⟩
theorem sure_any (w : World) (Z : Nat → Prop) (d N : Nat) (S : Di) (A : Option Addr) (n c B : Nat) (l : List StpV) (h : DirM w Z d S N) (hN : N + 3 * l.length < 1099511627000)
    (hl : l.length = n) (hn : n ≤ c) (hc : c ≤ maxLen) (hr : StR w B A l) (hB : B ≤ w.heap.size) (hZ : ∀ k, Z k → B ≤ k) (hp : S.part ≤ 9223372036854775807) :
    Calls Try.prog 10 #[.pointer (some ⟨d, 0, none⟩), .slice A n c] w (RetSu w Z d N S (l.map (·.s))) :=
  sure2_any w Z (fun k => k < B) d N S A n c B l h hN hl hn hc hr.t (fun k hk => hk) (fun k hk => Nat.lt_of_lt_of_le hk hB) (fun k hk hz => by have := hZ k hz; omega) hp
end Go.Proofs.Ythbgcmffpnmbeaa
