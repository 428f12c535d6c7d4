/- The walk of StoredOpens: it answers true; nothing that was there has changed. -/
import Derived.Test.YtpnhnnhocekchaaK19
import Derived.Deep.RegionHeld3
namespace Go.Proofs.Ytpnhnnhocekchaa
set_option linter.unusedVariables false
set_option linter.unusedSimpArgs false
open Go.RowKit

set_option maxRecDepth 100000 in
set_option maxHeartbeats 4000000 in
theorem storedopens_any (A : Option Addr) (m c : Nat) (bs : List UInt8) (at_ : Int) (w : World) (hl : bs.length = m) (hm : m ≤ c) (hc : c ≤ maxLen) (hb : m ≤ 140737488351232) (hr : Rd w w.heap.size A (by8 bs)) (ha1 : -9223372036854775808 ≤ at_) (ha2 : at_ ≤ 9223372036854775807) :
    Calls Try.prog 12 #[.slice A m c, .int .i64 at_] w (RetB true w) := by
  have HL := hide hl
  have HR := hide hr
  have HMc := hide hm
  have HC := hide hc
  have HCh0 := hide (chunk_out none 0 0 w (chunks_none w) (Nat.le_refl _) (by omega))
  have HDo0 := hide (doc_out none 0 0 w (by omega) (by omega) (fun W _ => len_none W) (Or.inr (by omega)))
  have HLn0 := hide (fun W => len_none W)
  have HLent := hide (fun (W : World) (f : Fr No w W) => lent8_any A m c _ bs W hl (by omega) (hr.fr0 f))
  clear hl hr hm hc
  go_enter Try.func12, Try.ntmps12
  go_wp2_with (fail)
  refine HCh0.out.mono ?_
  rintro en wz ⟨rfl, rfl⟩
  go_wp2_with (fail)
  refine (HLn0.out _).mono ?_
  rintro en wz ⟨rfl, rfl⟩
  go_wp2_with (fail)
  refine HDo0.out.mono ?_
  rintro en w1 ⟨Az, cz, rfl, _, hfr⟩
  have HF1 : Hid (Fr No _ w1) := hide hfr
  rw [show ([] : List EntV).length = 0 from rfl]
  clear hfr HCh0 HDo0
  go_wp2_with (fail)
  refine (chunks_none _).mono ?_
  rintro en wz2 ⟨rfl, rfl⟩
  go_wp2_with (fail)
  refine (HLent.out _ HF1.out).mono ?_
  rintro en w3 ⟨A8, c8, rfl, hown, hfr⟩
  rw [HL.out] at hown ⊢
  have q8 := hown.le
  have HF3 : Hid (Fr No w w3) := hide (HF1.out.tr hfr)
  have HO3 := hide (hown.lower HF1.out.size)
  have HC8 := hide q8.2
  have hrd : Rd w3 w3.heap.size A8 (by8 bs) := by
    have h := hown.rd.tk m
    rw [← by8_take, List.take_append_of_le_length (by rw [HL.out]; exact Nat.le_refl _), List.take_of_length_le (by rw [HL.out]; exact Nat.le_refl _)] at h
    exact h
  have HOp := hide (callsIn_wide.1 (open_in 6 (Nat.le_refl _) m c8 A8 bs _ w3 HL.out (by omega) q8.2.2 (by omega) (Nat.le_refl _) hrd))
  clear hown hfr q8 hrd
  go_wp2_with (fail)
  refine HOp.out.mono ?_
  rintro en w4 ⟨p, e, rfl, hfr, hp⟩
  have HF4 : Hid (Fr No w3 w4) := hide hfr
  have HRo := hide (refOpen_any A m c bs w4 HL.out HMc.out HC.out hb ((HR.out.fr0 (HF3.out.tr hfr)).more (HF3.out.tr hfr).size))
  have HP := hide hp
  clear hfr hp HOp
  go_wp2_with (fail)
  refine HRo.out.mono ?_
  rintro en w5 ⟨v, e2, rfl, hfr, hq⟩
  have HF5 : Hid (Fr No w3 w5) := hide (HF4.out.tr hfr)
  have HKe := hide (kept8_any A8 A m c8 m c _ _ bs w5 HL.out HL.out (by have := HC8.out; omega) HC8.out.2 HMc.out HC.out ((HO3.out.fr0 HF5.out).rd) (HR.out.fr0 (HF3.out.tr HF5.out)))
  have hcase : (∃ ks cs g ds ps, p = some ⟨g, 0, none⟩ ∧ e = 0 ∧ StoM w4 w3.heap.size g cs ∧ OpenOk bs ks cs ∧ e2 = 0 ∧ docsC cs = ds ∧ mayB ds ∧ cntC cs = cutsB ds ∧ OwnD w5 w4.heap.size v ps ∧ ps.map (·.1) = ds) ∨ (p = none ∧ e = 20 ∧ e2 = 20 ∧ v = .slice none 0 0) := by
    rcases HP.out with ⟨ks, cs, g, h1, h2, h3, h4⟩ | ⟨h1, h2, h3⟩
    · rcases hq with ⟨ds, ps, k1, k2, k3, k4, k5, k6⟩ | ⟨k1, k2, k3⟩
      · have ho : OpenOk (buildB ds) ks cs := by rw [k2]; exact h1
        have h5 := OpenOk.of_build k3 k4 ho
        exact .inl ⟨ks, cs, g, ds, ps, h2, h3, h4, h1, k1, h5.1, k3, h5.2, k5, k6⟩
      · exact absurd h1 (k3 _ _)
    · rcases hq with ⟨ds, ps, k1, k2, k3, k4, k5, k6⟩ | ⟨k1, k2, k3⟩
      · exact absurd (open_of_build k3 k4 k2 (by have := HL.out; omega)) (h1 _ _)
      · exact .inr ⟨h2, h3, k1, k2⟩
  have HFr3 := hide hfr
  clear hfr hq HP HRo
  rcases hcase with ⟨ks, cs, g, ds, ps, rfl, rfl, hsto, hok, rfl, hdc, hmay, hcc, hod, hpd⟩ | ⟨rfl, rfl, rfl, rfl⟩
  · have HS4 := hide hsto
    have HDc := hide hdc
    have HMay := hide hmay
    have HCc := hide hcc
    have HPd := hide hpd
    obtain ⟨n, hn⟩ : ∃ n, n = ds.length := ⟨_, rfl⟩
    have HNn := hide hn
    have hn16 : n ≤ 16384 := by rw [hn]; exact hmay.1
    have hpl : ps.length = n := by rw [hn, ← hpd, List.length_map]
    have HPl := hide hpl
    obtain ⟨A11, c11, rfl, y1, y2, _⟩ := hod.row.form
    rw [hpl] at y1 hod ⊢
    have HOD := hide hod
    clear hsto hdc hmay hcc hpd hn hpl hod hok
    go_wp2_with (go_at_call 26; refine HKe.out.mono ?_; rintro en w6 ⟨rfl, q6, hq6⟩; have HF6 : Hid (Fr No w5 w6) := hide (fr_of_drewN hq6); clear hq6)
    have HO6 := hide ((HO3.out.fr0 HF5.out).fr0 HF6.out)
    go_loopw [13] (fun ix wr => ∃ (q : Nat) (X : List Value), q ≤ m ∧ ix = .int .i64 q ∧ Hid (Own wr w.heap.size 5 1 (.slice A8 (m + 1) c8) (m + 1) X) ∧ Hid (Fr (fun k => (Value.slice A8 (m + 1) c8).ownBlock = some k) w6 wr)) (fun ix _ => m - (intOf ix).toNat)
    case atStart => exact ⟨0, _, by omega, rfl, HO6, hide (Fr.refl _ _)⟩
    case round =>
      obtain ⟨wo, rfl⟩ : ∃ wo : World, wo = wr := ⟨_, rfl⟩
      obtain ⟨q, X, hq, rfl, HOq, HFq⟩ := hrel
      by_cases hlt : q < m
      · obtain ⟨gI, rfl, _, _, hcell, hfz, hst⟩ := HOq.out.store (k := q) (by omega)
        obtain ⟨u, hu⟩ := HOq.out.some_at (k := q) (by omega)
        rw [hu] at hcell
        have HN := hide (hst (.int .u8 255))
        have HFn : Hid (Fr (fun k => (Value.slice (some ⟨gI, 0, none⟩) (m + 1) c8).ownBlock = some k) w6 (wo.setCell ⟨gI, q, none⟩ (.int .u8 255))) := hide (HFq.out.setCell (p := ⟨gI, q, none⟩) (fun _ => rfl) _)
        have hqI : (q : Int) < (m : Int) := by omega
        clear hst hu
        go_wp2
        go_roundw
        case rel => exact ⟨q + 1, _, by omega, by go_num, HN, HFn⟩
        case measure => simp [intOf]; omega
      · obtain rfl : q = m := by omega
        clear hlt
        have hS : ∀ k, (Value.slice A8 (q + 1) c8).ownBlock = some k → k < w3.heap.size := fun k hk => (HO3.out.lt k hk).2
        have hs3 : w3.heap.size ≤ w4.heap.size := HF4.out.size
        have HSq : Hid (StoM wo w3.heap.size g cs) := hide (((HS4.out.fr0 HFr3.out).fr0 HF6.out).above HFq.out hS)
        have HDq : Hid (OwnD wo w4.heap.size (.slice A11 n c11) ps) := hide ((HOD.out.fr0 HF6.out).above HFq.out (fun k hk => by have := hS k hk; omega))
        have HFw : Hid (Fr No w wo) := hide (((HF3.out.tr HF5.out).tr HF6.out).own HFq.out (fun k hk => .inl (HO3.out.lt k hk).1))
        obtain ⟨wb, hwb⟩ : ∃ wb : World, wb = wo := ⟨_, rfl⟩
        have HSb : Hid (StoM wb w3.heap.size g cs) := hide (by rw [hwb]; exact HSq.out)
        have HDb : Hid (OwnD wb w4.heap.size (.slice A11 n c11) ps) := hide (by rw [hwb]; exact HDq.out)
        have HFb : Hid (Fr No w wb) := hide (by rw [hwb]; exact HFw.out)
        rw [← hwb]
        clear hwb HSq HDq HFw hS HFq HOq HO6
        unfold maxLen at y2
        go_wp2_with (fail)
        go_loopw [14] (fun ix wr => ∃ k : Nat, k ≤ n ∧ ix = .int .i64 k ∧ Hid (Fr No wb wr)) (fun ix _ => n - (intOf ix).toNat)
        case atStart => exact ⟨0, by omega, rfl, hide (Fr.refl _ _)⟩
        case round =>
          obtain ⟨wx, rfl⟩ : ∃ wx : World, wx = wr := ⟨_, rfl⟩
          obtain ⟨k, hk, rfl, HFk⟩ := hrel
          have HSk := hide (HSb.out.fr0 HFk.out)
          have HDk := hide (HDb.out.fr0 HFk.out)
          have HLen := hide (show Calls Try.prog 45 #[.pointer (some ⟨g, 0, none⟩)] wx (Ret (.int .i64 (n : Nat)) wx) by have := len_sto HSk.out; rw [HDc.out, ← HNn.out] at this; exact this)
          have HDocA := hide (fun (W : World) (f : Fr No wx W) (i : Nat) (hi : i < n) => callsIn_wide.1 (doc_in 6 (Nat.le_refl _) (w := W) i (HSk.out.fr0 f) (sto_bounds HMay.out HCc.out).1 (fun c hc => Nat.le_trans ((sto_bounds HMay.out HCc.out).2 c hc) (by omega)) (by rw [HDc.out, ← HNn.out]; exact hi)))
          by_cases hlt : k < n
          · obtain ⟨gd, pk, rfl, hpk, kc, kO⟩ := HDk.out.at (q := k) (by rw [HPl.out]; exact hlt)
            have hde : (docsC cs).getD k [] = pk.1 := by
              rw [HDc.out, ← HPd.out, List.getD_eq_getElem?_getD, List.getElem?_map, hpk]
              rfl
            have HDoc := hide (HDocA.out wx.drew ((Fr.refl No wx).drew) k hlt)
            rw [hde] at HDoc
            obtain ⟨dn, hdn⟩ : ∃ dn, dn = pk.1.length := ⟨_, rfl⟩
            rw [← hdn] at kc
            have HDn := hide hdn
            have HO := hide kO
            obtain ⟨Rk, hRk⟩ : ∃ R, R = pk.2.1 := ⟨_, rfl⟩
            obtain ⟨ck, hck⟩ : ∃ c, c = pk.2.2 := ⟨_, rfl⟩
            rw [← hRk, ← hck] at kc HO
            have hle := HO.out.le
            rw [← hdn] at hle
            have hkI : (k : Int) < (n : Int) := by omega
            have k1 : wx.drew.cell? ⟨gd, k, none⟩ = some (.slice Rk dn ck) := kc
            have HK1 := hide k1
            have HLe := hide hle
            clear hdn kO hRk hck hle hde hpk kc hlt
            go_wp2_with (fail)
            go_region_held3 (fun W => W.cell? ⟨gd, k, none⟩ = some (.slice Rk dn ck)) (first | exact k21 | exact k20 | exact HK1.out) (first
              | (go_at_call 49; refine HDoc.out.mono ?_; rintro en w20 ⟨A20, c20, rfl, hoe, hfr⟩; rw [← HDn.out]; have hl20 := hoe.le; rw [← HDn.out] at hl20; have HF20 : Hid (Fr No wb w20) := hide ((HFk.out.drew).tr hfr); have f20 : Fr No wx w20 := ((Fr.refl No wx).drew).tr hfr; have k20 := f20.cell (p := ⟨gd, k, none⟩) HK1.out (fun h => h); have HEn := hide (entries_any A20 Rk dn c20 dn ck _ _ pk.1 pk.1 w20 HDn.out.symm HDn.out.symm hl20.1 hl20.2 HLe.out.1 HLe.out.2 hoe.rd (HO.out.fr0 f20).rd); rw [decide_eq_true rfl] at HEn; clear hoe hfr hl20 f20)
              | (go_at_call 51; refine HEn.out.mono ?_; rintro en w21 ⟨rfl, q21, hq21⟩; have HF21 : Hid (Fr No wb w21) := hide (HF20.out.tr (fr_of_drewN hq21)); have k21 := (fr_of_drewN hq21).cell (p := ⟨gd, k, none⟩) k20 (fun h => h); clear hq21))
            go_wp2
            go_roundw
            case rel => exact ⟨k + 1, by omega, by go_num, HF21⟩
            case measure => simp [intOf]; omega
          · obtain rfl : k = n := by omega
            have hmm : cs.length ≤ 16384 := (sto_bounds HMay.out HCc.out).1
            have HChs := hide (fun (W : World) (f : Fr No wx W) => chunks_sto (HSk.out.fr0 f))
            have HCho := hide (fun (W : World) (f : Fr No wx W) => chunk_out (some ⟨g, 0, none⟩) cs.length cs.length W (chunks_sto (HSk.out.fr0 f)) (Nat.le_refl _) (by omega))
            have HFx : Hid (Fr No w wx) := hide (HFb.out.tr HFk.out)
            clear hlt hmm
            by_cases hat : 0 ≤ at_ ∧ at_ < (k : Int)
            · obtain ⟨hat1, hat2⟩ := hat
              obtain ⟨ai, rfl⟩ : ∃ ai : Nat, at_ = (ai : Int) := ⟨at_.toNat, by omega⟩
              have hai : ai < k := by omega
              obtain ⟨gd, pk, rfl, hpk, kc, kO⟩ := HDk.out.at (q := ai) (by rw [HPl.out]; exact hai)
              have hde : (docsC cs).getD ai [] = pk.1 := by
                rw [HDc.out, ← HPd.out, List.getD_eq_getElem?_getD, List.getElem?_map, hpk]
                rfl
              have HDoc := hide (HDocA.out wx (Fr.refl _ _) ai hai)
              rw [hde] at HDoc
              obtain ⟨dn, hdn⟩ : ∃ dn, dn = pk.1.length := ⟨_, rfl⟩
              rw [← hdn] at kc
              have HDn := hide hdn
              have HO := hide kO
              obtain ⟨Rk, hRk⟩ : ∃ R, R = pk.2.1 := ⟨_, rfl⟩
              obtain ⟨ck, hck⟩ : ∃ c, c = pk.2.2 := ⟨_, rfl⟩
              rw [← hRk, ← hck] at kc HO
              have hle := HO.out.le
              rw [← hdn] at hle
              have HLe := hide hle
              have hd1 : decide ((0 : Int) ≤ (ai : Int)) = true := decide_eq_true (by omega)
              have hd2 : decide ((ai : Int) < (k : Int)) = true := decide_eq_true (by omega)
              have hd3 : decide (ai < k) = true := decide_eq_true hai
              clear hdn kO hRk hck hle hde hpk
              go_wp2_with (fail)
              refine (HChs.out _ (Fr.refl _ _)).mono ?_
              rintro en wz9 ⟨rfl, rfl⟩
              go_wp2_with (fail)
              refine (HCho.out _ (Fr.refl _ _)).mono ?_
              rintro en wz9 ⟨rfl, rfl⟩
              go_wp2_with (fail)
              refine HLen.out.mono ?_
              rintro en wz9 ⟨rfl, rfl⟩
              have hkk : ((k : Int) == (k : Int)) = true := by simp
              go_wp2_with (fail)
              refine HDoc.out.mono ?_
              rintro en w30 ⟨A30, c30, rfl, hoe, hfr⟩
              rw [← HDn.out]
              have hl30 := hoe.le
              rw [← HDn.out] at hl30
              have HF30 : Hid (Fr No w w30) := hide (HFx.out.tr hfr)
              have HEn := hide (entries_any A30 Rk dn c30 dn ck _ _ pk.1 pk.1 w30 HDn.out.symm HDn.out.symm hl30.1 hl30.2 HLe.out.1 HLe.out.2 hoe.rd (HO.out.fr0 hfr).rd)
              rw [decide_eq_true rfl] at HEn
              clear hoe hfr hl30 kc
              go_wp2_with (fail)
              refine HEn.out.mono ?_
              rintro en w31 ⟨rfl, q31, hq31⟩
              have HF31 : Hid (Fr No w w31) := hide (HF30.out.tr (fr_of_drewN hq31))
              clear hq31
              go_wp2
              go_ret
              exact ⟨rfl, HF31.out⟩
            · have HDoc := hide (doc_out (some ⟨g, 0, none⟩) at_ k wx ha1 ha2 (fun W f => by have := len_sto (HSk.out.fr0 f); rw [HDc.out, ← HNn.out] at this; exact this) (by omega))
              obtain ⟨gb, hgb⟩ : ∃ gb, gb = decide ((0 : Int) ≤ at_) := ⟨_, rfl⟩
              have hg2 : gb = true → decide (at_ < (k : Int)) = false := fun h => decide_eq_false (fun h2 => hat ⟨of_decide_eq_true (hgb ▸ h), h2⟩)
              have HGb := hide hgb.symm
              have hd1 : decide ((0 : Int) ≤ at_) = gb := HGb.out
              clear hgb hat
              cases gb with
              | true =>
                have hd2 := hg2 rfl
                clear hg2
                go_wp2_with (fail)
                refine (HChs.out _ (Fr.refl _ _)).mono ?_
                rintro en wz9 ⟨rfl, rfl⟩
                go_wp2_with (fail)
                refine (HCho.out _ (Fr.refl _ _)).mono ?_
                rintro en wz9 ⟨rfl, rfl⟩
                go_wp2_with (fail)
                refine HLen.out.mono ?_
                rintro en wz9 ⟨rfl, rfl⟩
                have hkk : ((k : Int) == (k : Int)) = true := by simp
                go_wp2_with (fail)
                refine HDoc.out.mono ?_
                rintro en w30 ⟨A30, c30, rfl, hoe, hfr⟩
                have HF30 : Hid (Fr No w w30) := hide (HFx.out.tr hfr)
                have HEn := hide (entries_any A30 none 0 c30 0 0 w30.heap.size w30.heap.size [] [] w30 rfl rfl (Nat.zero_le _) hoe.le.2 (Nat.le_refl _) (Nat.zero_le _) hoe.rd (fun k hk => by simp at hk))
                rw [decide_eq_true rfl] at HEn
                rw [show ([] : List EntV).length = 0 from rfl]
                clear hoe hfr
                go_wp2_with (fail)
                refine HEn.out.mono ?_
                rintro en w31 ⟨rfl, q31, hq31⟩
                have HF31 : Hid (Fr No w w31) := hide (HF30.out.tr (fr_of_drewN hq31))
                clear hq31
                go_wp2
                go_ret
                exact ⟨rfl, HF31.out⟩
              | false =>
                clear hg2
                go_wp2_with (fail)
                refine (HChs.out _ (Fr.refl _ _)).mono ?_
                rintro en wz9 ⟨rfl, rfl⟩
                go_wp2_with (fail)
                refine (HCho.out _ (Fr.refl _ _)).mono ?_
                rintro en wz9 ⟨rfl, rfl⟩
                go_wp2_with (fail)
                refine HLen.out.mono ?_
                rintro en wz9 ⟨rfl, rfl⟩
                have hkk : ((k : Int) == (k : Int)) = true := by simp
                go_wp2_with (fail)
                refine HDoc.out.mono ?_
                rintro en w30 ⟨A30, c30, rfl, hoe, hfr⟩
                have HF30 : Hid (Fr No w w30) := hide (HFx.out.tr hfr)
                have HEn := hide (entries_any A30 none 0 c30 0 0 w30.heap.size w30.heap.size [] [] w30 rfl rfl (Nat.zero_le _) hoe.le.2 (Nat.le_refl _) (Nat.zero_le _) hoe.rd (fun k hk => by simp at hk))
                rw [decide_eq_true rfl] at HEn
                rw [show ([] : List EntV).length = 0 from rfl]
                clear hoe hfr
                go_wp2_with (fail)
                refine HEn.out.mono ?_
                rintro en w31 ⟨rfl, q31, hq31⟩
                have HF31 : Hid (Fr No w w31) := hide (HF30.out.tr (fr_of_drewN hq31))
                clear hq31
                go_wp2
                go_ret
                exact ⟨rfl, HF31.out⟩
  · go_wp2_with (go_at_call 26; refine HKe.out.mono ?_; rintro en w6 ⟨rfl, q6, hq6⟩; have HF6 : Hid (Fr No w5 w6) := hide (fr_of_drewN hq6); clear hq6)
    have HO6 := hide ((HO3.out.fr0 HF5.out).fr0 HF6.out)
    go_loopw [13] (fun ix wr => ∃ (q : Nat) (X : List Value), q ≤ m ∧ ix = .int .i64 q ∧ Hid (Own wr w.heap.size 5 1 (.slice A8 (m + 1) c8) (m + 1) X) ∧ Hid (Fr (fun k => (Value.slice A8 (m + 1) c8).ownBlock = some k) w6 wr)) (fun ix _ => m - (intOf ix).toNat)
    case atStart => exact ⟨0, _, by omega, rfl, HO6, hide (Fr.refl _ _)⟩
    case round =>
      obtain ⟨wo, rfl⟩ : ∃ wo : World, wo = wr := ⟨_, rfl⟩
      obtain ⟨q, X, hq, rfl, HOq, HFq⟩ := hrel
      by_cases hlt : q < m
      · obtain ⟨gI, rfl, _, _, hcell, hfz, hst⟩ := HOq.out.store (k := q) (by omega)
        obtain ⟨u, hu⟩ := HOq.out.some_at (k := q) (by omega)
        rw [hu] at hcell
        have HN := hide (hst (.int .u8 255))
        have HFn : Hid (Fr (fun k => (Value.slice (some ⟨gI, 0, none⟩) (m + 1) c8).ownBlock = some k) w6 (wo.setCell ⟨gI, q, none⟩ (.int .u8 255))) := hide (HFq.out.setCell (p := ⟨gI, q, none⟩) (fun _ => rfl) _)
        have hqI : (q : Int) < (m : Int) := by omega
        clear hst hu
        go_wp2
        go_roundw
        case rel => exact ⟨q + 1, _, by omega, by go_num, HN, HFn⟩
        case measure => simp [intOf]; omega
      · obtain rfl : q = m := by omega
        clear hlt
        go_wp2
        go_ret
        exact ⟨rfl, ((HF3.out.tr HF5.out).tr HF6.out).own HFq.out (fun k hk => .inl (HO3.out.lt k hk).1)⟩
end Go.Proofs.Ytpnhnnhocekchaa
