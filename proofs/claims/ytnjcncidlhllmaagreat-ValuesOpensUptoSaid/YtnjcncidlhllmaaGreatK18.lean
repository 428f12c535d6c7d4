/- Several texts in one: RefRest, RefOpV, SetW. -/
import Derived.Test.YtnjcncidlhllmaaGreatK17
import Derived.Deep.RegionWith
import Derived.StillTailTactics
import Derived.Laws.CopyOwn
import Derived.IntWalk
import Derived.Deep.RegionLaw
import Derived.BigQuiet
namespace Go.Proofs.YtnjcncidlhllmaaGreat
set_option linter.unusedVariables false
set_option linter.unusedSimpArgs false
open Go.RowKit

/-- how far the first k lengths reach. -/
def sumL (lens : List Int) : Nat → Nat
  | 0 => 0
  | k + 1 => sumL lens k + ((lens.getD k 0).toNat + 1)
theorem atV_sum (bits : List UInt8) (lens : List Int) : ∀ j, atV bits lens j = sumL lens (kB bits j)
  | 0 => rfl
  | j + 1 => by
    rw [atV, kB, atV_sum bits lens j]
    cases isBit bits j
    · simp
    · simp [sumL]
theorem rd_cut8 {w : World} {B f : Nat} {A : Option Addr} {l : List UInt8} (h : Rd w B A (by8 l)) : Rd w B (Option.map (fun x => x.add f) A) (by8 (l.drop f)) := by
  cases A with
  | none =>
    have e : l = [] := by
      cases l with
      | nil => rfl
      | cons x t =>
        obtain ⟨ad, e, _⟩ := h 0 _ rfl
        cases e
    subst e
    rw [List.drop_nil]
    exact fun j u hu => by simp [by8] at hu
  | some ad =>
    have h3 := h.dr f
    rw [← by8_drop] at h3
    exact h3
theorem rd_nil8 (w : World) (B : Nat) (A : Option Addr) : Rd w B A (by8 []) := fun j u hu => by simp [by8] at hu
def RestQ (w : World) (bs : List UInt8) (en : Ending) (w' : World) : Prop := Fr No w w' ∧ ((rdOk bs ∧ ∃ v vals, en = .returned (.tuple #[v, .bool true]) ∧ Own w' w.heap.size 41 1 v (nV bs) vals ∧ ValsI w' w.heap.size vals (rdV bs)) ∨ (¬ rdOk bs ∧ en = .returned (.tuple #[.slice none 0 0, .bool false])))
set_option maxRecDepth 100000 in
set_option maxHeartbeats 4000000 in
theorem refRest_any (A : Option Addr) (m c B : Nat) (bs : List UInt8) (w : World) (hl : bs.length = m) (hn : m ≤ c) (hc : c ≤ maxLen) (hb : m ≤ 140737488355328) (hB : B ≤ w.heap.size) (hr : Rd w B A (by8 bs)) :
    Calls Tryz.prog 61 #[.slice A m c] w (RestQ w bs) := by
  obtain ⟨iE, hiE, hzE, hsE, hbE⟩ := info_parts Tryz.infoI64
  obtain ⟨iR, hiR, hzR, hsR, hbR⟩ := info_parts Tryz.infoRI
  have HR := hide hr
  have HL := hide hl
  have hc' := hc
  unfold maxLen at hc
  obtain ⟨⟨n, a1, e1⟩, hs⟩ : ∃ x, x = sizeS bs 0 0 16384 := ⟨_, rfl⟩
  have hnv : nV bs = n := by unfold nV; rw [← hs]
  have hnb : n ≤ 16384 := by rw [← hnv]; exact nV_le bs
  obtain ⟨mm, hmm⟩ : ∃ x, x = (n + 7) / 8 := ⟨_, rfl⟩
  have em : ((n : Int) + 7) / 8 = (mm : Int) := by omega
  obtain ⟨⟨bits, a2, e2⟩, hbv⟩ : ∃ x, x = bytesS bs a1 e1 (mm : Nat) := ⟨_, rfl⟩
  have hbV : bV bs = (bits, a2, e2) := by unfold bV; rw [hnv, ← hs, ← hmm]; exact hbv.symm
  have f1 : Fr No w (w.alloc (.cells #[.slice A m c, .int .i64 0, .int .i64 0] 95)) := (Fr.refl No w).alloc _
  have HF1 := hide f1
  have HSz := hide (refN_any B w.heap.size bs 0 0 16384 _ (RS.make hl hn hc' hb hr hB) (by decide))
  rw [← hs] at HSz
  have HBy := hide (fun W (h : RS W B w.heap.size bs a1 e1) => refB_any B w.heap.size bs a1 e1 (mm : Nat) W h)
  rw [← hbv] at HBy
  have HHS := hide hs
  have HNV := hide hnv
  have HBV := hide hbV
  have HMM := hide hmm
  have HBY0 := hide hbv.symm
  clear hs hnv hbV hmm hbv hr hl f1
  dsimp only at HSz HBy
  go_enter Tryz.func61, Tryz.ntmps61
  go_wp2_with (fail)
  refine HSz.out.mono ?_
  rintro en w2 ⟨rfl, hrs, hf⟩
  have HF2 : Hid (Fr No w w2) := hide (HF1.out.trans hf (fun i hi e => by have e : i = w.heap.size := e; omega))
  have HBy2 := hide (HBy.out w2 hrs)
  clear hf HSz HBy hrs
  go_wp2_with (fail)
  refine HBy2.out.mono ?_
  rintro en w3 ⟨v6, rfl, hown, hrs, hf⟩
  have HF3 : Hid (Fr No w w3) := hide (HF2.out.trans hf (fun i hi e => by have e : i = w.heap.size := e; omega))
  obtain ⟨_, _, ⟨-, kc1, kc2⟩, -, -, -, -, -, -, -⟩ := hrs.parts
  have HZ2 := hide HF2.out.size
  clear hf HBy2
  by_cases he : e2 = 0
  · subst he
    obtain ⟨he1, hbl, hpre, ha2⟩ := bytes_of (bs := bs) (a := a1) (k := mm) (e := e1) (by rw [HBY0.out])
    rw [HBY0.out] at hbl hpre ha2
    dsimp only at hbl hpre ha2
    have ha2m : a2 ≤ m := by
      have := pre_le hpre
      have h3 := HL.out
      obtain ⟨_, _, _, _, _, h4, _⟩ := hrs
      omega
    rw [hbl] at hown
    obtain ⟨A6, c6, rfl, q1, q2, _⟩ := hown.form
    have HO6 := hide hown
    have HBL := hide hbl
    unfold maxLen at q2
    have hmmb : mm ≤ 2048 := by omega
    clear he1 hpre ha2 em hbl hown hrs
    go_wp2_with (fail)
    go_loopw [7, 8] (fun v7 i wr => ∃ k f : Nat, k ≤ n ∧ i = .int .i64 (k : Nat) ∧ f ≤ k ∧ v7 = .int .i64 (f : Nat) ∧ Hid (f = kB bits k) ∧ wr = w3) (fun _ i _ => n - (intOf i).toNat)
    case atStart => exact ⟨0, 0, by omega, by go_num, by omega, by go_num, hide rfl, rfl⟩
    case round =>
      obtain ⟨k, f, hk, rfl, hfk, rfl, HFk, rfl⟩ := hrel
      by_cases hlt : k < n
      · obtain ⟨q8, hq8⟩ : ∃ q, q = k / 8 := ⟨_, rfl⟩
        obtain ⟨s8, hs8⟩ : ∃ q, q = k % 8 := ⟨_, rfl⟩
        have e5 : (k : Int) / 8 = (q8 : Int) := by omega
        have e6 : (k : Int) % 8 = (s8 : Int) := by omega
        have hs7 : s8 ≤ 7 := by omega
        have hqm : q8 < mm := by have := HMM.out; omega
        obtain ⟨ad, rfl, _, hcell⟩ := HO6.out.rd.byte (k := q8) (by rw [HBL.out]; exact hqm)
        obtain ⟨x, hx⟩ : ∃ x, x = (bits.getD q8 0).toNat := ⟨_, rfl⟩
        have hx2 : x < 256 := by rw [hx]; exact (bits.getD q8 0).toNat_lt
        rw [← hx] at hcell
        have hv := bit8_val (k := s8) hx2
        have hkb : kB bits (k + 1) = f + (if x.testBit s8 then 1 else 0) := by rw [kB, ← HFk.out, isBit, ← hq8, ← hs8, ← hx]
        have HKB := hide hkb
        obtain ⟨o, ho⟩ : ∃ o, o = (if x.testBit s8 then 1 else 0) := ⟨_, rfl⟩
        have ho1 : o ≤ 1 := by rw [ho]; split <;> omega
        rw [← ho] at hv HKB
        clear hkb hx ho hq8 hs8 hx2
        go_wp2
        go_roundw
        case rel => exact ⟨k + 1, f + o, by omega, by go_num, by omega, by go_num, hide HKB.out.symm, trivial⟩
        case measure => simp [intOf]; omega
      · obtain rfl : k = n := by omega
        obtain ⟨rl, hrl⟩ : ∃ x, x = m - a2 := ⟨_, rfl⟩
        obtain ⟨rest, hrest⟩ : ∃ x, x = bs.drop a2 := ⟨_, rfl⟩
        have hrestl : rest.length = rl := by rw [hrest, hrl, List.length_drop, HL.out]
        obtain ⟨⟨lens, sz, e3⟩, hlv⟩ : ∃ x, x = getZ rest (f : Nat) := ⟨_, rfl⟩
        have hrv : restV bs = rest := by unfold restV; rw [HBV.out, hrest]
        have hfv : fV bs = f := by unfold fV; rw [HBV.out, HNV.out, ← HFk.out]
        have hlV : lV bs = (lens, sz, e3) := by unfold lV; rw [hrv, hfv]; exact hlv.symm
        have HRV := hide hrv
        have HLV := hide hlV
        have HRL := hide hrestl
        have HRs := hide hrest
        have HGet := hide (fun (A' : Option Addr) (c' B' : Nat) W h1 h2 h3 h4 => refGet_any A' rl c' B' (f : Nat) rest W hrestl (by omega) h1 h2 h3 h4)
        rw [← hlv] at HGet
        have HGs := hide (getZ_cases rest (f : Nat))
        rw [← hlv] at HGs
        have hrlm : rl ≤ m := by omega
        have HRl := hide hrl
        clear hrv hlV hrestl hlv hfv hlt hrest hrl
        go_upto_region 11 with (fail)
        refine wp_named fun K hK => ?_
        go_cut [9] from 55 to 60 (fun v9 wx => ∃ A9 c9, v9 = .slice A9 rl c9 ∧ rl ≤ c9 ∧ c9 ≤ maxLen ∧ Hid (Rd wr wr.heap.size A9 (by8 rest)) ∧ wr = wx)
        case first =>
          have HRm := hide ((HR.out.fr0 HF3.out).more (Nat.le_trans hB HF3.out.size))
          by_cases hca : c = a2
          · subst hca
            have h0 : rest = [] := List.eq_nil_of_length_eq_zero (by rw [HRL.out, HRl.out]; omega)
            have H0 := hide h0
            clear h0
            go_wp2
            go_meet
            exact ⟨A, 0, by rw [HRl.out, show m - c = 0 by omega], by rw [HRl.out]; omega, by decide, hide (by rw [H0.out]; exact rd_nil8 _ _ _), rfl⟩
          · go_wp2
            go_meet
            exact ⟨_, c - a2, by rw [HRl.out], by rw [HRl.out]; omega, by unfold maxLen; omega, hide (by rw [HRs.out]; exact rd_cut8 HRm.out), rfl⟩
        case rest =>
          obtain ⟨A9, c9, rfl, z1, z2, HR9, rfl⟩ := hcut
          refine hK _ _ ?_
          have HGet1 := hide (HGet.out A9 c9 wr.heap.size wr z1 z2 (Nat.le_refl _) HR9.out)
          have hz2' := z2
          unfold maxLen at z2
          clear hK K HGet kc1 kc2
          go_wp2_with (fail)
          refine HGet1.out.mono ?_
          rintro en w5 ⟨v10, rfl, hown, hf⟩
          dsimp only at hown ⊢
          have HF35 := hide hf
          have HF5 : Hid (Fr No w w5) := hide (HF3.out.tr hf)
          clear hf HGet1
          by_cases he3 : e3 = 0
          · subst he3
            obtain ⟨_, _, hlf, hli, hsz, hput⟩ := HGs.out.resolve_left (fun h => h.1 rfl)
            have hlf : lens.length = f := by omega
            rw [HRL.out] at hsz
            rw [hlf] at hown
            obtain ⟨A10, c10, rfl, y1, y2, _⟩ := hown.form
            have HO10 := hide hown
            have HLF := hide hlf
            unfold maxLen at y2
            clear hown hlf hli hput
            go_wp2_with (fail)
            go_loopw [13, 14] (fun v13 i wq => ∃ (q s : Nat), q ≤ f ∧ i = .int .i64 (q : Nat) ∧ s ≤ 64 * q ∧ v13 = .int .i64 (s : Nat) ∧ Hid (s = sumL lens q) ∧ Hid (∀ x ∈ lens.take q, 0 ≤ x ∧ x < 64) ∧ wq = w5) (fun _ i _ => f - (intOf i).toNat)
            case atStart => exact ⟨0, 0, by omega, by go_num, by omega, by go_num, hide rfl, hide (fun x hx => by rw [List.take_zero] at hx; cases hx), rfl⟩
            case round =>
              obtain ⟨q, s, hq, rfl, hs64, rfl, HSu, HLo, rfl⟩ := hrel
              by_cases hlq : q < f
              · have hql : q < lens.length := by rw [HLF.out]; exact hlq
                obtain ⟨ad, rfl, _, hcell⟩ := HO10.out.rd.intAt hql
                have htk : lens.take (q + 1) = lens.take q ++ [lens.getD q 0] := (take_one hql).1
                have hym : lens.getD q 0 ∈ lens := by
                  rw [List.getD, List.getElem?_eq_getElem hql]
                  exact List.getElem_mem hql
                have hsu : sumL lens (q + 1) = s + ((lens.getD q 0).toNat + 1) := by rw [sumL, ← HSu.out]
                generalize lens.getD q 0 = y at hcell htk hym hsu
                have HYM := hide hym
                have HTk := hide htk
                have HSs := hide hsu
                clear hql htk hym hsu
                by_cases hy0 : y < 0
                · have d0 : decide (y < 0) = true := decide_eq_true hy0
                  have hno : ¬ rdOk bs := fun h => by have h3 := h.2.2.1; rw [HLV.out] at h3; have := h3 y HYM.out; omega
                  have HNo := hide hno
                  clear hno
                  go_wp2_with (fail)
                  go_ret2
                  exact ⟨HF5.out, .inr ⟨HNo.out, rfl⟩⟩
                · have d0 : decide (y < 0) = false := decide_eq_false hy0
                  by_cases hy64 : 64 ≤ y
                  · have d1 : decide (64 ≤ y) = true := decide_eq_true hy64
                    have hno : ¬ rdOk bs := fun h => by have h3 := h.2.2.1; rw [HLV.out] at h3; have := h3 y HYM.out; omega
                    have HNo := hide hno
                    clear hno
                    go_wp2_with (fail)
                    go_ret2
                    exact ⟨HF5.out, .inr ⟨HNo.out, rfl⟩⟩
                  · have d1 : decide (64 ≤ y) = false := decide_eq_false hy64
                    obtain ⟨yn, rfl⟩ : ∃ n : Nat, y = (n : Int) := ⟨y.toNat, by omega⟩
                    have hyn : yn < 64 := by omega
                    have hfb : f ≤ 16384 := by omega
                    go_wp2_with (fail)
                    go_roundw
                    case rel => exact ⟨q + 1, s + (yn + 1), by omega, by go_num, by omega, by go_num, hide (by rw [HSs.out, Int.toNat_natCast]), hide (fun x hx => by
                      rw [HTk.out] at hx
                      rcases List.mem_append.1 hx with hx | hx
                      · exact HLo.out x hx
                      · rw [List.mem_singleton.1 hx]; omega), trivial⟩
                    case measure => simp [intOf]; omega
              · obtain rfl : q = f := by omega
                have hlo : lensOk lens := fun x hx => HLo.out x (by rw [List.take_of_length_le (by rw [HLF.out]; exact Nat.le_refl _)]; exact hx)
                have hsv : sV bs = s := by unfold sV; rw [HBV.out, HLV.out, HNV.out, atV_sum, ← HFk.out, HSu.out]
                have hsat : atV bits lens k = s := by rw [atV_sum, ← HFk.out, HSu.out]
                have HLO := hide hlo
                have HSat := hide hsat
                obtain ⟨⟨all, mo, e4⟩, hav⟩ : ∃ x, x = getZ (rest.drop sz) (s : Nat) := ⟨_, rfl⟩
                have haV : aV bs = (all, mo, e4) := by unfold aV; rw [hsv, HRV.out, HLV.out]; exact hav.symm
                have HAV := hide haV
                have HGs2 := hide (getZ_cases (rest.drop sz) (s : Nat))
                rw [← hav] at HGs2
                have HRdl : Hid ((rest.drop sz).length = rl - sz) := hide (by rw [List.length_drop, HRL.out])
                have HG2 := hide (fun (A' : Option Addr) (c' : Nat) h2 h3 h4 => refGet_any A' (rl - sz) c' wr.heap.size (s : Nat) (rest.drop sz) wr HRdl.out (by omega) h2 h3 (Nat.le_refl _) h4)
                rw [← hav] at HG2
                have HR95 := hide ((HR9.out.fr0 HF35.out).more HF35.out.size)
                clear hlo hsv hsat hav haV HGs hlq
                go_upto_region 22 with (fail)
                refine wp_named fun K hK => ?_
                go_cut [12, 15, 16] from 95 to 103 (fun v12 v15 v16 wx => v12 = .int .i64 e4 ∧ v16 = .int .i64 (mo : Nat) ∧ Hid (Own wx wr.heap.size 2 1 v15 all.length (iz .i64 all)) ∧ Hid (Fr No wr wx))
                case first =>
                  by_cases hcz : c9 = sz
                  · subst hcz
                    have HGa := hide (HG2.out A9 0 (by omega) (Nat.zero_le _) (by rw [List.eq_nil_of_length_eq_zero (l := rest.drop c9) (by rw [HRdl.out]; omega)]; exact rd_nil8 _ _ _))
                    have hz0 : rl - c9 = 0 := by omega
                    rw [hz0] at HGa
                    clear HG2
                    go_wp2_with (fail)
                    refine HGa.out.mono ?_
                    rintro en w6 ⟨v15, rfl, hown, hf⟩
                    dsimp only at hown ⊢
                    have HO15 := hide hown
                    have HF6 := hide hf
                    clear hown hf
                    go_wp2_with (fail)
                    go_meet
                    exact ⟨rfl, rfl, HO15, HF6⟩
                  · have HGb := hide (HG2.out (Option.map (fun x => x.add sz) A9) (c9 - sz) (by omega) (by unfold maxLen; omega) (rd_cut8 HR95.out))
                    clear HG2
                    go_wp2_with (fail)
                    refine HGb.out.mono ?_
                    rintro en w6 ⟨v15, rfl, hown, hf⟩
                    dsimp only at hown ⊢
                    have HO15 := hide hown
                    have HF6 := hide hf
                    clear hown hf
                    go_wp2_with (fail)
                    go_meet
                    exact ⟨rfl, rfl, HO15, HF6⟩
                case rest =>
                  obtain ⟨w6, rfl⟩ : ∃ W : World, W = wc := ⟨_, rfl⟩
                  obtain ⟨rfl, rfl, HO15, HF56⟩ := hcut
                  refine hK _ _ ?_
                  have HF6 : Hid (Fr No w w6) := hide (HF5.out.tr HF56.out)
                  clear hK K HG2
                  by_cases he4 : e4 = 0
                  · subst he4
                    obtain ⟨_, _, hal, -, hmo, -⟩ := HGs2.out.resolve_left (fun h => h.1 rfl)
                    rw [HRdl.out] at hmo
                    dsimp only at hal hmo
                    have hal : all.length = s := by omega
                    by_cases hsum : sz + mo = rl
                    · have d1 : ((sz : Int) + (mo : Int) == (rl : Int)) = true := by simpa using (by omega : (sz : Int) + (mo : Int) = (rl : Int))
                      have d1' : ((sz : Int) + (mo : Int) != (rl : Int)) = false := by simpa using (by omega : (sz : Int) + (mo : Int) = (rl : Int))
                      have hok : rdOk bs := ⟨by rw [HBV.out], by rw [HLV.out], by rw [HLV.out]; exact HLO.out, by rw [HAV.out], by rw [HLV.out, HAV.out, HRV.out, HRL.out]; exact hsum⟩
                      have HOkk := hide hok
                      rw [hal] at HO15
                      obtain ⟨A15, c15, rfl, x1, x2, _⟩ := HO15.out.form
                      have HAl := hide hal
                      unfold maxLen at x2
                      clear hok hal hsum
                      have HLOs := hide (fun (y : Int) (hy : y ∈ lens) => HLO.out y hy)
                      clear HGs2 HRdl HR95 HR9
                      have HY : Hid (Fr No wr w6) := HF56
                      go_wp2_with (fail)
                      go_loopw [17, 18, 19, 20] (fun v17 v18 v19 i wq => ∃ (j a kk : Nat) (vals : List Value), j ≤ k ∧ i = .int .i64 (j : Nat) ∧ a ≤ 64 * j ∧ v18 = .int .i64 (a : Nat) ∧ kk ≤ j ∧ v19 = .int .i64 (kk : Nat) ∧ Hid (a = atV bits lens j) ∧ Hid (kk = kB bits j) ∧ Hid (Fr No w6 wq) ∧ Hid (Own wq w6.heap.size 41 1 v17 j vals) ∧ Hid (ValsI wq w6.heap.size vals (rowsV bits lens all j))) (fun _ _ _ i _ => k - (intOf i).toNat)
                      case atStart => exact ⟨0, 0, 0, [], by omega, by go_num, by omega, by go_num, by omega, by go_num, hide rfl, hide rfl, hide (Fr.refl _ _), hide (Own.nil _ _ _ _), hide (ValsI.nil _ _)⟩
                      case round =>
                        obtain ⟨wo, rfl⟩ : ∃ wo : World, wo = wr := ⟨_, rfl⟩
                        obtain ⟨j, a, kk, vals, hj, rfl, ha64, rfl, hkkj, rfl, HAt, HKk, HFj, HOj, HVj⟩ := hrel
                        by_cases hlt : j < k
                        · obtain ⟨q8, hq8⟩ : ∃ z, z = j / 8 := ⟨_, rfl⟩
                          obtain ⟨s8, hs8⟩ : ∃ z, z = j % 8 := ⟨_, rfl⟩
                          have e5 : (j : Int) / 8 = (q8 : Int) := by omega
                          have e6 : (j : Int) % 8 = (s8 : Int) := by omega
                          have hs7 : s8 ≤ 7 := by omega
                          have hqm : q8 < mm := by have := HMM.out; omega
                          obtain ⟨ad, rfl, _, hcell⟩ := (((HO6.out.fr0 HF35.out).fr0 HY.out).fr0 HFj.out).rd.byte (k := q8) (by rw [HBL.out]; exact hqm)
                          obtain ⟨x, hx⟩ : ∃ x, x = (bits.getD q8 0).toNat := ⟨_, rfl⟩
                          have hx2 : x < 256 := by rw [hx]; exact (bits.getD q8 0).toNat_lt
                          rw [← hx] at hcell
                          have hv := bit8_val (k := s8) hx2
                          have hib : isBit bits j = x.testBit s8 := by rw [isBit, ← hq8, ← hs8, ← hx]
                          have hg : (((if x.testBit s8 = true then 1 else 0 : Nat) : Int) == 1) = x.testBit s8 := by cases x.testBit s8 <;> rfl
                          have HIb := hide hib
                          have hrs : rowsV bits lens all (j + 1) = rowsV bits lens all j ++ [rowV bits lens all j] := rowsV_succ _ _ _ _
                          have HRs' := hide hrs
                          have hmono := kB_mono bits (i := j + 1) (j := k) (by omega)
                          have hatm := atV_mono bits lens (i := j + 1) (j := k) (by omega)
                          rw [HSat.out] at hatm
                          have HKm := hide hmono
                          have HAm := hide hatm
                          clear hib hx hq8 hs8 hx2 hrs hmono hatm
                          go_upto_if 129 with (fail)
                          refine wp_named fun K hK => ?_
                          go_cut [18, 19, 21] from 119 to 147 (fun v18 v19 v21 wx => ∃ (a' kk' rn : Nat), a' ≤ 64 * (j + 1) ∧ v18 = .int .i64 (a' : Nat) ∧ kk' ≤ j + 1 ∧ v19 = .int .i64 (kk' : Nat) ∧ Hid (a' = atV bits lens (j + 1)) ∧ Hid (kk' = kB bits (j + 1)) ∧ Hid (Fr No wo wx) ∧ Hid (rn = (rowV bits lens all j).length) ∧ Hid (Own wx wo.heap.size 2 1 v21 rn (iz .i64 (rowV bits lens all j))))
                          case first =>
                            by_cases ht : x.testBit s8 = true
                            · clear hv hg
                              rw [ht]
                              have hk1 : kB bits (j + 1) = kk + 1 := by rw [kB, HIb.out, if_pos ht, ← HKk.out]
                              have hkq : kk < q := by have := HKm.out; rw [hk1, ← HFk.out] at this; omega
                              have hql : kk < lens.length := by rw [HLF.out]; exact hkq
                              obtain ⟨adl, rfl, _, hcl⟩ := ((HO10.out.fr0 HY.out).fr0 HFj.out).rd.intAt hql
                              have hat1 : atV bits lens (j + 1) = a + ((lens.getD kk 0).toNat + 1) := by rw [atV, HIb.out, if_pos ht, ← HAt.out, ← HKk.out]
                              have hym : lens.getD kk 0 ∈ lens := by
                                rw [List.getD, List.getElem?_eq_getElem hql]
                                exact List.getElem_mem hql
                              have hy := HLOs.out _ hym
                              have hrv : rowV bits lens all j = (all.drop a).take (atV bits lens (j + 1) - a) := by rw [rowV, ← HAt.out]
                              generalize lens.getD kk 0 = y at hcl hat1 hy
                              obtain ⟨yn, rfl⟩ : ∃ n : Nat, y = (n : Int) := ⟨y.toNat, by omega⟩
                              rw [Int.toNat_natCast] at hat1
                              have hle : a + (yn + 1) ≤ s := by have := HAm.out; rw [hat1] at this; exact this
                              rw [hat1, Nat.add_sub_cancel_left] at hrv
                              obtain ⟨row, hrow⟩ : ∃ l, l = rowV bits lens all j := ⟨_, rfl⟩
                              rw [← hrow] at hrv
                              have hrl : row.length = yn + 1 := by rw [hrv, List.length_take, List.length_drop, HAl.out]; omega
                              have h15 := (HO15.out.fr0 HFj.out).rd
                              obtain ⟨ad15, rfl, _, _⟩ := h15.intAt (j := a) (by rw [HAl.out]; omega)
                              have h16 := (h15.dr a).tk (yn + 1)
                              rw [← iz_drop, ← iz_take, ← hrv] at h16
                              have HS := hide (Src.ofRd (P := Tryz.prog) (size := 1) wo Tryz.underlying41 (some (ad15.add a)) (a + yn + 1 - a) (c15 - a) (iz .i64 row) (by rw [iz_len, hrl, Nat.mul_one]; omega) (by omega) h16 (iz_one _ _))
                              have HN0 := hide (Own.nil wo wo.heap.size 2 1)
                              have b1 : (0 + (a + yn + 1 - a)) * 8 ≤ 140737488355328 := by omega
                              have b2 : 0 + (a + yn + 1 - a) ≤ maxLen := by unfold maxLen; omega
                              have HHk := hide hk1
                              have HHa := hide hat1
                              have HRw := hide hrow
                              have HRwl := hide hrl
                              have Hd : Hid (a + yn + 1 - a = yn + 1) := hide (by omega)
                              clear hk1 hql hym hrv hat1 hrow hrl h15 h16
                              go_wp2_with (at_builtin; go_loud (refine wpList_append_gen _ rfl (.tmp 130) (.tmp 140) 41 41 rfl wo.heap.size 2 iE (.int .i64 0) 1 8 Tryz.underlying41 hiE hzE hsE hbE rfl (.slice none 0 0) 0 [] rfl HN0.out _ (a + yn + 1 - a) (iz .i64 row) rfl HS.out b1 b2 (Nat.le_refl _) ?_); intro v7 w7 hown hfr hat; rw [Nat.zero_add, Hd.out] at hown; obtain ⟨A7, c7, rfl, p1, p2, _⟩ := hown.form; have HO7 := hide hown; have HF7 : Hid (Fr No wo w7) := hide ((Fr.refl No wo).own hfr (fun g h => by cases h)); unfold maxLen at p2; clear hown hfr hat)
                              go_meet
                              exact ⟨a + (yn + 1), kk + 1, yn + 1, by omega, by go_num, by omega, by go_num, hide HHa.out.symm, hide HHk.out.symm, HF7, hide (by rw [← HRw.out, HRwl.out]), hide (by rw [← HRw.out]; have h := HO7.out; simpa using h)⟩
                            · clear hv hg
                              have hk1 : kB bits (j + 1) = kk := by rw [kB, HIb.out, if_neg ht, ← HKk.out, Nat.add_zero]
                              have hat1 : atV bits lens (j + 1) = a := by rw [atV, HIb.out, if_neg ht, ← HAt.out, Nat.add_zero]
                              have hrv : rowV bits lens all j = [] := by rw [rowV, hat1, ← HAt.out, Nat.sub_self, List.take_zero]
                              have HHk := hide hk1
                              have HHa := hide hat1
                              have HRv := hide hrv
                              clear hk1 hat1 hrv
                              have ht' : x.testBit s8 = false := by simpa using ht
                              rw [ht']
                              go_wp2
                              go_meet
                              exact ⟨a, kk, 0, by omega, by go_num, by omega, by go_num, hide HHa.out.symm, hide HHk.out.symm, hide (Fr.refl _ _), hide (by rw [HRv.out]; rfl), hide (by rw [HRv.out]; exact Own.nil _ _ _ _)⟩
                          case rest =>
                            obtain ⟨w7, rfl⟩ : ∃ W : World, W = wc := ⟨_, rfl⟩
                            obtain ⟨a', kk', rn, ha', rfl, hkk', rfl, HAt', HKk', HF7, HRn, HO7⟩ := hcut
                            obtain ⟨A7, c7, rfl, p1, p2, _⟩ := HO7.out.form
                            refine hK _ _ ?_
                            have HOut := hide ((HOj.out.fr0 HF7.out).fr0 ((Fr.refl No w7).alloc (.cells #[.slice A7 rn c7] 41)))
                            have hz3 : w6.heap.size ≤ (w7.alloc (.cells #[.slice A7 rn c7] 41)).heap.size := ((HFj.out.tr HF7.out).alloc _).size
                            have b1 : (j + 1) * 24 ≤ 140737488355328 := by omega
                            have b2 : j + 1 ≤ maxLen := by unfold maxLen; omega
                            unfold maxLen at p2
                            clear hK K hcell hv hg
                            go_wp2_with (at_builtin; refine wpList_append_gen _ rfl (.tmp 148) (.tmp 150) 22 22 rfl w6.heap.size 41 iR (.slice none 0 0) 1 24 Tryz.underlying22 hiR hzR hsR hbR rfl u17 j _ rfl HOut.out _ 1 [.slice A7 rn c7] rfl (src_row w7 A7 rn c7) b1 b2 hz3 ?_; intro v8 w8 hown hfr hat; have HO8 := hide hown; have HFa := hide hfr; clear hown hfr hat)
                            go_roundw
                            case rel =>
                              have hV7 := (HVj.out.fr0 HF7.out).fr0 ((Fr.refl No w7).alloc (.cells #[.slice A7 rn c7] 41))
                              have hO7 := HO7.out.fr0 ((Fr.refl No w7).alloc (.cells #[.slice A7 rn c7] 41))
                              refine ⟨j + 1, a', kk', vals ++ [.slice A7 rn c7], by omega, by go_num, ha', by go_num, hkk', by go_num, HAt', HKk', hide (((HFj.out.tr HF7.out).alloc _).own HFa.out (fun g hg => .inl (HOut.out.lt g hg).1)), HO8, hide ?_⟩
                              rw [HRs'.out]
                              refine ValsI.snoc (w0 := wo) HVj.out ?_ ?_ HFj.out.size
                              · exact hV7.fr HFa.out (fun j v hv i hi e => by
                                  obtain ⟨bs, _, ho⟩ := hV7.get hv
                                  exact ho.apart HOut.out (by decide) i hi e)
                              · rw [← HRn.out]
                                exact hO7.fr HFa.out (fun i hi e => hO7.apart HOut.out (by decide) i hi e)
                            case measure => simp [intOf]; omega
                        · obtain rfl : j = k := by omega
                          go_wp2_with (fail)
                          go_ret2
                          refine ⟨HF6.out.tr HFj.out, .inl ⟨HOkk.out, _, vals, rfl, ?_, ?_⟩⟩
                          · rw [HNV.out]; exact HOj.out.lower HF6.out.size
                          · have e : rdV bs = rowsV bits lens all j := by rw [rdV, HBV.out, HLV.out, HAV.out, HNV.out]
                            rw [e]; exact HVj.out.lower HF6.out.size
                    · have d1 : ((sz : Int) + (mo : Int) == (rl : Int)) = false := by
                        have : ¬ ((sz : Int) + (mo : Int) = (rl : Int)) := by omega
                        simpa using this
                      have d1' : ((sz : Int) + (mo : Int) != (rl : Int)) = true := by
                        have : ¬ ((sz : Int) + (mo : Int) = (rl : Int)) := by omega
                        simpa using this
                      have hno : ¬ rdOk bs := fun h => hsum (by have h3 := h.2.2.2.2; rw [HLV.out, HAV.out, HRV.out, HRL.out] at h3; exact h3)
                      have HNo := hide hno
                      obtain ⟨A15, c15, rfl, x1, x2, _⟩ := HO15.out.form
                      unfold maxLen at x2
                      clear hno hsum
                      go_wp2_with (fail)
                      go_ret2
                      exact ⟨HF6.out, .inr ⟨HNo.out, rfl⟩⟩
                  · have hne : (e4 != 0) = true := by simpa using he4
                    have hno : ¬ rdOk bs := fun h => he4 (by have h3 := h.2.2.2.1; rw [HAV.out] at h3; exact h3)
                    have HNo := hide hno
                    obtain ⟨A15, c15, rfl, x1, x2, _⟩ := HO15.out.form
                    unfold maxLen at x2
                    clear hno he4
                    go_wp2_with (fail)
                    go_ret2
                    exact ⟨HF6.out, .inr ⟨HNo.out, rfl⟩⟩
          · have hne : (e3 != 0) = true := by simpa using he3
            have hno : ¬ rdOk bs := fun h => he3 (by have h1 := h.2.1; rw [HLV.out] at h1; exact h1)
            have HNo := hide hno
            obtain ⟨A10, c10, rfl, y1, y2, _⟩ := hown.form
            unfold maxLen at y2
            clear hno he3 hown
            go_wp2_with (fail)
            go_ret2
            exact ⟨HF5.out, .inr ⟨HNo.out, rfl⟩⟩
  · have hne : (e2 != 0) = true := by simpa using he
    have hno : ¬ rdOk bs := fun h => he (by have h1 := h.1; rw [HBV.out] at h1; exact h1)
    have HNo := hide hno
    clear hno he
    go_wp2_with (fail)
    go_ret2
    exact ⟨HF3.out, .inr ⟨HNo.out, rfl⟩⟩
end Go.Proofs.YtnjcncidlhllmaaGreat
namespace Go.Proofs.YtnjcncidlhllmaaGreat
set_option linter.unusedVariables false
set_option linter.unusedSimpArgs false
open Go.RowKit

theorem sB_eq {k b : List UInt8} (h : k = b) : (ByteArray.mk k.toArray).toList = (ByteArray.mk b.toArray).toList := by rw [h]
theorem sB_dec (k b : List UInt8) : ((ByteArray.mk k.toArray).toList == (ByteArray.mk b.toArray).toList) = decide (k = b) := tx_eq k b
theorem sB_ne (k b : List UInt8) : ((ByteArray.mk k.toArray).toList != (ByteArray.mk b.toArray).toList) = !decide (k = b) := by rw [bne, tx_eq]
/-- what the document answers: rows in memory of its own, or that there are none. -/
def ROpN (w : World) (bs : List UInt8) (en : Ending) (w' : World) : Prop := Fr No w w' ∧ (((¬ ∃ rows, FormV bs rows) ∧ en = .returned (.tuple #[.slice none 0 0, .int .i64 20])) ∨ (∃ rows, FormV bs rows ∧ ∃ A c vals, en = .returned (.tuple #[.slice A rows.length c, .int .i64 0]) ∧ Own w' w.heap.size 41 1 (.slice A rows.length c) rows.length vals ∧ ValsI w' w.heap.size vals rows))
set_option maxRecDepth 100000 in
set_option maxHeartbeats 4000000 in
theorem refOpenNumbers_any (A : Option Addr) (m c B : Nat) (bs : List UInt8) (w : World) (hl : bs.length = m) (hn : m ≤ c) (hc : c ≤ maxLen) (hb : m ≤ 140737488355328) (hB : B ≤ w.heap.size) (hr : Rd w B A (by8 bs)) :
    Calls Tryz.prog 28 #[.slice A m c] w (ROpN w bs) := by
  have HC := hide (refRest_any A m c B bs w hl hn hc hb hB hr)
  have HR := hide hr
  have HL := hide hl
  have hc' := hc
  have HIff := hide (read_iff bs)
  unfold maxLen at hc
  clear hr hl
  go_enter Tryz.func28, Tryz.ntmps28
  go_wp2_with (fail)
  refine HC.out.mono ?_
  rintro en w1 ⟨hf, ⟨hok, v, vals, rfl, hown, hvals⟩ | ⟨hno, rfl⟩⟩
  · have HF1 := hide hf
    have HOk := hide hok
    have HRl := hide (rdV_len bs)
    have HIn := hide (rdV_in (aV_in bs))
    have hn16 := nV_le bs
    obtain ⟨n, hn0⟩ : ∃ x, x = nV bs := ⟨_, rfl⟩
    obtain ⟨rs, hrs⟩ : ∃ x, x = rdV bs := ⟨_, rfl⟩
    rw [← hn0] at hown hn16 HRl
    rw [← hrs] at hvals HRl HIn HIff
    have HRs := hide hrs
    obtain ⟨A1, c1, rfl, x1, x2, _, x3, -⟩ := hown.form
    have HO1 := hide hown
    have HV1 := hide hvals
    have HNu := hide (fun W (f : Fr No w1 W) => refNumbers_any A1 n c1 w1.heap.size rs W HRl.out HIn.out x1 x2 f.size ((hvals.isl x3).fr0 f))
    obtain ⟨ks, hks⟩ : ∃ x, x = keptV rs := ⟨_, rfl⟩
    rw [← hks] at HNu HIff
    obtain ⟨m5, hm5⟩ : ∃ x, x = ks.length := ⟨_, rfl⟩
    have HM5 := hide hm5
    have HCv := hide (fun W (f : Fr No w W) => conv_rd W A m c bs HL.out (HR.out.fr0 f))
    have HK1 := hide (HCv.out w1.drew HF1.out.drew)
    have h1 := sB_dec ks bs
    have h2 := sB_ne ks bs
    unfold maxLen at x2
    clear hf hok hn0 hrs hown hvals hks hm5 x3 HC
    go_wp2_with (fail)
    by_cases he : ks = bs
    · rw [decide_eq_true he] at h1 h2
      have h3 : (ks == bs) = true := by rw [he]; simp
      have HE := hide he
      clear he
      have k10 := HK1.out
      go_region_with (first | (go_at_call 62; refine (HNu.out _ ((Fr.refl No w1).drew)).mono ?_; rintro en w2 ⟨v2, rfl, hob, hf⟩; rw [← HM5.out] at hob; obtain ⟨A5, c5, rfl, x5, x6, _, x7, -⟩ := hob.form; have HF12 : Hid (Fr No w1 w2) := hide ((Fr.refl No w1).drew.tr hf); have HF2 := hide (HF1.out.tr HF12.out); have hcv1 := conv_rd w2 A5 m5 c5 ks HM5.out.symm x7; have k20 := HCv.out w2 HF2.out; unfold maxLen at x6; clear hf hob x7))
      all_goals go_wp2_with (fail)
      all_goals go_ret2
      all_goals
        obtain ⟨rows, f⟩ := HIff.out.1 ⟨HOk.out, HE.out⟩
        have e : rs = rows := by rw [HRs.out]; exact f.rd
        subst e
        have hrl := HRl.out
        subst hrl
        refine ⟨HF2.out, .inr ⟨rs, f, A1, c1, vals, rfl, HO1.out.fr0 HF12.out, HV1.out.fr0 HF12.out⟩⟩
    · rw [decide_eq_false he] at h1 h2
      have h3 : (ks == bs) = false := by simpa using he
      have HE := hide he
      clear he
      have k10 := HK1.out
      go_region_with (first | (go_at_call 62; refine (HNu.out _ ((Fr.refl No w1).drew)).mono ?_; rintro en w2 ⟨v2, rfl, hob, hf⟩; rw [← HM5.out] at hob; obtain ⟨A5, c5, rfl, x5, x6, _, x7, -⟩ := hob.form; have HF12 : Hid (Fr No w1 w2) := hide ((Fr.refl No w1).drew.tr hf); have HF2 := hide (HF1.out.tr HF12.out); have hcv1 := conv_rd w2 A5 m5 c5 ks HM5.out.symm x7; have k20 := HCv.out w2 HF2.out; unfold maxLen at x6; clear hf hob x7))
      all_goals go_wp2_with (fail)
      all_goals go_ret2
      all_goals exact ⟨HF2.out, .inl ⟨fun h => HE.out (HIff.out.2 h).2, rfl⟩⟩
  · have HF1 := hide hf
    have HNo := hide hno
    clear hf hno
    go_wp2_with (fail)
    go_quiet (fail)
    go_wp2
    go_ret2
    exact ⟨HF1.out.drewN _, .inl ⟨fun h => HNo.out (HIff.out.2 h).1, rfl⟩⟩
end Go.Proofs.YtnjcncidlhllmaaGreat
namespace Go.Proofs.YtnjcncidlhllmaaGreat
set_option linter.unusedVariables false
set_option linter.unusedSimpArgs false
open Go.RowKit

def insT (s : List Tx) (t : Tx) : List Tx := s.take (ordT s t) ++ t :: s.drop (ordT s t)
theorem insT_lt {s : List Tx} {t : Tx} (h : ltT s) (hn : t ∉ s) : ltT (insT s t) := by
  have h1 : ∀ a ∈ s.take (ordT s t), a < t := fun a ha => by
    obtain ⟨i, hi, rfl⟩ := List.getElem_of_mem ha
    rw [List.length_take] at hi
    have h2 := ordT_below s t (j := i) (by omega)
    rw [List.getElem_take]
    rwa [List.getD, List.getElem?_eq_getElem (by omega)] at h2
  have h2 : ∀ b ∈ s.drop (ordT s t), t < b := fun b hb => by
    obtain ⟨i, hi, rfl⟩ := List.getElem_of_mem hb
    rw [List.length_drop] at hi
    have h3 := ordT_above h t (j := ordT s t + i) (by omega) (by omega)
    rw [List.getD, List.getElem?_eq_getElem (by omega)] at h3
    rw [List.getElem_drop]
    rcases tl_total t s[ordT s t + i] with h4 | h4 | h4
    · exact h4
    · exact absurd (h4 ▸ List.getElem_mem _) hn
    · exact absurd h4 h3
  unfold insT ltT
  rw [List.pairwise_append]
  refine ⟨List.Pairwise.sublist (List.take_sublist _ _) h, List.pairwise_cons.2 ⟨h2, List.Pairwise.sublist (List.drop_sublist _ _) h⟩, fun a ha b hb => ?_⟩
  rcases List.mem_cons.1 hb with rfl | hb
  · exact h1 a ha
  · exact tl_trans (h1 a ha) (h2 b hb)
theorem insT_mem (s : List Tx) (t u : Tx) : u ∈ insT s t ↔ u ∈ s ∨ u = t := by
  unfold insT
  conv => rhs; rw [← List.take_append_drop (ordT s t) s]
  simp only [List.mem_append, List.mem_cons]
  constructor
  · rintro (h | h | h)
    · exact .inl (.inl h)
    · exact .inr h
    · exact .inl (.inr h)
  · rintro ((h | h) | h)
    · exact .inl h
    · exact .inr (.inr h)
    · exact .inr (.inl h)
theorem setT_in {l : List Tx} {t : Tx} (h : t ∈ setT l) : setT (l ++ [t]) = setT l := by
  refine setT_of (setT_lt l) (fun u => ?_)
  rw [setT_mem, List.mem_append, List.mem_singleton]
  exact ⟨.inl, fun h2 => h2.elim id (fun e => e ▸ (setT_mem l t).1 h)⟩
theorem setT_new {l : List Tx} {t : Tx} (h : t ∉ setT l) : setT (l ++ [t]) = insT (setT l) t := by
  refine setT_of (insT_lt (setT_lt l) h) (fun u => ?_)
  rw [insT_mem, setT_mem, List.mem_append, List.mem_singleton]
theorem ordT_isIn {s : List Tx} (h : ltT s) (t : Tx) : t ∈ s ↔ ordT s t < s.length ∧ s.getD (ordT s t) [] = t :=
  ⟨fun hm => ordT_mem h hm, fun ⟨h1, h2⟩ => by rw [← h2]; exact getD_mem h1⟩
/-- cells shifted by one, in a row of the call's own. -/
theorem own_shift {w : World} {base e n c g : Nat} {xs : List Value} (h : Own w base e 1 (.slice (some ⟨g, 0, none⟩) n c) n xs) : ∃ cur : List Value, w.heap[g]? = some (.cells cur.toArray e (0, 0)) ∧ n ≤ cur.length ∧ base ≤ g ∧ cur.take n = xs ∧ (∀ (w' : World) (k : Nat) (cs : List Value), w'.heap[g]? = some (.cells (splice cur k cs).toArray e (0, 0)) → k + cs.length = n → Own w' base e 1 (.slice (some ⟨g, 0, none⟩) n c) n (xs.take k ++ cs)) := by
  obtain ⟨hl, A', c', hv, hn, hm, hA⟩ := h
  injection hv with h1 h2 h3
  subst h1; subst h3
  rcases hA with ⟨h1, _⟩ | ⟨g', cur, h1, hb, hh, hcs, ht⟩
  · cases h1
  · injection h1 with h1
    injection h1 with h1
    subst h1
    rw [Nat.mul_one] at ht hcs hl
    refine ⟨cur.toList, by simpa using hh, by simp; omega, hb, ht, fun w' k cs hw hk => ?_⟩
    have hcl : n ≤ cur.toList.length := by simp; omega
    refine ⟨by rw [List.length_append, List.length_take, hl, Nat.mul_one]; omega, _, c, rfl, hn, hm, .inr ⟨g, _, rfl, hb, hw, ?_, ?_⟩⟩
    · simp only [splice, List.size_toArray, List.length_append, List.length_take, List.length_drop, Nat.mul_one]
      rw [Array.length_toList] at hcl ⊢
      omega
    · rw [Nat.mul_one, splice, ← ht, List.take_take, Nat.min_eq_left (by omega)]
      have e1 : (cur.toList.take k ++ cs).length = n := by rw [List.length_append, List.length_take]; omega
      rw [← List.append_assoc, List.take_append_of_le_length (by omega), List.take_of_length_le (by omega)]
theorem svs_drop (l : List Tx) (n : Nat) : svs (l.drop n) = (svs l).drop n := by simp [svs]
theorem wp_fr {P : Program} {c : Code} {K : Exit → Act → World → Prop} {a : Act} {wo W : World} (f : Fr No wo W) (h : ∀ W', Fr No wo W' → Code.wp P c K a W') : Code.wp P c K a W := h W f
theorem sv_of {T : ByteArray} {t : Tx} (h : T.data.toList = t) : (.string T : Value) = sv t := by
  subst h
  simp [sv]
theorem bl_dec {X T : ByteArray} {s t : Tx} (h1 : X.toList = s) (h2 : T.toList = t) : Op.bytesLess X.toList T.toList = decide (s < t) := by rw [h1, h2, bytesLess_eq]
theorem insT_cells {s : List Tx} {t : Tx} {kk o : Nat} {xs : List Value} (hx : xs = svs s ++ [.string ⟨#[]⟩]) (ho : o = s.length) (hk : kk = ordT s t) : (xs.take (kk + 1) ++ svs (s.drop kk)).set kk (sv t) = svs (insT s t) := by
  have hle := ordT_le s t
  have h1 : (xs.take (kk + 1)).length = kk + 1 := by rw [List.length_take, hx, List.length_append, svs_len, List.length_singleton]; omega
  rw [List.set_append_left _ _ (by omega)]
  have h2 : (xs.take (kk + 1)).set kk (sv t) = svs (s.take kk) ++ [sv t] := by
    rw [List.take_succ_eq_append_getElem (by rw [hx, List.length_append, svs_len, List.length_singleton]; omega)]
    have h3 : xs.take kk = svs (s.take kk) := by rw [hx, List.take_append_of_le_length (by rw [svs_len]; omega), svs_take]
    rw [h3, List.set_append_right _ _ (by rw [svs_len, List.length_take]; omega)]
    congr 1
    have h4 : kk - (svs (s.take kk)).length = 0 := by rw [svs_len, List.length_take]; omega
    rw [h4]
    rfl
  rw [h2, insT, ← hk, svs_app, List.append_assoc]
  rfl
set_option maxRecDepth 100000 in
set_option maxHeartbeats 2000000 in
theorem refSet_any (A : Option Addr) (n c B : Nat) (l : List Tx) (w : World) (hl : l.length = n) (hn : n ≤ c) (hc : c ≤ maxLen) (hb : n ≤ 1048576) (hB : B ≤ w.heap.size) (hr : Rd w B A (svs l)) :
    Calls Tryz.prog 121 #[.slice A n c] w (GivesT w (setT l)) := by
  obtain ⟨i1, hi1, hz1, hsz1, hby1⟩ := info_parts Tryz.infoS
  have hszS : (Tryz.prog.info? 9).map (·.size) = some 1 := by kernel_rfl
  have HR := hide hr
  have HL := hide hl
  unfold maxLen at hc
  clear hr hl
  go_enter Tryz.func121, Tryz.ntmps121
  go_wp2
  go_loopw [3, 4] (fun vo i wr => ∃ (k o : Nat), k ≤ n ∧ i = .int .i64 (k : Nat) ∧ o ≤ k ∧ Hid (Fr No w wr) ∧ Hid (o = (setT (l.take k)).length) ∧ Hid (Own wr w.heap.size 9 1 vo o (svs (setT (l.take k))))) (fun _ i _ => n - (intOf i).toNat)
  case atStart => exact ⟨0, 0, by omega, by go_num, by omega, hide (Fr.refl _ _), hide (by rw [List.take_zero, setT_nil]; rfl), hide (by rw [List.take_zero, setT_nil]; exact Own.nil _ _ _ _)⟩
  case round =>
    obtain ⟨wo, rfl⟩ : ∃ wo : World, wo = wr := ⟨_, rfl⟩
    obtain ⟨k, o, hk, rfl, hok, HF, HOl, HO⟩ := hrel
    by_cases hlt : k < n
    · have hk1 : k < l.length := by rw [HL.out]; exact hlt
      obtain ⟨ad, T, hA, _, hcell0, hT, hTl, hTs⟩ := cellStr HR.out hk1
      subst hA
      have hcell := HF.out.cell hcell0 (fun h => h)
      have HC0 := hide hcell0
      clear hcell0
      have htk : l.take (k + 1) = l.take k ++ [l.getD k []] := take_getD [] hk1
      obtain ⟨t, ht⟩ : ∃ x, x = l.getD k [] := ⟨_, rfl⟩
      rw [← ht] at hT hTl hTs htk
      have hslt := setT_lt (l.take k)
      have hin := setT_in (l := l.take k) (t := t)
      have hnew := setT_new (l := l.take k) (t := t)
      obtain ⟨s, hs⟩ : ∃ x, x = setT (l.take k) := ⟨_, rfl⟩
      rw [← hs] at HOl HO hslt hin hnew
      rw [← htk] at hin hnew
      have hkk := ordT_le s t
      have hisin := ordT_isIn hslt t
      have hblw := fun j h => ordT_below s t (j := j) h
      have habv := ordT_above hslt t (j := ordT s t) (Nat.le_refl _)
      obtain ⟨kk, hkk'⟩ : ∃ x, x = ordT s t := ⟨_, rfl⟩
      rw [← hkk'] at hkk hisin hblw habv
      rw [← HOl.out] at hkk hisin habv
      have HIn := hide hin
      have HNew := hide hnew
      have HIs := hide hisin
      have HBl := hide hblw
      have HAb := hide habv
      have HKk := hide hkk'
      have HT := hide hT
      have HTl := hide hTl
      obtain ⟨A5, c5, rfl, q1, q2, -⟩ := HO.out.form
      have HQ2 := hide q2
      unfold maxLen at q2
      clear hk1 htk ht hslt hin hnew hs hisin hblw habv hkk' hT hTl hTs
      go_wp2
      go_loopw [5] (fun v wq => ∃ (j nq : Nat), j ≤ kk ∧ v = .int .i64 (j : Nat) ∧ wq = wo.drewN nq) (fun v _ => kk + 1 - (intOf v).toNat)
      case atStart => exact ⟨0, 0, by omega, by go_num, rfl⟩
      case round =>
        obtain ⟨j, nq, hj, rfl, rfl⟩ := hrel
        by_cases hlq : j < kk
        · have hjo : j < o := by omega
          obtain ⟨ad2, X, hA2, _, hc2, _, hXl, _⟩ := cellStr HO.out.rd (k := j) (by rw [← HOl.out]; exact hjo)
          subst hA2
          have hls : Op.bytesLess X.toList T.toList = true := by rw [bl_dec hXl HTl.out]; exact decide_eq_true (HBl.out j hlq)
          have d0 : decide (j < o) = true := decide_eq_true hjo
          clear hXl
          go_wp2
          go_quiet (fail)
          go_wp2
          go_roundw
          case rel => exact ⟨j + 1, _, by omega, by go_num, rfl⟩
          case measure => simp [intOf]; omega
        · obtain rfl : j = kk := by omega
          by_cases hko : j < o
          · obtain ⟨ad2, X, hA2, _, hc2, _, hXl, _⟩ := cellStr HO.out.rd (k := j) (by rw [← HOl.out]; exact hko)
            subst hA2
            have hls : Op.bytesLess X.toList T.toList = false := by rw [bl_dec hXl HTl.out]; exact decide_eq_false (HAb.out hko)
            have d0 : decide (j < o) = true := decide_eq_true hko
            have heq : (X.toList == T.toList) = decide (t ∈ s) := by
              rw [hXl, HTl.out]
              by_cases hm : t ∈ s
              · rw [decide_eq_true hm, (HIs.out.1 hm).2]; simp
              · rw [decide_eq_false hm]
                simp
                intro e
                exact hm (HIs.out.2 ⟨hko, by rw [List.getD_eq_getElem?_getD]; exact e⟩)
            by_cases hm : t ∈ s
            · rw [decide_eq_true hm] at heq
              have HIn' := hide (HIn.out hm)
              clear hm hXl
              go_wp2
              go_quiet (fail)
              go_wp2
              go_quiet (fail)
              go_wp2
              go_roundw
              case rel => exact ⟨k + 1, o, by omega, by go_num, by omega, hide (HF.out.drewN _), hide (by rw [HIn'.out]; exact HOl.out), hide (by rw [HIn'.out]; exact HO.out.fr0 ((Fr.refl No wo).drewN _))⟩
              case measure => simp [intOf]; omega
            · rw [decide_eq_false hm] at heq
              have HNew' := hide (HNew.out hm)
              clear hm hXl
              go_wp2
              go_quiet (fail)
              go_wp2
              go_quiet (fail)
              go_upto_region 9 with (fail)
              refine wp_fr (wo := wo) (((Fr.refl No wo).drewN _).drewN _ |>.drewN _) fun w5 hf5 => ?_
              have HF5 := hide (HF.out.tr hf5)
              have HOa := hide ((HO.out.fr0 hf5).fr0 ((Fr.refl No w5).alloc (.cells #[.string ⟨#[]⟩] 9)))
              have hz5 : w.heap.size ≤ (w5.alloc (.cells #[.string ⟨#[]⟩] 9)).heap.size := (HF5.out.alloc _).size
              have HS := hide (Src.one (P := Tryz.prog) w5 (e := 9) Tryz.underlying43 (.string ⟨#[]⟩) rfl)
              have b1 : (o + 1) * 16 ≤ 140737488355328 := by omega
              have b2 : o + 1 ≤ maxLen := by unfold maxLen; omega
              clear hf5
              go_upto_region 10 with (at_builtin; refine wpList_append_gen _ rfl (.tmp 44) (.tmp 45) 43 43 rfl w.heap.size 9 i1 (.string ⟨#[]⟩) 1 16 Tryz.underlying43 hi1 hz1 hsz1 hby1 rfl (.slice (some ad2) o c5) o _ rfl HOa.out _ 1 [.string ⟨#[]⟩] rfl HS.out b1 b2 hz5 ?_; intro v6 w6 hown hfr hat; obtain ⟨A6, c6, rfl, p1, p2, -⟩ := hown.form; obtain ⟨G, hA6, -⟩ := hown.store (k := 0) (by omega); subst hA6; have HO6 := hide hown; have HF6 : Hid (Fr No w w6) := hide ((HF5.out.alloc _).own hfr (fun g hg => .inl (HOa.out.lt g hg).1)); unfold maxLen at p2; clear hown hfr hat)
              obtain ⟨cur, hcur, hcl, hG, -, hsh⟩ := own_shift HO6.out
              have HSh := hide hsh
              have hsrc : ∀ (q : Nat) v, (svs (s.drop j))[q]? = some v → w6.cell? ((⟨G, j, none⟩ : Addr).add q) = some v := fun q v hv => by
                have hql := (List.getElem?_eq_some_iff.1 hv).1
                rw [svs_len, List.length_drop, ← HOl.out] at hql
                rw [Addr.add_lit, (HO6.out.st (k := j + q) (by omega)).1, List.getElem?_append_left (by rw [svs_len, ← HOl.out]; omega), ← hv, svs_drop, List.getElem?_drop]
              have HSrc := hide hsrc
              have HCur := hide hcur
              have hdl : (svs (s.drop j)).length = o - j := by rw [svs_len, List.length_drop, ← HOl.out]
              have HDl := hide hdl
              have hw1 : IntKind.i64.wrap ((j : Int) + 1) = (j : Int) + 1 := IntWalk.i64_in _ (by omega)
              have hb1 : (0 : Int) ≤ (j : Int) + 1 := by omega
              have htn : ((j : Int) + 1).toNat = j + 1 := by omega
              have hb3 : (j : Int) ≤ (o : Int) + 1 := by omega
              have hb5 : j ≤ o + 1 := by omega
              have hb6 : (j : Int) + 1 ≤ (o : Int) + 1 := by omega
              have hb2 : ¬ (c6 = j + 1) := by omega
              have hb4 : ¬ (c6 = j) := by omega
              go_wp2_with (fail)
              clear hsh hsrc hcur hdl
              go_region_law (refine step_copy_splice rfl (.tmp 50) (.tmp 53) 43 43 rfl 9 Tryz.underlying43 hszS (some ⟨G, j + 1, none⟩) (some ⟨G, j, none⟩) (o - j) (c6 - (j + 1)) (o + 1 - j) (c6 - j) (by simp [Act.eval, Act.put]) (by simp [Act.eval, Act.put]) G (j + 1) cur 9 HCur.out (svs (s.drop j)) (by rw [HDl.out]; simp only [Nat.min_def]; split <;> omega) (fun _ => ⟨rfl, _, rfl, HSrc.out⟩) (by rw [HDl.out]; omega) (svs_one _) w.heap.size w (HF6.out.drew.below) hG ?_; intro w7 hg7 hb7; have HG7 := hide hg7; have HF7 := hide (Fr.of_below hb7); clear hg7 hb7)
              have hw7 := HSh.out w7 (j + 1) (svs (s.drop j)) HG7.out (by rw [HDl.out]; omega)
              obtain ⟨-, fS, hst⟩ := hw7.st (k := j) (by omega)
              have hj1 : j < (svs s ++ [Value.string ⟨#[]⟩]).length := by rw [List.length_append, svs_len, ← HOl.out, List.length_singleton]; omega
              have cS : w7.cell? ⟨G, j, none⟩ = some ((svs s ++ [Value.string ⟨#[]⟩])[j]) := by
                rw [(hw7.st (k := j) (by omega)).1, List.getElem?_append_left (by rw [List.length_take]; omega), List.getElem?_take, if_pos (by omega), List.getElem?_eq_getElem hj1]
              have cT : w7.cell? (ad.add k) = some (.string T) := HF7.out.cell HC0.out (fun h => h)
              generalize (svs s ++ [Value.string ⟨#[]⟩])[j] = old at cS
              have hst2 := hst (.string T)
              rw [sv_of HT.out, insT_cells rfl HOl.out HKk.out] at hst2
              rw [← sv_of HT.out] at hst2
              have HSt := hide hst2
              have HN2 : Hid (setT (l.take (k + 1)) = insT s t) := HNew'
              have HIl : Hid ((insT s t).length = o + 1) := hide (by rw [insT, List.length_append, List.length_cons, List.length_take, List.length_drop, HOl.out]; have := ordT_le s t; omega)
              clear hw7 hst hst2 hj1 hcell hw1 hb1 htn hb3 hb5 hb6 hb2 hb4 hcl
              go_wp2
              go_roundw
              case rel => exact ⟨k + 1, o + 1, by omega, by go_num, by omega, hide (HF7.out.setCell (fun h => by have h : G < w.heap.size := h; omega) _), hide (by rw [HN2.out, HIl.out]), hide (by rw [HN2.out]; exact HSt.out)⟩
              case measure => simp [intOf]; omega
          · have hjo : j = o := by omega
            subst hjo
            have d0 : decide (j < j) = false := decide_eq_false hko
            have hm : t ∉ s := fun h => absurd (HIs.out.1 h).1 hko
            have HNew' := hide (HNew.out hm)
            have hd0 : s.drop j = [] := List.drop_eq_nil_of_le (by rw [← HOl.out]; exact Nat.le_refl _)
            clear hm
            go_wp2
            go_quiet (fail)
            go_wp2
            go_quiet (fail)
            go_upto_region 9 with (fail)
            refine wp_fr (wo := wo) (((Fr.refl No wo).drewN _).drewN _ |>.drewN _) fun w5 hf5 => ?_
            have HF5 := hide (HF.out.tr hf5)
            have HOa := hide ((HO.out.fr0 hf5).fr0 ((Fr.refl No w5).alloc (.cells #[.string ⟨#[]⟩] 9)))
            have hz5 : w.heap.size ≤ (w5.alloc (.cells #[.string ⟨#[]⟩] 9)).heap.size := (HF5.out.alloc _).size
            have HS := hide (Src.one (P := Tryz.prog) w5 (e := 9) Tryz.underlying43 (.string ⟨#[]⟩) rfl)
            have b1 : (j + 1) * 16 ≤ 140737488355328 := by omega
            have b2 : j + 1 ≤ maxLen := by unfold maxLen; omega
            clear hf5
            go_upto_region 10 with (at_builtin; refine wpList_append_gen _ rfl (.tmp 44) (.tmp 45) 43 43 rfl w.heap.size 9 i1 (.string ⟨#[]⟩) 1 16 Tryz.underlying43 hi1 hz1 hsz1 hby1 rfl (.slice A5 j c5) j _ rfl HOa.out _ 1 [.string ⟨#[]⟩] rfl HS.out b1 b2 hz5 ?_; intro v6 w6 hown hfr hat; obtain ⟨A6, c6, rfl, p1, p2, -⟩ := hown.form; obtain ⟨G, hA6, -⟩ := hown.store (k := 0) (by omega); subst hA6; have HO6 := hide hown; have HF6 : Hid (Fr No w w6) := hide ((HF5.out.alloc _).own hfr (fun g hg => .inl (HOa.out.lt g hg).1)); unfold maxLen at p2; clear hown hfr hat)
            obtain ⟨cur, hcur, hcl, hG, -, hsh⟩ := own_shift HO6.out
            have HSh := hide hsh
            have hsrc : ∀ (q : Nat) v, (svs (s.drop j))[q]? = some v → w6.cell? ((⟨G, j, none⟩ : Addr).add q) = some v := fun q v hv => by
              have hql := (List.getElem?_eq_some_iff.1 hv).1
              rw [svs_len, List.length_drop, ← HOl.out] at hql
              rw [Addr.add_lit, (HO6.out.st (k := j + q) (by omega)).1, List.getElem?_append_left (by rw [svs_len, ← HOl.out]; omega), ← hv, svs_drop, List.getElem?_drop]
            have HSrc := hide hsrc
            have HCur := hide hcur
            have hdl : (svs (s.drop j)).length = j - j := by rw [svs_len, List.length_drop, ← HOl.out]
            have HDl := hide hdl
            have hw1 : IntKind.i64.wrap ((j : Int) + 1) = (j : Int) + 1 := IntWalk.i64_in _ (by omega)
            have hb1 : (0 : Int) ≤ (j : Int) + 1 := by omega
            have htn : ((j : Int) + 1).toNat = j + 1 := by omega
            have hb3 : (j : Int) ≤ (j : Int) + 1 := by omega
            have hb5 : j ≤ j + 1 := by omega
            have hb6 : (j : Int) + 1 ≤ (j : Int) + 1 := by omega
            by_cases hb2 : c6 = j + 1
            · subst hb2
              go_wp2_with (fail)
              clear hsh hsrc hcur hdl
              go_region_law (refine step_copy_splice rfl (.tmp 50) (.tmp 53) 43 43 rfl 9 Tryz.underlying43 hszS (some ⟨G, 0, none⟩) (some ⟨G, j, none⟩) 0 0 1 1 (by simp [Act.eval, Act.put]) (by simp [Act.eval, Act.put]) G (j + 1) cur 9 HCur.out (svs (s.drop j)) (by rw [HDl.out]; simp) (fun h => absurd h (by rw [HDl.out]; omega)) (by rw [HDl.out]; omega) (svs_one _) w.heap.size w (HF6.out.drew.below) hG ?_; intro w7 hg7 hb7; have HG7 := hide hg7; have HF7 := hide (Fr.of_below hb7); clear hg7 hb7)
              have hw7 := HSh.out w7 (j + 1) (svs (s.drop j)) HG7.out (by rw [HDl.out]; omega)
              obtain ⟨-, fS, hst⟩ := hw7.st (k := j) (by omega)
              have hj1 : j < (svs s ++ [Value.string ⟨#[]⟩]).length := by rw [List.length_append, svs_len, ← HOl.out, List.length_singleton]; omega
              have cS : w7.cell? ⟨G, j, none⟩ = some ((svs s ++ [Value.string ⟨#[]⟩])[j]) := by
                rw [(hw7.st (k := j) (by omega)).1, List.getElem?_append_left (by rw [List.length_take]; omega), List.getElem?_take, if_pos (by omega), List.getElem?_eq_getElem hj1]
              have cT : w7.cell? (ad.add k) = some (.string T) := HF7.out.cell HC0.out (fun h => h)
              generalize (svs s ++ [Value.string ⟨#[]⟩])[j] = old at cS
              have hst2 := hst (.string T)
              rw [sv_of HT.out, insT_cells rfl HOl.out HKk.out] at hst2
              rw [← sv_of HT.out] at hst2
              have HSt := hide hst2
              have HN2 : Hid (setT (l.take (k + 1)) = insT s t) := HNew'
              have HIl : Hid ((insT s t).length = j + 1) := hide (by rw [insT, List.length_append, List.length_cons, List.length_take, List.length_drop, HOl.out]; have := ordT_le s t; omega)
              clear hw7 hst hst2 hj1 hcell hw1 hb1 htn hb3 hb5 hb6 hcl
              go_wp2
              go_roundw
              case rel => exact ⟨k + 1, j + 1, by omega, by go_num, by omega, hide (HF7.out.setCell (fun h => by have h : G < w.heap.size := h; omega) _), hide (by rw [HN2.out, HIl.out]), hide (by rw [HN2.out]; exact HSt.out)⟩
              case measure => simp [intOf]; omega
            · have hx := trivial
              have hb4 : ¬ (c6 = j) := by omega
              go_wp2_with (fail)
              clear hsh hsrc hcur hdl
              go_region_law (refine step_copy_splice rfl (.tmp 50) (.tmp 53) 43 43 rfl 9 Tryz.underlying43 hszS (some ⟨G, j + 1, none⟩) (some ⟨G, j, none⟩) 0 (c6 - (j + 1)) 1 (c6 - j) (by simp [Act.eval, Act.put]) (by simp [Act.eval, Act.put]) G (j + 1) cur 9 HCur.out (svs (s.drop j)) (by rw [HDl.out]; simp) (fun h => absurd h (by rw [HDl.out]; omega)) (by rw [HDl.out]; omega) (svs_one _) w.heap.size w (HF6.out.drew.below) hG ?_; intro w7 hg7 hb7; have HG7 := hide hg7; have HF7 := hide (Fr.of_below hb7); clear hg7 hb7)
              have hw7 := HSh.out w7 (j + 1) (svs (s.drop j)) HG7.out (by rw [HDl.out]; omega)
              obtain ⟨-, fS, hst⟩ := hw7.st (k := j) (by omega)
              have hj1 : j < (svs s ++ [Value.string ⟨#[]⟩]).length := by rw [List.length_append, svs_len, ← HOl.out, List.length_singleton]; omega
              have cS : w7.cell? ⟨G, j, none⟩ = some ((svs s ++ [Value.string ⟨#[]⟩])[j]) := by
                rw [(hw7.st (k := j) (by omega)).1, List.getElem?_append_left (by rw [List.length_take]; omega), List.getElem?_take, if_pos (by omega), List.getElem?_eq_getElem hj1]
              have cT : w7.cell? (ad.add k) = some (.string T) := HF7.out.cell HC0.out (fun h => h)
              generalize (svs s ++ [Value.string ⟨#[]⟩])[j] = old at cS
              have hst2 := hst (.string T)
              rw [sv_of HT.out, insT_cells rfl HOl.out HKk.out] at hst2
              rw [← sv_of HT.out] at hst2
              have HSt := hide hst2
              have HN2 : Hid (setT (l.take (k + 1)) = insT s t) := HNew'
              have HIl : Hid ((insT s t).length = j + 1) := hide (by rw [insT, List.length_append, List.length_cons, List.length_take, List.length_drop, HOl.out]; have := ordT_le s t; omega)
              clear hw7 hst hst2 hj1 hcell hw1 hb1 htn hb3 hb5 hb6 hb2 hb4 hcl
              go_wp2
              go_roundw
              case rel => exact ⟨k + 1, j + 1, by omega, by go_num, by omega, hide (HF7.out.setCell (fun h => by have h : G < w.heap.size := h; omega) _), hide (by rw [HN2.out, HIl.out]), hide (by rw [HN2.out]; exact HSt.out)⟩
              case measure => simp [intOf]; omega
    · obtain rfl : k = n := by omega
      have htk : l.take k = l := List.take_of_length_le (by rw [HL.out]; omega)
      rw [htk] at HOl HO
      obtain ⟨A4, c4, rfl, q1, q2, -⟩ := HO.out.form
      unfold maxLen at q2
      clear htk
      go_wp2
      go_ret
      exact ⟨_, rfl, by rw [← HOl.out]; exact HO.out, HF.out⟩
end Go.Proofs.YtnjcncidlhllmaaGreat
