/- The walk of FrameSeals: it answers true; nothing that was there has changed. -/
import Derived.Test.YtapfbjaopbcgjaaRows8
import Derived.Test.YtapfbjaopbcgjaaAwake04
import Derived.Test.YtapfbjaopbcgjaaRefSeal
import Derived.Test.YtapfbjaopbcgjaaApart8b
namespace Go.Proofs.Ytapfbjaopbcgjaa
set_option linter.unusedVariables false
set_option linter.unusedSimpArgs false
open Go.RowKit

def accS (bss : List (List UInt8)) : Nat → List UInt8
  | 0 => []
  | k + 1 => if (accS bss k).length < 100000 then accS bss k ++ bss.getD k [] else accS bss k
theorem accS_small (bss : List (List UInt8)) : ∀ k, k ≤ bss.length → (accS bss k).length < 100000 → accS bss k = (bss.take k).flatten
  | 0, _, _ => rfl
  | k + 1, hk, h => by
    rw [accS] at h ⊢
    by_cases h0 : (accS bss k).length < 100000
    · rw [if_pos h0, accS_small bss k (by omega) h0]
      have hlt : k < bss.length := by omega
      rw [flat_succ (List.getElem?_eq_getElem hlt)]
      simp [hlt]
    · rw [if_neg h0] at h
      exact absurd h h0

def seE (kind : UInt8) (bss : List (List UInt8)) : Int := if longB kind bss = true then 3 else 0
def seB (kind : UInt8) (bss : List (List UInt8)) : List UInt8 := if longB kind bss = true then [] else sealB kind bss
theorem seB_len (kind : UInt8) (bss : List (List UInt8)) : (seB kind bss).length ≤ 16777216 := by
  unfold seB
  cases h : longB kind bss with
  | true => simp
  | false =>
    obtain ⟨h1, h2⟩ := long_no h
    have := seal_len kind bss
    simp
    omega
def GivesS2 (e : Int) (bs : List UInt8) (w : World) (en : Ending) (w' : World) : Prop := ∃ A c, en = .returned (.tuple #[.slice A bs.length c, .int .i64 e]) ∧ Own w' w.heap.size 5 1 (.slice A bs.length c) bs.length (by8 bs) ∧ bs.length ≤ c ∧ c ≤ maxLen ∧ Fr No w w'
theorem GivesSeal.uni {kind : UInt8} {bss : List (List UInt8)} {w w' : World} {en : Ending} (h : GivesSeal kind bss w en w') : GivesS2 (seE kind bss) (seB kind bss) w en w' := by
  rcases h with ⟨hl, rfl, hf⟩ | ⟨hl, v, rfl, ho, hf⟩
  · unfold seE seB
    rw [hl]
    exact ⟨none, 0, rfl, Own.nil _ _ _ _, Nat.le_refl _, Nat.zero_le _, hf⟩
  · unfold seE seB
    rw [hl]
    obtain ⟨A', c', rfl, h1, h2, _⟩ := ho.form
    exact ⟨A', c', rfl, ho, h1, h2, hf⟩

def Dis (va : Value) (vals : List Value) : Prop := ∀ (j : Nat) v, vals[j]? = some v → ∀ k, v.ownBlock = some k → va.ownBlock ≠ some k
theorem Dis.snoc {va v : Value} {vals : List Value} (h : Dis va vals) (hv : ∀ k, v.ownBlock = some k → va.ownBlock ≠ some k) : Dis va (vals ++ [v]) := by
  intro j u hu
  by_cases hj : j < vals.length
  · rw [List.getElem?_append_left hj] at hu
    exact h j u hu
  · have hj1 := (List.getElem?_eq_some_iff.1 hu).1
    have e1 : j = vals.length := by simp at hj1; omega
    subst e1
    rw [List.getElem?_append_right (Nat.le_refl _), Nat.sub_self] at hu
    simp at hu
    subst hu
    exact hv
theorem Dis.grow {va vb : Value} {vals : List Value} {w : World} {base : Nat} {bss : List (List UInt8)} (h : Dis va vals) (l : Lents w base vals bss) (hat : vb.ownBlock = va.ownBlock ∨ vb.ownBlock = some w.heap.size) : Dis vb vals := by
  intro j v hv k hk
  rcases hat with e | e
  · rw [e]; exact h j v hv k hk
  · rw [e]
    intro h2
    have h3 : w.heap.size = k := Option.some.inj h2
    have := (l.lt hv k hk).2
    omega

set_option maxRecDepth 100000 in
set_option maxHeartbeats 4000000 in
theorem seals_any (kind : UInt8) (A : Option Addr) (n c : Nat) (bss : List (List UInt8)) (w : World) (hl : bss.length = n) (hn : n ≤ c) (hc : c ≤ maxLen) (hcb : c * 24 ≤ 140737488351232) (hr : BSl w w.heap.size A bss) (hbs : ∀ b ∈ bss, b.length ≤ 140737488351232) :
    Calls Try.prog 3 #[.int .u8 (kind.toNat : Nat), .slice A n c] w (RetB true w) := by
  have HC := hide hc
  unfold maxLen at hc
  have HR := hide hr
  have HL := hide hl
  have HBS := hide hbs
  have HCB := hide hcb
  clear hr hl hbs hcb
  obtain ⟨i0, hi, hz, hsz, hby⟩ := info_parts Try.infoB
  obtain ⟨i1, hi1, hz1, hsz1, hby1⟩ := info_parts Try.info5
  go_enter Try.func3, Try.ntmps3
  go_wp2
  go_loopw [5, 6, 7] (fun v u i wr => ∃ (k : Nat) (aL : List UInt8) (vals : List Value), k ≤ n ∧ i = .int .i64 k ∧ Hid (aL = accS bss k) ∧ Hid (Own wr w.heap.size 23 1 v k vals) ∧ Hid (Lents wr w.heap.size vals (bss.take k)) ∧ Hid (Own wr w.heap.size 5 1 u aL.length (by8 aL)) ∧ Hid (Dis u vals) ∧ Hid (Fr No w wr)) (fun _ _ i _ => n - (intOf i).toNat)
  case atStart => exact ⟨0, [], [], by omega, rfl, hide rfl, hide (Own.nil _ _ _ _), hide (Lents.nil _ _), hide (Own.nil _ _ _ _), hide (fun j v h => by simp at h), hide (Fr.refl _ _)⟩
  case round =>
    obtain ⟨k, aL, vals, hk, rfl, HA, OV, LV, OU, DI, FF⟩ := hrel
    obtain ⟨Av, cv, rfl, hv1, hv2, _, _, _⟩ := OV.out.form
    obtain ⟨Au, cu, rfl, hu1, hu2, _, _, _⟩ := OU.out.form
    have HU2 := hide hu2
    have HV2 := hide hv2
    unfold maxLen at hu2
    clear hv2
    by_cases hlt : k < n
    · obtain ⟨bs, hx⟩ : ∃ bs, bss[k]? = some bs := ⟨_, List.getElem?_eq_getElem (by rw [HL.out]; exact hlt)⟩
      obtain ⟨ad, Aj, cj, rfl, _, hcell0, hj1, hj2, hrj⟩ := HR.out k bs hx
      have hbl := HBS.out bs (List.mem_of_getElem? hx)
      have HT := hide (show bss.take (k + 1) = bss.take k ++ [bs] by
        obtain ⟨h1, rfl⟩ := List.getElem?_eq_some_iff.1 hx
        exact List.take_succ_eq_append_getElem h1)
      have HAc := hide (show accS bss (k + 1) = if aL.length < 100000 then aL ++ bs else aL by
        rw [accS, ← HA.out]
        simp [hx])
      have HLe := hide (lent8_any Aj bs.length cj _ bs wr rfl (by omega) (hrj.fr0 FF.out))
      have hW := FF.out.size
      have b1 : Hid ((k + 1) * 24 ≤ 140737488355328) := hide (by have := HCB.out; omega)
      have b2 : k + 1 ≤ maxLen := by have := HCB.out; unfold maxLen; omega
      by_cases hsm : aL.length < 100000
      · rw [if_pos hsm] at HAc
        have HS := hide (fun W (f : Fr No w W) => Src.ofRd (P := Try.prog) (size := 1) W Try.underlying23 Aj bs.length cj (by8 bs) (by rw [by8_length]; omega) (by omega) (hrj.fr0 f) (by8_one _))
        obtain ⟨nx, HNX⟩ : ∃ nx, Hid (nx = aL ++ bs) := ⟨_, hide rfl⟩
        have HN8 := hide (show by8 aL ++ by8 bs = by8 nx by rw [HNX.out, by8_append])
        have HNl := hide (show nx.length = aL.length + bs.length by rw [HNX.out, List.length_append])
        clear hrj hx
        obtain ⟨m, hm⟩ : ∃ m, m = bs.length := ⟨_, rfl⟩
        rw [← hm] at hcell0 hj1 hbl HNl HS HLe
        have HCell := hide (fun W (f : Fr No w W) => f.cell hcell0 (fun h => h))
        have hcell := HCell.out wr FF.out
        clear hcell0
        obtain ⟨d, hd⟩ : ∃ d, d = aL.length := ⟨_, rfl⟩
        rw [← hd] at OU hsm HNl hu1 DI ⊢
        have HM := hide hm
        unfold maxLen at hj2
        have c1 : Hid (((d + m) + (d + m) / 4 + 192) * 1 ≤ 281474976710656) := hide (by omega)
        have c2 : d + m ≤ maxLen := by unfold maxLen; omega
        have hsmI : decide ((d : Int) < 100000) = true := by
          apply decide_eq_true
          omega
        clear hm hd hsm hbl
        go_wp2_with (first
          | (go_at_call 8; refine HLe.out.mono ?_; rintro en w6 ⟨A6, c6, rfl, hown, hfr⟩; rw [← HM.out]; have V6 := hide (OV.out.fr0 hfr); have U6 := hide (OU.out.fr0 hfr); have L6 := hide (show Lents w6 w.heap.size (vals ++ [.slice A6 m c6]) (bss.take k ++ [bs]) by (have h := (LV.out.fr0 hfr).snoc (hown.lower hW); rw [← HM.out] at h; exact h)); have D6 := hide (DI.out.snoc (v := .slice A6 m c6) (fun g hg => by intro h2; have h3 := (OU.out.lt g h2).2; have h4 := (hown.lt g (by rw [own_len A6 _ m c6 c6]; exact hg)).1; omega)); have F6 := hide (FF.out.tr hfr); have hw6 := F6.out.size; clear hown; clear hfr)
          | (at_builtin; refine wpList_append_gen _ rfl (.tmp 27) (.tmp 29) 22 22 rfl w.heap.size 23 i0 (.slice none 0 0) 1 24 Try.underlying22 hi hz hsz hby rfl _ k vals rfl (V6.out.fr0 ((Fr.refl No w6).alloc _)) _ 1 _ rfl (src_slice w6 A6 m c6) b1.out b2 (Nat.le_trans hw6 (by simp)) ?_; intro v7 w7 hown hfr hat; have f7 := (((Fr.refl (fun k => _ = some k) w6).alloc _).ts hfr); have V7 := hide hown; have L7 := hide (L6.out.other V6.out (by decide) f7); have U7 := hide (U6.out.fr f7 (fun g hg e => U6.out.apart V6.out (by decide) g hg e)); have F7 := hide (F6.out.trans f7 (fun i hi e => by have := (V6.out.lt i e).1; omega)); have hcell7 := HCell.out w7 F7.out; have hw7 := F7.out.size; clear hown hfr hat)
          | (at_builtin; refine wpList_append_wide _ rfl (.tmp 34) (.tmp 38) 23 23 rfl w.heap.size 5 i1 (.int .u8 0) 1 1 Try.underlying23 hi1 hz1 hsz1 hby1 rfl _ d (by8 aL) rfl U7.out _ m (by8 bs) rfl (HS.out w7 F7.out) c1.out c2 hw7 ?_; intro v8 w8 hown hfr hat; have U8 := hide hown; have V8 := hide (V7.out.fr hfr (fun g hg e => V7.out.apart U7.out (by decide) g hg e)); have L8 := hide (L7.out.fr hfr (fun j v hv g hg e => D6.out j v hv g hg e)); have D8 := hide (D6.out.grow L7.out hat); have F8 : Hid (Fr No w w8) := hide (F7.out.own hfr (fun g hg => .inl (U7.out.lt g hg).1)); clear hown hfr hat))
        go_roundw
        case rel => exact ⟨k + 1, nx, _, by omega, by go_num, hide (by rw [HNX.out, HAc.out]), V8, hide (by rw [HT.out]; exact L8.out), hide (by rw [HNl.out, ← HN8.out]; exact U8.out), D8, F8⟩
        case measure => simp [intOf]; omega
      · rw [if_neg hsm] at HAc
        clear hx
        obtain ⟨m, hm⟩ : ∃ m, m = bs.length := ⟨_, rfl⟩
        rw [← hm] at hcell0 hj1 hbl HLe
        have hcell := FF.out.cell hcell0 (fun h => h)
        have HS := hide hrj
        clear hrj
        obtain ⟨d, hd⟩ : ∃ d, d = aL.length := ⟨_, rfl⟩
        rw [← hd] at OU hsm hu1 DI ⊢
        have HCell := hide (fun W (f : Fr No w W) => f.cell hcell0 (fun h => h))
        have HM := hide hm
        have HD := hide hd
        unfold maxLen at hj2
        have hsmI : decide ((d : Int) < 100000) = false := by
          apply decide_eq_false
          omega
        clear hm hd hsm hbl hcell0
        go_wp2_with (first
          | (go_at_call 8; refine HLe.out.mono ?_; rintro en w6 ⟨A6, c6, rfl, hown, hfr⟩; rw [← HM.out]; have V6 := hide (OV.out.fr0 hfr); have U6 := hide (OU.out.fr0 hfr); have L6 := hide (show Lents w6 w.heap.size (vals ++ [.slice A6 m c6]) (bss.take k ++ [bs]) by (have h := (LV.out.fr0 hfr).snoc (hown.lower hW); rw [← HM.out] at h; exact h)); have D6 := hide (DI.out.snoc (v := .slice A6 m c6) (fun g hg => by intro h2; have h3 := (OU.out.lt g h2).2; have h4 := (hown.lt g (by rw [own_len A6 _ m c6 c6]; exact hg)).1; omega)); have F6 := hide (FF.out.tr hfr); have hw6 := F6.out.size; clear hown; clear hfr)
          | (at_builtin; refine wpList_append_gen _ rfl (.tmp 27) (.tmp 29) 22 22 rfl w.heap.size 23 i0 (.slice none 0 0) 1 24 Try.underlying22 hi hz hsz hby rfl _ k vals rfl (V6.out.fr0 ((Fr.refl No w6).alloc _)) _ 1 _ rfl (src_slice w6 A6 m c6) b1.out b2 (Nat.le_trans hw6 (by simp)) ?_; intro v7 w7 hown hfr hat; have f7 := (((Fr.refl (fun k => _ = some k) w6).alloc _).ts hfr); have V7 := hide hown; have L7 := hide (L6.out.other V6.out (by decide) f7); have U7 := hide (U6.out.fr f7 (fun g hg e => U6.out.apart V6.out (by decide) g hg e)); have F7 := hide (F6.out.trans f7 (fun i hi e => by have := (V6.out.lt i e).1; omega)); have hcell7 := HCell.out w7 F7.out; have hw7 := F7.out.size; clear hown hfr hat))
        go_roundw
        case rel => exact ⟨k + 1, aL, _, by omega, by go_num, hide HAc.out.symm, V7, hide (by rw [HT.out]; exact L7.out), hide (by rw [← HD.out]; exact U7.out), D6, F7⟩
        case measure => simp [intOf]; omega
    · obtain rfl : n = k := by omega
      have hall : bss.take n = bss := List.take_of_length_le (Nat.le_of_eq HL.out)
      rw [hall] at LV
      clear hall hlt hk
      by_cases hsm : aL.length < 100000
      · have HFl := hide (show aL = bss.flatten by
          have h := accS_small bss n (Nat.le_of_eq HL.out.symm) (by rw [← HA.out]; exact hsm)
          rw [HA.out, h, List.take_of_length_le (Nat.le_of_eq HL.out)])
        have hsmI : decide ((100000 : Int) ≤ (aL.length : Int)) = false := by
          apply decide_eq_false
          omega
        have HBI := hide (LV.out.bsl OV.out.rd)
        have HS2 := hide (fun W (h : BSl W W.heap.size Av bss) => Calls.mono (seal_any kind Av n cv W.heap.size bss W HL.out hv1 HV2.out (Nat.le_refl _) h (fun b hb => by have := HBS.out b hb; omega)) (fun _ _ h => h.uni))
        have HS3 := hide (fun W (h : BSl W W.heap.size A bss) => Calls.mono (refSeal_any kind A n c W.heap.size bss W HL.out hn HC.out (Nat.le_refl _) h (fun b hb => by have := HBS.out b hb; omega)) (fun _ _ h => h.uni))
        have HSB := hide (seB_len kind bss)
        have HSm := hide (fun W (h : BSl W W.heap.size Av bss) => sum_any Av n cv W.heap.size bss W HL.out hv1 HV2.out (Nat.le_refl _) h)
        rw [← HFl.out] at HSm
        have HSr := hide (fun W (h : Rd W W.heap.size Au (by8 aL)) => refSum_any Au aL.length cu _ aL W rfl hu1 HU2.out h)
        generalize seE kind bss = e at HS2 HS3
        generalize seB kind bss = sb at HS2 HS3 HSB
        generalize crcOf aL = cr at HSm HSr
        have he : (e != e) = false := by simp
        have hcr : ((cr : Int) != (cr : Int)) = false := by simp
        clear HFl HA
        generalize aL.length = d at hsmI hu1 HSr OU ⊢
        clear hsm
        go_wp2_with (first
          | (go_at_call 10; have mk := Q2; clear mk; refine (HS2.out w2 (HBI.out.fr0 F12.out |>.more F12.out.size)).mono ?_; rintro en w3 ⟨Ac, cc, rfl, hown, hq1, hq2, hfr⟩; have OB3 := hide (OB.out.fr0 hfr); have OC := hide hown; have F3 := hide (F2.out.tr hfr); have F13 := hide (F12.out.tr hfr); have R1 := hide hq1; have R2 := hide hq2; have hwz := hfr.size; clear hown hfr hq1 hq2)
          | (go_at_call 10; refine (HS2.out _ HBI.out).mono ?_; rintro en w2 ⟨Ab, cb, rfl, hown, hq1, hq2, hfr⟩; have OB := hide hown; have F2 := hide (FF.out.tr hfr); have F12 := hide hfr; have Q1 := hide hq1; have Q2 := hide hq2; clear hown hfr hq1 hq2)
          | (go_at_call 11; refine (HS3.out w3 ((HR.out.fr0 F3.out).more F3.out.size)).mono ?_; rintro en w4 ⟨Aw, cw, rfl, hown, hq1, hq2, hfr⟩; have OB4 := hide (OB3.out.fr0 hfr); have OC4 := hide (OC.out.fr0 hfr); have OW4 := hide hown; have F4 := hide (F3.out.tr hfr); have F14 := hide (F13.out.tr hfr); have S1 := hide hq1; have S2 := hide hq2; clear hown hfr hq1 hq2)
          | (go_at_call 12; have mk := F5; clear mk; refine (kbytes_any Ac Aw _ cc _ cw _ _ sb sb _ rfl rfl R1.out R2.out S1.out S2.out (OC4.out.rd.fr0 G5.out) (OW4.out.rd.fr0 G5.out)).mono ?_; rw [decide_eq_true rfl]; rintro en w6 ⟨rfl, nq6, rfl⟩; have G6 := hide (G5.out.drewN nq6); generalize w5.drewN nq6 = w6 at G6 ⊢)
          | (go_at_call 12; refine (kbytes_any Ab Aw _ cb _ cw _ _ sb sb _ rfl rfl Q1.out Q2.out S1.out S2.out OB4.out.rd OW4.out.rd).mono ?_; rw [decide_eq_true rfl]; rintro en w5 ⟨rfl, nq5, rfl⟩; have F5 := hide True.intro; have G5 := hide ((Fr.refl No w4).drewN nq5); generalize w4.drewN nq5 = w5 at G5 ⊢)
          | (go_at_call 13; refine (HSm.out w6 (HBI.out.fr0 (F14.out.tr G6.out) |>.more (F14.out.tr G6.out).size)).mono ?_; rintro en w7 ⟨rfl, hfr⟩; have G7 := hide (G6.out.tr hfr); clear hfr)
          | (go_at_call 14; refine (HSr.out w7 (OU.out.rd.fr0 (F14.out.tr G7.out) |>.more (F14.out.tr G7.out).size)).mono ?_; rintro en w8 ⟨rfl, nq8, rfl⟩; have G8 := hide (G7.out.drewN nq8); generalize w7.drewN nq8 = w8 at G8 ⊢))
        have F8 := hide (F4.out.tr G8.out)
        have F18 := hide (F14.out.tr G8.out)
        have L8 := hide (LV.out.fr0 F18.out)
        have V8 := hide (OV.out.fr0 F18.out)
        have OB8 := hide (OB4.out.fr0 G8.out)
        have OC8 := hide (OC4.out.fr0 G8.out)
        have hbase : wr.heap.size ≤ w2.heap.size := F12.out.size
        have hbase0 : w.heap.size ≤ wr.heap.size := FF.out.size
        have OB2 := hide OB.out
        clear he hcr hsmI G5 G6 G7 G8 OB3 OB4 OC OC4 OW4 F3 F13 F14 S1 S2 HS2 HS3 HSm HSr F4 F5 HBI
        go_loopw [15] (fun i wx => ∃ (j nq : Nat), j ≤ n ∧ i = .int .i64 j ∧ wx = w8.drewN nq) (fun i _ => n - (intOf i).toNat)
        case atStart => exact ⟨0, 0, by omega, rfl, rfl⟩
        case round =>
          obtain ⟨j, nq, hj, rfl, rfl⟩ := hrel
          by_cases hlt : j < n
          · obtain ⟨bs, hx⟩ : ∃ bs, bss[j]? = some bs := ⟨_, List.getElem?_eq_getElem (by rw [HL.out]; exact hlt)⟩
            obtain ⟨ad, Aj, cj, rfl, _, hcell, hj1, hj2, hrj⟩ := (HR.out.fr0 (F8.out.drewN nq)) j bs hx
            obtain ⟨u, hu⟩ : ∃ u, vals[j]? = some u := ⟨_, List.getElem?_eq_getElem (by rw [L8.out.len, HL.out]; exact hlt)⟩
            obtain ⟨ad2, rfl, _, hcell2⟩ := (V8.out.rd.fr0 ((Fr.refl No w8).drewN nq)) j u hu
            obtain ⟨Ai, ci, rfl, ho⟩ := L8.out.own j u bs hu hx
            have hle := ho.le
            have HK := hide (fun q => kept8_any Ai Aj bs.length ci bs.length cj _ _ bs ((w8.drewN nq).drewN q) rfl rfl (by omega) hle.2.2 hj1 hj2 (ho.rd.fr0 (((Fr.refl No w8).drewN nq).drewN q)) (hrj.fr0 ((Fr.refl No (w8.drewN nq)).drewN q)))
            clear hx hu ho hrj hle hj1 hj2
            generalize bs.length = m at hcell hcell2 HK
            obtain ⟨wo, hwo⟩ : ∃ wo, wo = w8.drewN nq := ⟨_, rfl⟩
            rw [← hwo] at HK hcell hcell2 ⊢
            have HWO := hide hwo
            clear hwo
            go_wp2
            go_quiet ((go_at_call 15; exact Calls.quiet_of (HK.out _)))
            go_wp2
            go_roundw
            case rel => exact ⟨j + 1, _, by omega, by go_num, by rw [HWO.out]; exact World.drewN_drewN _ _ _⟩
            case measure => simp [intOf]; omega
          · obtain rfl : n = j := by omega
            have OB9 := hide (OB8.out.fr0 ((Fr.refl No w8).drewN nq))
            have OC9 := hide (OC8.out.fr0 ((Fr.refl No w8).drewN nq))
            have F9 := hide (F8.out.drewN nq)
            generalize w8.drewN nq = w9 at OB9 OC9 F9 ⊢
            have HAp := hide (fun t => apart8_two w9.heap.size Ab Ac sb.length sb.length cb cc (by8 sb) (by8 sb) (w9.alloc (.cells #[.slice Ab sb.length cb, .slice Ac sb.length cc] 23)) (by have := HSB.out; omega) (by have := HSB.out; omega) (heap_alloc_new w9 _) ((OB9.out.fr0 ((Fr.refl No w9).alloc _)).lower (Nat.zero_le _)) ((OC9.out.fr0 ((Fr.refl No w9).alloc _)).lower (Nat.zero_le _)) t)
            have HD := hide (show ∀ k, (Value.slice Ab sb.length cb).ownBlock = some k → (Value.slice Ac sb.length cc).ownBlock ≠ some k from fun g hg h2 => by
              have h3 := (OB2.out.lt g hg).2
              have h4 := (OC9.out.lt g h2).1
              omega)
            clear hlt hj
            go_wp2_with (first
              | (go_at_call 16; refine (HAp.out HD.out).mono ?_; rintro en w10 ⟨rfl, hfr⟩; have F10 : Hid (Fr No w w10) := hide ((F9.out.alloc _).trans hfr (fun i hi e => e.elim (fun e => by have h3 := (OB2.out.lt i e).1; omega) (fun e => by have h4 := (OC9.out.lt i e).1; omega))); clear hfr)
              | (go_at_call 9; refine (awake04_any _).mono ?_; rintro en w11 ⟨rfl, hfr⟩; have F11 := hide (F10.out.tr hfr); clear hfr))
            go_ret
            exact ⟨rfl, F11.out⟩
      · have hsmI : decide ((100000 : Int) ≤ (aL.length : Int)) = true := by
          apply decide_eq_true
          omega
        generalize aL.length = d at hsmI ⊢
        clear hsm
        go_wp2_with (go_at_call 9; refine (awake04_any _).mono ?_; rintro en w11 ⟨rfl, hfr⟩; have F11 := hide (FF.out.tr hfr); clear hfr)
        go_ret
        exact ⟨rfl, F11.out⟩
end Go.Proofs.Ytapfbjaopbcgjaa
