/- Get: bytes read as a row. -/
import Derived.Test.YtpnhnnhocekchaaUnbW
import Derived.Test.YtpnhnnhocekchaaOne03
import Derived.Test.YtpnhnnhocekchaaGetP
import Derived.Test.YtpnhnnhocekchaaTakeB
import Derived.Test.YtpnhnnhocekchaaVals
import Derived.Deep.DeepCutAuto
import Derived.Deep.RegionHeld3
namespace Go.Proofs.Ytpnhnnhocekchaa
set_option linter.unusedVariables false
set_option linter.unusedSimpArgs false
open Go.RowKit

theorem Try.infoI64g : (Try.prog.info? 2).map (fun i => (i.zero, i.size, i.bytes)) = some (some (.int .i64 0), 1, 8) := by kernel_rfl
/-- a row that was read, or refused. -/
def GivesGetP (r : List Int × Nat × Int) (w : World) (en : Ending) (w' : World) : Prop :=
  ∃ v, en = .returned (.tuple #[v, .int .i64 (r.2.1 : Nat), .int .i64 r.2.2]) ∧ Own w' w.heap.size 2 1 v r.1.length (iz .i64 r.1) ∧ Fr No w w'
theorem Own.offRD {w w' : World} {base e n g : Nat} {v : Value} {xs : List Value} {bs : List UInt8} {a : Nat} {er : Int} (h : Own w base e 1 v n xs) (r : RD w g bs a er) (hne : e ≠ 131) (f : Fr (Is g) w w') : Own w' base e 1 v n xs := by
  obtain ⟨_, _, hh, _⟩ := r
  refine h.fr f ?_
  rintro k hk rfl
  exact h.ne_blk hk hh hne
theorem RD.off {w w' : World} {g : Nat} {bs : List UInt8} {a : Nat} {e : Int} {b2 e2 n2 : Nat} {v2 : Value} {xs2 : List Value} (h : RD w g bs a e) (o : Own w b2 e2 1 v2 n2 xs2) (h1 : 5 ≠ e2) (h2 : e2 ≠ 131) (f : Fr (fun k => v2.ownBlock = some k) w w') : RD w' g bs a e := by
  obtain ⟨A, c, hh, q1, q2, q3, q4, ho⟩ := h
  exact ⟨A, c, f.blk hh (fun hk => o.ne_blk hk hh h2), q1, q2, q3, q4, ho.fr f (fun k hk e => ho.apart o h1 k hk e)⟩

set_option maxRecDepth 100000 in
set_option maxHeartbeats 400000 in
theorem get_arg (A : Option Addr) (m c : Nat) (ni : Int) (w : World) (h : ni < 0 ∨ 1048576 < ni) :
    Calls Try.prog 32 #[.slice A m c, .int .i64 ni] w (Ret (.tuple #[.slice none 0 0, .int .i64 0, .int .i64 1]) w) := by
  by_cases h1 : ni < 0
  · clear h
    go_enter Try.func32, Try.ntmps32
    go_wp2
    go_ret3
    exact ⟨rfl, rfl⟩
  · have h2 : 1048576 < ni := by omega
    clear h
    go_enter Try.func32, Try.ntmps32
    go_wp2
    go_ret3
    exact ⟨rfl, rfl⟩

set_option maxRecDepth 100000 in
set_option maxHeartbeats 4000000 in
theorem get_in (A : Option Addr) (m c B N : Nat) (b : List UInt8) (w : World) (hl : b.length = m) (hm : m ≤ 140737488355328) (hn : m ≤ c) (hc : c ≤ maxLen) (hN : N ≤ 1048576) (hB : B ≤ w.heap.size) (hr : Rd w B A (by8 b)) :
    Calls Try.prog 32 #[.slice A m c, .int .i64 (N : Nat)] w (GivesGetP (getZ b N) w) := by
  obtain ⟨i0, hi0, iz0, isz, iby⟩ := info_parts Try.infoI64g
  have HNew := hide (newReader_any A m c B b w hl hn hc hm hB hr)
  have HL := hide hl
  obtain ⟨res, hres⟩ : ∃ r, r = getZ b N := ⟨_, rfl⟩
  rw [← hres]
  have HRes := hide hres
  have hbad : ∀ en w', en = .returned (.tuple #[.slice none 0 0, .int .i64 0, .int .i64 20]) → Fr No w w' → Hid (getZ b N = ([], 0, 20)) → GivesGetP res w en w' := fun en w' h1 h2 h3 => by
    rw [HRes.out, h3.out]
    exact ⟨_, h1, Own.nil _ _ _ _, h2⟩
  have HBad := hide hbad
  unfold maxLen at hc
  clear hr hl hres hbad
  go_enter Try.func32, Try.ntmps32
  go_wp2_with (go_at_call 61; refine HNew.out.mono ?_; rintro en0 w0 ⟨g, rfl, hg, hrd, hfr⟩; have HRD0 := hide hrd; have HF0 := hide hfr; clear hrd hfr)
  go_loopg [7, 9, 10, 11, 12, 13, 15, 16] N (fun gk l s9 s10 s11 s12 s13 s15 s16 wr => ∃ (xs : List Int) (X a : Nat), X + gk = N ∧ Hid (xs.length = X) ∧ Hid (RD wr g b a 0) ∧ Hid (Mid b N xs a) ∧ Hid (Own wr w.heap.size 2 1 l X (iz .i64 xs)) ∧ Hid (Fr No w wr))
  case atStart => exact ⟨[], 0, 0, by omega, hide rfl, HRD0, hide (Mid.start b N), hide (Own.nil _ _ _ _), HF0⟩
  case round =>
    clear HRD0 HF0 HNew
    obtain ⟨xs, X, a, hX, HX, HRD, HMid, HOw, HFr⟩ := hrel
    obtain ⟨Al, cl, rfl, ql1, ql2, _⟩ := HOw.out.form
    have HQl2 := hide ql2
    unfold maxLen at ql2
    by_cases hlt : X < N
    · obtain ⟨K, hK⟩ : ∃ K, K = min (N - X) 128 := ⟨_, rfl⟩
      have hK1 : 1 ≤ K ∧ K ≤ 128 ∧ X + K ≤ N := by omega
      have HK := hide hK
      obtain ⟨d, hd⟩ : ∃ d, d = N - X := ⟨_, rfl⟩
      have e1 : (N : Int) - (X : Int) = (d : Int) := by omega
      have em : (if (128 : Int) < (d : Int) then (128 : Int) else (d : Int)) = (K : Int) := by split <;> omega
      clear hK hd
      obtain ⟨t, ht⟩ : ∃ t, t = b.drop a := ⟨_, rfl⟩
      have hal : a ≤ b.length := HMid.out.2.2.1
      have htl : t.length + a = b.length := by rw [ht, List.length_drop]; omega
      have HTd := hide ht
      have HTl := hide htl
      have HDr0 := hide (fun q => (show t.drop q = b.drop (a + q) by rw [ht, List.drop_drop]))
      have hbb : ∀ en w', en = .returned (.tuple #[.slice none 0 0, .int .i64 0, .int .i64 20]) → Fr (Is g) wr w' → Hid (blkB t K = none) → GivesGetP res w en w' := fun en w' h1 h2 h3 => by
        refine HBad.out en w' h1 (HFr.out.own1 h2 hg) (hide ?_)
        refine HMid.out.bad (by rw [HX.out]; exact hlt) ?_ hN
        rw [HX.out, ← HK.out, ← HTd.out]
        exact h3.out
      have HBB := hide hbb
      have HBad2 : Hid (∀ en w', en = .returned (.tuple #[.slice none 0 0, .int .i64 0, .int .i64 20]) → Fr No w w' → Hid (blkB t K = none) → GivesGetP res w en w') := hide (fun en w' h1 h2 h3 => by
        refine HBad.out en w' h1 h2 (hide ?_)
        refine HMid.out.bad (by rw [HX.out]; exact hlt) ?_ hN
        rw [HX.out, ← HK.out, ← HTd.out]
        exact h3.out)
      have HI1 := hide (int_any g b a 0 wr HRD.out)
      clear hbb HRes ht
      cases hd : dec 0 0 t with
      | none =>
        rw [uintR_none (bs := b) (a := a) (by rw [← HTd.out]; exact hd)] at HI1
        have HN := hide (b_none (k := K) (p_none hd))
        clear hd htl
        go_wp2_with (first
          | (go_at_call 62; refine HI1.out.mono ?_; clear HI1; rintro en1 w1 ⟨rfl, hs, hf⟩; have HS1 := hide hs; have HF1 := hide hf; have HB1 := hide (bytes_any g b a 20 1 w1 HS1.out); rw [bS_off b a 20 1 (by decide)] at HB1; clear hs hf)
          | (go_at_call 63; refine HB1.out.mono ?_; clear HB1; rintro en1 w2 ⟨v2, rfl, hown, hs, hf⟩; have HO2 := hide hown; have HS2 := hide hs; have HF2 := hide (HF1.out.ts hf); have HEr := hide (err_any g b _ _ w2 hs); obtain ⟨A2, c2, rfl, _⟩ := hown.form; clear hown hs hf)
          | (go_at_call 64; refine HEr.out.mono ?_; rintro en1 wE ⟨rfl, rfl⟩))
        go_ret3
        exact HBB.out _ _ rfl HF2.out HN
      | some uj =>
        obtain ⟨u, j⟩ := uj
        have hj := dec_le _ _ _ _ _ hd
        rw [uintR_some (bs := b) (a := a) (by rw [← HTd.out]; exact hd)] at HI1
        have HDec := hide hd
        have HDr := hide (HDr0.out j)
        clear hd
        by_cases hjt : j < t.length
        · obtain ⟨wb, hwb⟩ : ∃ x, x = (t.getD j 0).toNat := ⟨_, rfl⟩
          have hwb256 : wb < 256 := by rw [hwb]; exact (t.getD j 0).toNat_lt
          have HWB := hide hwb
          clear hwb
          by_cases hw64 : wb ≤ 64
          · obtain ⟨sz, hsz⟩ : ∃ s, s = psz wb K := ⟨_, rfl⟩
            have hszb : sz ≤ 1025 := by rw [hsz]; have := psz_le (n := K) hw64; omega
            have hwk : wb * K ≤ 8192 := Nat.le_trans (Nat.mul_le_mul hw64 hK1.2.1) (by decide)
            have HSz := hide (fun w => size_any wb K w (by omega))
            rw [← hsz] at HSz
            have HSZ := hide hsz
            clear hsz
            obtain ⟨wk, hwkk⟩ : ∃ x, x = wb * K := ⟨_, rfl⟩
            rw [← hwkk] at hwk
            have HWk := hide hwkk
            clear hwkk
            obtain ⟨pb, pl, er, hbs⟩ : ∃ pb pl er, bytesS b (a + j + 1) 0 (sz : Nat) = (pb, pl, er) := ⟨_, _, _, rfl⟩
            have HBs := hide hbs
            obtain ⟨ab, ue, hub⟩ : ∃ ab ue, unbitsZ pb (wb : Nat) (K : Nat) = (ab, ue) := ⟨_, _, rfl⟩
            have HUb := hide hub
            clear hbs hub hj htl
            obtain ⟨pbn, hpbn⟩ : ∃ x, x = pb.length := ⟨_, rfl⟩
            have HPbn := hide hpbn
            obtain ⟨abn, habn⟩ : ∃ x, x = ab.length := ⟨_, rfl⟩
            have HAbn := hide habn
            clear hpbn habn
            obtain ⟨wz, hwz⟩ : ∃ x : World, x = wr := ⟨_, rfl⟩
            have HWz := hide hwz
            rw [← hwz] at HOw HFr HBB HRD HI1
            rw [← hwz]
            clear hwz HWz
            go_upto_region 11 with (first
              | (go_at_call 62; refine HI1.out.mono ?_; clear HI1; rintro en1 w1 ⟨rfl, hs, hf⟩; have HS1 := hide hs; have HF1 := hide hf; have HB1 := hide (bytes_any g b (a + j) 0 1 w1 HS1.out); rw [show (1 : Int) = ((1 : Nat) : Int) from rfl, bS_ok (k := 1) (by have := HTl.out; omega), ← HDr.out, un_one hjt] at HB1; clear hs hf)
              | (go_at_call 63; refine HB1.out.mono ?_; clear HB1; rintro en1 w2 ⟨v2, rfl, hown, hs, hf⟩; have HO2 := hide hown; have HS2 := hide hs; have HF2 := hide (HF1.out.ts hf); have HEr := hide (err_any g b _ _ w2 hs); rw [show ([t.getD j 0] : List UInt8).length = 1 from rfl] at hown; obtain ⟨g2, c2, rfl, r1, r2, r3, r4⟩ := own_some hown (by omega); unfold maxLen at r2; have hw0 : w2.cell? ⟨g2, 0, none⟩ = some (.int .u8 (wb : Nat)) := (by obtain ⟨z1, _⟩ := hown.put (k := 0) (by omega); rw [z1]; simp [by8, HWB.out]); clear hown hs hf)
              | (go_at_call 64; refine HEr.out.mono ?_; rintro en1 wE ⟨rfl, rfl⟩))
            go_cut [12, 13] from 25 to 103 (fun s e wx => ∃ A4 c4, s = .slice A4 abn c4 ∧ abn ≤ c4 ∧ c4 ≤ maxLen ∧ e = .int .i64 ue ∧ Hid (Own wx wz.heap.size 52 1 (.slice A4 abn c4) abn (nz ab)) ∧ Hid (RD wx g b pl er) ∧ Hid (Fr (Is g) wz wx) ∧ wx.cell? ⟨g2, 0, none⟩ = some (.int .u8 (wb : Nat)))
            case first =>
              have HB2 := hide (fun W (h : RD W g b (a + j + 1) 0) => bytes_any g b (a + j + 1) 0 (sz : Nat) W h)
              rw [HBs.out] at HB2
              have hg2g : g2 ≠ g := by
                have := HS1.out.lt
                omega
              have HG2 := hide hg2g
              have hw0d : w2.drew.cell? ⟨g2, 0, none⟩ = some (.int .u8 (wb : Nat)) := hw0
              have hwr : IntKind.i64.wrap (wb : Int) = (wb : Int) := IntWalk.i64_in _ (by omega)
              have hwr2 : wrap64 (wb : Int) = (wb : Int) := IntWalk.wrap64_in _ (by omega)
              clear hg2g
              go_region_held3 (fun W => W.cell? ⟨g2, 0, none⟩ = some (.int .u8 (wb : Nat))) (first | exact hw4 | exact hw3 | exact hw0d | exact hw0) (first
                | (go_at_call 53; refine (HSz.out _).mono ?_; rintro en1 wS ⟨rfl, rfl⟩)
                | (go_at_call 63; refine (HB2.out w2.drew HS2.out).mono ?_; rintro en1 w3 ⟨v3, rfl, hown, hs, hf⟩; rw [← HPbn.out] at hown; have HS3 := hide hs; have HF3 : Hid (Fr (Is g) wz w3) := hide (HF2.out.drew.ts hf); obtain ⟨A3, c3, rfl, s1, s2, _⟩ := hown.form; have HUn := hide (unb_any A3 pbn c3 w3.heap.size (wb : Nat) (K : Nat) pb w3 HPbn.out.symm s1 s2 (Nat.le_refl _) hown.rd); rw [HUb.out] at HUn; have hw3 : w3.cell? ⟨g2, 0, none⟩ = some (.int .u8 (wb : Nat)) := hf.cell (p := ⟨g2, 0, none⟩) hw0d (fun e => HG2.out e); clear hown hs hf)
                | (go_at_call 19; refine HUn.out.mono ?_; rintro en1 w4 ⟨v4, rfl, hown, hf⟩; rw [← HAbn.out] at hown; obtain ⟨A4, c4, rfl, z1, z2, _⟩ := hown.form; have HA4 := hide (hown.lower HF3.out.size); have HS4 := hide (HS3.out.fr0 hf); have HF4 := hide (HF3.out.tr hf); have hw4 : w4.cell? ⟨g2, 0, none⟩ = some (.int .u8 (wb : Nat)) := hf.cell (p := ⟨g2, 0, none⟩) hw3 (fun h => h); clear hown hf))
              go_wp2
              go_meet
              case rel => exact ⟨A4, c4, rfl, z1, z2, rfl, HA4, HS4, HF4, hw4⟩
            case rest =>
              obtain ⟨A4, c4, rfl, z1, z2, rfl, HA4, HS4, HF4, hw4⟩ := hcut
              clear hw0 HEr
              have HQz2 := hide z2
              unfold maxLen at z2
              have hle := unzz_bd (dec_lt _ 0 0 u j (by decide) HDec.out)
              obtain ⟨le, hlee⟩ : ∃ x, x = unzz u := ⟨_, rfl⟩
              rw [← hlee] at hle
              rw [← hlee]
              have HLee := hide hlee
              clear hlee
              have HErr : Hid (∀ nq, Calls Try.prog 64 #[.pointer (some ⟨g, 0, none⟩)] (wc.drewN nq) (fun e w' => e = .returned (.int .i64 er) ∧ w' = wc.drewN nq)) := hide (fun nq => (err_any g b pl er (wc.drewN nq) (HS4.out.drewN nq)).mono fun _ _ ⟨p, q⟩ => ⟨p, q.symm⟩)
              have hbl : b.length = m := HL.out
              by_cases hsh : j + 1 + sz ≤ t.length
              · have hb1 := bS_ok (t := b) (a := a + j + 1) (k := sz) (by have := HTl.out; omega)
                rw [HBs.out] at hb1
                simp only [Prod.mk.injEq] at hb1
                obtain ⟨hpb, rfl, rfl⟩ := hb1
                have hpb2 : pb = (t.drop (j + 1)).take sz := by rw [HDr0.out, hpb, Nat.add_assoc]
                have hpl : pb.length = psz wb K := by rw [hpb2, List.length_take, List.length_drop, ← HSZ.out]; omega
                have hb0 : ((0 : Int) != 0) = false := rfl
                by_cases hlf : leftN pb wk = 0
                · have hU : unbitsZ pb (wb : Nat) (K : Nat) = (unpacked wb K pb, 0) := by
                    unfold unbitsZ
                    rw [if_neg (by omega), Int.toNat_natCast, Int.toNat_natCast, if_neg (by rw [← HWk.out]; exact fun h => h.elim (fun h => h hpl) (fun h => h hlf))]
                  rw [HUb.out] at hU
                  simp only [Prod.mk.injEq] at hU
                  obtain ⟨habe, rfl⟩ := hU
                  have hp := p_some (k := K) HDec.out (by omega) (by rw [← HWB.out]; exact hw64) (by rw [← HWB.out, ← HSZ.out]; exact hsh) (by rw [← HWB.out, ← HSZ.out, ← hpb2, ← HWk.out]; exact hlf)
                  rw [← HWB.out, ← HSZ.out, ← hpb2, ← habe, ← HLee.out] at hp
                  have habK : abn = K := by rw [HAbn.out, habe, unpacked_len]
                  have h64 : In64 ab := by rw [habe]; exact unpacked_64 hw64
                  subst habK
                  have HP := hide hp
                  have H64 := hide h64
                  have HWc : Hid (∀ nq, Calls Try.prog 21 #[.slice A4 abn c4] (wc.drewN nq) (fun e w' => e = .returned (.int .i64 (wid ab : Nat)) ∧ w' = wc.drewN nq)) := hide (fun nq => (width_any A4 abn c4 _ ab (wc.drewN nq) HAbn.out.symm h64 z1 HQz2.out (HA4.out.rd.fr0 ((Fr.refl No wc).drewN nq))).mono fun _ _ ⟨p, q⟩ => ⟨p, q.symm⟩)
                  have HMc : Hid (∀ nq, Calls Try.prog 65 #[.slice A4 abn c4] (wc.drewN nq) (fun e w' => e = .returned (.int .u64 (minL (zN ab))) ∧ w' = wc.drewN nq)) := hide (fun nq => (minU_any A4 abn c4 _ (zN ab) (wc.drewN nq) (by rw [zN_len]; exact HAbn.out.symm) hK1.1 z1 HQz2.out (HA4.out.rd.fr0 ((Fr.refl No wc).drewN nq))).mono fun _ _ ⟨p, q⟩ => ⟨p, q.symm⟩)
                  have hwr : IntKind.i64.wrap (wb : Int) = (wb : Int) := IntWalk.i64_in _ (by omega)
                  have hwr2 : wrap64 (wb : Int) = (wb : Int) := IntWalk.wrap64_in _ (by omega)
                  have hne : ab ≠ [] := fun e => by have := HAbn.out; rw [e] at this; simp at this; omega
                  have hm0 := minN_0 hne
                  have HNe := hide hne
                  clear hpb hpb2 hpl hlf habe hp h64 hne
                  by_cases hwd : wid ab = wb
                  · rw [hwd] at HWc
                    have hb3 : ((wb : Int) != (wb : Int)) = false := by simp
                    by_cases hmin : 0 ∈ ab
                    · rw [hm0.2 hmin] at HMc
                      have HWd := hide hwd
                      have HMin := hide hmin
                      clear hwd hmin hm0
                      go_wp2_with (fail)
                      go_quiet ((first
                        | (go_at_call 64; exact Calls.quiet_of_same (HErr.out _))
                        | (go_at_call 21; exact Calls.quiet_of_same (HWc.out _))
                        | (go_at_call 65; exact Calls.quiet_of_same (HMc.out _))))
                      go_wp2
                      obtain ⟨ys, hys⟩ : ∃ x, x = ab.map (fun (u : Nat) => le + (u : Int)) := ⟨_, rfl⟩
                      have hyl : ys.length = abn := by rw [hys, List.length_map]; exact HAbn.out.symm
                      have hst : ∀ q (h : q < abn), iz .i64 (xs ++ ys.take q) ++ [.int .i64 (le + ((ab.getD q 0 : Nat) : Int))] = iz .i64 (xs ++ ys.take (q + 1)) := fun q h => by
                        have h1 : q < ys.length := by rw [hyl]; exact h
                        have h2 : q < ab.length := by rw [← HAbn.out]; exact h
                        rw [take_snoc_int h1, iz_append, iz_append, iz_append, List.append_assoc]
                        congr 2
                        simp [iz, hys, List.getElem?_eq_getElem h2]
                      have HYs := hide hys
                      have HYl := hide hyl
                      have HSt := hide hst
                      clear hys hyl hst
                      have HWq := hide (HFr.out.own1 (HF4.out.drewN nq) hg)
                      go_loopw [7, 15, 16, 87] (fun l uu x i wx => ∃ q : Nat, q ≤ abn ∧ i = .int .i64 q ∧ Hid (∀ p, p < q → le + ((ab.getD p 0 : Nat) : Int) ≤ 9223372036854775807) ∧ Hid (Own wx w.heap.size 2 1 l (X + q) (iz .i64 (xs ++ ys.take q))) ∧ Hid (RD wx g b (a + j + 1 + sz) 0) ∧ Hid (Own wx wz.heap.size 52 1 (.slice A4 abn c4) abn (nz ab)) ∧ Hid (Fr No w wx)) (fun _ _ _ i _ => abn - (intOf i).toNat)
                      case atStart =>
                        refine ⟨0, by omega, rfl, hide (fun p h => by omega), hide ?_, hide (HS4.out.drewN nq), hide (HA4.out.fr0 ((Fr.refl No wc).drewN nq)), HWq⟩
                        rw [List.take_zero, List.append_nil]
                        exact (HOw.out.offRD HRD.out (by decide) HF4.out).fr0 ((Fr.refl No wc).drewN nq)
                      case round =>
                        obtain ⟨q, hq, rfl, HOv, HOx, HRx, HAx, HFx⟩ := hrel
                        by_cases hqK : q < abn
                        · obtain ⟨ad4, rfl, _, hcx⟩ := HAx.out.rd.natAt (j := q) (by rw [← HAbn.out]; exact hqK)
                          have hx64 := H64.out.at q
                          have HS := hide (HSt.out q hqK)
                          have HBd := hide (fun (h : ab.getD q 0 ≤ 0 ∨ True) => h)
                          obtain ⟨x, hx⟩ : ∃ x, x = ab.getD q 0 := ⟨_, rfl⟩
                          rw [← hx] at hcx hx64 HS
                          have HX' := hide hx
                          clear hx
                          by_cases hov : le + (x : Int) ≤ 9223372036854775807
                          · have hyv : wrap64 (IntKind.u64.wrap (IntKind.u64.wrap le + (x : Int))) = le + (x : Int) := by
                              rw [IntKind.wrap_u64, IntKind.wrap_u64]
                              unfold wrap64
                              omega
                            have hge : le ≤ le + (x : Int) := by omega
                            have HNv : Hid (∀ p, p < q + 1 → le + ((ab.getD p 0 : Nat) : Int) ≤ 9223372036854775807) := hide (fun p h => by
                              by_cases e : p = q
                              · rw [e, ← HX'.out]; exact hov
                              · exact HOv.out p (by omega))
                            obtain ⟨y, hy⟩ : ∃ y, y = le + (x : Int) := ⟨_, rfl⟩
                            rw [← hy] at hyv hge HS
                            clear hy hov
                            have hgx := HFx.out.size
                            have HSr := hide (Src.one (P := Try.prog) wr (e := 2) Try.underlying41 (.int .i64 y) rfl)
                            have HOx' := hide (HOx.out.fr0 ((Fr.refl No wr).alloc (.cells #[.int .i64 y] 2)))
                            have b1 : (X + q + 1) * 8 ≤ 140737488355328 := by omega
                            have b2 : X + q + 1 ≤ maxLen := by unfold maxLen; omega
                            have b3 : w.heap.size ≤ (wr.alloc (.cells #[.int .i64 y] 2)).heap.size := by simp; omega
                            go_wp2_with (first
                              | (at_builtin; refine wpList_append_gen _ rfl (.tmp 99) (.tmp 101) 41 41 rfl w.heap.size 2 i0 (.int .i64 0) 1 8 Try.underlying41 hi0 iz0 isz iby rfl u7 (X + q) (iz .i64 (xs ++ ys.take q)) rfl HOx'.out _ 1 [.int .i64 y] rfl HSr.out b1 b2 b3 ?_; intro v5 w5 hown hfr hat; have HF5 : Hid (Fr No w w5) := hide ((HFx.out.alloc _).own hfr (fun g hg => .inl (HOx.out.lt g hg).1)); have HO5 : Hid (Own w5 w.heap.size 2 1 v5 (X + q + 1) (iz .i64 (xs ++ ys.take (q + 1)))) := hide (by rw [← HS.out]; exact hown); have HR5 := hide ((HRx.out.fr0 ((Fr.refl No wr).alloc (.cells #[.int .i64 y] 2))).off HOx'.out (by decide) (by decide) hfr); have HA5 := hide ((HAx.out.fr0 ((Fr.refl No wr).alloc (.cells #[.int .i64 y] 2))).fr hfr (fun k hk e => HAx.out.apart HOx.out (by decide) k hk e)); clear hown hfr hat))
                            go_roundw
                            case rel => exact ⟨q + 1, by omega, by go_num, HNv, by rw [← Nat.add_assoc]; exact HO5, HR5, HA5, HF5⟩
                            case measure => simp [intOf]; omega
                          · have hyv : wrap64 (IntKind.u64.wrap (IntKind.u64.wrap le + (x : Int))) = le + (x : Int) - 18446744073709551616 := by
                              rw [IntKind.wrap_u64, IntKind.wrap_u64]
                              unfold wrap64
                              omega
                            have hgt : le + (x : Int) - 18446744073709551616 < le := by omega
                            have HN := hide (b_bad HP.out (fun hok => hov (hok.2.2 x (by
                              rw [HX'.out]
                              have h2 : q < ab.length := by rw [← HAbn.out]; exact hqK
                              rw [List.getD_eq_getElem?_getD, List.getElem?_eq_getElem h2]
                              exact List.getElem_mem h2))))
                            obtain ⟨y, hy⟩ : ∃ y, y = le + (x : Int) - 18446744073709551616 := ⟨_, rfl⟩
                            rw [← hy] at hyv hgt
                            clear hy hov
                            go_wp2
                            go_ret3
                            exact HBad2.out _ _ rfl HFx.out HN
                        · obtain rfl : q = abn := by omega
                          have hok : blkOk le wb ab := ⟨HWd.out, HMin.out, fun u hu => by
                            obtain ⟨p, hp, rfl⟩ := List.getElem_of_mem hu
                            have h2 := HOv.out p (by rw [HAbn.out]; exact hp)
                            rwa [List.getD_eq_getElem?_getD, List.getElem?_eq_getElem hp] at h2⟩
                          have hbk : blkB t q = some (ys, j + 1 + sz) := by rw [b_some HP.out hok, HYs.out]
                          have hms : Mid b N (xs ++ ys) (a + (j + 1 + sz)) := by
                            rw [HK.out, HTd.out] at hbk
                            rw [show N - X = N - xs.length by rw [HX.out]] at hbk
                            exact (HMid.out.step (by rw [HX.out]; exact hlt) hbk).1
                          have HMs := hide hms
                          have HO6 := HOx.out
                          rw [List.take_of_length_le (Nat.le_of_eq HYl.out)] at HO6
                          have HO7 := hide HO6
                          have HR7 := HRx.out
                          rw [show a + j + 1 + sz = a + (j + 1 + sz) by omega] at HR7
                          have HR8 := hide HR7
                          clear hok hbk hms HO6 HR7
                          go_wp2
                          go_roundg (gk - q)
                          case measure => omega
                          case rel => exact ⟨xs ++ ys, X + q, a + (j + 1 + sz), by omega, hide (by rw [List.length_append, HX.out, HYl.out]), HR8, HMs, HO7, HFx⟩
                    · have hb4 : (minL (zN ab) != 0) = true := bne_iff_ne.2 (fun h => hmin (hm0.1 h))
                      have HN := hide (b_bad HP.out (fun hok => hmin hok.2.1))
                      clear hwd hmin hm0
                      generalize minL (zN ab) = mn at HMc hb4
                      go_wp2_with (fail)
                      go_quiet ((first
                        | (go_at_call 64; exact Calls.quiet_of_same (HErr.out _))
                        | (go_at_call 21; exact Calls.quiet_of_same (HWc.out _))
                        | (go_at_call 65; exact Calls.quiet_of_same (HMc.out _))))
                      go_wp2
                      go_ret3
                      exact HBB.out _ _ rfl (HF4.out.drewN _) HN
                  · have hb3 : (((wid ab : Nat) : Int) != (wb : Int)) = true := bne_iff_ne.2 (fun h => hwd (Int.ofNat_inj.1 h))
                    have HN := hide (b_bad HP.out (fun hok => hwd hok.1))
                    clear hwd hm0
                    generalize wid ab = wa at HWc hb3
                    go_wp2_with (fail)
                    go_quiet ((first
                      | (go_at_call 64; exact Calls.quiet_of_same (HErr.out _))
                      | (go_at_call 21; exact Calls.quiet_of_same (HWc.out _))))
                    go_wp2
                    go_ret3
                    exact HBB.out _ _ rfl (HF4.out.drewN _) HN
                · have hU : unbitsZ pb (wb : Nat) (K : Nat) = ([], 20) := by
                    unfold unbitsZ
                    rw [if_neg (by omega), Int.toNat_natCast, Int.toNat_natCast, if_pos (.inr (by rw [← HWk.out]; exact hlf))]
                  rw [HUb.out] at hU
                  simp only [Prod.mk.injEq] at hU
                  obtain ⟨habe, rfl⟩ := hU
                  have HN := hide (b_none (p_left HDec.out (by omega) (by rw [← HWB.out]; exact hw64) (by rw [← HWB.out, ← HSZ.out]; exact hsh) (by rw [← HWB.out, ← HSZ.out, ← hpb2, ← HWk.out]; exact hlf) : parseB t K = none))
                  have hb2 : ((20 : Int) != 0) = true := by decide
                  clear hpb hpb2 hpl hlf habe
                  go_wp2_with (fail)
                  go_quiet ((first | (go_at_call 64; exact Calls.quiet_of_same (HErr.out _))))
                  go_wp2
                  go_ret3
                  exact HBB.out _ _ rfl (HF4.out.drewN _) HN
              · have hb1 := bS_bad (t := b) (a := a + j + 1) (k := sz) (by have := HTl.out; omega) (by have := HTl.out; omega)
                rw [HBs.out] at hb1
                simp only [Prod.mk.injEq] at hb1
                obtain ⟨hpb, rfl, rfl⟩ := hb1
                have HN := hide (b_none (p_short HDec.out (by omega) (by rw [← HWB.out]; exact hw64) (by rw [← HWB.out, ← HSZ.out]; exact hsh) : parseB t K = none))
                have hb0 : ((20 : Int) != 0) = true := by decide
                clear hpb hsh
                go_wp2_with (fail)
                go_quiet ((first | (go_at_call 64; exact Calls.quiet_of_same (HErr.out _))))
                go_wp2
                go_ret3
                exact HBB.out _ _ rfl (HF4.out.drewN _) HN
          · have HN := hide (b_none (p_wide HDec.out hjt (by rw [← HWB.out]; exact hw64) : parseB t K = none))
            have hw65 : 64 < wb := by omega
            clear hw64 hj htl
            go_wp2_with (first
              | (go_at_call 62; refine HI1.out.mono ?_; clear HI1; rintro en1 w1 ⟨rfl, hs, hf⟩; have HS1 := hide hs; have HF1 := hide hf; have HB1 := hide (bytes_any g b (a + j) 0 1 w1 HS1.out); rw [show (1 : Int) = ((1 : Nat) : Int) from rfl, bS_ok (k := 1) (by have := HTl.out; omega), ← HDr.out, un_one hjt] at HB1; clear hs hf)
              | (go_at_call 63; refine HB1.out.mono ?_; clear HB1; rintro en1 w2 ⟨v2, rfl, hown, hs, hf⟩; have HO2 := hide hown; have HS2 := hide hs; have HF2 := hide (HF1.out.ts hf); have HEr := hide (err_any g b _ _ w2 hs); rw [show ([t.getD j 0] : List UInt8).length = 1 from rfl] at hown; obtain ⟨g2, c2, rfl, r1, r2, r3, r4⟩ := own_some hown (by omega); unfold maxLen at r2; have hw0 : w2.cell? ⟨g2, 0, none⟩ = some (.int .u8 (wb : Nat)) := (by obtain ⟨z1, _⟩ := hown.put (k := 0) (by omega); rw [z1]; simp [by8, HWB.out]); clear hown hs hf)
              | (go_at_call 64; refine HEr.out.mono ?_; rintro en1 wE ⟨rfl, rfl⟩))
            go_ret3
            exact HBB.out _ _ rfl HF2.out HN
        · have HN := hide (b_none (p_end HDec.out hjt : parseB t K = none))
          go_wp2_with (first
            | (go_at_call 62; refine HI1.out.mono ?_; clear HI1; rintro en1 w1 ⟨rfl, hs, hf⟩; have HS1 := hide hs; have HF1 := hide hf; have HB1 := hide (bytes_any g b (a + j) 0 1 w1 HS1.out); rw [show (1 : Int) = ((1 : Nat) : Int) from rfl, bS_bad (k := 1) (by omega) (by omega)] at HB1; clear hs hf)
            | (go_at_call 63; refine HB1.out.mono ?_; clear HB1; rintro en1 w2 ⟨v2, rfl, hown, hs, hf⟩; have HO2 := hide hown; have HS2 := hide hs; have HF2 := hide (HF1.out.ts hf); have HEr := hide (err_any g b _ _ w2 hs); obtain ⟨A2, c2, rfl, _⟩ := hown.form; clear hown hs hf)
            | (go_at_call 64; refine HEr.out.mono ?_; rintro en1 wE ⟨rfl, rfl⟩))
          go_ret3
          exact HBB.out _ _ rfl HF2.out HN
    · obtain rfl : X = N := by have := HMid.out.1; rw [HX.out] at this; omega
      have HD := hide (HMid.out.done HX.out hN)
      have hal : a ≤ b.length := HMid.out.2.2.1
      have HLe := hide (left_any g b a 0 wr HRD.out)
      have HCl := hide (clipI_any Al X cl wr ql1 HQl2.out)
      rw [HL.out] at HLe hal
      obtain ⟨z, hz⟩ : ∃ z, z = m - a := ⟨_, rfl⟩
      have hz2 : (m : Int) - (z : Int) = (a : Int) := by omega
      rw [← hz] at HLe
      clear hlt hz
      go_wp2_with (first
        | (go_at_call 66; refine HCl.out.mono ?_; rintro en1 w1 ⟨rfl, rfl⟩)
        | (go_at_call 67; refine HLe.out.mono ?_; rintro en1 w1 ⟨rfl, nq, rfl⟩))
      go_ret3
      refine ⟨.slice Al X X, ?_, ?_, HFr.out.drewN _⟩
      · rw [HRes.out, HD.out]
        rfl
      · rw [HRes.out, HD.out, HX.out]
        exact HOw.out.clip.fr0 ((Fr.refl No _).drewN _)
theorem get_any (A : Option Addr) (m c B : Nat) (ni : Int) (b : List UInt8) (w : World) (hl : b.length = m) (hm : m ≤ 140737488355328) (hn : m ≤ c) (hc : c ≤ maxLen) (hB : B ≤ w.heap.size) (hr : Rd w B A (by8 b)) :
    Calls Try.prog 32 #[.slice A m c, .int .i64 ni] w (GivesGetP (getZ b ni) w) := by
  by_cases h : ni < 0 ∨ 1048576 < ni
  · rw [getZ_arg b h]
    exact (get_arg A m c ni w h).mono fun e w' ⟨h1, h2⟩ => ⟨_, h1, Own.nil _ _ _ _, h2 ▸ Fr.refl _ _⟩
  · obtain ⟨N, rfl⟩ := Int.eq_ofNat_of_zero_le (a := ni) (by omega)
    exact get_in A m c B N b w hl hm hn hc (by omega) hB hr
end Go.Proofs.Ytpnhnnhocekchaa
