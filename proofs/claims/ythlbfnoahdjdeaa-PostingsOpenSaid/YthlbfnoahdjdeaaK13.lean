/- Several texts in one: GetW03, PoTk, PoOw, PoPp. -/
import Derived.Test.YthlbfnoahdjdeaaK12
import Derived.Deep.DeepCutAuto
import Derived.Deep.RegionHeld3
namespace Go.Proofs.Ythlbfnoahdjdeaa
set_option linter.unusedVariables false
set_option linter.unusedSimpArgs false
open Go.RowKit

theorem Try.infoI64g : (Try.prog.info? 2).map (fun i => (i.zero, i.size, i.bytes)) = some (some (.int .i64 0), 1, 8) := by kernel_rfl
/-- a row that was read, or refused. -/
def GivesGetP (r : List Int × Nat × Int) (w : World) (en : Ending) (w' : World) : Prop :=
  ∃ v, en = .returned (.tuple #[v, .int .i64 (r.2.1 : Nat), .int .i64 r.2.2]) ∧ Own w' w.heap.size 2 1 v r.1.length (iz .i64 r.1) ∧ Fr No w w'
theorem Own.offRD {w w' : World} {base e n g : Nat} {v : Value} {xs : List Value} {bs : List UInt8} {a : Nat} {er : Int} (h : Own w base e 1 v n xs) (r : RD w g bs a er) (hne : e ≠ 111) (f : Fr (Is g) w w') : Own w' base e 1 v n xs := by
  obtain ⟨_, _, hh, _⟩ := r
  refine h.fr f ?_
  rintro k hk rfl
  exact h.ne_blk hk hh hne
theorem RD.off {w w' : World} {g : Nat} {bs : List UInt8} {a : Nat} {e : Int} {b2 e2 n2 : Nat} {v2 : Value} {xs2 : List Value} (h : RD w g bs a e) (o : Own w b2 e2 1 v2 n2 xs2) (h1 : 5 ≠ e2) (h2 : e2 ≠ 111) (f : Fr (fun k => v2.ownBlock = some k) w w') : RD w' g bs a e := by
  obtain ⟨A, c, hh, q1, q2, q3, q4, ho⟩ := h
  exact ⟨A, c, f.blk hh (fun hk => o.ne_blk hk hh h2), q1, q2, q3, q4, ho.fr f (fun k hk e => ho.apart o h1 k hk e)⟩

set_option maxRecDepth 100000 in
set_option maxHeartbeats 400000 in
theorem get_arg (A : Option Addr) (m c : Nat) (ni : Int) (w : World) (h : ni < 0 ∨ 1048576 < ni) :
    Calls Try.prog 79 #[.slice A m c, .int .i64 ni] w (Ret (.tuple #[.slice none 0 0, .int .i64 0, .int .i64 1]) w) := by
  by_cases h1 : ni < 0
  · clear h
    go_enter Try.func79, Try.ntmps79
    go_wp2
    go_ret3
    exact ⟨rfl, rfl⟩
  · have h2 : 1048576 < ni := by omega
    clear h
    go_enter Try.func79, Try.ntmps79
    go_wp2
    go_ret3
    exact ⟨rfl, rfl⟩

set_option maxRecDepth 100000 in
set_option maxHeartbeats 4000000 in
theorem get_in (A : Option Addr) (m c B N : Nat) (b : List UInt8) (w : World) (hl : b.length = m) (hm : m ≤ 140737488355328) (hn : m ≤ c) (hc : c ≤ maxLen) (hN : N ≤ 1048576) (hB : B ≤ w.heap.size) (hr : Rd w B A (by8 b)) :
    Calls Try.prog 79 #[.slice A m c, .int .i64 (N : Nat)] w (GivesGetP (getZ b N) w) := by
  obtain ⟨i0, hi0, iz0, isz, iby⟩ := info_parts Try.infoI64g
  have HNew := hide (newReader_any A m c B b w hl hn hc hm hB hr)
  have HL := hide hl
  obtain ⟨res, hres⟩ : ∃ r, r = getZ b N := ⟨_, rfl⟩
  rw [← hres]
  have HRes := hide hres
  have hbad : ∀ en w', en = .returned (.tuple #[.slice none 0 0, .int .i64 0, .int .i64 20]) → Fr No w w' → Hid (getZ b N = ([], 0, 20)) → GivesGetP res w en w' := fun en w' h1 h2 h3 => by
    rw [HRes.out, h3.out]
    exact ⟨_, h1, Own.nil _ _ _ _, h2⟩
  have HBad := hide hbad
  unfold maxLen at hc
  clear hr hl hres hbad
  go_enter Try.func79, Try.ntmps79
  go_wp2_with (go_at_call 49; refine HNew.out.mono ?_; rintro en0 w0 ⟨g, rfl, hg, hrd, hfr⟩; have HRD0 := hide hrd; have HF0 := hide hfr; clear hrd hfr)
  go_loopg [7, 9, 10, 11, 12, 13, 15, 16] N (fun gk l s9 s10 s11 s12 s13 s15 s16 wr => ∃ (xs : List Int) (X a : Nat), X + gk = N ∧ Hid (xs.length = X) ∧ Hid (RD wr g b a 0) ∧ Hid (Mid b N xs a) ∧ Hid (Own wr w.heap.size 2 1 l X (iz .i64 xs)) ∧ Hid (Fr No w wr))
  case atStart => exact ⟨[], 0, 0, by omega, hide rfl, HRD0, hide (Mid.start b N), hide (Own.nil _ _ _ _), HF0⟩
  case round =>
    clear HRD0 HF0 HNew
    obtain ⟨xs, X, a, hX, HX, HRD, HMid, HOw, HFr⟩ := hrel
    obtain ⟨Al, cl, rfl, ql1, ql2, _⟩ := HOw.out.form
    have HQl2 := hide ql2
    unfold maxLen at ql2
    by_cases hlt : X < N
    · obtain ⟨K, hK⟩ : ∃ K, K = min (N - X) 128 := ⟨_, rfl⟩
      have hK1 : 1 ≤ K ∧ K ≤ 128 ∧ X + K ≤ N := by omega
      have HK := hide hK
      obtain ⟨d, hd⟩ : ∃ d, d = N - X := ⟨_, rfl⟩
      have e1 : (N : Int) - (X : Int) = (d : Int) := by omega
      have em : (if (128 : Int) < (d : Int) then (128 : Int) else (d : Int)) = (K : Int) := by split <;> omega
      clear hK hd
      obtain ⟨t, ht⟩ : ∃ t, t = b.drop a := ⟨_, rfl⟩
      have hal : a ≤ b.length := HMid.out.2.2.1
      have htl : t.length + a = b.length := by rw [ht, List.length_drop]; omega
      have HTd := hide ht
      have HTl := hide htl
      have HDr0 := hide (fun q => (show t.drop q = b.drop (a + q) by rw [ht, List.drop_drop]))
      have hbb : ∀ en w', en = .returned (.tuple #[.slice none 0 0, .int .i64 0, .int .i64 20]) → Fr (Is g) wr w' → Hid (blkB t K = none) → GivesGetP res w en w' := fun en w' h1 h2 h3 => by
        refine HBad.out en w' h1 (HFr.out.own1 h2 hg) (hide ?_)
        refine HMid.out.bad (by rw [HX.out]; exact hlt) ?_ hN
        rw [HX.out, ← HK.out, ← HTd.out]
        exact h3.out
      have HBB := hide hbb
      have HBad2 : Hid (∀ en w', en = .returned (.tuple #[.slice none 0 0, .int .i64 0, .int .i64 20]) → Fr No w w' → Hid (blkB t K = none) → GivesGetP res w en w') := hide (fun en w' h1 h2 h3 => by
        refine HBad.out en w' h1 h2 (hide ?_)
        refine HMid.out.bad (by rw [HX.out]; exact hlt) ?_ hN
        rw [HX.out, ← HK.out, ← HTd.out]
        exact h3.out)
      have HI1 := hide (int_any g b a 0 wr HRD.out)
      clear hbb HRes ht
      cases hd : dec 0 0 t with
      | none =>
        rw [uintR_none (bs := b) (a := a) (by rw [← HTd.out]; exact hd)] at HI1
        have HN := hide (b_none (k := K) (p_none hd))
        clear hd htl
        go_wp2_with (first
          | (go_at_call 95; refine HI1.out.mono ?_; clear HI1; rintro en1 w1 ⟨rfl, hs, hf⟩; have HS1 := hide hs; have HF1 := hide hf; have HB1 := hide (bytes_any g b a 20 1 w1 HS1.out); rw [bS_off b a 20 1 (by decide)] at HB1; clear hs hf)
          | (go_at_call 51; refine HB1.out.mono ?_; clear HB1; rintro en1 w2 ⟨v2, rfl, hown, hs, hf⟩; have HO2 := hide hown; have HS2 := hide hs; have HF2 := hide (HF1.out.ts hf); have HEr := hide (err_any g b _ _ w2 hs); obtain ⟨A2, c2, rfl, _⟩ := hown.form; clear hown hs hf)
          | (go_at_call 53; refine HEr.out.mono ?_; rintro en1 wE ⟨rfl, rfl⟩))
        go_ret3
        exact HBB.out _ _ rfl HF2.out HN
      | some uj =>
        obtain ⟨u, j⟩ := uj
        have hj := dec_le _ _ _ _ _ hd
        rw [uintR_some (bs := b) (a := a) (by rw [← HTd.out]; exact hd)] at HI1
        have HDec := hide hd
        have HDr := hide (HDr0.out j)
        clear hd
        by_cases hjt : j < t.length
        · obtain ⟨wb, hwb⟩ : ∃ x, x = (t.getD j 0).toNat := ⟨_, rfl⟩
          have hwb256 : wb < 256 := by rw [hwb]; exact (t.getD j 0).toNat_lt
          have HWB := hide hwb
          clear hwb
          by_cases hw64 : wb ≤ 64
          · obtain ⟨sz, hsz⟩ : ∃ s, s = psz wb K := ⟨_, rfl⟩
            have hszb : sz ≤ 1025 := by rw [hsz]; have := psz_le (n := K) hw64; omega
            have hwk : wb * K ≤ 8192 := Nat.le_trans (Nat.mul_le_mul hw64 hK1.2.1) (by decide)
            have HSz := hide (fun w => size_any wb K w (by omega))
            rw [← hsz] at HSz
            have HSZ := hide hsz
            clear hsz
            obtain ⟨wk, hwkk⟩ : ∃ x, x = wb * K := ⟨_, rfl⟩
            rw [← hwkk] at hwk
            have HWk := hide hwkk
            clear hwkk
            obtain ⟨pb, pl, er, hbs⟩ : ∃ pb pl er, bytesS b (a + j + 1) 0 (sz : Nat) = (pb, pl, er) := ⟨_, _, _, rfl⟩
            have HBs := hide hbs
            obtain ⟨ab, ue, hub⟩ : ∃ ab ue, unbitsZ pb (wb : Nat) (K : Nat) = (ab, ue) := ⟨_, _, rfl⟩
            have HUb := hide hub
            clear hbs hub hj htl
            obtain ⟨pbn, hpbn⟩ : ∃ x, x = pb.length := ⟨_, rfl⟩
            have HPbn := hide hpbn
            obtain ⟨abn, habn⟩ : ∃ x, x = ab.length := ⟨_, rfl⟩
            have HAbn := hide habn
            clear hpbn habn
            obtain ⟨wz, hwz⟩ : ∃ x : World, x = wr := ⟨_, rfl⟩
            have HWz := hide hwz
            rw [← hwz] at HOw HFr HBB HRD HI1
            rw [← hwz]
            clear hwz HWz
            go_upto_region 11 with (first
              | (go_at_call 95; refine HI1.out.mono ?_; clear HI1; rintro en1 w1 ⟨rfl, hs, hf⟩; have HS1 := hide hs; have HF1 := hide hf; have HB1 := hide (bytes_any g b (a + j) 0 1 w1 HS1.out); rw [show (1 : Int) = ((1 : Nat) : Int) from rfl, bS_ok (k := 1) (by have := HTl.out; omega), ← HDr.out, un_one hjt] at HB1; clear hs hf)
              | (go_at_call 51; refine HB1.out.mono ?_; clear HB1; rintro en1 w2 ⟨v2, rfl, hown, hs, hf⟩; have HO2 := hide hown; have HS2 := hide hs; have HF2 := hide (HF1.out.ts hf); have HEr := hide (err_any g b _ _ w2 hs); rw [show ([t.getD j 0] : List UInt8).length = 1 from rfl] at hown; obtain ⟨g2, c2, rfl, r1, r2, r3, r4⟩ := own_some hown (by omega); unfold maxLen at r2; have hw0 : w2.cell? ⟨g2, 0, none⟩ = some (.int .u8 (wb : Nat)) := (by obtain ⟨z1, _⟩ := hown.put (k := 0) (by omega); rw [z1]; simp [by8, HWB.out]); clear hown hs hf)
              | (go_at_call 53; refine HEr.out.mono ?_; rintro en1 wE ⟨rfl, rfl⟩))
            go_cut [12, 13] from 25 to 103 (fun s e wx => ∃ A4 c4, s = .slice A4 abn c4 ∧ abn ≤ c4 ∧ c4 ≤ maxLen ∧ e = .int .i64 ue ∧ Hid (Own wx wz.heap.size 72 1 (.slice A4 abn c4) abn (nz ab)) ∧ Hid (RD wx g b pl er) ∧ Hid (Fr (Is g) wz wx) ∧ wx.cell? ⟨g2, 0, none⟩ = some (.int .u8 (wb : Nat)))
            case first =>
              have HB2 := hide (fun W (h : RD W g b (a + j + 1) 0) => bytes_any g b (a + j + 1) 0 (sz : Nat) W h)
              rw [HBs.out] at HB2
              have hg2g : g2 ≠ g := by
                have := HS1.out.lt
                omega
              have HG2 := hide hg2g
              have hw0d : w2.drew.cell? ⟨g2, 0, none⟩ = some (.int .u8 (wb : Nat)) := hw0
              have hwr : IntKind.i64.wrap (wb : Int) = (wb : Int) := IntWalk.i64_in _ (by omega)
              have hwr2 : wrap64 (wb : Int) = (wb : Int) := IntWalk.wrap64_in _ (by omega)
              clear hg2g
              go_region_held3 (fun W => W.cell? ⟨g2, 0, none⟩ = some (.int .u8 (wb : Nat))) (first | exact hw4 | exact hw3 | exact hw0d | exact hw0) (first
                | (go_at_call 97; refine (HSz.out _).mono ?_; rintro en1 wS ⟨rfl, rfl⟩)
                | (go_at_call 51; refine (HB2.out w2.drew HS2.out).mono ?_; rintro en1 w3 ⟨v3, rfl, hown, hs, hf⟩; rw [← HPbn.out] at hown; have HS3 := hide hs; have HF3 : Hid (Fr (Is g) wz w3) := hide (HF2.out.drew.ts hf); obtain ⟨A3, c3, rfl, s1, s2, _⟩ := hown.form; have HUn := hide (unb_any A3 pbn c3 w3.heap.size (wb : Nat) (K : Nat) pb w3 HPbn.out.symm s1 s2 (Nat.le_refl _) hown.rd); rw [HUb.out] at HUn; have hw3 : w3.cell? ⟨g2, 0, none⟩ = some (.int .u8 (wb : Nat)) := hf.cell (p := ⟨g2, 0, none⟩) hw0d (fun e => HG2.out e); clear hown hs hf)
                | (go_at_call 96; refine HUn.out.mono ?_; rintro en1 w4 ⟨v4, rfl, hown, hf⟩; rw [← HAbn.out] at hown; obtain ⟨A4, c4, rfl, z1, z2, _⟩ := hown.form; have HA4 := hide (hown.lower HF3.out.size); have HS4 := hide (HS3.out.fr0 hf); have HF4 := hide (HF3.out.tr hf); have hw4 : w4.cell? ⟨g2, 0, none⟩ = some (.int .u8 (wb : Nat)) := hf.cell (p := ⟨g2, 0, none⟩) hw3 (fun h => h); clear hown hf))
              go_wp2
              go_meet
              case rel => exact ⟨A4, c4, rfl, z1, z2, rfl, HA4, HS4, HF4, hw4⟩
            case rest =>
              obtain ⟨A4, c4, rfl, z1, z2, rfl, HA4, HS4, HF4, hw4⟩ := hcut
              clear hw0 HEr
              have HQz2 := hide z2
              unfold maxLen at z2
              have hle := unzz_bd (dec_lt _ 0 0 u j (by decide) HDec.out)
              obtain ⟨le, hlee⟩ : ∃ x, x = unzz u := ⟨_, rfl⟩
              rw [← hlee] at hle
              rw [← hlee]
              have HLee := hide hlee
              clear hlee
              have HErr : Hid (∀ nq, Calls Try.prog 53 #[.pointer (some ⟨g, 0, none⟩)] (wc.drewN nq) (fun e w' => e = .returned (.int .i64 er) ∧ w' = wc.drewN nq)) := hide (fun nq => (err_any g b pl er (wc.drewN nq) (HS4.out.drewN nq)).mono fun _ _ ⟨p, q⟩ => ⟨p, q.symm⟩)
              have hbl : b.length = m := HL.out
              by_cases hsh : j + 1 + sz ≤ t.length
              · have hb1 := bS_ok (t := b) (a := a + j + 1) (k := sz) (by have := HTl.out; omega)
                rw [HBs.out] at hb1
                simp only [Prod.mk.injEq] at hb1
                obtain ⟨hpb, rfl, rfl⟩ := hb1
                have hpb2 : pb = (t.drop (j + 1)).take sz := by rw [HDr0.out, hpb, Nat.add_assoc]
                have hpl : pb.length = psz wb K := by rw [hpb2, List.length_take, List.length_drop, ← HSZ.out]; omega
                have hb0 : ((0 : Int) != 0) = false := rfl
                by_cases hlf : leftN pb wk = 0
                · have hU : unbitsZ pb (wb : Nat) (K : Nat) = (unpacked wb K pb, 0) := by
                    unfold unbitsZ
                    rw [if_neg (by omega), Int.toNat_natCast, Int.toNat_natCast, if_neg (by rw [← HWk.out]; exact fun h => h.elim (fun h => h hpl) (fun h => h hlf))]
                  rw [HUb.out] at hU
                  simp only [Prod.mk.injEq] at hU
                  obtain ⟨habe, rfl⟩ := hU
                  have hp := p_some (k := K) HDec.out (by omega) (by rw [← HWB.out]; exact hw64) (by rw [← HWB.out, ← HSZ.out]; exact hsh) (by rw [← HWB.out, ← HSZ.out, ← hpb2, ← HWk.out]; exact hlf)
                  rw [← HWB.out, ← HSZ.out, ← hpb2, ← habe, ← HLee.out] at hp
                  have habK : abn = K := by rw [HAbn.out, habe, unpacked_len]
                  have h64 : In64 ab := by rw [habe]; exact unpacked_64 hw64
                  subst habK
                  have HP := hide hp
                  have H64 := hide h64
                  have HWc : Hid (∀ nq, Calls Try.prog 89 #[.slice A4 abn c4] (wc.drewN nq) (fun e w' => e = .returned (.int .i64 (wid ab : Nat)) ∧ w' = wc.drewN nq)) := hide (fun nq => (width_any A4 abn c4 _ ab (wc.drewN nq) HAbn.out.symm h64 z1 HQz2.out (HA4.out.rd.fr0 ((Fr.refl No wc).drewN nq))).mono fun _ _ ⟨p, q⟩ => ⟨p, q.symm⟩)
                  have HMc : Hid (∀ nq, Calls Try.prog 98 #[.slice A4 abn c4] (wc.drewN nq) (fun e w' => e = .returned (.int .u64 (minL (zN ab))) ∧ w' = wc.drewN nq)) := hide (fun nq => (minU_any A4 abn c4 _ (zN ab) (wc.drewN nq) (by rw [zN_len]; exact HAbn.out.symm) hK1.1 z1 HQz2.out (HA4.out.rd.fr0 ((Fr.refl No wc).drewN nq))).mono fun _ _ ⟨p, q⟩ => ⟨p, q.symm⟩)
                  have hwr : IntKind.i64.wrap (wb : Int) = (wb : Int) := IntWalk.i64_in _ (by omega)
                  have hwr2 : wrap64 (wb : Int) = (wb : Int) := IntWalk.wrap64_in _ (by omega)
                  have hne : ab ≠ [] := fun e => by have := HAbn.out; rw [e] at this; simp at this; omega
                  have hm0 := minN_0 hne
                  have HNe := hide hne
                  clear hpb hpb2 hpl hlf habe hp h64 hne
                  by_cases hwd : wid ab = wb
                  · rw [hwd] at HWc
                    have hb3 : ((wb : Int) != (wb : Int)) = false := by simp
                    by_cases hmin : 0 ∈ ab
                    · rw [hm0.2 hmin] at HMc
                      have HWd := hide hwd
                      have HMin := hide hmin
                      clear hwd hmin hm0
                      go_wp2_with (fail)
                      go_quiet ((first
                        | (go_at_call 53; exact Calls.quiet_of_same (HErr.out _))
                        | (go_at_call 89; exact Calls.quiet_of_same (HWc.out _))
                        | (go_at_call 98; exact Calls.quiet_of_same (HMc.out _))))
                      go_wp2
                      obtain ⟨ys, hys⟩ : ∃ x, x = ab.map (fun (u : Nat) => le + (u : Int)) := ⟨_, rfl⟩
                      have hyl : ys.length = abn := by rw [hys, List.length_map]; exact HAbn.out.symm
                      have hst : ∀ q (h : q < abn), iz .i64 (xs ++ ys.take q) ++ [.int .i64 (le + ((ab.getD q 0 : Nat) : Int))] = iz .i64 (xs ++ ys.take (q + 1)) := fun q h => by
                        have h1 : q < ys.length := by rw [hyl]; exact h
                        have h2 : q < ab.length := by rw [← HAbn.out]; exact h
                        rw [take_snoc_int h1, iz_append, iz_append, iz_append, List.append_assoc]
                        congr 2
                        simp [iz, hys, List.getElem?_eq_getElem h2]
                      have HYs := hide hys
                      have HYl := hide hyl
                      have HSt := hide hst
                      clear hys hyl hst
                      have HWq := hide (HFr.out.own1 (HF4.out.drewN nq) hg)
                      go_loopw [7, 15, 16, 87] (fun l uu x i wx => ∃ q : Nat, q ≤ abn ∧ i = .int .i64 q ∧ Hid (∀ p, p < q → le + ((ab.getD p 0 : Nat) : Int) ≤ 9223372036854775807) ∧ Hid (Own wx w.heap.size 2 1 l (X + q) (iz .i64 (xs ++ ys.take q))) ∧ Hid (RD wx g b (a + j + 1 + sz) 0) ∧ Hid (Own wx wz.heap.size 72 1 (.slice A4 abn c4) abn (nz ab)) ∧ Hid (Fr No w wx)) (fun _ _ _ i _ => abn - (intOf i).toNat)
                      case atStart =>
                        refine ⟨0, by omega, rfl, hide (fun p h => by omega), hide ?_, hide (HS4.out.drewN nq), hide (HA4.out.fr0 ((Fr.refl No wc).drewN nq)), HWq⟩
                        rw [List.take_zero, List.append_nil]
                        exact (HOw.out.offRD HRD.out (by decide) HF4.out).fr0 ((Fr.refl No wc).drewN nq)
                      case round =>
                        obtain ⟨q, hq, rfl, HOv, HOx, HRx, HAx, HFx⟩ := hrel
                        by_cases hqK : q < abn
                        · obtain ⟨ad4, rfl, _, hcx⟩ := HAx.out.rd.natAt (j := q) (by rw [← HAbn.out]; exact hqK)
                          have hx64 := H64.out.at q
                          have HS := hide (HSt.out q hqK)
                          have HBd := hide (fun (h : ab.getD q 0 ≤ 0 ∨ True) => h)
                          obtain ⟨x, hx⟩ : ∃ x, x = ab.getD q 0 := ⟨_, rfl⟩
                          rw [← hx] at hcx hx64 HS
                          have HX' := hide hx
                          clear hx
                          by_cases hov : le + (x : Int) ≤ 9223372036854775807
                          · have hyv : wrap64 (IntKind.u64.wrap (IntKind.u64.wrap le + (x : Int))) = le + (x : Int) := by
                              rw [IntKind.wrap_u64, IntKind.wrap_u64]
                              unfold wrap64
                              omega
                            have hge : le ≤ le + (x : Int) := by omega
                            have HNv : Hid (∀ p, p < q + 1 → le + ((ab.getD p 0 : Nat) : Int) ≤ 9223372036854775807) := hide (fun p h => by
                              by_cases e : p = q
                              · rw [e, ← HX'.out]; exact hov
                              · exact HOv.out p (by omega))
                            obtain ⟨y, hy⟩ : ∃ y, y = le + (x : Int) := ⟨_, rfl⟩
                            rw [← hy] at hyv hge HS
                            clear hy hov
                            have hgx := HFx.out.size
                            have HSr := hide (Src.one (P := Try.prog) wr (e := 2) Try.underlying79 (.int .i64 y) rfl)
                            have HOx' := hide (HOx.out.fr0 ((Fr.refl No wr).alloc (.cells #[.int .i64 y] 2)))
                            have b1 : (X + q + 1) * 8 ≤ 140737488355328 := by omega
                            have b2 : X + q + 1 ≤ maxLen := by unfold maxLen; omega
                            have b3 : w.heap.size ≤ (wr.alloc (.cells #[.int .i64 y] 2)).heap.size := by simp; omega
                            go_wp2_with (first
                              | (at_builtin; refine wpList_append_gen _ rfl (.tmp 99) (.tmp 101) 79 79 rfl w.heap.size 2 i0 (.int .i64 0) 1 8 Try.underlying79 hi0 iz0 isz iby rfl u7 (X + q) (iz .i64 (xs ++ ys.take q)) rfl HOx'.out _ 1 [.int .i64 y] rfl HSr.out b1 b2 b3 ?_; intro v5 w5 hown hfr hat; have HF5 : Hid (Fr No w w5) := hide ((HFx.out.alloc _).own hfr (fun g hg => .inl (HOx.out.lt g hg).1)); have HO5 : Hid (Own w5 w.heap.size 2 1 v5 (X + q + 1) (iz .i64 (xs ++ ys.take (q + 1)))) := hide (by rw [← HS.out]; exact hown); have HR5 := hide ((HRx.out.fr0 ((Fr.refl No wr).alloc (.cells #[.int .i64 y] 2))).off HOx'.out (by decide) (by decide) hfr); have HA5 := hide ((HAx.out.fr0 ((Fr.refl No wr).alloc (.cells #[.int .i64 y] 2))).fr hfr (fun k hk e => HAx.out.apart HOx.out (by decide) k hk e)); clear hown hfr hat))
                            go_roundw
                            case rel => exact ⟨q + 1, by omega, by go_num, HNv, by rw [← Nat.add_assoc]; exact HO5, HR5, HA5, HF5⟩
                            case measure => simp [intOf]; omega
                          · have hyv : wrap64 (IntKind.u64.wrap (IntKind.u64.wrap le + (x : Int))) = le + (x : Int) - 18446744073709551616 := by
                              rw [IntKind.wrap_u64, IntKind.wrap_u64]
                              unfold wrap64
                              omega
                            have hgt : le + (x : Int) - 18446744073709551616 < le := by omega
                            have HN := hide (b_bad HP.out (fun hok => hov (hok.2.2 x (by
                              rw [HX'.out]
                              have h2 : q < ab.length := by rw [← HAbn.out]; exact hqK
                              rw [List.getD_eq_getElem?_getD, List.getElem?_eq_getElem h2]
                              exact List.getElem_mem h2))))
                            obtain ⟨y, hy⟩ : ∃ y, y = le + (x : Int) - 18446744073709551616 := ⟨_, rfl⟩
                            rw [← hy] at hyv hgt
                            clear hy hov
                            go_wp2
                            go_ret3
                            exact HBad2.out _ _ rfl HFx.out HN
                        · obtain rfl : q = abn := by omega
                          have hok : blkOk le wb ab := ⟨HWd.out, HMin.out, fun u hu => by
                            obtain ⟨p, hp, rfl⟩ := List.getElem_of_mem hu
                            have h2 := HOv.out p (by rw [HAbn.out]; exact hp)
                            rwa [List.getD_eq_getElem?_getD, List.getElem?_eq_getElem hp] at h2⟩
                          have hbk : blkB t q = some (ys, j + 1 + sz) := by rw [b_some HP.out hok, HYs.out]
                          have hms : Mid b N (xs ++ ys) (a + (j + 1 + sz)) := by
                            rw [HK.out, HTd.out] at hbk
                            rw [show N - X = N - xs.length by rw [HX.out]] at hbk
                            exact (HMid.out.step (by rw [HX.out]; exact hlt) hbk).1
                          have HMs := hide hms
                          have HO6 := HOx.out
                          rw [List.take_of_length_le (Nat.le_of_eq HYl.out)] at HO6
                          have HO7 := hide HO6
                          have HR7 := HRx.out
                          rw [show a + j + 1 + sz = a + (j + 1 + sz) by omega] at HR7
                          have HR8 := hide HR7
                          clear hok hbk hms HO6 HR7
                          go_wp2
                          go_roundg (gk - q)
                          case measure => omega
                          case rel => exact ⟨xs ++ ys, X + q, a + (j + 1 + sz), by omega, hide (by rw [List.length_append, HX.out, HYl.out]), HR8, HMs, HO7, HFx⟩
                    · have hb4 : (minL (zN ab) != 0) = true := bne_iff_ne.2 (fun h => hmin (hm0.1 h))
                      have HN := hide (b_bad HP.out (fun hok => hmin hok.2.1))
                      clear hwd hmin hm0
                      generalize minL (zN ab) = mn at HMc hb4
                      go_wp2_with (fail)
                      go_quiet ((first
                        | (go_at_call 53; exact Calls.quiet_of_same (HErr.out _))
                        | (go_at_call 89; exact Calls.quiet_of_same (HWc.out _))
                        | (go_at_call 98; exact Calls.quiet_of_same (HMc.out _))))
                      go_wp2
                      go_ret3
                      exact HBB.out _ _ rfl (HF4.out.drewN _) HN
                  · have hb3 : (((wid ab : Nat) : Int) != (wb : Int)) = true := bne_iff_ne.2 (fun h => hwd (Int.ofNat_inj.1 h))
                    have HN := hide (b_bad HP.out (fun hok => hwd hok.1))
                    clear hwd hm0
                    generalize wid ab = wa at HWc hb3
                    go_wp2_with (fail)
                    go_quiet ((first
                      | (go_at_call 53; exact Calls.quiet_of_same (HErr.out _))
                      | (go_at_call 89; exact Calls.quiet_of_same (HWc.out _))))
                    go_wp2
                    go_ret3
                    exact HBB.out _ _ rfl (HF4.out.drewN _) HN
                · have hU : unbitsZ pb (wb : Nat) (K : Nat) = ([], 20) := by
                    unfold unbitsZ
                    rw [if_neg (by omega), Int.toNat_natCast, Int.toNat_natCast, if_pos (.inr (by rw [← HWk.out]; exact hlf))]
                  rw [HUb.out] at hU
                  simp only [Prod.mk.injEq] at hU
                  obtain ⟨habe, rfl⟩ := hU
                  have HN := hide (b_none (p_left HDec.out (by omega) (by rw [← HWB.out]; exact hw64) (by rw [← HWB.out, ← HSZ.out]; exact hsh) (by rw [← HWB.out, ← HSZ.out, ← hpb2, ← HWk.out]; exact hlf) : parseB t K = none))
                  have hb2 : ((20 : Int) != 0) = true := by decide
                  clear hpb hpb2 hpl hlf habe
                  go_wp2_with (fail)
                  go_quiet ((first | (go_at_call 53; exact Calls.quiet_of_same (HErr.out _))))
                  go_wp2
                  go_ret3
                  exact HBB.out _ _ rfl (HF4.out.drewN _) HN
              · have hb1 := bS_bad (t := b) (a := a + j + 1) (k := sz) (by have := HTl.out; omega) (by have := HTl.out; omega)
                rw [HBs.out] at hb1
                simp only [Prod.mk.injEq] at hb1
                obtain ⟨hpb, rfl, rfl⟩ := hb1
                have HN := hide (b_none (p_short HDec.out (by omega) (by rw [← HWB.out]; exact hw64) (by rw [← HWB.out, ← HSZ.out]; exact hsh) : parseB t K = none))
                have hb0 : ((20 : Int) != 0) = true := by decide
                clear hpb hsh
                go_wp2_with (fail)
                go_quiet ((first | (go_at_call 53; exact Calls.quiet_of_same (HErr.out _))))
                go_wp2
                go_ret3
                exact HBB.out _ _ rfl (HF4.out.drewN _) HN
          · have HN := hide (b_none (p_wide HDec.out hjt (by rw [← HWB.out]; exact hw64) : parseB t K = none))
            have hw65 : 64 < wb := by omega
            clear hw64 hj htl
            go_wp2_with (first
              | (go_at_call 95; refine HI1.out.mono ?_; clear HI1; rintro en1 w1 ⟨rfl, hs, hf⟩; have HS1 := hide hs; have HF1 := hide hf; have HB1 := hide (bytes_any g b (a + j) 0 1 w1 HS1.out); rw [show (1 : Int) = ((1 : Nat) : Int) from rfl, bS_ok (k := 1) (by have := HTl.out; omega), ← HDr.out, un_one hjt] at HB1; clear hs hf)
              | (go_at_call 51; refine HB1.out.mono ?_; clear HB1; rintro en1 w2 ⟨v2, rfl, hown, hs, hf⟩; have HO2 := hide hown; have HS2 := hide hs; have HF2 := hide (HF1.out.ts hf); have HEr := hide (err_any g b _ _ w2 hs); rw [show ([t.getD j 0] : List UInt8).length = 1 from rfl] at hown; obtain ⟨g2, c2, rfl, r1, r2, r3, r4⟩ := own_some hown (by omega); unfold maxLen at r2; have hw0 : w2.cell? ⟨g2, 0, none⟩ = some (.int .u8 (wb : Nat)) := (by obtain ⟨z1, _⟩ := hown.put (k := 0) (by omega); rw [z1]; simp [by8, HWB.out]); clear hown hs hf)
              | (go_at_call 53; refine HEr.out.mono ?_; rintro en1 wE ⟨rfl, rfl⟩))
            go_ret3
            exact HBB.out _ _ rfl HF2.out HN
        · have HN := hide (b_none (p_end HDec.out hjt : parseB t K = none))
          go_wp2_with (first
            | (go_at_call 95; refine HI1.out.mono ?_; clear HI1; rintro en1 w1 ⟨rfl, hs, hf⟩; have HS1 := hide hs; have HF1 := hide hf; have HB1 := hide (bytes_any g b (a + j) 0 1 w1 HS1.out); rw [show (1 : Int) = ((1 : Nat) : Int) from rfl, bS_bad (k := 1) (by omega) (by omega)] at HB1; clear hs hf)
            | (go_at_call 51; refine HB1.out.mono ?_; clear HB1; rintro en1 w2 ⟨v2, rfl, hown, hs, hf⟩; have HO2 := hide hown; have HS2 := hide hs; have HF2 := hide (HF1.out.ts hf); have HEr := hide (err_any g b _ _ w2 hs); obtain ⟨A2, c2, rfl, _⟩ := hown.form; clear hown hs hf)
            | (go_at_call 53; refine HEr.out.mono ?_; rintro en1 wE ⟨rfl, rfl⟩))
          go_ret3
          exact HBB.out _ _ rfl HF2.out HN
    · obtain rfl : X = N := by have := HMid.out.1; rw [HX.out] at this; omega
      have HD := hide (HMid.out.done HX.out hN)
      have hal : a ≤ b.length := HMid.out.2.2.1
      have HLe := hide (left_any g b a 0 wr HRD.out)
      have HCl := hide (clipI_any Al X cl wr ql1 HQl2.out)
      rw [HL.out] at HLe hal
      obtain ⟨z, hz⟩ : ∃ z, z = m - a := ⟨_, rfl⟩
      have hz2 : (m : Int) - (z : Int) = (a : Int) := by omega
      rw [← hz] at HLe
      clear hlt hz
      go_wp2_with (first
        | (go_at_call 99; refine HCl.out.mono ?_; rintro en1 w1 ⟨rfl, rfl⟩)
        | (go_at_call 81; refine HLe.out.mono ?_; rintro en1 w1 ⟨rfl, nq, rfl⟩))
      go_ret3
      refine ⟨.slice Al X X, ?_, ?_, HFr.out.drewN _⟩
      · rw [HRes.out, HD.out]
        rfl
      · rw [HRes.out, HD.out, HX.out]
        exact HOw.out.clip.fr0 ((Fr.refl No _).drewN _)
theorem get_any (A : Option Addr) (m c B : Nat) (ni : Int) (b : List UInt8) (w : World) (hl : b.length = m) (hm : m ≤ 140737488355328) (hn : m ≤ c) (hc : c ≤ maxLen) (hB : B ≤ w.heap.size) (hr : Rd w B A (by8 b)) :
    Calls Try.prog 79 #[.slice A m c, .int .i64 ni] w (GivesGetP (getZ b ni) w) := by
  by_cases h : ni < 0 ∨ 1048576 < ni
  · rw [getZ_arg b h]
    exact (get_arg A m c ni w h).mono fun e w' ⟨h1, h2⟩ => ⟨_, h1, Own.nil _ _ _ _, h2 ▸ Fr.refl _ _⟩
  · obtain ⟨N, rfl⟩ := Int.eq_ofNat_of_zero_le (a := ni) (by omega)
    exact get_in A m c B N b w hl hm hn hc (by omega) hB hr
end Go.Proofs.Ythlbfnoahdjdeaa
namespace Go.Proofs.Ythlbfnoahdjdeaa
set_option linter.unusedVariables false
set_option linter.unusedSimpArgs false
open Go.RowKit

def takeZ (b : List UInt8) (n : Int) : List Int × List UInt8 := if (getZ b n).2.2 = 0 then ((getZ b n).1, b.drop (getZ b n).2.1) else ([], [])
theorem takeZ_put {l : List Int} (hl : l.length ≤ 1048576) (hi : InI l) (rest : List UInt8) : takeZ (putR l ++ rest) l.length = (l, rest) := by
  unfold takeZ
  rw [getZ_put hl hi rest, if_pos rfl, List.drop_left]
theorem takeZ_in (b : List UInt8) (n : Int) : InI (takeZ b n).1 := by
  unfold takeZ
  split
  · rename_i h
    rcases getZ_cases b n with ⟨h1, _⟩ | ⟨_, _, _, h4, _⟩
    · exact absurd h h1
    · exact h4
  · exact fun x hx => nomatch hx
theorem takeZ_len (b : List UInt8) (n : Int) : (takeZ b n).1 = [] ∨ ((takeZ b n).1.length : Int) = n ∧ 0 ≤ n ∧ n ≤ 1048576 := by
  unfold takeZ
  split
  · rename_i h
    rcases getZ_cases b n with ⟨h1, _⟩ | ⟨_, h2, h3, _⟩
    · exact absurd h h1
    · exact .inr ⟨h3, by omega, by omega⟩
  · exact .inl rfl
theorem takeZ_le (b : List UInt8) (n : Int) : (takeZ b n).2.length ≤ b.length := by
  unfold takeZ
  split
  · dsimp only; rw [List.length_drop]; omega
  · simp
/-- bytes in a box. -/
structure BxB (w : World) (B g : Nat) (b : List UInt8) : Prop where
  ex : ∃ A m c, w.heap[g]? = some (.cells #[.slice A m c] 25 (0, 0)) ∧ b.length = m ∧ m ≤ c ∧ c ≤ maxLen ∧ m ≤ 140737488355328 ∧ Rd w B A (by8 b)
  lo : B ≤ g
theorem BxB.off {S : Nat → Prop} {w w' : World} {B g : Nat} {b : List UInt8} (h : BxB w B g b) (f : Fr S w w') (hg : ¬ S g) (hB : ∀ k, k < B → ¬ S k) : BxB w' B g b := by
  obtain ⟨A, m, c, h1, h2, h3, h4, h5, h6⟩ := h.ex
  exact ⟨⟨A, m, c, f.blk h1 hg, h2, h3, h4, h5, h6.fr f hB⟩, h.lo⟩
theorem BxB.fr0 {w w' : World} {B g : Nat} {b : List UInt8} (h : BxB w B g b) (f : Fr No w w') : BxB w' B g b := h.off f (fun h => h) (fun _ _ h => h)
def TakeQ (w : World) (B g : Nat) (b : List UInt8) (n : Int) (en : Ending) (w' : World) : Prop :=
  ∃ v, en = .returned v ∧ Own w' w.heap.size 2 1 v (takeZ b n).1.length (iz .i64 (takeZ b n).1) ∧ BxB w' B g (takeZ b n).2 ∧ Fr (Is g) w w'

set_option maxRecDepth 100000 in
set_option maxHeartbeats 1600000 in
theorem take_any (B g : Nat) (b : List UInt8) (n : Int) (w : World) (h : BxB w B g b) :
    Calls Try.prog 78 #[.int .i64 n, .pointer (some ⟨g, 0, none⟩)] w (TakeQ w B g b n) := by
  obtain ⟨A, m, c, h1, h2, h3, h4, h5, h6⟩ := h.ex
  have hlo := h.lo
  have hgl := (Array.getElem?_eq_some_iff.1 h1).1
  have HGe := hide (get_any A m c B n b w h2 h5 h3 h4 (by omega) h6)
  have HC := hide (getZ_cases b n)
  have HR := hide h6
  have HQ := hide h1
  have HL := hide h2
  have HG := hide h4
  have c1 : w.cell? ⟨g, 0, none⟩ = some (.slice A m c) := cell_of_row _ _ 0 _ _ _ h1
  unfold TakeQ takeZ
  unfold maxLen at h4
  generalize getZ b n = r at HGe HC ⊢
  obtain ⟨xs, k, e⟩ := r
  dsimp only at HGe HC ⊢
  obtain ⟨R, hR⟩ : ∃ R, (if e = 0 then (xs, b.drop k) else (([], []) : List Int × List UInt8)) = R := ⟨_, rfl⟩
  rw [hR]
  have HRs := hide hR
  clear hR
  clear h h1 h2 h6
  go_enter Try.func78, Try.ntmps78
  go_wp2_with (fail)
  refine HGe.out.mono ?_
  rintro en w2 ⟨v, rfl, hown, hfr⟩
  dsimp only at hown ⊢
  have HO := hide hown
  have HF := hide hfr
  have hq2 := hfr.blk HQ.out (fun h => h)
  have HQ2 := hide hq2
  have c2 : w2.cell? ⟨g, 0, none⟩ = some (.slice A m c) := cell_of_row _ _ 0 _ _ _ hq2
  have z2 : w2.frozen? ⟨g, 0, none⟩ = false := frozen_of_row _ _ _ _ _ hq2
  clear hown hfr hq2 HGe c1
  by_cases he : e = 0
  · subst he
    have HRr : Hid (R = (xs, b.drop k)) := hide (by rw [← HRs.out, if_pos rfl])
    have hk : k ≤ m := by
      rcases HC.out with ⟨h1, _⟩ | ⟨_, _, _, _, h5, _⟩
      · exact absurd rfl h1
      · rw [HL.out] at h5; exact h5
    have e1 : ((0 : Int) != 0) = false := rfl
    have q1 : (0 : Int) ≤ (k : Int) := by omega
    have q2 : (k : Int) ≤ (m : Int) := by omega
    have hq3 : ∀ v3 : Value, (w2.setCell ⟨g, 0, none⟩ v3).heap[g]? = some (.cells #[v3] 25 (0, 0)) := fun v3 => by
      have := heap_setCell_same w2 g 0 #[.slice A m c] 25 v3 HQ2.out
      simpa using this
    have fs : ∀ v3 : Value, Fr (Is g) w2 (w2.setCell ⟨g, 0, none⟩ v3) := fun v3 => (Fr.refl (Is g) w2).put 0 _
    have hfin : ∀ A2 c2, m - k ≤ c2 → c2 ≤ c → Rd w2 B A2 (by8 (b.drop k)) → ∃ v', Value.slice A2 (m - k) c2 = v' ∧ Own (w2.setCell ⟨g, 0, none⟩ v') w.heap.size 2 1 v xs.length (iz .i64 xs) ∧ BxB (w2.setCell ⟨g, 0, none⟩ v') B g (b.drop k) ∧ Fr (Is g) w (w2.setCell ⟨g, 0, none⟩ v') := fun A2 c2 g1 g2 g3 =>
      ⟨_, rfl, HO.out.fr (fs _) (fun k hk e => by have e : k = g := e; subst e; exact HO.out.ne_blk hk HQ2.out (by decide)), ⟨⟨_, _, _, hq3 _, by rw [List.length_drop, HL.out], g1, Nat.le_trans g2 HG.out, by omega, g3.fr (fs _) (fun k hk e => by have e : k = g := e; omega)⟩, hlo⟩, (HF.out.any _).ts (fs _)⟩
    have h7 := (HR.out.fr0 HF.out).cut (k := k) (cap := c) (by rw [by8_length, HL.out]; exact h3)
    rw [← by8_drop] at h7
    have HFin := hide hfin
    have H7 := hide h7
    clear hfin h7 hq3 fs
    by_cases hck : c = k
    · subst hck
      have H8 : Hid (Rd w2 B A (by8 (b.drop c))) := hide (by have h := H7.out; rwa [if_pos rfl] at h)
      go_wp2_with (fail)
      go_ret
      obtain ⟨_, rfl, g1, g2, g3⟩ := HFin.out A 0 (by omega) (Nat.zero_le _) H8.out
      rw [show m - c = 0 by omega] at g1 g2 g3
      rw [HRr.out]
      exact ⟨v, rfl, g1, g2, g3⟩
    · have H8 : Hid (Rd w2 B (A.map (·.add k)) (by8 (b.drop k))) := hide (by have h := H7.out; rwa [if_neg hck] at h)
      go_wp2_with (fail)
      go_ret
      obtain ⟨_, rfl, g1, g2, g3⟩ := HFin.out (A.map (·.add k)) (c - k) (by omega) (by omega) H8.out
      rw [HRr.out]
      exact ⟨v, rfl, g1, g2, g3⟩
  · have e1 : (e != 0) = true := by simpa using he
    have HRr : Hid (R = ([], [])) := hide (by rw [← HRs.out, if_neg he])
    clear he
    go_wp2_with (fail)
    go_ret
    have hq3 : (w2.setCell ⟨g, 0, none⟩ (.slice none 0 0)).heap[g]? = some (.cells #[.slice none 0 0] 25 (0, 0)) := by
      have := heap_setCell_same w2 g 0 #[.slice A m c] 25 (.slice none 0 0) HQ2.out
      simpa using this
    rw [HRr.out]
    exact ⟨_, rfl, Own.nil _ _ _ _, ⟨⟨none, 0, 0, hq3, rfl, Nat.le_refl _, Nat.zero_le _, Nat.zero_le _, Rd.nil _ _ _⟩, hlo⟩, (HF.out.any _).ts ((Fr.refl (Is g) w2).put 0 _)⟩
end Go.Proofs.Ythlbfnoahdjdeaa
namespace Go.Proofs.Ythlbfnoahdjdeaa
set_option linter.unusedVariables false
set_option linter.unusedSimpArgs false
open Go.RowKit

theorem Try.infoPo : (Try.prog.info? 58).map (fun i => (i.zero, i.size, i.bytes)) = some (some (.agg #[.int .i64 0, .slice none 0 0]), 2, 32) := by kernel_rfl
theorem Try.infoIn : (Try.prog.info? 3).map (fun i => (i.zero, i.size, i.bytes)) = some (some (.int .i64 0), 1, 8) := by kernel_rfl
def pVal (p : PoL) : Value := .slice p.2.1 p.1.2.length p.2.2
def PoN (w : World) (base : Nat) (p : PoL) : Prop := Own w base 3 1 (pVal p) p.1.2.length (iz .i64 p.1.2)
/-- numbers that fit. -/
def PoB (x : Po) : Prop := (-1 ≤ x.1 ∧ x.1 ≤ 1125899906842624) ∧ x.2.length ≤ 2097152 ∧ ∀ y ∈ x.2, 0 ≤ y ∧ y ≤ 1125899906842624
structure OwnPs (w : World) (base : Nat) (v : Value) (ps : List PoL) : Prop where
  row : Own w base 58 2 v ps.length (pFlat ps)
  ns : ∀ p ∈ ps, PoN w base p
  ap : ps.Pairwise fun p q => Apt (pVal p) (pVal q)
  bd : ∀ p ∈ ps, PoB p.1
theorem OwnPs.nil (w : World) (base : Nat) : OwnPs w base (.slice none 0 0) [] := ⟨Own.nil _ _ _ _, (fun p hp => nomatch hp), List.Pairwise.nil, (fun p hp => nomatch hp)⟩
theorem OwnPs.off {S : Nat → Prop} {w w' : World} {base : Nat} {v : Value} {ps : List PoL} (h : OwnPs w base v ps) (f : Fr S w w') (h1 : Off S w 58) (h2 : Off S w 3) : OwnPs w' base v ps :=
  ⟨h.row.off f h1, fun p hp => (h.ns p hp).off f h2, h.ap, h.bd⟩
theorem OwnPs.fr0 {w w' : World} {base : Nat} {v : Value} {ps : List PoL} (h : OwnPs w base v ps) (f : Fr No w w') : OwnPs w' base v ps := h.off f (fun _ _ _ _ h => h) (fun _ _ _ _ h => h)
theorem OwnPs.above {S : Nat → Prop} {w w' : World} {base : Nat} {v : Value} {ps : List PoL} (h : OwnPs w base v ps) (f : Fr S w w') (hS : ∀ k, S k → k < base) : OwnPs w' base v ps :=
  ⟨h.row.above f hS, fun p hp => (h.ns p hp).above f hS, h.ap, h.bd⟩
theorem OwnPs.lower {w : World} {base b2 : Nat} {v : Value} {ps : List PoL} (h : OwnPs w base v ps) (hb : b2 ≤ base) : OwnPs w b2 v ps := ⟨h.row.lower hb, fun p hp => (h.ns p hp).lower hb, h.ap, h.bd⟩
theorem PoN.lt {w : World} {base : Nat} {p : PoL} (h : PoN w base p) : ∀ k, (pVal p).ownBlock = some k → k < w.heap.size := fun k hk => (Own.lt h k hk).2
/-- a post is laid behind them. -/
theorem OwnPs.snoc {w w' : World} {base : Nat} {v v' : Value} {ps : List PoL} {p : PoL} (h : OwnPs w base v ps) (hp : PoN w base p) (ha : ∀ q ∈ ps, Apt (pVal q) (pVal p)) (hb : PoB p.1) (f : Fr (fun k => v.ownBlock = some k) w w')
    (ho : Own w' base 58 2 v' (ps.length + 1) (pFlat ps ++ pRow p)) : OwnPs w' base v' (ps ++ [p]) := by
  have hoff : Off (fun k => v.ownBlock = some k) w 3 := fun k cs fz hk e => by
    obtain ⟨_, cs2, fz2, h2⟩ := h.row.cellsT e
    rw [hk] at h2
    injection h2 with h2
    injection h2 with _ h2 _
    revert h2
    decide
  refine ⟨by rw [List.length_append, pFlat_snoc]; exact ho, fun q hq => ?_, ?_, fun q hq => ?_⟩
  · rcases List.mem_append.1 hq with hq | hq
    · exact Own.off (h.ns q hq) f hoff
    · rw [List.mem_singleton.1 hq]; exact Own.off hp f hoff
  · rw [List.pairwise_append]
    exact ⟨h.ap, List.pairwise_singleton _ _, fun a ha2 b hb2 => by rw [List.mem_singleton.1 hb2]; exact ha a ha2⟩
  · rcases List.mem_append.1 hq with hq | hq
    · exact h.bd q hq
    · rw [List.mem_singleton.1 hq]; exact hb
theorem OwnPs.rd {w : World} {base c : Nat} {A : Option Addr} {ps : List PoL} (h : OwnPs w base (.slice A ps.length c) ps) : RdPo w w.heap.size A (ps.map (·.1)) := by
  refine ⟨ps, rfl, h.row.rd, fun p hp => ?_⟩
  have h1 := h.ns p hp
  exact ⟨h1.le.2.1, h1.le.2.2, Own.rd h1⟩
theorem OwnPs.inI {w : World} {base : Nat} {v : Value} {ps : List PoL} (h : OwnPs w base v ps) : InI2 (ps.map (·.1)) ∧ ∀ x ∈ ps.map (·.1), x.2.length ≤ 140737488351232 := by
  refine ⟨fun x hx => ?_, fun x hx => ?_⟩
  · obtain ⟨p, hp, rfl⟩ := List.mem_map.1 hx
    have hb := h.bd p hp
    exact ⟨fun y hy => by have := hb.2.2 y hy; omega, by have := hb.1; omega, by have := hb.1; omega⟩
  · obtain ⟨p, hp, rfl⟩ := List.mem_map.1 hx
    have := (h.bd p hp).2.1
    omega
/-! What a block's bytes hold, if they are a block's. -/
/-- posts that may stand in one block, behind document a. -/
structure GoodB (a : Int) (blk : List Po) (n : Nat) : Prop where
  row : RowOk a blk
  len : blk.length = n
  up : ∀ i, i < blk.length → lastOr a (blk.take i) < (blk.getD i noPo).1
  pos : ∀ x ∈ blk, upL x.2
def sumF (F : List Int) : Nat := (F.map fun f => (f + 1).toNat).sum
theorem sumF_freqs (b : List Po) (h : ∀ x ∈ b, x.2 ≠ []) : sumF (freqsL b) = sumP b := by
  induction b with
  | nil => rfl
  | cons x r ih =>
    have h1 := ih (fun y hy => h y (List.mem_cons_of_mem _ hy))
    have h2 : 0 < x.2.length := List.length_pos_iff.2 (h x List.mem_cons_self)
    simp only [sumF, freqsL, sumP, List.map_cons, List.sum_cons] at h1 ⊢
    omega
theorem sumF_snoc (F : List Int) (f : Int) : sumF (F ++ [f]) = sumF F + (f + 1).toNat := by simp [sumF]
theorem sumF_le {F : List Int} (i : Nat) : sumF (F.take i) ≤ sumF F := by
  have : sumF F = sumF (F.take i) + sumF (F.drop i) := by
    unfold sumF
    rw [← List.sum_append, ← List.map_append, List.take_append_drop]
  omega
/-- what take reads of a block's bytes. -/
theorem take_rows {a : Int} {blk : List Po} {n : Nat} (h : GoodB a blk n) :
    takeZ (rowsB a blk) n = (docsL a blk, putR (freqsL blk) ++ putR (placesL blk)) ∧ takeZ (putR (freqsL blk) ++ putR (placesL blk)) n = (freqsL blk, putR (placesL blk)) ∧ takeZ (putR (placesL blk)) (sumP blk : Nat) = (placesL blk, []) := by
  have h1 := h.row.n
  have h2 := h.row.s
  refine ⟨?_, ?_, ?_⟩
  · have := takeZ_put (l := docsL a blk) (by rw [docsL_len]; omega) (docs_in h.row) (putR (freqsL blk) ++ putR (placesL blk))
    rw [docsL_len, h.len] at this
    rw [rowsB, List.append_assoc]
    exact this
  · have := takeZ_put (l := freqsL blk) (by rw [freqsL_len]; omega) (freqs_in h.row) (putR (placesL blk))
    rw [freqsL_len, h.len] at this
    exact this
  · have := takeZ_put (l := placesL blk) (by rw [placesL_len]; omega) (places_in h.row) []
    rw [placesL_len, List.append_nil] at this
    exact this
theorem good_of {l : List Po} (h : rightP l) {j : Nat} (hj : 8 * j < l.length) : GoodB (aheadPo l j) (blkPo l j) (min 8 (l.length - 8 * j)) := by
  refine ⟨right_row h j, blkPo_len l j, fun i hi => ?_, fun x hx => ?_⟩
  · rw [blkPo_len] at hi
    have h1 := h (8 * j + i) (by omega)
    rw [blk_getD l (by omega)]
    have e : l.take (8 * j + i) = l.take (8 * j) ++ (blkPo l j).take i := by
      unfold blkPo
      rw [List.take_take, show min i 8 = i by omega, List.take_add]
    have e2 : lastOr (aheadPo l j) ((blkPo l j).take i) = lastD (l.take (8 * j + i)) := by
      rw [e]
      rcases List.eq_nil_or_concat ((blkPo l j).take i) with h2 | ⟨m, x, h2⟩
      · rw [h2, List.append_nil]; rfl
      · rw [h2, List.concat_eq_append, lastOr_snoc, ← List.append_assoc, lastD_snoc]
    rw [e2]
    exact h1.1
  · have hx := List.mem_of_mem_drop (List.mem_of_mem_take hx)
    obtain ⟨i, hi, rfl⟩ := List.getElem_of_mem hx
    have h1 := h i hi
    have e : l.getD i noPo = l[i] := by rw [List.getD, List.getElem?_eq_getElem hi]; rfl
    rw [e] at h1
    exact h1.2.2.2.2.1
end Go.Proofs.Ythlbfnoahdjdeaa
namespace Go.Proofs.Ythlbfnoahdjdeaa
set_option linter.unusedVariables false
set_option linter.unusedSimpArgs false
open Go.RowKit

def lastV (p : List Int) : Int := if p = [] then 0 else p.getD (p.length - 1) 0
theorem lastV_snoc (p : List Int) (y : Int) : lastV (p ++ [y]) = y := by
  unfold lastV
  rw [if_neg (by simp)]
  simp
theorem deltaL_inj : ∀ (a : Int) (p q : List Int), deltaL a p = deltaL a q → p = q
  | _, [], [], _ => rfl
  | _, [], y :: r, h => by simp [deltaL] at h
  | _, y :: r, [], h => by simp [deltaL] at h
  | a, y :: r, z :: t, h => by
    simp only [deltaL, List.cons.injEq] at h
    obtain ⟨h1, h2⟩ := h
    have e : y = z := by omega
    subst e
    rw [deltaL_inj y r t h2]
/-- positions read of the first k differences. -/
structure InnR (P Ps : List Int) (k : Nat) (s : Int) : Prop where
  l : Ps.length = k
  d : deltaL 0 Ps = P.take k
  s : s = lastV Ps
  b : ∀ y ∈ Ps, 0 ≤ y ∧ y ≤ 1048576 * (k : Int)
theorem InnR.nil (P : List Int) : InnR P [] 0 0 := ⟨rfl, by simp [deltaL], rfl, fun y hy => nomatch hy⟩
theorem InnR.sb {P Ps : List Int} {k : Nat} {s : Int} (h : InnR P Ps k s) : 0 ≤ s ∧ s ≤ 1048576 * (k : Int) := by
  rw [h.s]
  unfold lastV
  split
  · omega
  · rename_i hne
    have : Ps.length - 1 < Ps.length := by have := List.length_pos_iff.2 hne; omega
    exact h.b _ (getZ_mem this)
theorem InnR.snoc {P Ps : List Int} {k : Nat} {s : Int} (h : InnR P Ps k s) (hk : k < P.length) (h0 : 0 ≤ P.getD k 0 ∧ P.getD k 0 ≤ 1048576) : InnR P (Ps ++ [s + P.getD k 0]) (k + 1) (s + P.getD k 0) := by
  have hs := h.sb
  refine ⟨by rw [List.length_append, h.l]; rfl, ?_, (lastV_snoc _ _).symm, fun y hy => ?_⟩
  · rw [deltaL_snoc, h.d, take_getZ hk]
    have e : (if Ps = [] then (0 : Int) else Ps.getD (Ps.length - 1) 0) = s := h.s.symm
    rw [e, show s + P.getD k 0 - s = P.getD k 0 by omega]
  · rcases List.mem_append.1 hy with hy | hy
    · have := h.b y hy; omega
    · rw [List.mem_singleton.1 hy]; omega
theorem docsL_getD : ∀ (a : Int) (b : List Po) (i : Nat), i < b.length → (docsL a b).getD i 0 = (b.getD i noPo).1 - lastOr a (b.take i) - 1
  | _, [], i, h => absurd h (Nat.not_lt_zero _)
  | a, y :: r, 0, _ => by simp [docsL, lastOr]
  | a, y :: r, i + 1, h => by
    have := docsL_getD y.1 r i (by simpa using h)
    rw [List.take_succ_cons, lastOr_cons, docsL]
    simpa using this
theorem drop_getP {b : List Po} {i : Nat} (h : i < b.length) : b.drop i = b.getD i noPo :: b.drop (i + 1) := by
  rw [List.drop_eq_getElem_cons h]
  congr 1
  rw [List.getD, List.getElem?_eq_getElem h]; rfl
theorem getP_mem {b : List Po} {i : Nat} (h : i < b.length) : b.getD i noPo ∈ b := by
  rw [List.getD, List.getElem?_eq_getElem h]; exact List.getElem_mem _
theorem freqsL_getD {b : List Po} {i : Nat} (h : i < b.length) : (freqsL b).getD i 0 = ((b.getD i noPo).2.length : Int) - 1 := by
  simp [freqsL, List.getElem?_eq_getElem h]
/-- what is read is the blocks' posts, if the bytes are a block's. -/
def OutR (a : Int) (n : Nat) (b : List UInt8) (ps : List Po) (i : Nat) (la : Int) (P : List Int) : Prop := ∀ blk, GoodB a blk n → b = rowsB a blk → ps = blk.take i ∧ la = lastOr a (blk.take i) ∧ P = placesL (blk.drop i)
def ConR (a : Int) (n : Nat) (b : List UInt8) (D F : List Int) : Prop := ∀ blk, GoodB a blk n → b = rowsB a blk → D = docsL a blk ∧ F = freqsL blk
theorem out_bad_d {a : Int} {n i : Nat} {b : List UInt8} {ps : List Po} {la d : Int} {P D F : List Int} (h : OutR a n b ps i la P) (hc : ConR a n b D F) (hi : i < n) (he : D.getD i 0 = d) (hd : d < 0 ∨ 16384 ≤ d) : ∀ blk, GoodB a blk n → b = rowsB a blk → False := by
  intro blk h1 h2
  have hl : i < blk.length := by rw [h1.len]; exact hi
  have e1 := (hc blk h1 h2).1
  have e2 := docsL_getD a blk i hl
  rw [← e1, he] at e2
  have h3 := h1.up i hl
  have h4 := h1.row.d _ (getP_mem hl)
  have h5 := h1.row.last i
  omega
theorem out_head {a : Int} {n i : Nat} {b : List UInt8} {ps : List Po} {la : Int} {P D F : List Int} {blk : List Po} (h : OutR a n b ps i la P) (hc : ConR a n b D F) (hi : i < n) (h1 : GoodB a blk n) (h2 : b = rowsB a blk) :
    P = deltaL 0 (blk.getD i noPo).2 ++ placesL (blk.drop (i + 1)) ∧ (F.getD i 0 + 1).toNat = (blk.getD i noPo).2.length := by
  have hl : i < blk.length := by rw [h1.len]; exact hi
  have e1 := (hc blk h1 h2).2
  refine ⟨by rw [(h blk h1 h2).2.2, drop_getP hl]; simp [placesL], ?_⟩
  rw [e1, freqsL_getD hl]
  omega
theorem delta_up : ∀ (a : Int) (p : List Int) (k : Nat), k < p.length → (deltaL a p).getD k 0 = p.getD k 0 - (if k = 0 then a else p.getD (k - 1) 0)
  | _, [], k, h => absurd h (Nat.not_lt_zero _)
  | a, y :: r, 0, _ => by simp [deltaL]
  | a, y :: r, k + 1, h => by
    have := delta_up y r k (by simpa using h)
    rw [deltaL]
    simp only [List.getD_cons_succ, Nat.add_sub_cancel, Nat.succ_ne_zero, if_false] at this ⊢
    rw [this]
    cases k with
    | zero => simp
    | succ j => simp
theorem out_bad_n {a : Int} {n i q k : Nat} {b : List UInt8} {ps : List Po} {la x : Int} {P D F : List Int} (h : OutR a n b ps i la P) (hc : ConR a n b D F) (hi : i < n) (hq : (F.getD i 0 + 1).toNat = q) (hk : k < q) (he : P.getD k 0 = x) (hd : x < 0 ∨ 1048576 < x) : ∀ blk, GoodB a blk n → b = rowsB a blk → False := by
  intro blk h1 h2
  have hl : i < blk.length := by rw [h1.len]; exact hi
  obtain ⟨e1, e2⟩ := out_head h hc hi h1 h2
  obtain ⟨p, hp⟩ : ∃ p, (blk.getD i noPo).2 = p := ⟨_, rfl⟩
  have hu := h1.pos _ (getP_mem hl)
  have hb := (h1.row.d _ (getP_mem hl)).2.2.2
  rw [hp] at e1 e2 hu hb
  have hkp : k < p.length := by omega
  rw [e1, List.getD, List.getElem?_append_left (by rw [deltaL_len]; exact hkp), ← List.getD_eq_getElem?_getD, delta_up 0 p k hkp] at he
  have h3 := hb _ (getZ_mem hkp)
  by_cases h0 : k = 0
  · rw [if_pos h0] at he; omega
  · rw [if_neg h0] at he
    have h4 := hb _ (getZ_mem (show k - 1 < p.length by omega))
    have h5 := upL_of hu (show k - 1 ≤ k by omega) hkp
    omega
theorem out_step {a : Int} {n i q : Nat} {b : List UInt8} {ps : List Po} {la d s : Int} {P D F Ps : List Int} (h : OutR a n b ps i la P) (hc : ConR a n b D F) (hi : i < n) (hq : (F.getD i 0 + 1).toNat = q) (hd : D.getD i 0 = d) (hr : InnR P Ps q s) :
    OutR a n b (ps ++ [(la + 1 + d, Ps)]) (i + 1) (la + 1 + d) (P.drop q) := by
  intro blk h1 h2
  have hl : i < blk.length := by rw [h1.len]; exact hi
  obtain ⟨e1, e2⟩ := out_head h hc hi h1 h2
  obtain ⟨h3, h4, h5⟩ := h blk h1 h2
  have e3 := (hc blk h1 h2).1
  have e4 := docsL_getD a blk i hl
  rw [← e3, hd, ← h4] at e4
  have e5 : deltaL 0 Ps = deltaL 0 (blk.getD i noPo).2 := by
    rw [hr.d, e1, ← hq, e2, List.take_left' (deltaL_len _ _)]
  have e6 := deltaL_inj _ _ _ e5
  have e7 : (la + 1 + d, Ps) = blk.getD i noPo := by
    rw [e6]
    have : la + 1 + d = (blk.getD i noPo).1 := by omega
    rw [this]
  refine ⟨by rw [h3, take_snocP hl, e7], by rw [take_snocP hl, lastOr_snoc]; omega, ?_⟩
  rw [e1, ← hq, e2, List.drop_left' (deltaL_len _ _)]
theorem out_end {a last : Int} {n i : Nat} {b : List UInt8} {ps : List Po} {la : Int} {P : List Int} (h : OutR a n b ps i la P) (hi : i = n) : ∀ blk, GoodB a blk n → b = rowsB a blk → ps = blk ∧ (decide (la = last) = true ↔ lastOr a blk = last) := by
  intro blk h1 h2
  obtain ⟨h3, h4, _⟩ := h blk h1 h2
  have e : blk.take i = blk := List.take_of_length_le (by rw [h1.len]; omega)
  rw [e] at h3 h4
  exact ⟨h3, by rw [h4, decide_eq_true_iff]⟩
theorem out_nil {a : Int} {n : Nat} {b : List UInt8} {P : List Int} (h : ∀ blk, GoodB a blk n → b = rowsB a blk → P = placesL blk) : OutR a n b [] 0 a P := fun blk h1 h2 => ⟨by simp, by simp [lastOr], by rw [List.drop_zero]; exact h blk h1 h2⟩
end Go.Proofs.Ythlbfnoahdjdeaa
