/- TermsFind, walked. -/
import Derived.Test.YtcdhbdhhknlbaaaK12
import Derived.Test.YtcdhbdhhknlbaaaTFindPZ
import Derived.Test.YtcdhbdhhknlbaaaTBackWZ
namespace Go.Proofs.Ytcdhbdhhknlbaaa
set_option linter.unusedVariables false
set_option linter.unusedSimpArgs false
open Go.RowKit

theorem make_u64w (n : Nat) (hn : n * 8 ≤ 140737488351232) (W : World) : (Instr.makeSlice 23 (.int .i64 (n : Nat)) (.int .i64 (n : Nat))).run Try.prog W = .ok (.slice (some ⟨W.heap.size, 0, none⟩) n n) (W.alloc (.cells (madeCells #[.int .u64 0] n) 40)) := by
  obtain ⟨i0, hi, hz, hsz, hby⟩ := info_parts Try.infoU
  have h := run_make (P := Try.prog) W 23 40 i0 (.int .u64 0) Try.underlying23 hi hz .i64 .i64 (n : Int) (n : Int) (by omega) (by omega) (by rw [hby]; omega) (by omega)
  rw [h, hsz]
  simp [Value.cells]
theorem un_zeros (n : Nat) : un (List.replicate n 0) = List.replicate n (.int .u64 0) := by simp [un]
theorem ba_eta (P : ByteArray) : (⟨P.data.toList.toArray⟩ : ByteArray) = P := by cases P; simp
/-- Open's answer, in one form. -/
def OpenQ (w : World) (bs : List UInt8) (en : Ending) (w' : World) : Prop := Fr No w w' ∧ ∃ (p : Option Addr) (f : Int), en = .returned (.tuple #[.pointer p, .int .i64 f]) ∧ (f = 0 ∨ f = 20) ∧ (∀ l at_, Form9 bs l at_ → f = 0 ∧ DictP w' w.heap.size p l at_)
theorem openQ_of {w w' : World} {bs : List UInt8} {en : Ending} (h : OpenP w bs en w') : OpenQ w bs en w' := by
  obtain ⟨h1, (⟨G, l, vs, h2, h3, h4⟩ | ⟨h2, h3⟩)⟩ := h
  · refine ⟨h1, _, 0, h3, .inl rfl, fun l' at' h' => ?_⟩
    obtain ⟨rfl, rfl⟩ := form9_inj h2 h'
    exact ⟨rfl, ⟨.inr ⟨G, rfl, h4⟩⟩⟩
  · exact ⟨h1, none, 20, h3, .inr rfl, fun l' at' h' => absurd h' (h2 _ _)⟩

set_option maxRecDepth 100000 in
set_option maxHeartbeats 4000000 in
theorem tfind_any (A0 : Option Addr) (n0 c0 : Nat) (l : List Tx) (P Lo Hi : ByteArray) (w : World)
    (h0 : l.length = n0) (x0 : n0 ≤ c0) (y0 : c0 ≤ maxLen) (z0 : c0 * 16 ≤ 140737488351232) (r0 : Rd w w.heap.size A0 (svs l)) (t0 : ∀ t ∈ l, t.length ≤ maxLen) (hP : P.size ≤ maxLen) (hLo : Lo.size ≤ maxLen) (hHi : Hi.size ≤ maxLen) :
    Calls Try.prog 8 #[.slice A0 n0 c0, .string P, .string Lo, .string Hi] w (RetB true w) := by
  have HL := hide h0
  have HR0 := hide r0
  have HT0 := hide t0
  have m1 := make_u64w n0 (by omega)
  obtain ⟨w1, hw1⟩ : ∃ W, W = w.alloc (.cells (madeCells #[.int .u64 0] n0) 40) := ⟨_, rfl⟩
  have HF1 : Hid (Fr No w w1) := hide (by rw [hw1]; exact (Fr.refl No w).alloc _)
  have hs1 : w1.heap.size = w.heap.size + 1 := by rw [hw1]; simp
  have r1 : Rd w1 w1.heap.size (some ⟨w.heap.size, 0, none⟩) (un (List.replicate n0 0)) := by
    have h := Rd.block (heap_alloc_new w (.cells (madeCells #[.int .u64 0] n0) 40))
    rw [← hw1, made_list, ← un_zeros] at h
    exact h.more (by rw [hs1]; exact Nat.le_refl _)
  have HU : Hid (U64s (List.replicate n0 0)) := hide (fun v hv => by rw [(List.mem_replicate.1 hv).2]; decide)
  have HB1 := hide (tbuild_any A0 (some ⟨w.heap.size, 0, none⟩) n0 n0 c0 n0 w1.heap.size l (List.replicate n0 0) w1 h0 x0 y0 (by simp) (Nat.le_refl _) (by unfold maxLen; omega) (Nat.le_refl _) ((r0.fr0 HF1.out).more HF1.out.size) r1 t0 HU.out)
  have HW1 := hide hw1
  have HPs := hide (And.intro hP (And.intro hLo hHi))
  unfold maxLen at hP hLo hHi
  clear h0 r0 t0 r1 hs1 hw1 y0 z0
  go_enter Try.func8, Try.ntmps8
  go_wp2_with (fail)
  rw [← HW1.out]
  refine HB1.out.mono ?_
  rintro en w2 hbp
  obtain ⟨hfr, Ab, mb, e1, bs, rfl, hbl, hob, hb⟩ := tbuild_one HU.out hbp
  have HF2 : Hid (Fr No w w2) := hide (HF1.out.tr hfr)
  have HOb := hide hob
  have HB := hide hb
  have HBl := hide hbl
  have hmb : mb ≤ 140737488300000 := by
    rcases hb with ⟨_, hf⟩ | ⟨_, h⟩
    · rw [← hbl, ← hf.2.2]
      have h1 := dictB_le (at_ := List.replicate n0 0) hf.1.2.2.1
      have h2 := hf.1.1
      omega
    · omega
  have HO1 := hide (topen_any Ab mb mb w2.heap.size bs w2 hbl (Nat.le_refl _) (by unfold maxLen; omega) (by omega) (Nat.le_refl _) hob.rd)
  clear hbp hfr hob hb hbl HB1 m1
  go_wp2_with (fail)
  refine HO1.out.mono ?_
  rintro en w3 hop
  obtain ⟨hfr, p, f, rfl, hf01, hfd⟩ := openQ_of hop
  have HF3 : Hid (Fr No w w3) := hide (HF2.out.tr hfr)
  have HFd := hide hfd
  clear hop hfr hfd HO1 hmb
  by_cases g0 : 300 < n0
  · have d1 : decide ((300 : Int) < (n0 : Int)) = true := decide_eq_true (by omega)
    clear hf01
    go_wp2_with (go_at_call 10; refine (awake_any _).mono ?_; rintro en w4 ⟨rfl, hfr⟩; have HF4 := hide (HF3.out.tr hfr); clear hfr)
    go_ret
    exact ⟨rfl, HF4.out⟩
  have d1 : decide ((300 : Int) < (n0 : Int)) = false := decide_eq_false (by omega)
  by_cases he1 : e1 = 0
  case neg =>
    have d3 : (e1 != 0) = true := by simpa using he1
    clear he1 hf01
    go_wp2_with (go_at_call 10; refine (awake_any _).mono ?_; rintro en w4 ⟨rfl, hfr⟩; have HF4 := hide (HF3.out.tr hfr); clear hfr)
    go_ret
    exact ⟨rfl, HF4.out⟩
  case pos =>
  have d3 : (e1 != 0) = false := by simpa using he1
  have HFo : Hid (Form9 bs l (List.replicate n0 0)) := hide (by
    rcases HB.out with ⟨_, h⟩ | ⟨h, _⟩
    · exact h
    · rw [he1] at h; cases h)
  obtain ⟨hf0, hdp⟩ := HFd.out _ _ HFo.out
  subst hf0
  have HD3 := hide hdp
  clear he1 hf01 HB hdp HFd
  go_wp2_with (go_at_call 10; refine (awake_any _).mono ?_; rintro en w4 ⟨rfl, hfr⟩; have HF4 := hide (HF3.out.tr hfr); have HD4 := hide (HD3.out.fr0 hfr); clear hfr)
  have HLn := hide (plen_any w2.heap.size p l _ w4 HD4.out)
  rw [HL.out] at HLn
  have d4 : ((n0 : Int) != n0) = false := by simp
  have HAsc := hide HD4.out.asc
  have HPx := hide (pprefix_any w2.heap.size p l _ P.data.toList w4 HD4.out (by rw [Array.length_toList]; exact HPs.out.1))
  have HRg := hide (fun W hW => prange_any w2.heap.size p l (List.replicate n0 0) Lo.data.toList Hi.data.toList W hW)
  unfold PrePost at HPx
  rw [ba_eta] at HPx
  rw [ba_eta, ba_eta] at HRg
  obtain ⟨a, ha⟩ : ∃ a, lowT l P.data.toList = a := ⟨_, rfl⟩
  obtain ⟨b, hb⟩ : ∃ b, preT l P.data.toList = b := ⟨_, rfl⟩
  obtain ⟨x, hx⟩ : ∃ x, lowT l Lo.data.toList = x := ⟨_, rfl⟩
  obtain ⟨y, hy⟩ : ∃ y, max x (topT l Hi.data.toList) = y := ⟨_, rfl⟩
  rw [ha, hb] at HPx
  rw [hx, hy] at HRg
  have hab : a ≤ b ∧ b ≤ n0 := by have := preT_le l P.data.toList; rw [ha, hb, HL.out] at this; exact this
  have hxy : x ≤ y ∧ y ≤ n0 := by
    have h1 := lowT_le l Lo.data.toList
    have h2 := topT_le l Hi.data.toList
    rw [hx, HL.out] at h1
    rw [HL.out] at h2
    omega
  have HPi : Hid (∀ k, k < l.length → ((l.getD k []).take P.data.toList.length = P.data.toList ↔ a ≤ k ∧ k < b)) := hide (fun k hk => by rw [← ha, ← hb]; exact pre_iff HAsc.out hk)
  have HRi : Hid (∀ k, k < l.length → ((¬ l.getD k [] < Lo.data.toList ∧ ¬ Hi.data.toList < l.getD k []) ↔ x ≤ k ∧ k < y)) := hide (fun k hk => by rw [← hy, ← hx]; exact range_iff HAsc.out hk)
  have HAi : Hid (∀ k, k < l.length → (l.getD k [] < P.data.toList ↔ k < a)) := hide (fun k hk => by rw [← ha]; exact low_iff HAsc.out hk)
  have HXi : Hid (∀ k, k < l.length → (l.getD k [] < Lo.data.toList ↔ k < x)) := hide (fun k hk => by rw [← hx]; exact low_iff HAsc.out hk)
  clear ha hb hx hy
  obtain ⟨ab1, ab2⟩ := hab
  obtain ⟨xy1, xy2⟩ := hxy
  have o1 : decide ((b : Int) < (a : Int)) = false := decide_eq_false (by omega)
  have o1b : decide (b < a) = false := decide_eq_false (by omega)
  have o2 : decide ((n0 : Int) < (b : Int)) = false := decide_eq_false (by omega)
  have o2b : decide (n0 < b) = false := decide_eq_false (by omega)
  have o3 : decide ((y : Int) < (x : Int)) = false := decide_eq_false (by omega)
  have o3b : decide (y < x) = false := decide_eq_false (by omega)
  have o4 : decide ((n0 : Int) < (y : Int)) = false := decide_eq_false (by omega)
  have o4b : decide (n0 < y) = false := decide_eq_false (by omega)
  go_wp2_with (first
    | (go_at_call 14; refine HLn.out.mono ?_; rintro en w5 ⟨rfl, rfl⟩)
    | (go_at_call 35; refine HPx.out.mono ?_; rintro en w5 ⟨rfl, hfr⟩; have HF5 : Hid (Fr No w4 w5) := hide hfr; clear hfr)
    | (go_at_call 31; refine (HRg.out w5 (HD4.out.fr0 HF5.out)).mono ?_; rintro en w6 ⟨rfl, hfr⟩; have HF6 : Hid (Fr No w4 w6) := hide (HF5.out.tr hfr); clear hfr)
    | fail)
  go_loopw [18] (fun i wr => ∃ k : Nat, k ≤ n0 ∧ i = .int .i64 k ∧ Hid (Fr No w4 wr)) (fun i _ => n0 - (intOf i).toNat)
  case atStart => exact ⟨0, by omega, rfl, HF6⟩
  case round =>
    obtain ⟨wo, rfl⟩ : ∃ wo : World, wo = wr := ⟨_, rfl⟩
    obtain ⟨k, hk, rfl, HFr⟩ := hrel
    by_cases hlt : k < n0
    · have hkl : k < l.length := by rw [HL.out]; exact hlt
      have HFw : Hid (Fr No w wo) := hide (HF4.out.tr HFr.out)
      obtain ⟨ad, X, hA0, _, kc, hX1, hX2, hX3⟩ := cellStr (HR0.out.fr0 HFw.out) hkl
      subst hA0
      have HTm := hide (pterm_any w2.heap.size p l _ wo (k : Nat) (HD4.out.fr0 HFr.out))
      have hSv : sv (l.getD k []) = .string X := by rw [sv, ← hX1]
      rw [show termAt l (k : Nat) = l.getD k [] by unfold termAt; rw [if_pos (by omega), Int.toNat_natCast], hSv] at HTm
      have HFi := hide (fun W hW => pfind_any w2.heap.size p l (List.replicate n0 0) (l.getD k []) W hW)
      rw [find_at HAsc.out hkl, show (⟨(l.getD k []).toArray⟩ : ByteArray) = X by rw [← hX1]] at HFi
      have HKc := hide kc
      have q1 : (0 : Int) ≤ (k : Int) := by omega
      have q2 : (k : Int) < (n0 : Int) := by omega
      have q4 : (X.toList != X.toList) = false := by simp
      have q5 : ((k : Int) != k) = false := by simp
      have HX1 := hide hX1
      have HX2 := hide hX2
      have hXs : X.size ≤ 4096 := by rw [hX3]; exact HFo.out.1.2.2.1 _ (getD_mem hkl)
      have HPi2 := hide (HPi.out k hkl)
      have HRi2 := hide (HRi.out k hkl)
      clear hkl hX1 hX2 hX3 hSv kc
      obtain ⟨gb, hgb⟩ : ∃ gb : Bool, gb = decide (X.toList.take P.size = P.toList) := ⟨_, rfl⟩
      have HGb := hide hgb
      clear hgb
      go_upto_region 17 with (first
        | (go_at_call 15; refine HTm.out.mono ?_; rintro en w7 ⟨rfl, hfr⟩; have HF7 : Hid (Fr No w4 w7) := hide (HFr.out.tr hfr); clear hfr)
        | (go_at_call 30; refine (HFi.out w7 (HD4.out.fr0 HF7.out)).mono ?_; rintro en w8 ⟨rfl, hfr⟩; have HF8 : Hid (Fr No w4 w8) := hide (HF7.out.tr hfr); clear hfr))
      refine wp_named fun K hK => ?_
      go_cut [22] from 114 to 126 (fun v wx => v = .bool gb ∧ wx = w8)
      case first =>
        by_cases hle : P.size ≤ X.size
        · have d1 : decide ((P.size : Int) ≤ (X.size : Int)) = true := decide_eq_true (by omega)
          have d1b : decide (P.size ≤ X.size) = true := decide_eq_true hle
          have i4 : (P.size : Int) ≤ (X.size : Int) := by omega
          have i5 : (0 : Int) ≤ (P.size : Int) := by omega
          have d3 : ((X.extract 0 P.size).toList == P.toList) = gb := by
            rw [Lib.extract_toList, ← ByteArray.toList_eq, List.drop_zero, Nat.sub_zero, HGb.out]
            exact beq_dec _ _
          go_wp2_with (fail)
          go_meet
          exact ⟨by first | rfl | rw [d3], rfl⟩
        · have d1 : decide ((P.size : Int) ≤ (X.size : Int)) = false := decide_eq_false (by omega)
          have d1b : decide (P.size ≤ X.size) = false := decide_eq_false hle
          have e : Hid (gb = false) := hide (by
            rw [HGb.out]
            refine decide_eq_false (fun h => hle (by
              have h2 := congrArg List.length h
              rw [List.length_take, ByteArray.toList_eq, ByteArray.toList_eq, Array.length_toList, Array.length_toList] at h2
              have h3 : X.data.size = X.size := rfl
              have h4 : P.data.size = P.size := rfl
              omega)))
          go_wp2_with (fail)
          go_meet
          exact ⟨by rw [e.out], rfl⟩
      case rest =>
        obtain ⟨rfl, rfl⟩ := hcut
        obtain ⟨w8, rfl⟩ : ∃ W : World, W = wc := ⟨_, rfl⟩
        refine hK _ _ ?_
        clear hK
        obtain ⟨ba, hba⟩ : ∃ B : Bool, B = decide (a ≤ k) := ⟨_, rfl⟩
        obtain ⟨bb, hbb⟩ : ∃ B : Bool, B = decide (k < b) := ⟨_, rfl⟩
        obtain ⟨bx, hbx⟩ : ∃ B : Bool, B = decide (x ≤ k) := ⟨_, rfl⟩
        obtain ⟨bz, hbz⟩ : ∃ B : Bool, B = decide (k < y) := ⟨_, rfl⟩
        obtain ⟨b1, hb1⟩ : ∃ B : Bool, B = decide (l.getD k [] < Lo.data.toList) := ⟨_, rfl⟩
        obtain ⟨b2, hb2⟩ : ∃ B : Bool, B = decide (l.getD k [] < Hi.data.toList) := ⟨_, rfl⟩
        obtain ⟨b3, hb3⟩ : ∃ B : Bool, B = decide (l.getD k [] = Hi.data.toList) := ⟨_, rfl⟩
        have R1 : Hid (gb = (ba && bb)) := hide (by
          have h := HPi2.out
          rw [HGb.out, HX2.out, hba, hbb, Bool.eq_iff_iff, Bool.and_eq_true, decide_eq_true_iff, decide_eq_true_iff, decide_eq_true_iff, ByteArray.toList_eq]
          rw [show P.size = P.data.toList.length by rw [Array.length_toList]; rfl]
          exact h)
        have R2 : Hid ((!b1 && (b2 || b3)) = (bx && bz)) := hide (by
          have h := HRi2.out
          rw [hb1, hb2, hb3, hbx, hbz, Bool.eq_iff_iff, Bool.and_eq_true, Bool.and_eq_true, Bool.or_eq_true, Bool.not_eq_true', decide_eq_false_iff_not, decide_eq_true_iff, decide_eq_true_iff, decide_eq_true_iff, decide_eq_true_iff, ← h]
          constructor
          · rintro ⟨h1, h2 | h2⟩
            · exact ⟨h1, fun q => tl_irrefl _ (tl_trans h2 q)⟩
            · exact ⟨h1, by rw [h2]; exact tl_irrefl _⟩
          · rintro ⟨h1, h2⟩
            refine ⟨h1, ?_⟩
            rcases tl_total (l.getD k []) Hi.data.toList with q | q | q
            · exact .inl q
            · exact .inr q
            · exact absurd q h2)
        have f1 : decide ((a : Int) ≤ (k : Int)) = ba := by rw [hba, Bool.eq_iff_iff, decide_eq_true_iff, decide_eq_true_iff]; omega
        have f1b : decide (a ≤ k) = ba := hba.symm
        have f2 : decide ((k : Int) < (b : Int)) = bb := by rw [hbb, Bool.eq_iff_iff, decide_eq_true_iff, decide_eq_true_iff]; omega
        have f2b : decide (k < b) = bb := hbb.symm
        have f3 : decide ((x : Int) ≤ (k : Int)) = bx := by rw [hbx, Bool.eq_iff_iff, decide_eq_true_iff, decide_eq_true_iff]; omega
        have f3b : decide (x ≤ k) = bx := hbx.symm
        have f4 : decide ((k : Int) < (y : Int)) = bz := by rw [hbz, Bool.eq_iff_iff, decide_eq_true_iff, decide_eq_true_iff]; omega
        have f4b : decide (k < y) = bz := hbz.symm
        have f5 : Op.bytesLess X.toList Lo.toList = b1 := by rw [hb1, HX2.out, ByteArray.toList_eq, bytesLess_eq]
        have f6 : Op.bytesLess X.toList Hi.toList = b2 := by rw [hb2, HX2.out, ByteArray.toList_eq, bytesLess_eq]
        have f7 : (X.toList == Hi.toList) = b3 := by rw [hb3, HX2.out, ByteArray.toList_eq]; exact beq_dec _ _
        have k8 : w8.cell? (ad.add k) = some (.string X) := by
          obtain ⟨ad', e, _, h⟩ := (HR0.out.fr0 (HF4.out.tr HF8.out)) k _ (svs_get (by rw [HL.out]; exact hlt))
          injection e with e
          subst e
          rw [h, sv, ← HX1.out]
        clear hba hbb hbx hbz hb1 hb2 hb3 HPi2 HRi2 HGb
        go_upto_region 18 with (fail)
        refine wp_named fun K hK => ?_
        go_cut [172] from 127 to 172 (fun v wx => v = .bool false ∧ wx = w8)
        case first =>
          have h1 := R1.out
          subst h1
          have h2 := R2.out
          cases ba <;> cases bb <;> cases b1 <;> cases bx <;> (first | (exfalso; revert h2; cases b2 <;> cases b3 <;> cases bz <;> simp; done) | skip)
          all_goals (have H2 := hide h2; clear h2 R1 R2)
          all_goals go_wp2_with (fail)
          all_goals go_meet
          all_goals (refine ⟨?_, rfl⟩; have h2 := H2.out; clear H2; revert h2; cases b2 <;> cases b3 <;> cases bz <;> simp)
        case rest =>
          obtain ⟨rfl, rfl⟩ := hcut
          refine hK _ _ ?_
          go_wp2_with (fail)
          go_roundw
          case rel => exact ⟨k + 1, by omega, by go_num, HF8⟩
          case measure => simp [intOf]; omega
    · have d5 : decide ((k : Int) < (n0 : Int)) = false := decide_eq_false (by omega)
      have d5b : decide (k < n0) = false := decide_eq_false hlt
      have HTm := hide (fun W (hW : Fr No w4 W) (o : Int) => (pterm_any w2.heap.size p l (List.replicate n0 0) W o (HD4.out.fr0 hW)).mono (R' := fun en w' => ∃ X : ByteArray, Op.bytesLess X.toList P.toList = decide (termAt l o < P.data.toList) ∧ Op.bytesLess X.toList Lo.toList = decide (termAt l o < Lo.data.toList) ∧ en = .returned (.string X) ∧ Fr No W w') (fun en w' h => ⟨⟨(termAt l o).toArray⟩, by rw [tx_list, ByteArray.toList_eq, bytesLess_eq], by rw [tx_list, ByteArray.toList_eq, bytesLess_eq], h.1, h.2⟩))
      have ht : ∀ j : Nat, termAt l (j : Int) = l.getD j [] := fun j => by unfold termAt; rw [if_pos (by omega), Int.toNat_natCast]
      obtain ⟨g1, hg1⟩ : ∃ B : Bool, B = decide (n0 ≤ a) := ⟨_, rfl⟩
      obtain ⟨g2, hg2⟩ : ∃ B : Bool, B = decide (a = 0) := ⟨_, rfl⟩
      obtain ⟨g3, hg3⟩ : ∃ B : Bool, B = decide (n0 ≤ x) := ⟨_, rfl⟩
      obtain ⟨g4, hg4⟩ : ∃ B : Bool, B = decide (x = 0) := ⟨_, rfl⟩
      obtain ⟨a1, ha1⟩ : ∃ a1, a1 = a - 1 := ⟨_, rfl⟩
      obtain ⟨x1, hx1⟩ : ∃ x1, x1 = x - 1 := ⟨_, rfl⟩
      have HA1 : Hid (g1 = false → decide (termAt l (a : Int) < P.data.toList) = false) := hide (fun h => by
        rw [hg1] at h
        have h := of_decide_eq_false h
        rw [ht]
        exact decide_eq_false (fun q => by have := (HAi.out a (by rw [HL.out]; omega)).1 q; omega))
      have HA2 : Hid (g2 = false → decide (termAt l (a1 : Int) < P.data.toList) = true) := hide (fun h => by
        rw [hg2] at h
        have h := of_decide_eq_false h
        rw [ht]
        exact decide_eq_true ((HAi.out a1 (by rw [HL.out]; omega)).2 (by omega)))
      have HB1 : Hid (g3 = false → decide (termAt l (x : Int) < Lo.data.toList) = false) := hide (fun h => by
        rw [hg3] at h
        have h := of_decide_eq_false h
        rw [ht]
        exact decide_eq_false (fun q => by have := (HXi.out x (by rw [HL.out]; omega)).1 q; omega))
      have HB2 : Hid (g4 = false → decide (termAt l (x1 : Int) < Lo.data.toList) = true) := hide (fun h => by
        rw [hg4] at h
        have h := of_decide_eq_false h
        rw [ht]
        exact decide_eq_true ((HXi.out x1 (by rw [HL.out]; omega)).2 (by omega)))
      have HI1 : Hid (g2 = false → (a : Int) - 1 = (a1 : Int)) := hide (fun h => by rw [hg2] at h; have h := of_decide_eq_false h; omega)
      have HI2 : Hid (g4 = false → (x : Int) - 1 = (x1 : Int)) := hide (fun h => by rw [hg4] at h; have h := of_decide_eq_false h; omega)
      have e1 : decide ((n0 : Int) ≤ (a : Int)) = g1 := by rw [hg1, Bool.eq_iff_iff, decide_eq_true_iff, decide_eq_true_iff]; omega
      have e1b : decide (n0 ≤ a) = g1 := hg1.symm
      have e2 : ((a : Int) == 0) = g2 := by rw [hg2]; by_cases h : a = 0 <;> simp [h]
      have e3 : decide ((n0 : Int) ≤ (x : Int)) = g3 := by rw [hg3, Bool.eq_iff_iff, decide_eq_true_iff, decide_eq_true_iff]; omega
      have e3b : decide (n0 ≤ x) = g3 := hg3.symm
      have e4 : ((x : Int) == 0) = g4 := by rw [hg4]; by_cases h : x = 0 <;> simp [h]
      have HFc := HFr
      clear hg1 hg2 hg3 hg4 ha1 hx1 ht hlt o1 o1b o2 o2b o3 o3b o4 o4b HPi HRi HAi HXi HFr
      cases g1 <;> cases g2 <;> cases g3 <;> cases g4
      all_goals (first | have i1 := HI1.out rfl | skip)
      all_goals (first | have i2 := HI2.out rfl | skip)
      all_goals go_wp2_with (go_at_call 15; refine (HTm.out _ HFc.out _).mono ?_; rintro en w9 ⟨X1, h1, h2, rfl, hfr⟩; (first | rw [HA1.out (by first | rfl | trivial)] at h1 | rw [HA2.out (by first | rfl | trivial)] at h1 | rw [HB1.out (by first | rfl | trivial)] at h2 | rw [HB2.out (by first | rfl | trivial)] at h2); have HFc : Hid (Fr No w4 w9) := hide (HFc.out.tr hfr); clear hfr)
      all_goals go_ret
      all_goals exact ⟨rfl, HF4.out.tr HFc.out⟩
end Go.Proofs.Ytcdhbdhhknlbaaa
