/- Several texts in one: BkNx, BkOl, BkEa, BkEb. -/
import Derived.Test.YtpopbkcbplmcaaaK5
import Derived.IntWalk
import Derived.RangeFuncLeaves
import Derived.Shelf.Abstract
import Derived.RecoverIn
import Derived.TacticsInMore
import Derived.Deep.LoopGhost
import Derived.Deep.DeepCutAuto
import Derived.BigQuiet
import Derived.Deep.RegionLaw
import Derived.RegionTactic
namespace Go.Proofs.Ytpopbkcbplmcaaa
set_option linter.unusedVariables false
set_option linter.unusedSimpArgs false
open Go.RowKit

section
variable {w0 W W6 : World} {base g gr dims gx gl b b4 d : Nat} {bs : List UInt8} {e c : Int} {v v6 : Value} {ps ql : List PoL} {t tl : TreeT} {pl : Option Addr}
theorem CtS.kept (h : CtS w0 W base g gr dims gx bs b e v ps d c pl) (f : Fr (S3 g gr v) W W6) : W6.heap[gx]? = some (.cells #[.slice none 0 0, .int .i64 (d : Nat), .int .i64 c, .pointer pl, .pointer none] 94 (0, 0)) := by
  refine f.blk h.x ?_
  rintro (e | e | e)
  · obtain ⟨cs, fz, hh⟩ := h.nd.rd.blkB
    exact off_is (t' := 94) hh (by decide) _ _ _ h.x e
  · exact off_is (t' := 94) h.nd.row (by decide) _ _ _ h.x e
  · exact h.nd.own.ne_blk e h.x (by decide)
theorem CtS.left (h : CtS w0 W base g gr dims gx bs b e v ps d c none) (f : Fr (S3 g gr v) W W6) (hn : ND W6 base g gr dims bs b4 0 v6 (ps ++ ql)) (ht : TreeM W6 (fun k => W.heap.size ≤ k ∧ Done W6 g gr v6 k) t gl) :
    CtS w0 (W6.setCell ⟨gx, 3, none⟩ (.pointer (some ⟨gl, 0, none⟩))) base g gr dims gx bs b4 0 v6 (ps ++ ql) d c (some ⟨gl, 0, none⟩) ∧ TreeM (W6.setCell ⟨gx, 3, none⟩ (.pointer (some ⟨gl, 0, none⟩))) (fun k => W.heap.size ≤ k ∧ Done (W6.setCell ⟨gx, 3, none⟩ (.pointer (some ⟨gl, 0, none⟩))) g gr v6 k) t gl := by
  have hx := h.kept f
  have hlt := (Array.getElem?_eq_some_iff.1 h.x).1
  have f2 : Fr (Is gx) W6 (W6.setCell ⟨gx, 3, none⟩ (.pointer (some ⟨gl, 0, none⟩))) := (Fr.refl (Is gx) W6).setCell (p := ⟨gx, 3, none⟩) (fun _ => rfl) _
  have o2 : ∀ t, t ≠ 94 → Off (Is gx) W6 t := fun t ht => off_is hx ht
  refine ⟨⟨hn.off f2 (o2 _ (by decide)) (o2 _ (by decide)) (o2 _ (by decide)) (o2 _ (by decide)) (o2 _ (by decide)), ?_, h.hx⟩, ?_⟩
  · simp [World.setCell, Array.getElem?_modify, hx, Array.set!]
  · exact (TreeM.fr f2 (fun k hk e => by have e : k = gx := e; have := hk.1; omega) ht).mono fun k hk => ⟨hk.1, hk.2.next f2.size (fun _ h => .inl h)⟩
theorem CtS.right {M gq : Nat} (h : CtS w0 W base g gr dims gx bs b e v ps d c (some ⟨gl, 0, none⟩)) (hM : gx < M) (hM2 : w0.heap.size ≤ M) (htl : TreeM W (fun k => M ≤ k ∧ Done W g gr v k) tl gl) (f : Fr (S3 g gr v) W W6) (hn : ND W6 base g gr dims bs b4 0 v6 (ps ++ ql)) (ht : TreeM W6 (fun k => W.heap.size ≤ k ∧ Done W6 g gr v6 k) t gq) (mv : ∀ j, v6.ownBlock = some j → v.ownBlock = some j ∨ W.heap.size ≤ j) (h0 : g < w0.heap.size) (h1 : gr < w0.heap.size) :
    ND (W6.setCell ⟨gx, 4, none⟩ (.pointer (some ⟨gq, 0, none⟩))) base g gr dims bs b4 0 v6 (ps ++ ql) ∧ TreeM (W6.setCell ⟨gx, 4, none⟩ (.pointer (some ⟨gq, 0, none⟩))) (fun k => w0.heap.size ≤ k ∧ Done (W6.setCell ⟨gx, 4, none⟩ (.pointer (some ⟨gq, 0, none⟩))) g gr v6 k) (.cut d c tl t) gx := by
  have hx := h.kept f
  have hlt := (Array.getElem?_eq_some_iff.1 h.x).1
  have hlt6 := (Array.getElem?_eq_some_iff.1 hx).1
  have hhx := h.hx
  have f2 : Fr (Is gx) W6 (W6.setCell ⟨gx, 4, none⟩ (.pointer (some ⟨gq, 0, none⟩))) := (Fr.refl (Is gx) W6).setCell (p := ⟨gx, 4, none⟩) (fun _ => rfl) _
  have o2 : ∀ t, t ≠ 94 → Off (Is gx) W6 t := fun t ht => off_is hx ht
  have hz2 := f2.size
  have hz := f.size
  refine ⟨hn.off f2 (o2 _ (by decide)) (o2 _ (by decide)) (o2 _ (by decide)) (o2 _ (by decide)) (o2 _ (by decide)), ⟨h.hx, ?_⟩, gl, gq, ?_, ?_, ?_⟩
  · exact ⟨by omega, by omega, by omega, fun e => hn.own.ne_blk e hx (by decide)⟩
  · simp [World.setCell, Array.getElem?_modify, hx, Array.set!]
  · have t6 := TreeM.fr f (fun k hk => hk.2.no) htl
    have t7 := TreeM.fr f2 (fun k hk e => by have e : k = gx := e; have := hk.1; omega) t6
    exact t7.mono fun k hk => ⟨by have := hk.1; omega, (hk.2.next hz mv).next f2.size (fun _ h => .inl h)⟩
  · have t7 := TreeM.fr f2 (fun k hk e => by have e : k = gx := e; have := hk.1; omega) ht
    exact t7.mono fun k hk => ⟨by have := hk.1; have := h.hx; omega, hk.2.next f2.size (fun _ h => .inl h)⟩
end
set_option maxRecDepth 100000 in
set_option maxHeartbeats 8000000 in
theorem node_any (base g gr dims : Nat) (bs : List UInt8) (hdm : 1 ≤ dims ∧ dims ≤ 4) : ∀ (n a : Nat) (v : Value) (ps : List PoL) (w : World), ps.length + n ≤ 1048576 → ND w base g gr dims bs a 0 v ps → base ≤ w.heap.size →
    Calls Try.prog 33 #[.pointer (some ⟨gr, 0, none⟩), .int .i64 (n : Nat)] w (NodeQ w base g gr dims bs n a v ps) := by
  intro n
  induction n using Nat.strongRecOn with
  | ind n ih =>
    intro a v ps w hps h hbase
    by_cases h0 : bs[a]? = some 0
    · exact node_leaf base g gr dims n a bs v ps w hdm hps h hbase h0
    by_cases h1 : bs[a]? = some 1
    case neg => exact node_bad base g gr dims n a bs v ps w h h0 h1
    have hby := bytes_one h1
    have HBy0 := bytes_any g bs a 0 1 w h.rd
    rw [hby] at HBy0
    dsimp only at HBy0
    have HBy := hide HBy0
    have HN := hide h
    have H1 := hide h1
    have HBase := hide hbase
    have k0 : w.cell? ⟨gr, 0, none⟩ = some (.pointer (some ⟨g, 0, none⟩)) := cell_of_row _ _ 0 _ _ _ h.row
    have hf13 : ∀ W, Fr (Is g) w W → Fr (S3 g gr v) w W := fun W f => f.mono (fun i _ e => .inl e)
    have HF13 := hide hf13
    have hdm1 := hdm.1
    have hdm4 := hdm.2
    have HIh := hide ih
    clear hby h1 h0 h hbase HBy0 hf13 hdm ih
    go_enter Try.func33, Try.ntmps33
    go_upto_region 18 with (first
      | (go_at_call 49; refine HBy.out.mono ?_; rintro en w1 ⟨vk, rfl, hown, hrd, hf⟩; obtain ⟨Ak, ck, rfl, y1, y2, _, y3, _⟩ := hown.form; obtain ⟨adk, rfl, _, hck⟩ := y3.byte (k := 0) (Nat.zero_lt_one); have e0 : (([1] : List UInt8).getD 0 0).toNat = 1 := rfl; rw [e0, Addr.add_zero'] at hck; have HN1 := hide (HN.out.read hf hrd); have HF1 := hide hf; have k1 : w1.cell? ⟨gr, 0, none⟩ = some (.pointer (some ⟨g, 0, none⟩)) := cell_of_row _ _ 0 _ _ _ HN1.out.row; have HE1 := hide (err_any g bs (a + 1) 0 w1 HN1.out.rd); unfold maxLen at y2; clear hown hrd hf y3 e0)
      | (go_at_call 32; refine HE1.out.mono ?_; rintro en w' ⟨rfl, rfl⟩)
      | (go_at_call 31; refine (bgood_ok _).mono ?_; rintro en w' ⟨⟨r, rfl⟩, rfl⟩))
    clear k0 k1 hck HBy HE1
    by_cases h8 : 8 < n
    case neg =>
      have d1 : decide (8 < n) = false := decide_eq_false h8
      have d2 : decide ((8 : Int) < (n : Int)) = false := decide_eq_false (by omega)
      have HNo := hide (nodeR_few (dims := dims) (n := n) H1.out h8)
      go_wp2_with (first
        | (go_at_call 31; refine (bgood_bad _).mono ?_; rintro en w' ⟨rfl, rfl⟩))
      exact ⟨rfl, .inr ⟨HNo.out, rfl, HF13.out _ HF1.out⟩⟩
    have d1 : decide (8 < n) = true := decide_eq_true h8
    have d2 : decide ((8 : Int) < (n : Int)) = true := decide_eq_true (by omega)
    obtain ⟨⟨d, b1, e1⟩, hd⟩ : ∃ x, x = sizeS bs (a + 1) 0 ((dims : Int) - 1) := ⟨_, rfl⟩
    obtain ⟨⟨c, b2, e2⟩, hc⟩ : ∃ x, x = uintR bs b1 e1 := ⟨_, rfl⟩
    obtain ⟨⟨z, b3, e3⟩, hz⟩ : ∃ x, x = sizeS bs b2 e2 ((bs.length - b2 : Nat) : Int) := ⟨_, rfl⟩
    go_upto_region 19 with (first
      | (go_at_call 31; refine (bgood_ok _).mono ?_; rintro en w' ⟨⟨r2, rfl⟩, rfl⟩))
    clear d1 d2
    have HSz := hide (fun W (h : RD W g bs (a + 1) 0) => sizeN_any g bs (a + 1) 0 ((dims : Int) - 1) W h (by omega) (by omega))
    rw [← hd] at HSz
    obtain ⟨dm, ed⟩ : ∃ m : Nat, (dims : Int) - 1 = (m : Int) := ⟨dims - 1, by omega⟩
    have hdm3 : dm ≤ 3 := by omega
    have ew : IntKind.i64.wrap (dm : Int) = (dm : Int) := IntWalk.i64_in _ (by omega)
    have HEd := hide ed
    rw [ed] at HSz
    have HIn := hide (fun W (h : RD W g bs b1 e1) => int_any g bs b1 e1 W h)
    rw [← hc] at HIn
    have HS2 := hide (fun W (h : RD W g bs b2 e2) (hb : bs.length - b2 ≤ 140737488355328) => sizeN_any g bs b2 e2 ((bs.length - b2 : Nat) : Int) W h (by omega) (by omega))
    rw [← hz] at HS2
    dsimp only at HSz HIn HS2
    have HD := hide hd
    have HC := hide hc
    have HZ := hide hz
    clear hd hc hz
    have HNd := hide (HN1.out.fr0 (Fr.refl No w1).drew)
    have hFd : Fr (Is g) w w1.drew := HF1.out.drew
    have HFd := hide hFd
    have kr0 : w1.drew.cell? ⟨gr, 0, none⟩ = some (.pointer (some ⟨g, 0, none⟩)) := cell_of_row _ _ 0 _ _ _ HNd.out.row
    have kr1 : w1.drew.cell? ⟨gr, 1, none⟩ = some (.int .i64 (dims : Nat)) := cell_of_row _ _ 1 _ _ _ HNd.out.row
    have HSd := hide (HSz.out _ HNd.out.rd)
    clear hFd HSz
    refine wp_named fun K hK => ?_
    go_cut [8] from 111 to 127 (fun v8 wz => ∃ gx, v8 = .pointer (some ⟨gx, 0, none⟩) ∧ Hid (CtS w wz base g gr dims gx bs b2 e2 v ps d (unzz c) none) ∧ Hid (Fr (Is g) w wz))
    case first =>
      go_region_law (first
        | (go_simp; go_at_call 30; refine HSd.out.mono ?_; rintro en w2 ⟨rfl, hrd, hf⟩; have HN2 := hide (HNd.out.read hf hrd); have HF2 : Hid (Fr (Is g) w w2) := hide (HFd.out.trans hf (fun _ _ h => h)); have kr2 : w2.cell? ⟨gr, 0, none⟩ = some (.pointer (some ⟨g, 0, none⟩)) := cell_of_row _ _ 0 _ _ _ HN2.out.row; have HI2 := hide (HIn.out w2 hrd); clear hrd hf)
        | (go_simp; go_at_call 50; refine HI2.out.mono ?_; rintro en w3 ⟨rfl, hrd, hf⟩; have HN3 := hide (HN2.out.read hf hrd); have HF3 : Hid (Fr (Is g) w w3) := hide (HF2.out.trans hf (fun _ _ h => h)); clear hrd hf))
      all_goals (go_wp2; go_meet)
      all_goals (
        have fA := (Fr.refl No w3).alloc (.cells #[.slice none 0 0, .int .i64 (d : Nat), .int .i64 (unzz c), .pointer none, .pointer none] 94)
        exact ⟨w3.heap.size, rfl, hide ⟨HN3.out.fr0 fA, heap_alloc_new w3 _, HF3.out.size⟩, hide (HF3.out.trans fA (fun _ _ h => h.elim))⟩)
    case rest =>
      obtain ⟨gx, rfl, HCt, HFc⟩ := hcut
      refine hK _ _ ?_
      clear hK ed ew hdm3 kr0 kr1 HSd HNd HFd HIn HN1 HF1
      obtain ⟨w4, rfl⟩ : ∃ W : World, W = wc := ⟨_, rfl⟩
      obtain ⟨L2, hL2⟩ : ∃ x, x = bs.length - b2 := ⟨_, rfl⟩
      have hbl : bs.length ≤ 140737488355328 := by obtain ⟨_, _, _, _, _, _, _, q, _⟩ := HCt.out.nd.rd.parts; exact q
      have hL2b : L2 ≤ 140737488355328 := by omega
      have HCd := hide (HCt.out.fr0 (Fr.refl No w4).drew)
      have HLf := hide (left_any g bs b2 e2 w4.drew HCd.out.nd.rd)
      rw [← hL2] at HLf HS2
      have hFd : Fr (Is g) w w4.drew := HFc.out.drew
      have HFd := hide hFd
      have kr0 : w4.drew.cell? ⟨gr, 0, none⟩ = some (.pointer (some ⟨g, 0, none⟩)) := cell_of_row _ _ 0 _ _ _ HCd.out.nd.row
      have HL2 := hide hL2
      have HBl := hide hbl
      clear hFd hL2 hbl
      go_upto_region 20 with (fail)
      refine wp_named fun K hK => ?_
      go_cut [9] from 128 to 137 (fun v9 wz => v9 = .int .i64 (z : Nat) ∧ Hid (CtS w wz base g gr dims gx bs b3 e3 v ps d (unzz c) none) ∧ Hid (Fr (Is g) w wz))
      case first =>
        go_region_law (first
          | (go_simp; go_at_call 51; refine HLf.out.mono ?_; rintro en w5 ⟨rfl, nq, hw5⟩; have hf5 : Fr No w4.drew w5 := (by rw [hw5]; exact (Fr.refl No w4.drew).drewN nq); have HC5 := hide (HCd.out.fr0 hf5); have HF5 : Hid (Fr (Is g) w w5) := hide (HFd.out.trans hf5 (fun _ _ h => h.elim)); have kr5 : w5.cell? ⟨gr, 0, none⟩ = some (.pointer (some ⟨g, 0, none⟩)) := cell_of_row _ _ 0 _ _ _ HC5.out.nd.row; have HS5 := hide (HS2.out w5 HC5.out.nd.rd hL2b); clear hf5 hw5)
          | (go_simp; go_at_call 30; refine HS5.out.mono ?_; rintro en w6 ⟨rfl, hrd, hf⟩; have HC6 := hide (HC5.out.read hf hrd); have HF6 : Hid (Fr (Is g) w w6) := hide (HF5.out.trans hf (fun _ _ h => h)); clear hrd hf))
        all_goals (go_wp2; go_meet)
        all_goals exact ⟨rfl, HC6, HF6⟩
      case rest =>
        obtain ⟨rfl, HCz, HFz⟩ := hcut
        refine hK _ _ ?_
        obtain ⟨w7, rfl⟩ : ∃ W : World, W = wc := ⟨_, rfl⟩
        clear hK kr0 HLf HCd HFd HCt HFc HS2 hL2b
        have HEi := hide (err_any g bs b3 e3 w7 HCz.out.nd.rd)
        have kr7 : w7.cell? ⟨gr, 0, none⟩ = some (.pointer (some ⟨g, 0, none⟩)) := cell_of_row _ _ 0 _ _ _ HCz.out.nd.row
        by_cases he : e3 = 0
        case neg =>
          have d2 : (e3 == 0) = false := by simpa using he
          have HNo := hide (nodeR_hdr (dims := dims) (n := n) H1.out h8 HD.out.symm HC.out.symm HZ.out.symm he)
          clear he
          go_wp2_with (first
            | (go_at_call 32; refine HEi.out.mono ?_; rintro en w' ⟨rfl, rfl⟩)
            | (go_at_call 31; refine (bgood_bad _).mono ?_; rintro en w' ⟨rfl, rfl⟩))
          exact ⟨rfl, .inr ⟨HNo.out, rfl, HF13.out _ HFz.out⟩⟩
        subst he
        have d2 : ((0 : Int) == 0) = true := by decide
        have HCut := hide (nodeR_cut (dims := dims) (n := n) H1.out h8 HD.out.symm HC.out.symm HZ.out.symm)
        go_upto_region 22 with (first
          | (go_at_call 32; refine HEi.out.mono ?_; rintro en w' ⟨rfl, rfl⟩)
          | (go_at_call 31; refine (bgood_ok _).mono ?_; rintro en w' ⟨⟨r3, rfl⟩, rfl⟩))
        clear d2 HEi HD HC HZ
        obtain ⟨k, hk⟩ : ∃ k, k = (n + 1) / 2 := ⟨_, rfl⟩
        obtain ⟨j, hj⟩ : ∃ j, j = n / 2 := ⟨_, rfl⟩
        rw [← hk, ← hj] at HCut
        have ek : ((n : Int) + 1) / 2 = (k : Int) := by omega
        have ej : (n : Int) / 2 = (j : Int) := by omega
        have hkj : k + j = n := by omega
        have hkn : k < n := by omega
        have hjn : j < n := by omega
        have HIl := hide (fun W (h : ND W base g gr dims bs b3 0 v ps) (hb : base ≤ W.heap.size) => HIh.out k hkn b3 v ps W (by omega) h hb)
        have HIr := hide (fun b4 v' (ql : List PoL) W (hl : ql.length = k) (h : ND W base g gr dims bs b4 0 v' (ps ++ ql)) (hb : base ≤ W.heap.size) => HIh.out j hjn b4 v' (ps ++ ql) W (by rw [List.length_append]; omega) h hb)
        have h3l : b3 ≤ bs.length := by obtain ⟨_, _, _, _, _, _, q, _⟩ := HCz.out.nd.rd.parts; exact q
        obtain ⟨bl, hbl⟩ : ∃ x, x = bs.length - b3 := ⟨_, rfl⟩
        have HLf3 := hide (left_any g bs b3 0 w7 HCz.out.nd.rd)
        rw [← hbl] at HLf3
        have HBl2 := hide hbl
        clear hk hj HIh hbl
        go_upto_region 23 with (first
          | (go_at_call 51; refine HLf3.out.mono ?_; rintro en w8 ⟨rfl, nq, hw8⟩; have hf8 : Fr No w7 w8 := (by rw [hw8]; exact (Fr.refl No w7).drewN nq); have HC8 := hide (HCz.out.fr0 hf8); have HF8 : Hid (Fr (Is g) w w8) := hide (HFz.out.trans hf8 (fun _ _ h => h.elim)); clear hf8 hw8))
        clear HLf3 kr7 HCz HFz
        have HIl8 := hide (HIl.out w8 HC8.out.nd (by have := HF8.out.size; have := HBase.out; omega))
        clear HIl
        have hgl0 := HN.out.lt
        have HG0 := hide hgl0
        clear hgl0
        go_wp2_with (fail)
        refine HIl8.out.mono ?_
        rintro en w9 hq
        clear HIl8
        rcases hq with ⟨tl, b4, gl, v9, ql, rfl, hnr, hqm, hnd, htm, hmv, hf⟩ | ⟨hnr, rfl, hf⟩
        case inr =>
          have HNo : Hid (nodeR bs dims n a = none) := hide (by rw [HCut.out, hnr])
          have HF9 : Hid (Fr (S3 g gr v) w w9) := hide ((HF13.out _ HF8.out).trans hf (fun _ _ h => h))
          clear hnr hf
          go_wp2_with (fail)
          exact ⟨rfl, .inr ⟨HNo.out, rfl, HF9.out⟩⟩
        have hqll : ql.length = k := by rw [← (nodeR_is k hnr).1, ← hqm, List.length_map]
        have HX9 := hide (HC8.out.kept hf)
        have HLf9 := hide (HC8.out.left hf hnd htm)
        have hgM : gx < w8.heap.size := (Array.getElem?_eq_some_iff.1 HC8.out.x).1
        have k9 : w9.cell? ⟨gx, 3, none⟩ = some (.pointer none) := cell_of_row _ _ 3 _ _ _ HX9.out
        have fz9 : w9.frozen? ⟨gx, 3, none⟩ = false := frozen_of_row _ _ _ _ _ HX9.out
        have HMv := hide hmv
        have HF9 : Hid (Fr (S3 g gr v) w (w9.setCell ⟨gx, 3, none⟩ (.pointer (some ⟨gl, 0, none⟩)))) := hide (((HF13.out _ HF8.out).trans hf (fun _ _ h => h)).trans ((Fr.refl (Is gx) w9).setCell (p := ⟨gx, 3, none⟩) (fun _ => rfl) _) (fun i hi e => by have e : i = gx := e; have := HC8.out.hx; omega))
        have HNr := hide hnr
        have HQm := hide hqm
        have HQl := hide hqll
        have HGM := hide hgM
        have HM0 := hide HF8.out.size
        have h4l : b4 ≤ bs.length := by obtain ⟨_, _, _, _, _, _, q, _⟩ := hnd.rd.parts; exact q
        clear hnr hqm hqll hnd htm hmv hf hgM
        go_upto_region 24 with (fail)
        obtain ⟨M, hM⟩ : ∃ M, M = w8.heap.size := ⟨_, rfl⟩
        rw [← hM] at HLf9 HGM HM0 HMv
        obtain ⟨w10, hw10⟩ : ∃ x, x = w9.setCell ⟨gx, 3, none⟩ (.pointer (some ⟨gl, 0, none⟩)) := ⟨_, rfl⟩
        rw [← hw10] at HLf9 HF9 ⊢
        clear hw10 hM k9 fz9 HX9 HC8 HF8
        have kr10 : w10.cell? ⟨gr, 0, none⟩ = some (.pointer (some ⟨g, 0, none⟩)) := cell_of_row _ _ 0 _ _ _ HLf9.out.1.nd.row
        obtain ⟨r2, hr2⟩ : ∃ x, x = bs.length - b4 := ⟨_, rfl⟩
        have HL10 := hide (left_any g bs b4 0 w10 HLf9.out.1.nd.rd)
        rw [← hr2] at HL10
        obtain ⟨dd, hdd⟩ : ∃ x : Int, x = (bl : Int) - (r2 : Int) := ⟨_, rfl⟩
        have hs1 : (bl : Int) - (r2 : Int) = dd := hdd.symm
        have hblL := HBl.out
        have hbl := HBl2.out
        have hs2 : wrap64 dd = dd := by unfold wrap64; omega
        by_cases hdz : dd = (z : Int)
        case neg =>
          have d3 : (dd == (z : Int)) = false := by simpa using hdz
          have HNo : Hid (nodeR bs dims n a = none) := hide (by
            rw [HCut.out, HNr.out]
            dsimp only
            rw [if_neg (by omega)])
          clear hdz hdd hr2 hbl h4l h3l hblL
          go_wp2_with (first
            | (go_at_call 51; refine HL10.out.mono ?_; rintro en w11 ⟨rfl, nq, hw11⟩; have HF11 : Hid (Fr (S3 g gr v) w w11) := hide (by rw [hw11]; exact HF9.out.drewN nq); clear hw11)
            | (go_at_call 31; refine (bgood_bad _).mono ?_; rintro en w' ⟨rfl, rfl⟩))
          exact ⟨rfl, .inr ⟨HNo.out, rfl, HF11.out⟩⟩
        have hb4 : b4 = b3 + z := by omega
        have d3 : (dd == (z : Int)) = true := by simpa using hdz
        have HB4 := hide hb4
        clear hdz hb4 hdd hr2 hbl h4l h3l hblL
        go_upto_region 25 with (first
          | (go_at_call 51; refine HL10.out.mono ?_; rintro en w11 ⟨rfl, nq, hw11⟩; have hf11 : Fr No w10 w11 := (by rw [hw11]; exact (Fr.refl No w10).drewN nq); have HF11 : Hid (Fr (S3 g gr v) w w11) := hide (HF9.out.trans hf11 (fun _ _ h => h.elim)); have HC11 := hide (HLf9.out.1.fr0 hf11); have HT11 : Hid (TreeM w11 (fun k => M ≤ k ∧ Done w11 g gr v9 k) tl gl) := hide ((TreeM.fr hf11 (fun _ _ h => h) HLf9.out.2).mono fun k hk => ⟨hk.1, hk.2.next hf11.size (fun _ h => .inl h)⟩); clear hf11 hw11)
          | (go_at_call 31; refine (bgood_ok _).mono ?_; rintro en w' ⟨⟨r4, rfl⟩, rfl⟩))
        clear hs1 hs2 d3 kr10 HL10 HLf9
        have HIr11 := hide (HIr.out b4 v9 ql w11 HQl.out HC11.out.nd (by have := HF11.out.size; have := HBase.out; omega))
        clear HIr
        go_wp2_with (fail)
        refine HIr11.out.mono ?_
        rintro en w12 hq
        clear HIr11
        rcases hq with ⟨tr, b5, gq, v12, qr, rfl, hnr, hqm, hnd, htm, hmv, hf⟩ | ⟨hnr, rfl, hf⟩
        case inr =>
          have HNo : Hid (nodeR bs dims n a = none) := hide (by
            rw [HCut.out, HNr.out]
            dsimp only
            rw [if_pos HB4.out, hnr])
          have HF12 : Hid (Fr (S3 g gr v) w w12) := hide (HF11.out.trans hf (fun i hi e => by
            rcases e with e | e | e
            · exact .inl e
            · exact .inr (.inl e)
            · rcases HMv.out i e with h | h
              · exact .inr (.inr h)
              · have := HM0.out; omega))
          clear hnr hf
          go_wp2_with (fail)
          exact ⟨rfl, .inr ⟨HNo.out, rfl, HF12.out⟩⟩
        have HX12 := hide (HC11.out.kept hf)
        have HRt := hide (HC11.out.right HGM.out HM0.out HT11.out hf hnd htm hmv HG0.out.1 HG0.out.2)
        have k12 : w12.cell? ⟨gx, 4, none⟩ = some (.pointer none) := cell_of_row _ _ 4 _ _ _ HX12.out
        have fz12 : w12.frozen? ⟨gx, 4, none⟩ = false := frozen_of_row _ _ _ _ _ HX12.out
        have hgxw : w.heap.size ≤ gx := HC11.out.hx
        have HF12 : Hid (Fr (S3 g gr v) w (w12.setCell ⟨gx, 4, none⟩ (.pointer (some ⟨gq, 0, none⟩)))) := hide ((HF11.out.trans hf (fun i hi e => by
            rcases e with e | e | e
            · exact .inl e
            · exact .inr (.inl e)
            · rcases HMv.out i e with h | h
              · exact .inr (.inr h)
              · have := HM0.out; omega)).trans ((Fr.refl (Is gx) w12).setCell (p := ⟨gx, 4, none⟩) (fun _ => rfl) _) (fun i hi e => by have e : i = gx := e; omega))
        have HMv2 : Hid (∀ j, v12.ownBlock = some j → v.ownBlock = some j ∨ w.heap.size ≤ j) := hide (fun i hi => by
          rcases hmv i hi with h | h
          · rcases HMv.out i h with h | h
            · exact .inl h
            · have := HM0.out; exact .inr (by omega)
          · have := HF11.out.size; exact .inr (by omega))
        have HNo : Hid (nodeR bs dims n a = some (.cut d (unzz c) tl tr, b5)) := hide (by
            rw [HCut.out, HNr.out]
            dsimp only
            rw [if_pos HB4.out, hnr])
        have HQ2 : Hid ((ql ++ qr).map (·.1) = flatT (.cut d (unzz c) tl tr)) := hide (by rw [List.map_append, HQm.out, hqm, flatT])
        clear hnr hqm hnd htm hmv hf hgxw
        go_wp2_with (fail)
        go_ret
        exact .inl ⟨_, b5, gx, v12, ql ++ qr, rfl, HNo.out, HQ2.out, by rw [← List.append_assoc]; exact HRt.out.1, HRt.out.2, HMv2.out, HF12.out⟩
end Go.Proofs.Ytpopbkcbplmcaaa
namespace Go.Proofs.Ytpopbkcbplmcaaa
set_option linter.unusedVariables false
set_option linter.unusedSimpArgs false
open Go.RowKit

/-- the bounds of points. -/
def lowsB (dims : Nat) (l : List Pt) : List Int := if l = [] then [] else (List.range dims).map fun d => lowP d l ((l.getD 0 noPt).2.getD d 0)
def highsB (dims : Nat) (l : List Pt) : List Int := if l = [] then [] else (List.range dims).map fun d => highP d l ((l.getD 0 noPt).2.getD d 0)
theorem lowsB_perm {dims : Nat} {l m : List Pt} (h : l.Perm m) : lowsB dims l = lowsB dims m := by
  unfold lowsB
  by_cases h0 : l = []
  · subst h0; rw [List.nil_perm.1 h]
  · have h1 : m ≠ [] := fun e => h0 (by subst e; exact List.perm_nil.1 h)
    rw [if_neg h0, if_neg h1]
    exact List.map_congr_left fun d _ => lowP_perm h (List.length_pos_iff.2 h0)
theorem highsB_perm {dims : Nat} {l m : List Pt} (h : l.Perm m) : highsB dims l = highsB dims m := by
  unfold highsB
  by_cases h0 : l = []
  · subst h0; rw [List.nil_perm.1 h]
  · have h1 : m ≠ [] := fun e => h0 (by subst e; exact List.perm_nil.1 h)
    rw [if_neg h0, if_neg h1]
    exact List.map_congr_left fun d _ => highP_perm h (List.length_pos_iff.2 h0)
/-- a tree at hand. -/
structure TrM (w : World) (base gT dims : Nat) (l : List Pt) : Prop where
  ex : ∃ gn vlo vhi, w.heap[gT]? = some (.cells #[.int .i64 (dims : Nat), .int .i64 (l.length : Nat), .pointer (some ⟨gn, 0, none⟩), vlo, vhi] 76 (0, 0)) ∧ TreeM w (fun k => base ≤ k ∧ k < w.heap.size) (treeT dims l) gn ∧
    Own w base 2 1 vlo (lowsB dims l).length (iz .i64 (lowsB dims l)) ∧ Own w base 2 1 vhi (highsB dims l).length (iz .i64 (highsB dims l))
  lo : base ≤ gT
theorem TrM.fr {S : Nat → Prop} {w w' : World} {base gT dims : Nat} {l : List Pt} (h : TrM w base gT dims l) (f : Fr S w w') (hS : ∀ k, S k → k < base) : TrM w' base gT dims l := by
  obtain ⟨gn, vlo, vhi, q1, q2, q3, q4⟩ := h.ex
  have hS' : ∀ k, base ≤ k → ¬ S k := fun k h1 h2 => by have := hS k h2; omega
  exact ⟨⟨gn, vlo, vhi, f.blk q1 (hS' gT h.lo), (TreeM.fr f (fun k hk => hS' k hk.1) q2).mono fun k hk => ⟨hk.1, by have := f.size; omega⟩, q3.fr f (fun k hk => hS' k (q3.lt k hk).1), q4.fr f (fun k hk => hS' k (q4.lt k hk).1)⟩, h.lo⟩
theorem TrM.fr0 {w w' : World} {base gT dims : Nat} {l : List Pt} (h : TrM w base gT dims l) (f : Fr No w w') : TrM w' base gT dims l := h.fr f (fun _ h => h.elim)
/-- two rows of points of one form. -/
theorem isB_two {bs : List UInt8} {dims dims' : Nat} {l l' : List Pt} (h : IsB bs dims l) (h' : IsB bs dims' l') : dims = dims' ∧ l.Perm l' := by
  obtain ⟨h1, _, h2, _⟩ := openI_uniq h.openI h'.openI
  subst h1
  exact ⟨rfl, (flatT_perm dims _ l rfl).symm.trans (by rw [h2]; exact flatT_perm dims _ l' rfl)⟩
theorem TrM.perm {w : World} {base gT dims : Nat} {l l' : List Pt} (h : TrM w base gT dims l) (hp : l.Perm l') (ht : treeT dims l = treeT dims l') : TrM w base gT dims l' := by
  obtain ⟨gn, vlo, vhi, q1, q2, q3, q4⟩ := h.ex
  rw [hp.length_eq] at q1
  rw [ht] at q2
  rw [lowsB_perm hp] at q3
  rw [highsB_perm hp] at q4
  exact ⟨⟨gn, vlo, vhi, q1, q2, q3, q4⟩, h.lo⟩
def BOpP (w : World) (bs : List UInt8) (en : Ending) (w' : World) : Prop :=
  ∃ (p : Option Addr) (e : Int), en = .returned (.tuple #[.pointer p, .int .i64 e]) ∧ Fr No w w' ∧
    ((∃ dims l gT, IsB bs dims l ∧ p = some ⟨gT, 0, none⟩ ∧ e = 0 ∧ TrM w' w.heap.size gT dims l) ∨ ((∀ dims l, ¬ IsB bs dims l) ∧ p = none ∧ e = 20))
/-- what a form is opened as. -/
theorem BOpP.yes {w w' : World} {bs : List UInt8} {en : Ending} {dims : Nat} {l : List Pt} (h : BOpP w bs en w') (hb : IsB bs dims l) : ∃ gT, en = .returned (.tuple #[.pointer (some ⟨gT, 0, none⟩), .int .i64 0]) ∧ Fr No w w' ∧ TrM w' w.heap.size gT dims l := by
  obtain ⟨p, e, h1, h2, ⟨dims', l', gT, h3, rfl, rfl, h4⟩ | ⟨h3, _⟩⟩ := h
  · obtain ⟨q1, _, q2, _⟩ := openI_uniq h3.openI hb.openI
    obtain ⟨_, q3⟩ := isB_two h3 hb
    subst q1
    exact ⟨gT, h1, h2, h4.perm q3 q2⟩
  · exact absurd hb (h3 dims l)
theorem BOpP.no {w w' : World} {bs : List UInt8} {en : Ending} (h : BOpP w bs en w') (hb : ∀ dims l, ¬ IsB bs dims l) : en = .returned (.tuple #[.pointer none, .int .i64 20]) ∧ Fr No w w' := by
  obtain ⟨p, e, h1, h2, ⟨dims', l', gT, h3, rfl, rfl, h4⟩ | ⟨h3, rfl, rfl⟩⟩ := h
  · exact absurd h3 (hb dims' l')
  · exact ⟨h1, h2⟩

def chainBR : List PanicEntry := [{ v := .iface 63 (.agg #[]), recovered := true }]
set_option maxRecDepth 100000 in
theorem brec_bad (n b1 b2 : Nat) (v1 v2 : Value) (w : World) (hne : b1 ≠ b2) (h1 : w.cell? ⟨b1, 0, none⟩ = some v1) (h2 : w.cell? ⟨b2, 0, none⟩ = some v2) (z1 : w.frozen? ⟨b1, 0, none⟩ = false) (z2 : w.frozen? ⟨b2, 0, none⟩ = false) :
    CallsDIn Fence.wide n Try.prog 28 #[.pointer (some ⟨b1, 0, none⟩), .pointer (some ⟨b2, 0, none⟩)] (.panicking chainB) w fun e u' w' =>
      e = .returned (.tuple #[]) ∧ u' = .panicking chainBR ∧ w' = ((w.alloc (.cells #[] 63)).setCell ⟨b1, 0, none⟩ (.pointer none)).setCell ⟨b2, 0, none⟩ (.int .i64 20) := by
  refine callsDIn_of_wpSIn Try.func28 rfl trivial fun c₀ cs hu => ?_
  simp only [Try.ntmps28, List.size_toArray, List.length_cons, List.length_nil, Nat.reduceAdd, Nat.reduceSub, Array.replicate_succ, Array.replicate_zero, List.push_toArray, List.append_toArray, List.nil_append, List.cons_append]
  apply wpSIn_seq
  apply wpSIn_region
  simp [wpOpsSIn, go_sem, recoverD, hu, chainB, Exit.thenS]
  refine wpSIn_of_wpIn rfl ?_
  have a1 : (w.alloc (.cells #[] 63)).cell? ⟨b1, 0, none⟩ = some v1 := ((Fr.refl No w).alloc _).cell h1 (fun h => h)
  have a2 : (w.alloc (.cells #[] 63)).cell? ⟨b2, 0, none⟩ = some v2 := ((Fr.refl No w).alloc _).cell h2 (fun h => h)
  have y1 : (w.alloc (.cells #[] 63)).frozen? ⟨b1, 0, none⟩ = false := by
    unfold World.cell? at h1
    simp only [World.frozen?] at z1 ⊢
    cases hb : w.heap[b1]? with
    | none => rw [hb] at h1; simp at h1
    | some o => rw [((Fr.refl No w).alloc (.cells #[] 63)).blk hb (fun h => h)]; rw [hb] at z1; exact z1
  have y2 : (w.alloc (.cells #[] 63)).frozen? ⟨b2, 0, none⟩ = false := by
    unfold World.cell? at h2
    simp only [World.frozen?] at z2 ⊢
    cases hb : w.heap[b2]? with
    | none => rw [hb] at h2; simp at h2
    | some o => rw [((Fr.refl No w).alloc (.cells #[] 63)).blk hb (fun h => h)]; rw [hb] at z2; exact z2
  have hta : ∀ W : World, (Instr.typeAssert (.iface 63 (.agg #[])) 20 63 true).run Try.prog W = .ok (.tuple #[.agg #[], .bool true]) W := fun W => by kernel_rfl
  have a3 : ((w.alloc (.cells #[] 63)).setCell ⟨b1, 0, none⟩ (.pointer none)).cell? ⟨b2, 0, none⟩ = some v2 := (World.cell?_setCell_other _ ⟨b1, 0, none⟩ ⟨b2, 0, none⟩ _ (by intro h; injection h; exact hne (by assumption))).trans a2
  clear h1 h2 z1 z2
  gi_wp2
  exact ⟨rfl, _, rfl, _, results_none rfl _ _ _, rfl, rfl, rfl⟩
set_option maxRecDepth 100000 in
theorem brec_ok (n b1 b2 : Nat) (w : World) :
    CallsDIn Fence.wide n Try.prog 28 #[.pointer (some ⟨b1, 0, none⟩), .pointer (some ⟨b2, 0, none⟩)] .returning w fun e u' w' =>
      e = .returned (.tuple #[]) ∧ u' = .returning ∧ w' = w.alloc (.cells #[] 63) := by
  refine callsDIn_of_wpSIn Try.func28 rfl trivial fun c₀ cs hu => ?_
  simp only [Try.ntmps28, List.size_toArray, List.length_cons, List.length_nil, Nat.reduceAdd, Nat.reduceSub, Array.replicate_succ, Array.replicate_zero, List.push_toArray, List.append_toArray, List.nil_append, List.cons_append]
  apply wpSIn_seq
  apply wpSIn_region
  simp [wpOpsSIn, go_sem, recoverD, hu, Exit.thenS]
  refine wpSIn_of_wpIn rfl ?_
  have hta : ∀ W : World, (Instr.typeAssert .nilIface 20 63 true).run Try.prog W = .ok (.tuple #[.agg #[], .bool false]) W := fun W => by kernel_rfl
  gi_wp2
  cases c₀
  simp only at hu
  subst hu
  exact ⟨rfl, _, rfl, _, results_none rfl _ _ _, rfl, rfl, rfl⟩
def clB (b1 b2 : Nat) : Deferred := { target := .fn (.func 28) #[.pointer (some ⟨b1, 0, none⟩), .pointer (some ⟨b2, 0, none⟩)], args := #[] }
theorem bleave_bad {n : Nat} {tmps : Array Value} {w W : World} {bs : List UInt8} {b1 b2 : Nat} {v1 v2 : Value} (ht2 : tmps[2]? = some (.pointer (some ⟨b1, 0, none⟩))) (ht3 : tmps[3]? = some (.pointer (some ⟨b2, 0, none⟩))) (hne : b1 ≠ b2) (hb1 : w.heap.size ≤ b1) (hb2 : w.heap.size ≤ b2)
    (h1 : W.heap[b1]? = some (.cells #[v1] 29 (0, 0))) (h2 : W.heap[b2]? = some (.cells #[v2] 30 (0, 0))) (hF : Fr No w W) (hno : ∀ dims l, ¬ IsB bs dims l) :
    LeavesInM Fence.wide n Try.prog Try.f9 tmps (BOpP w bs) [clB b1 b2] (.panicking chainB) W := by
  have c1 : W.cell? ⟨b1, 0, none⟩ = some v1 := cell_of_row _ _ 0 _ _ _ h1
  have c2 : W.cell? ⟨b2, 0, none⟩ = some v2 := cell_of_row _ _ 0 _ _ _ h2
  have z1 : W.frozen? ⟨b1, 0, none⟩ = false := frozen_of_row _ _ _ _ _ h1
  have z2 : W.frozen? ⟨b2, 0, none⟩ = false := frozen_of_row _ _ _ _ _ h2
  have eg : ∀ args w, (callFunc 28 args).run Try.prog w = .ok (.enter 28 args) w := enters_of Try.func28 (by kernel_rfl) rfl
  refine ⟨by simp, .inr ⟨(by intro h; cases h), _, _, 28, #[.pointer (some ⟨b1, 0, none⟩), .pointer (some ⟨b2, 0, none⟩)], rfl, by simp [clB, invoke, go_sem, eg], (fun _ _ => trivial), ?_⟩⟩
  refine (brec_bad (n - 1) b1 b2 v1 v2 W hne c1 c2 z1 z2).mono ?_
  rintro e u' w'' ⟨rfl, rfl, rfl⟩
  show LeavesIn _ _ _ _ _ _ _ _ _
  have a1 : (((W.alloc (.cells #[] 63)).setCell ⟨b1, 0, none⟩ (.pointer none)).setCell ⟨b2, 0, none⟩ (.int .i64 20)).cell? ⟨b1, 0, none⟩ = some (.pointer none) :=
    (World.cell?_setCell_other _ ⟨b2, 0, none⟩ ⟨b1, 0, none⟩ _ (by intro h; injection h; exact hne (by rename_i h _ _; exact h.symm))).trans (World.cell?_setCell_same' _ ⟨b1, 0, none⟩ _ (by rw [((Fr.refl No W).alloc _).cell c1 (fun h => h)]; rfl))
  have a2 : (((W.alloc (.cells #[] 63)).setCell ⟨b1, 0, none⟩ (.pointer none)).setCell ⟨b2, 0, none⟩ (.int .i64 20)).cell? ⟨b2, 0, none⟩ = some (.int .i64 20) :=
    World.cell?_setCell_same' _ ⟨b2, 0, none⟩ _ (by rw [World.cell?_setCell_other _ ⟨b1, 0, none⟩ ⟨b2, 0, none⟩ _ (by intro h; injection h; exact hne (by assumption)), ((Fr.refl No W).alloc _).cell c2 (fun h => h)]; rfl)
  have hFe : Fr No w (((W.alloc (.cells #[] 63)).setCell ⟨b1, 0, none⟩ (.pointer none)).setCell ⟨b2, 0, none⟩ (.int .i64 20)) := ((hF.alloc _).setCell (p := ⟨b1, 0, none⟩) (fun h => by have h : b1 < w.heap.size := h; omega) _).setCell (p := ⟨b2, 0, none⟩) (fun h => by have h : b2 < w.heap.size := h; omega) _
  generalize ((W.alloc (.cells #[] 63)).setCell ⟨b1, 0, none⟩ (.pointer none)).setCell ⟨b2, 0, none⟩ (.int .i64 20) = Z at a1 a2 hFe
  refine ⟨.tuple #[.pointer none, .int .i64 20], ?_, none, 20, rfl, hFe, .inr ⟨hno, rfl, rfl⟩⟩
  simp [results, Try.f9, go_sem, ht2, ht3, a1, a2]
theorem bleave_ok {n : Nat} {tmps : Array Value} {w W : World} {bs : List UInt8} {b1 b2 gT dims : Nat} {l : List Pt} (ht2 : tmps[2]? = some (.pointer (some ⟨b1, 0, none⟩))) (ht3 : tmps[3]? = some (.pointer (some ⟨b2, 0, none⟩)))
    (h1 : W.heap[b1]? = some (.cells #[.pointer (some ⟨gT, 0, none⟩)] 29 (0, 0))) (h2 : W.heap[b2]? = some (.cells #[.int .i64 0] 30 (0, 0))) (hF : Fr No w W) (hok : IsB bs dims l) (hst : TrM W w.heap.size gT dims l) :
    LeavesInM Fence.wide n Try.prog Try.f9 tmps (BOpP w bs) [clB b1 b2] .returning W := by
  have eg : ∀ args w, (callFunc 28 args).run Try.prog w = .ok (.enter 28 args) w := enters_of Try.func28 (by kernel_rfl) rfl
  refine ⟨by simp, .inr ⟨(by intro h; cases h), _, _, 28, #[.pointer (some ⟨b1, 0, none⟩), .pointer (some ⟨b2, 0, none⟩)], rfl, by simp [clB, invoke, go_sem, eg], (fun _ _ => trivial), ?_⟩⟩
  refine (brec_ok (n - 1) b1 b2 W).mono ?_
  rintro e u' w'' ⟨rfl, rfl, rfl⟩
  show LeavesIn _ _ _ _ _ _ _ _ _
  have a1 : (W.alloc (.cells #[] 63)).cell? ⟨b1, 0, none⟩ = some (.pointer (some ⟨gT, 0, none⟩)) := ((Fr.refl No W).alloc _).cell (cell_of_row _ _ 0 _ _ _ h1) (fun h => h)
  have a2 : (W.alloc (.cells #[] 63)).cell? ⟨b2, 0, none⟩ = some (.int .i64 0) := ((Fr.refl No W).alloc _).cell (cell_of_row _ _ 0 _ _ _ h2) (fun h => h)
  have hFe : Fr No w (W.alloc (.cells #[] 63)) := hF.alloc _
  have hSe := hst.fr0 ((Fr.refl No W).alloc (.cells #[] 63))
  generalize W.alloc (.cells #[] 63) = Z at a1 a2 hFe hSe
  refine ⟨.tuple #[.pointer (some ⟨gT, 0, none⟩), .int .i64 0], ?_, some ⟨gT, 0, none⟩, 0, rfl, hFe, .inl ⟨dims, l, gT, hok, rfl, rfl, hSe⟩⟩
  simp [results, Try.f9, go_sem, ht2, ht3, a1, a2]
end Go.Proofs.Ytpopbkcbplmcaaa
namespace Go.Proofs.Ytpopbkcbplmcaaa
set_option linter.unusedVariables false
set_option linter.unusedSimpArgs false
open Go.RowKit

/-- blocks that what is done with a point may write. -/
def DoS (base : Nat) (W : World) (k : Nat) : Prop := base ≤ k ∧ ∃ cs fz t, W.heap[k]? = some (.cells cs t fz) ∧ (t = 3 ∨ t = 40)
theorem Fr.dos {base : Nat} {W W' W'' : World} (h : Fr (DoS base W) W W') (k : Fr (DoS base W') W' W'') : Fr (DoS base W) W W'' := h.trans k (fun i hi hs => by
  by_cases hd : DoS base W i
  · exact hd
  · obtain ⟨h1, cs, fz, t, h2, h3⟩ := hs
    exact ⟨h1, cs, fz, t, by rw [← h.block i hi hd]; exact h2, h3⟩)
theorem Fr.dos0 {base : Nat} {W W' W'' : World} (h : Fr No W W') (k : Fr (DoS base W') W' W'') : Fr (DoS base W) W W'' := (h.any (DoS base W)).dos k
theorem dos_low {base : Nat} {W : World} {k : Nat} (h : k < base) : ¬ DoS base W k := fun e => by have := e.1; omega
theorem dos_off {base : Nat} {W : World} {k : Nat} {cs : Array Value} {t : TypeId} {fz : Nat × Nat} (h : W.heap[k]? = some (.cells cs t fz)) (h1 : t ≠ 3) (h2 : t ≠ 40) : ¬ DoS base W k := fun e => by
  obtain ⟨_, cs', fz', t', e1, e2⟩ := e
  rw [h] at e1
  injection e1 with e1
  injection e1 with _ e1 _
  rcases e2 with e2 | e2
  · exact h1 (e1.trans e2)
  · exact h2 (e1.trans e2)
/-- what a going through a tree holds. -/
structure EB (W : World) (base b5 b6 b7 b8 : Nat) (F : FuncId) (g0 : Nat) (Al Ah : Option Addr) (m cl ch : Nat) (low high : List Int) : Prop where
  e5 : W.heap[b5]? = some (.cells #[.slice Al m cl] 23 (0, 0))
  e6 : W.heap[b6]? = some (.cells #[.slice Ah m ch] 23 (0, 0))
  e7 : W.heap[b7]? = some (.cells #[.func (.func F) #[] #[.pointer (some ⟨g0, 0, none⟩)]] 81 (0, 0))
  e8 : W.heap[b8]? = some (.cells #[.func (.func 58) #[] #[.pointer (some ⟨b5, 0, none⟩), .pointer (some ⟨b6, 0, none⟩), .pointer (some ⟨b7, 0, none⟩), .pointer (some ⟨b8, 0, none⟩)]] 103 (0, 0))
  lo : Rd W base Al (iz .i64 low)
  hi : Rd W base Ah (iz .i64 high)
section
variable {W W' : World} {base b5 b6 b7 b8 g0 m cl ch : Nat} {F : FuncId} {Al Ah : Option Addr} {low high : List Int}
theorem EB.fr (h : EB W base b5 b6 b7 b8 F g0 Al Ah m cl ch low high) (f : Fr (DoS base W) W W') : EB W' base b5 b6 b7 b8 F g0 Al Ah m cl ch low high :=
  ⟨f.blk h.e5 (dos_off h.e5 (by decide) (by decide)), f.blk h.e6 (dos_off h.e6 (by decide) (by decide)), f.blk h.e7 (dos_off h.e7 (by decide) (by decide)), f.blk h.e8 (dos_off h.e8 (by decide) (by decide)), h.lo.fr f (fun k hk => dos_low hk), h.hi.fr f (fun k hk => dos_low hk)⟩
theorem EB.fr0 (h : EB W base b5 b6 b7 b8 F g0 Al Ah m cl ch low high) (f : Fr No W W') : EB W' base b5 b6 b7 b8 F g0 Al Ah m cl ch low high := h.fr (f.any _)
end
theorem RdPo.dos {W W' : World} {base : Nat} {A : Option Addr} {l : List Po} (h : RdPo W base A l) (f : Fr (DoS base W) W W') : RdPo W' base A l := h.fr f (fun k hk => dos_low hk)
theorem TreeM.dos {W W' : World} {base : Nat} {t : TreeT} {g : Nat} (h : TreeM W (fun k => k < base) t g) (f : Fr (DoS base W) W W') : TreeM W' (fun k => k < base) t g := TreeM.fr f (fun k hk => dos_low hk) h
/-- a leaf's points are read. -/
theorem TreeM.leaf {W : World} {base : Nat} {l : List Pt} {g : Nat} (h : TreeM W (fun k => k < base) (.leaf l) g) : ∃ A c, W.heap[g]? = some (.cells #[.slice A l.length c, .int .i64 0, .int .i64 0, .pointer none, .pointer none] 94 (0, 0)) ∧ l.length ≤ c ∧ c ≤ maxLen ∧ RdPo W base A l := by
  obtain ⟨h1, A, c, ps, h2, h3, h4, h5, h6, h7⟩ := h
  exact ⟨A, c, h2, h3, h4, ⟨ps, h5, h6, fun p hp => h7 p hp⟩⟩
/-- a tree that may be gone through. -/
def OkT (dims : Nat) : TreeT → Prop
  | .leaf l => ∀ p ∈ l, p.2.length = dims
  | .cut d _ a b => d < dims ∧ OkT dims a ∧ OkT dims b
theorem okT_tree {dims : Nat} (h1 : 1 ≤ dims) : ∀ (n : Nat) (l : List Pt), l.length = n → (∀ p ∈ l, p.2.length = dims) → OkT dims (treeT dims l) := by
  intro n
  induction n using Nat.strongRecOn with
  | ind n ih =>
    intro l hl hp
    by_cases h8 : l.length ≤ 8
    · rw [treeT_leaf h8, OkT]; exact fun p h => hp p (sortP_mem.1 h)
    · obtain ⟨d, hd⟩ : ∃ d, d = widF l dims := ⟨_, rfl⟩
      obtain ⟨s, hs⟩ : ∃ s, s = sortP d l := ⟨_, rfl⟩
      obtain ⟨k, hk⟩ : ∃ k, k = (l.length + 1) / 2 := ⟨_, rfl⟩
      have hsl : s.length = l.length := by rw [hs, sortP_len]
      have hsm : ∀ p ∈ s, p.2.length = dims := fun p h => hp p (sortP_mem.1 (by rw [← hs]; exact h))
      have hdd : d < dims := by rw [hd]; exact widF_lt l dims (by omega)
      rw [treeT_cut h8 hd hs hk, OkT]
      exact ⟨hdd, ih k (by omega) (s.take k) (by rw [List.length_take]; omega) (fun p h => hsm p (List.mem_of_mem_take h)), ih (n - k) (by omega) (s.drop k) (by rw [List.length_drop]; omega) (fun p h => hsm p (List.mem_of_mem_drop h))⟩
theorem eachT_len (low high : List Int) : ∀ t : TreeT, (eachT low high t).length ≤ (flatT t).length
  | .leaf l => by rw [eachT, flatT]; exact List.length_filter_le _ _
  | .cut d c a b => by
    have h1 := eachT_len low high a
    have h2 := eachT_len low high b
    rw [eachT, flatT, List.length_append, List.length_append]
    split <;> split <;> (try simp only [List.length_nil]) <;> omega
theorem inB_no {low high : List Int} {p : Pt} {d : Nat} (hd : d < p.2.length) (h : p.2.getD d 0 < low.getD d 0 ∨ high.getD d 0 < p.2.getD d 0) : inB low high p = false := by
  cases hb : inB low high p with
  | false => rfl
  | true => have := inB_iff.1 hb d hd; omega
theorem filt_snoc {f : Pt → Bool} {l : List Pt} {k : Nat} (h : k < l.length) : (l.take (k + 1)).filter f = (l.take k).filter f ++ (if f (l.getD k noPt) then [l.getD k noPt] else []) := by
  rw [takeP_1 h, List.filter_append]
  have e : l.getD k noPt = l[k] := by simp [List.getD, List.getElem?_eq_getElem h]
  rw [e]
  cases hb : f l[k] <;> simp [hb]
end Go.Proofs.Ytpopbkcbplmcaaa
namespace Go.Proofs.Ytpopbkcbplmcaaa
set_option linter.unusedVariables false
set_option linter.unusedSimpArgs false
open Go.RowKit

/-- a point is told. -/
def Told (base : Nat) (I : List Pt → World → Prop) (l : List Pt) (W : World) (en : Ending) (W' : World) : Prop := (∃ r, en = .returned r) ∧ Fr (DoS base W) W W' ∧ I l W'
/-- what is done with a point. -/
structure DoC (base : Nat) (F : FuncId) (g0 : Nat) (I : List Pt → World → Prop) : Prop where
  ok : F = 40 ∨ F = 41
  up : ∀ l W W', I l W → Fr No W W' → I l W'
  call : ∀ l (p : Pt) A c W, I l W → l.length < 1048576 → Calls Try.prog F #[.agg #[.int .i64 p.1, .slice A p.2.length c], .pointer (some ⟨g0, 0, none⟩)] W (Told base I (l ++ [p]) W)
def TellP (base b5 b6 b7 b8 : Nat) (F : FuncId) (g0 : Nat) (Al Ah : Option Addr) (m cl ch : Nat) (low high : List Int) (I : List Pt → World → Prop) (l : List Pt) (W : World) (en : Ending) (W' : World) : Prop := Told base I l W en W' ∧ EB W' base b5 b6 b7 b8 F g0 Al Ah m cl ch low high
set_option maxRecDepth 100000 in
set_option maxHeartbeats 8000000 in
theorem down_leaf (base b5 b6 b7 b8 : Nat) (F : FuncId) (g0 : Nat) (Al Ah : Option Addr) (m cl ch : Nat) (low high : List Int) (I : List Pt → World → Prop) (hd : DoC base F g0 I) (hl1 : low.length = m) (hl2 : high.length = m) (hm4 : m ≤ 4) (hcl : m ≤ cl) (hch : m ≤ ch) (hbase : ∀ k, k < base → k < base) (l : List Pt) (gx : Nat) (W : World) (l0 : List Pt) (he : EB W base b5 b6 b7 b8 F g0 Al Ah m cl ch low high) (ht : TreeM W (fun k => k < base) (.leaf l) gx) (hok : OkT m (.leaf l)) (hI : I l0 W) (hn : l0.length + l.length ≤ 1048576) :
    Calls Try.prog 58 #[.pointer (some ⟨gx, 0, none⟩), .pointer (some ⟨b5, 0, none⟩), .pointer (some ⟨b6, 0, none⟩), .pointer (some ⟨b7, 0, none⟩), .pointer (some ⟨b8, 0, none⟩)] W (TellP base b5 b6 b7 b8 F g0 Al Ah m cl ch low high I (l0 ++ l.filter (inB low high)) W) := by
  obtain ⟨A, c, hx, hlc, hcm, hrd⟩ := ht.leaf
  have HN := hide hn
  have HI := hide hI
  have HE := hide he
  have HOk := hide hok
  have HRd := hide hrd
  have HD := hide hd
  have HL1 := hide hl1
  have HL2 := hide hl2
  have k0 : W.cell? ⟨gx, 0, none⟩ = some (.slice A l.length c) := cell_of_row W _ 0 _ _ _ hx
  have k3 : W.cell? ⟨gx, 3, none⟩ = some (.pointer none) := cell_of_row W _ 3 _ _ _ hx
  obtain ⟨n, hnl⟩ : ∃ n, n = l.length := ⟨_, rfl⟩
  rw [← hnl] at k0 hlc HN
  have HNl := hide hnl
  unfold maxLen at hcm
  clear hn hI he hok hrd hd hl1 hl2 hx hnl ht hbase
  go_enter Try.func58, Try.ntmps58
  go_wp2_with (fail)
  go_step3
  go_wp2_with (fail)
  go_step3
  go_wp2_with (fail)
  clear k0 k3
  go_loopg [7, 8, 9, 20] n (fun gk s7 s8 s9 i wr => ∃ k : Nat, k + gk = n ∧ i = .int .i64 (k : Nat) ∧ Hid (EB wr base b5 b6 b7 b8 F g0 Al Ah m cl ch low high) ∧ Hid (RdPo wr base A l) ∧ Hid (I (l0 ++ (l.take k).filter (inB low high)) wr) ∧ Hid (Fr (DoS base W) W wr))
  case atStart => exact ⟨0, by omega, rfl, HE, HRd, hide (by simpa using HI.out), hide (Fr.refl _ _)⟩
  case round =>
    clear HE HRd HI
    obtain ⟨k, hk, rfl, HE, HRd, HI, HF⟩ := hrel
    by_cases hlk : k < n
    · have hkl : k < l.length := by rw [← HNl.out]; exact hlk
      obtain ⟨ad, Ak, cp, rfl, _, kc0, kc1, hpc, hpm, hrp⟩ := HRd.out.at hkl
      have hpl : (l.getD k noPo).2.length = m := HOk.out _ (getP_mem hkl)
      have HS := hide (filt_snoc (f := inB low high) hkl)
      obtain ⟨p, hp⟩ : ∃ p, p = l.getD k noPo := ⟨_, rfl⟩
      have hp' : l.getD k noPt = p := hp.symm
      rw [← hp] at kc0 kc1 hpc hrp hpl
      rw [hp'] at HS
      obtain ⟨g', rfl⟩ : ∃ g', gk = g' + 1 := ⟨gk - 1, by omega⟩
      obtain ⟨pd, P⟩ := p
      dsimp only at kc0 kc1 hpc hrp hpl
      rw [hpl] at kc1 hpc
      have HPl := hide hpl
      have HRp := hide hrp
      have HK := hide hk
      have hl20 : l0.length + ((l.take k).filter (inB low high)).length < 1048576 := by
        have h1 := List.length_filter_le (inB low high) (l.take k)
        rw [List.length_take] at h1
        have := HN.out
        omega
      have HL20 := hide hl20
      unfold maxLen at hpm
      clear hkl hp hp' hpl hrp hk hl20
      go_upto_region 4 with (fail)
      obtain ⟨wB, hwB⟩ : ∃ x, x = wr.alloc (.cells #[.int .i64 pd, .slice Ak m cp] 44) := ⟨_, rfl⟩
      obtain ⟨gp, hgp⟩ : ∃ x, x = wr.heap.size := ⟨_, rfl⟩
      have f1 : Fr No wr wB := by rw [hwB]; exact (Fr.refl No wr).alloc _
      have hpb : wB.heap[gp]? = some (.cells #[.int .i64 pd, .slice Ak m cp] 44 (0, 0)) := by rw [hwB, hgp]; exact heap_alloc_new wr _
      rw [← hwB, ← hgp]
      have HEb := hide (HE.out.fr0 f1)
      have HRb := hide (HRd.out.fr0 f1)
      have HIb := hide (HD.out.up _ _ _ HI.out f1)
      have HFb := hide (HF.out.tr f1)
      have HRq := hide (HRp.out.fr0 f1)
      have HPb := hide hpb
      have kb1 : wB.cell? ⟨gp, 1, none⟩ = some (.slice Ak m cp) := cell_of_row wB _ 1 _ _ _ hpb
      clear hwB hgp f1 hpb HE HRd HI HF HRp kc0 kc1
      go_wp2_with (fail)
      go_loopg [8, 9, 27] m (fun g2 s8 s9 i wx => ∃ q : Nat, q + g2 = m ∧ i = .int .i64 (q : Nat) ∧ Hid (wx = wB) ∧ Hid (∀ d, d < q → low.getD d 0 ≤ P.getD d 0 ∧ P.getD d 0 ≤ high.getD d 0))
      case atStart => exact ⟨0, by omega, rfl, hide rfl, hide (fun d hd => absurd hd (Nat.not_lt_zero d))⟩
      case round =>
        obtain ⟨q, hq, rfl, HW, HB⟩ := hrel
        have hw := HW.out.symm
        subst hw
        clear HW kb1
        by_cases hlq : q < m
        · obtain ⟨adp, rfl, _, hxp⟩ := cellInt HRq.out (k := q) (by rw [HPl.out]; exact hlq)
          obtain ⟨adl, rfl, _, hxl⟩ := cellInt HEb.out.lo (k := q) (by rw [HL1.out]; exact hlq)
          obtain ⟨adh, rfl, _, hxh⟩ := cellInt HEb.out.hi (k := q) (by rw [HL2.out]; exact hlq)
          have k5 : wB.cell? ⟨b5, 0, none⟩ = some (.slice (some adl) m cl) := cell_of_row wB _ 0 _ _ _ HEb.out.e5
          have k6 : wB.cell? ⟨b6, 0, none⟩ = some (.slice (some adh) m ch) := cell_of_row wB _ 0 _ _ _ HEb.out.e6
          obtain ⟨g3, rfl⟩ : ∃ g', gk = g' + 1 := ⟨gk - 1, by omega⟩
          obtain ⟨x, hx⟩ : ∃ x, x = P.getD q 0 := ⟨_, rfl⟩
          obtain ⟨y, hy⟩ : ∃ x, x = low.getD q 0 := ⟨_, rfl⟩
          obtain ⟨z, hz⟩ : ∃ x, x = high.getD q 0 := ⟨_, rfl⟩
          rw [← hx] at hxp
          rw [← hy] at hxl
          rw [← hz] at hxh
          have HX := hide hx
          have HY := hide hy
          have HZ := hide hz
          have HQ := hide hq
          clear hx hy hz hq
          by_cases hlo : x < y
          · have hb := inB_no (low := low) (high := high) (p := (pd, P)) (d := q) (by rw [HPl.out]; exact hlq) (.inl (by rw [← HX.out, ← HY.out]; exact hlo))
            have HBn := hide hb
            clear hb
            go_wp2_with (fail)
            go_roundg g'
            case measure => omega
            case rel => exact ⟨k + 1, by have := HK.out; omega, by go_num, HEb, HRb, hide (by rw [HS.out, HBn.out, if_neg Bool.false_ne_true, List.append_nil]; exact HIb.out), HFb⟩
          · by_cases hhi : z < x
            · have hb := inB_no (low := low) (high := high) (p := (pd, P)) (d := q) (by rw [HPl.out]; exact hlq) (.inr (by rw [← HX.out, ← HZ.out]; exact hhi))
              have HBn := hide hb
              clear hb
              go_wp2_with (fail)
              go_roundg g'
              case measure => omega
              case rel => exact ⟨k + 1, by have := HK.out; omega, by go_num, HEb, HRb, hide (by rw [HS.out, HBn.out, if_neg Bool.false_ne_true, List.append_nil]; exact HIb.out), HFb⟩
            · have HB2 : Hid (∀ d, d < q + 1 → low.getD d 0 ≤ P.getD d 0 ∧ P.getD d 0 ≤ high.getD d 0) := hide (fun d hd => by
                by_cases h : d < q
                · exact HB.out d h
                · obtain rfl : d = q := by omega
                  rw [← HX.out, ← HY.out, ← HZ.out]
                  omega)
              clear HB
              go_wp2_with (fail)
              go_roundg g3
              case measure => omega
              case rel => exact ⟨q + 1, by have := HQ.out; omega, by go_num, hide rfl, HB2⟩
        · obtain rfl : q = m := by omega
          have HBn : Hid (inB low high (pd, P) = true) := hide (inB_iff.2 (fun d hd => HB.out d (by rw [HPl.out] at hd; exact hd)))
          have k7 : wB.cell? ⟨b7, 0, none⟩ = some (.func (.func F) #[] #[.pointer (some ⟨g0, 0, none⟩)]) := cell_of_row wB _ 0 _ _ _ HEb.out.e7
          have kp0 : wB.cell? ⟨gp, 0, none⟩ = some (.int .i64 pd) := cell_of_row wB _ 0 _ _ _ HPb.out
          have kp1 : wB.cell? ⟨gp, 1, none⟩ = some (.slice Ak q cp) := cell_of_row wB _ 1 _ _ _ HPb.out
          have hc := HD.out.call (l0 ++ (l.take k).filter (inB low high)) (pd, P) Ak cp wB HIb.out (by rw [List.length_append]; exact HL20.out)
          dsimp only at hc
          rw [HPl.out] at hc
          have HC := hide hc
          have hF := HD.out.ok
          clear hc hlq HB
          rcases hF with rfl | rfl
          · go_wp2_with (go_at_call 40; refine HC.out.mono ?_; rintro en w' ⟨⟨r, rfl⟩, f, hi⟩; have HFn := hide f; have HIn := hide hi; clear f hi)
            go_roundg g'
            case measure => omega
            case rel => exact ⟨k + 1, by have := HK.out; omega, by go_num, hide (HEb.out.fr HFn.out), hide (HRb.out.dos HFn.out), hide (by rw [HS.out, HBn.out, if_pos rfl, ← List.append_assoc]; exact HIn.out), hide (HFb.out.dos HFn.out)⟩
          · go_wp2_with (go_at_call 41; refine HC.out.mono ?_; rintro en w' ⟨⟨r, rfl⟩, f, hi⟩; have HFn := hide f; have HIn := hide hi; clear f hi)
            go_roundg g'
            case measure => omega
            case rel => exact ⟨k + 1, by have := HK.out; omega, by go_num, hide (HEb.out.fr HFn.out), hide (HRb.out.dos HFn.out), hide (by rw [HS.out, HBn.out, if_pos rfl, ← List.append_assoc]; exact HIn.out), hide (HFb.out.dos HFn.out)⟩
    · obtain rfl : k = n := by omega
      have hall : l.take k = l := List.take_of_length_le (by rw [HNl.out]; exact Nat.le_refl _)
      rw [hall] at HI
      have HR := hide (show TellP base b5 b6 b7 b8 F g0 Al Ah m cl ch low high I (l0 ++ l.filter (inB low high)) W (.returned (.tuple #[])) wr from ⟨⟨⟨_, rfl⟩, HF.out, HI.out⟩, HE.out⟩)
      clear hall hk HE HRd HI HF
      go_wp2_with (fail)
      try rw [Exit.noGoto_ret]
      go_end0
      exact HR.out
end Go.Proofs.Ytpopbkcbplmcaaa
