/- Several texts in one: PoOpW, PoPo, PoItM, PoItP. -/
import Derived.Test.YthlbfnoahdjdeaaK15
import Derived.Deep.RegionHeld3
import Derived.Deep.RegionLaw
import Derived.Deep.DeepCutAuto
import Derived.BigQuiet
namespace Go.Proofs.Ythlbfnoahdjdeaa
set_option linter.unusedVariables false
set_option linter.unusedSimpArgs false
open Go.RowKit

theorem pFlat_one (l : List PoL) : ∀ v ∈ pFlat l, v.oneCell' = true := by
  intro v hv
  obtain ⟨p, _, hv⟩ := List.mem_flatMap.1 hv
  simp only [pRow, List.mem_cons, List.not_mem_nil, or_false] at hv
  rcases hv with rfl | rfl <;> rfl

set_option maxRecDepth 100000 in
set_option maxHeartbeats 8000000 in
theorem popen_any (A : Option Addr) (N c B : Nat) (bs : List UInt8) (w : World) (hl : bs.length = N) (hn : N ≤ c) (hc : c ≤ maxLen) (hb : N ≤ 140737488355328) (hB : B ≤ w.heap.size) (hr : Rd w B A (by8 bs)) :
    Calls Try.prog 17 #[.slice A N c] w (POpenP w bs) := by
  have HNew := hide (newReader_any A N c B bs w hl hn hc hb hB hr)
  have HL := hide hl
  have HR := hide hr
  have HBz := hide hB
  obtain ⟨n, a0, e0, hs⟩ : ∃ n a e, sizeS bs 0 0 16384 = (n, a, e) := ⟨_, _, _, rfl⟩
  have HSz := hide (fun g2 W hW => sizeN_any g2 bs 0 0 16384 W hW (by omega) (by omega))
  rw [hs] at HSz
  have hn2 : (n : Int) ≤ 16384 := by have := sizeS_le (bs := bs) (a := 0) (e := 0) (most := 16384) (by omega); rw [hs] at this; exact this
  have hn3 : n ≤ 16384 := by omega
  have HS0 := hide (po_start hs)
  unfold maxLen at hc
  clear hl hr hB hs hn2
  go_enter Try.func17, Try.ntmps17
  go_wp2_with (first
    | (go_at_call 49; refine HNew.out.mono ?_; rintro en w1 ⟨g, rfl, hg, hrd, hfr⟩; have HR1 := hide hrd; have HF1 := hide hfr; have HG := hide hg; clear hrd hfr hg)
    | (go_at_call 50; refine (HSz.out g w1 HR1.out).mono ?_; rintro en w2 ⟨rfl, hrd, hfr⟩; have HR2 := hide hrd; have HF2 : Hid (Fr No w w2) := hide (HF1.out.trans hfr (fun i hi e => by have e : i = g := e; have := HG.out; omega)); clear hrd hfr))
  obtain ⟨w3, hw3⟩ : ∃ W, W = w2.alloc (.cells #[.slice none 0 0, .int .i64 n] 87) := ⟨_, rfl⟩
  have HM0 : Hid (PoO w w3 g w2.heap.size bs a0 e0 n (.slice none 0 0) [] (.slice none 0 0) []) := hide (by
    rw [hw3]
    exact ⟨HR2.out.fr0 ((Fr.refl No w2).alloc _), HG.out, heap_alloc_new w2 _, HF2.out.size, BksM.nil _ _, OwnPs.nil _ _, HF2.out.alloc _⟩)
  rw [← hw3]
  obtain ⟨G, hG⟩ : ∃ G, G = w2.heap.size := ⟨_, rfl⟩
  rw [← hG] at HM0 ⊢
  clear hw3 hG HNew HSz HR1 HF1 HR2 HF2
  go_loopw [8, 7, 6] (fun ix lx ox wr => ∃ (j i' a : Nat) (e la : Int) (vb : Value) (bks : List BkL) (ps : List PoL), ix = .int .i64 i' ∧ lx = .int .i64 la ∧ Hid (i' = 8 * j) ∧ i' ≤ n + 7 ∧ -1 ≤ la ∧ la ≤ 16384 * (j : Int) ∧ bks.length = j ∧ ps.length ≤ i' ∧ Hid (PoI bs n j a e la (ps.map (·.1)) (bks.map (·.1))) ∧ Hid (PoO w wr g G bs a e n vb bks ox ps)) (fun ix _ _ _ => n + 8 - (intOf ix).toNat)
  case atStart => exact ⟨0, 0, a0, e0, -1, _, [], [], rfl, rfl, hide rfl, by omega, by omega, by omega, rfl, Nat.zero_le _, HS0, HM0⟩
  case round =>
    obtain ⟨wo, rfl⟩ : ∃ wo : World, wo = wr := ⟨_, rfl⟩
    obtain ⟨j, i', a, e, la, vb, bks, ps, rfl, rfl, HI, hib, hla1, hla2, hbl, hpl, HP, HM⟩ := hrel
    clear HM0 HS0
    have gq := HM.out.lst
    have k2 : wo.cell? ⟨G, 1, none⟩ = some (.int .i64 n) := cell_of_row _ _ 1 _ _ _ gq
    clear gq
    by_cases hlt : i' < n
    · have hjn : 8 * j < n := by have := HI.out; omega
      have hj2 : j ≤ 2048 := by omega
      obtain ⟨sz, a1, e1, hs1⟩ : ∃ sz a1 e1, sizeS bs a e (N : Nat) = (sz, a1, e1) := ⟨_, _, _, rfl⟩
      obtain ⟨d, a2, e2, hs2⟩ : ∃ d a2 e2, sizeS bs a1 e1 16384 = (d, a2, e2) := ⟨_, _, _, rfl⟩
      obtain ⟨row, a3, e3, hs3⟩ : ∃ row a3 e3, bytesS bs a2 e2 (sz : Nat) = (row, a3, e3) := ⟨_, _, _, rfl⟩
      have hd : d ≤ 16384 := by have := sizeS_le (bs := bs) (a := a1) (e := e1) (most := 16384) (by omega); rw [hs2] at this; dsimp only at this; omega
      have hrl : row.length ≤ N := by have := bytesS_le (bs := bs) (a := a2) (e := e2) (x := (sz : Nat)); rw [hs3, HL.out] at this; exact this
      have hszN : sz ≤ N := by have := sizeS_le (bs := bs) (a := a) (e := e) (most := (N : Nat)) (by omega); rw [hs1] at this; dsimp only at this; omega
      have HSz1 := hide (sizeN_any g bs a e (N : Nat) wo HM.out.rd (by omega) (by omega))
      rw [hs1] at HSz1
      have HSz2 := hide (fun W hW => sizeN_any g bs a1 e1 16384 W hW (by omega) (by omega))
      rw [hs2] at HSz2
      have HBy := hide (fun W hW => bytes_any g bs a2 e2 (sz : Nat) W hW)
      rw [hs3] at HBy
      have HS1 := hide hs1
      have HS2 := hide hs2
      have HS3 := hide hs3
      have hlt2 : (i' : Int) < (n : Int) := by omega
      have d1 : decide ((i' : Int) < (n : Int)) = true := decide_eq_true hlt2
      obtain ⟨ld, hld⟩ : ∃ x, la + (d : Int) = x := ⟨_, rfl⟩
      have hld1 : -1 ≤ ld ∧ ld ≤ 16384 * ((j + 1 : Nat) : Int) := by omega
      obtain ⟨r, hr⟩ : ∃ r : Nat, r = n - i' := ⟨_, rfl⟩
      have hr2 : (n : Int) - (i' : Int) = (r : Int) := by omega
      obtain ⟨k, hk⟩ : ∃ k : Nat, k = min 8 r := ⟨_, rfl⟩
      have hk2 : min (8 : Int) (r : Int) = (k : Int) := by omega
      have hk8 : k ≤ 8 := by omega
      have hrw : IntKind.i64.wrap (r : Int) = (r : Int) := IntWalk.i64_in _ (by omega)
      have hmn : (if (r : Int) < 8 then (r : Int) else 8) = (k : Int) := by split <;> omega
      have HK : Hid (k = min 8 (n - 8 * j)) := hide (by rw [hk, hr, HI.out])
      clear hs1 hs2 hs3 hr hk
      go_upto_region 10 with (first
        | (go_at_call 50; refine HSz1.out.mono ?_; rintro en w4 ⟨rfl, hrd, hfr⟩; have HM4 := hide (HM.out.read hfr hrd); clear hrd hfr)
        | (go_at_call 50; refine (HSz2.out w4 HM4.out.rd).mono ?_; rintro en w5 ⟨rfl, hrd, hfr⟩; have HM5 := hide (HM4.out.read hfr hrd); clear hrd hfr)
        | fail)
      have fd5 : Fr No w5 w5.drew := (Fr.refl No w5).drew
      have HMd := hide (HM5.out.fr0 fd5)
      have kg1 : w5.drew.cell? ⟨G, 1, none⟩ = some (.int .i64 n) := cell_of_row _ _ 1 _ _ _ HMd.out.lst
      refine wp_named fun K hK => ?_
      go_cut [11] from 38 to 51 (fun v wz => ∃ E Ax cx, v = .pointer (some ⟨E, 0, none⟩) ∧ Hid (wz.heap[E]? = some (.cells #[.slice Ax row.length cx, .int .i64 la, .int .i64 ld, .int .i64 (k : Nat)] 90 (0, 0))) ∧ Hid (Own wz w.heap.size 5 1 (.slice Ax row.length cx) row.length (by8 row)) ∧ Hid (PoO w wz g G bs a3 e3 n vb bks u6 ps) ∧ w.heap.size ≤ E ∧ Hid (∀ x, vb.ownBlock = some x → x < E))
      case first =>
        have fza : Fr No w5 (w5.alloc (.cells #[.slice none 0 0, .int .i64 0, .int .i64 0, .int .i64 0] 90)).drew := ((Fr.refl No _).alloc _).drew
        have HMa := hide (HM5.out.fr0 fza)
        have HKd := hide kg1
        have HgE : Hid (w5.heap.size ≠ g) := hide (fun e => by obtain ⟨cs, fz, hh⟩ := HM5.out.rd.blkP; have h1 := (Array.getElem?_eq_some_iff.1 hh).1; omega)
        have HGE : Hid (¬ Is w5.heap.size G) := hide (fun e => by have e : G = w5.heap.size := e; have h1 := (Array.getElem?_eq_some_iff.1 HM5.out.lst).1; omega)
        have HKa : Hid ((w5.alloc (.cells #[.slice none 0 0, .int .i64 0, .int .i64 0, .int .i64 0] 90)).drew.cell? ⟨G, 1, none⟩ = some (.int .i64 n)) := hide (cell_of_row _ _ 1 _ _ _ HMa.out.lst)
        have HEa : Hid ((w5.alloc (.cells #[.slice none 0 0, .int .i64 0, .int .i64 0, .int .i64 0] 90)).drew.heap[w5.heap.size]? = some (.cells #[.slice none 0 0, .int .i64 0, .int .i64 0, .int .i64 0] 90 (0, 0))) := hide (heap_alloc_new w5 (.cells #[.slice none 0 0, .int .i64 0, .int .i64 0, .int .i64 0] 90))
        go_region_held3 (fun W => W.cell? ⟨G, 1, none⟩ = some (.int .i64 n)) (first | with_reducible exact HKd.out | with_reducible exact HKa.out | with_reducible exact HK6.out | with_reducible exact HK7.out | with_reducible exact ((Fr.refl No _).alloc _).cell HK6.out (fun h => h) | with_reducible exact (((((Fr.refl (Is w5.heap.size) w7).put 0 _).put 1 _).put 2 _).put 3 _).cell HK7.out HGE.out) (first
          | (go_at_call 51; refine (HBy.out _ HMd.out.rd).mono ?_; rintro en w6 ⟨v6, rfl, hown, hrd, hfr⟩; obtain ⟨A6, c6, rfl, _⟩ := hown.form; have HO6 := hide hown; have HM6 := hide (HMd.out.read hfr hrd); have HFr6 := hide hfr; have HK6 : Hid (w6.cell? ⟨G, 1, none⟩ = some (.int .i64 n)) := hide (cell_of_row _ _ 1 _ _ _ HM6.out.lst); clear hown hrd hfr)
          | (go_at_call 51; refine (HBy.out _ HMa.out.rd).mono ?_; rintro en w7 ⟨v6, rfl, hown, hrd, hfr⟩; obtain ⟨A6, c6, rfl, _⟩ := hown.form; have HO6 := hide hown; have HM7 := hide (HMa.out.read hfr hrd); have HFr7 := hide hfr; have HK7 : Hid (w7.cell? ⟨G, 1, none⟩ = some (.int .i64 n)) := hide (cell_of_row _ _ 1 _ _ _ HM7.out.lst); have h7 := hfr.blk HEa.out (fun e => HgE.out e); have HE7 := hide h7; have qc0 : w7.cell? ⟨w5.heap.size, 0, none⟩ = some (.slice none 0 0) := cell_of_row _ _ 0 _ _ _ h7; have qz0 : w7.frozen? ⟨w5.heap.size, 0, none⟩ = false := frozen_of_row _ _ _ _ _ h7; have qc1 : w7.cell? ⟨w5.heap.size, 1, none⟩ = some (.int .i64 0) := cell_of_row _ _ 1 _ _ _ h7; have qz1 : w7.frozen? ⟨w5.heap.size, 1, none⟩ = false := frozen_of_row _ _ _ _ _ h7; have qc2 : w7.cell? ⟨w5.heap.size, 2, none⟩ = some (.int .i64 0) := cell_of_row _ _ 2 _ _ _ h7; have qz2 : w7.frozen? ⟨w5.heap.size, 2, none⟩ = false := frozen_of_row _ _ _ _ _ h7; have qc3 : w7.cell? ⟨w5.heap.size, 3, none⟩ = some (.int .i64 0) := cell_of_row _ _ 3 _ _ _ h7; have qz3 : w7.frozen? ⟨w5.heap.size, 3, none⟩ = false := frozen_of_row _ _ _ _ _ h7; clear hown hrd hfr h7))
        all_goals (go_wp2; go_meet)
        all_goals first
          | exact ⟨w6.heap.size, A6, c6, rfl, hide (heap_alloc_new w6 _), hide ((HO6.out.lower (Nat.le_trans HM5.out.fr.size (Nat.le_refl _))).fr0 ((Fr.refl No w6).alloc _)), hide (HM6.out.fr0 ((Fr.refl No w6).alloc _)), HM6.out.fr.size, hide (fun x hx => Nat.lt_of_lt_of_le (HM5.out.bk.row.lt x hx).2 HFr6.out.size)⟩
          | (
            have f9 := ((((Fr.refl (Is w5.heap.size) w7).put 0 (.slice A6 row.length c6)).put 1 (.int .i64 la)).put 2 (.int .i64 ld)).put 3 (.int .i64 (k : Nat))
            refine ⟨w5.heap.size, A6, c6, rfl, hide ?_, hide ((HO6.out.lower HMa.out.fr.size).off f9 (off_is HE7.out (by decide))), hide ?_, HM5.out.fr.size, hide (fun x hx => (HM5.out.bk.row.lt x hx).2)⟩
            · have h1 := heap_setCell_same w7 w5.heap.size 0 _ _ (.slice A6 row.length c6) HE7.out
              have h2 := heap_setCell_same _ w5.heap.size 1 _ _ (.int .i64 la) h1
              have h3 := heap_setCell_same _ w5.heap.size 2 _ _ (.int .i64 ld) h2
              have h4 := heap_setCell_same _ w5.heap.size 3 _ _ (.int .i64 (k : Nat)) h3
              simpa using h4
            · exact HM5.out.read ((((Fr.refl (Is g) w5).alloc _).drew.ts HFr7.out).trans f9 (fun i hi e => by have e : i = w5.heap.size := e; omega)) (HM7.out.rd.offT f9 (off_is HE7.out (by decide)) (off_is HE7.out (by decide))))
      case rest =>
        obtain ⟨E, Ax, cx, rfl, HE, HOx, HM7, hEw, HVE⟩ := hcut
        obtain ⟨w7, rfl⟩ : ∃ W : World, W = wc := ⟨_, rfl⟩
        obtain ⟨m, hm⟩ : ∃ m, row.length = m := ⟨_, rfl⟩
        rw [hm] at HE HOx hrl
        have HMm := hide hm
        have hfo := HOx.out.le
        obtain ⟨Lx, hx1, hx2⟩ : m ≤ cx ∧ cx ≤ maxLen ∧ True := ⟨hfo.2.1, hfo.2.2, trivial⟩
        have HPo := hide (posts_any Ax m cx w7.heap.size row la ld k w7 hm Lx hx1 (by omega) (Nat.le_refl _) (by have := HOx.out; exact this.rd) hk8 (by omega))
        have ke0 : w7.cell? ⟨E, 0, none⟩ = some (.slice Ax m cx) := cell_of_row _ _ 0 _ _ _ HE.out
        have ke1 : w7.cell? ⟨E, 1, none⟩ = some (.int .i64 la) := cell_of_row _ _ 1 _ _ _ HE.out
        have ke2 : w7.cell? ⟨E, 2, none⟩ = some (.int .i64 ld) := cell_of_row _ _ 2 _ _ _ HE.out
        have ke3 : w7.cell? ⟨E, 3, none⟩ = some (.int .i64 (k : Nat)) := cell_of_row _ _ 3 _ _ _ HE.out
        clear hm hfo kg1 fd5 k2 HSz1 HSz2 HBy HMd
        refine hK _ _ ?_
        clear hK
        go_wp2_with (fail)
        refine HPo.out.mono ?_
        rintro en w8 ⟨hfr, v8, ps8, ok, rfl, hps, hgood, hlen⟩
        have HM8 := hide (HM7.out.fr0 hfr)
        have HE8 := hide (hfr.blk HE.out (fun h => h))
        have HOx8 := hide (HOx.out.fr0 hfr)
        have HPs8 := hide hps
        have HW8 : Hid (w.heap.size ≤ w7.heap.size) := hide HM7.out.fr.size
        have HPr : Hid (PsR la row (min 8 (n - 8 * j)) (la + d) (ps8.map (·.1)) ok) := hide (by rw [← HK.out, hld]; exact hgood)
        have HBad : Hid (¬ (e3 = 0 ∧ ok = true) → ∀ l, ¬ FormP bs l) := hide (fun h => po_ok HP.out hjn (by rw [HL.out]; exact HS1.out) HS2.out HS3.out HPr.out h)
        have HNew : Hid (PoI bs n (j + 1) a3 e3 ld ((ps ++ ps8).map (·.1)) (bks.map (·.1) ++ [(row, la, ld, k)])) := hide (by
          have := po_step HP.out hjn (by rw [HL.out]; exact HS1.out) HS2.out HS3.out HPr.out
          rw [hld, ← HK.out, ← List.map_append] at this
          exact this)
        have HEr := hide (err_any g bs a3 e3 w8 HM8.out.rd)
        clear hfr hps hgood HPo ke0 ke1 ke2 ke3
        by_cases hbad : e3 = 0 ∧ ok = true
        rotate_left
        · have HNo := hide (HBad.out hbad)
          by_cases he3 : e3 = 0
          · have hok : ok = false := by cases ok with | false => rfl | true => exact absurd ⟨he3, rfl⟩ hbad
            subst hok
            have f1 : (e3 != 0) = false := by simp [he3]
            clear hbad he3
            go_wp2_with (go_at_call 53; refine HEr.out.mono ?_; rintro en w9 ⟨rfl, rfl⟩)
            go_ret2
            exact ⟨HM8.out.fr, .inr ⟨HNo.out, rfl⟩⟩
          · have f1 : (e3 != 0) = true := by simp [he3]
            clear hbad he3
            go_wp2_with (go_at_call 53; refine HEr.out.mono ?_; rintro en w9 ⟨rfl, rfl⟩)
            go_ret2
            exact ⟨HM8.out.fr, .inr ⟨HNo.out, rfl⟩⟩
        · obtain ⟨rfl, rfl⟩ := hbad
          go_upto_region 14 with (go_at_call 53; refine HEr.out.mono ?_; rintro en w9 ⟨rfl, rfl⟩)
          obtain ⟨i0, hi, hz, hsz, hby⟩ := info_parts Try.infoBk
          have f8 : Fr No w8 (w8.alloc (.cells #[.slice Ax m cx, .int .i64 la, .int .i64 ld, .int .i64 (k : Nat)] 90)).drew := ((Fr.refl No w8).alloc _).drew
          have HMa := hide (HM8.out.fr0 f8)
          have HEa := hide (f8.blk HE8.out (fun h => h))
          have hrd : Rd (w8.alloc (.cells #[.slice Ax m cx, .int .i64 la, .int .i64 ld, .int .i64 (k : Nat)] 90)).drew (w8.heap.size + 1) (some ⟨w8.heap.size, 0, none⟩) [.slice Ax m cx, .int .i64 la, .int .i64 ld, .int .i64 (k : Nat)] := (Rd.block (heap_alloc_new w8 (.cells #[.slice Ax m cx, .int .i64 la, .int .i64 ld, .int .i64 (k : Nat)] 90))).fr0 ((Fr.refl No _).drew)
          have HSa := hide (Src.ofRd (P := Try.prog) (size := 4) (w8.alloc (.cells #[.slice Ax m cx, .int .i64 la, .int .i64 ld, .int .i64 (k : Nat)] 90)).drew Try.underlying85 (some ⟨w8.heap.size, 0, none⟩) 1 1 [.slice Ax m cx, .int .i64 la, .int .i64 ld, .int .i64 (k : Nat)] rfl (by omega) hrd (by simp [Value.oneCell']))
          have HOa : Hid (Own (w8.alloc (.cells #[.slice Ax m cx, .int .i64 la, .int .i64 ld, .int .i64 (k : Nat)] 90)).drew w.heap.size 90 4 vb j (bkFlat bks)) := hide (by have h := HMa.out.bk.row; rwa [hbl] at h)
          have yg1 : w8.drew.cell? ⟨G, 0, none⟩ = some vb := cell_of_row w8 _ 0 _ _ _ HM8.out.lst
          have yg2 : (w8.alloc (.cells #[.slice Ax m cx, .int .i64 la, .int .i64 ld, .int .i64 (k : Nat)] 90)).drew.cell? ⟨G, 0, none⟩ = some vb := cell_of_row _ _ 0 _ _ _ HMa.out.lst
          have TS1 : Hid (w8.drew.cell? ⟨E, 0, none⟩ = some (.slice Ax m cx) ∧ w8.drew.cell? ⟨E, 1, none⟩ = some (.int .i64 la) ∧ w8.drew.cell? ⟨E, 2, none⟩ = some (.int .i64 ld) ∧ w8.drew.cell? ⟨E, 3, none⟩ = some (.int .i64 (k : Nat))) := hide ⟨cell_of_row w8 _ 0 _ _ _ HE8.out, cell_of_row w8 _ 1 _ _ _ HE8.out, cell_of_row w8 _ 2 _ _ _ HE8.out, cell_of_row w8 _ 3 _ _ _ HE8.out⟩
          have TS2 : Hid ((w8.alloc (.cells #[.slice Ax m cx, .int .i64 la, .int .i64 ld, .int .i64 (k : Nat)] 90)).drew.cell? ⟨E, 0, none⟩ = some (.slice Ax m cx) ∧ (w8.alloc (.cells #[.slice Ax m cx, .int .i64 la, .int .i64 ld, .int .i64 (k : Nat)] 90)).drew.cell? ⟨E, 1, none⟩ = some (.int .i64 la) ∧ (w8.alloc (.cells #[.slice Ax m cx, .int .i64 la, .int .i64 ld, .int .i64 (k : Nat)] 90)).drew.cell? ⟨E, 2, none⟩ = some (.int .i64 ld) ∧ (w8.alloc (.cells #[.slice Ax m cx, .int .i64 la, .int .i64 ld, .int .i64 (k : Nat)] 90)).drew.cell? ⟨E, 3, none⟩ = some (.int .i64 (k : Nat))) := hide ⟨cell_of_row _ _ 0 _ _ _ HEa.out, cell_of_row _ _ 1 _ _ _ HEa.out, cell_of_row _ _ 2 _ _ _ HEa.out, cell_of_row _ _ 3 _ _ _ HEa.out⟩
          have c1 : (j + 1) * 48 ≤ 140737488355328 := by omega
          have c2 : j + 1 ≤ maxLen := by unfold maxLen; omega
          have c3 : w.heap.size ≤ (w8.alloc (.cells #[.slice Ax m cx, .int .i64 la, .int .i64 ld, .int .i64 (k : Nat)] 90)).drew.heap.size := HMa.out.fr.size
          have hGE : ¬ Is G E := fun e => by
            have e : E = G := e
            have h1 := HE8.out
            rw [e, HM8.out.lst] at h1
            injection h1 with h1
            injection h1 with _ h1 _
            revert h1
            decide
          have HgE2 := hide hGE
          have HPa := hide (HPs8.out.fr0 f8)
          have HXa := hide (HOx8.out.fr0 f8)
          clear hrd hGE f8
          refine wp_named fun K hK => ?_
          go_cut [] from 63 to 73 (fun wz => ∃ Ab cb, Hid (PoO w wz g G bs a3 0 n (.slice Ab (j + 1) cb) (bks ++ [((row, la, ld, k), Ax, cx)]) u6 ps) ∧ Hid (OwnPs wz w7.heap.size v8 ps8))
          case first =>
            refine wp_region_held_drew (S := (fun W => W.cell? ⟨E, 0, none⟩ = some (.slice Ax m cx) ∧ W.cell? ⟨E, 1, none⟩ = some (.int .i64 la) ∧ W.cell? ⟨E, 2, none⟩ = some (.int .i64 ld) ∧ W.cell? ⟨E, 3, none⟩ = some (.int .i64 (k : Nat)))) (by kernel_rfl) TS1.out (fun hHeld => ?_)
            refine wpAnyH_take (i := 0) (v := ?_) rfl (by kernel_rfl) (by kernel_rfl) (by kernel_rfl) (fun _ _ _ h => h) (Or.inl ⟨by kernel_rfl, ?_⟩) (by assumption) ?_
            rotate_left 1
            · (intro w' hSw; (try dsimp only at hSw); go_simp; try with_reducible rfl)
            try simp only [Act.put, List.setIfInBounds_toArray, List.set_cons_zero, List.set_cons_succ]
            refine wpAnyH_take (i := 1) (v := ?_) rfl (by kernel_rfl) (by kernel_rfl) (by kernel_rfl) (fun _ _ _ h => h) (Or.inl ⟨by kernel_rfl, ?_⟩) (by assumption) ?_
            rotate_left 1
            · (intro w' hSw; (try dsimp only at hSw); go_simp; try with_reducible rfl)
            try simp only [Act.put, List.setIfInBounds_toArray, List.set_cons_zero, List.set_cons_succ]
            refine wpAnyH_take (i := 2) (v := ?_) rfl (by kernel_rfl) (by kernel_rfl) (by kernel_rfl) (fun _ _ _ h => h) (Or.inl ⟨by kernel_rfl, ?_⟩) (by assumption) ?_
            rotate_left 1
            · (intro w' hSw; (try dsimp only at hSw); go_simp; try with_reducible rfl)
            try simp only [Act.put, List.setIfInBounds_toArray, List.set_cons_zero, List.set_cons_succ]
            refine wpAnyH_take (i := 3) (v := ?_) rfl (by kernel_rfl) (by kernel_rfl) (by kernel_rfl) (fun _ _ _ h => h) (Or.inl ⟨by kernel_rfl, ?_⟩) (by assumption) ?_
            rotate_left 1
            · (intro w' hSw; (try dsimp only at hSw); go_simp; try with_reducible rfl)
            try simp only [Act.put, List.setIfInBounds_toArray, List.set_cons_zero, List.set_cons_succ]
            refine wpAnyH_take (i := 5) (v := ?_) rfl (by kernel_rfl) (by kernel_rfl) (by kernel_rfl) (fun _ _ _ h => h) (Or.inl ⟨by kernel_rfl, ?_⟩) (by assumption) ?_
            rotate_left 1
            · (intro w' hSw; (try dsimp only at hSw); go_simp; try with_reducible rfl)
            try simp only [Act.put, List.setIfInBounds_toArray, List.set_cons_zero, List.set_cons_succ]
            refine wpAnyH_ready (rs := [4, 6]) (by kernel_rfl) (by simp) ?_
            refine AllReadyH.cons rfl (fun K1 hK1 => ?_) (AllReadyH.cons rfl (fun K1 hK1 => ?_) AllReadyH.nil)
            · go_simp
              refine hK1.out _ _ TS1.out (fun hHeld => ?_)
              clear hK1 K1
              try simp only [Act.put, List.setIfInBounds_toArray, List.set_cons_zero, List.set_cons_succ]
              refine wpAnyH_ready (rs := [6]) (by kernel_rfl) (by simp) ?_
              refine AllReadyH.cons rfl (fun K1 hK1 => ?_) AllReadyH.nil
              go_simp
              refine hK1.out _ _ TS2.out (fun hHeld => ?_)
              clear hK1 K1
              try simp only [Act.put, List.setIfInBounds_toArray, List.set_cons_zero, List.set_cons_succ]
              refine wpAnyH_ready (rs := [7]) (by kernel_rfl) (by simp) ?_
              refine AllReadyH.cons rfl (fun K1 hK1 => ?_) AllReadyH.nil
              refine step_append_any rfl (.tmp 67) (.tmp 69) 85 85 rfl w.heap.size 90 i0 _ 4 48 Try.underlying85 hi hz hsz hby rfl vb j (bkFlat bks) rfl HOa.out _ 1 [.slice Ax m cx, .int .i64 la, .int .i64 ld, .int .i64 (k : Nat)] rfl HSa.out c1 c2 c3 ?_; intro v10 w10 hown hfr; obtain ⟨A10, c10, rfl, _⟩ := hown.form; have HO10 := hide hown; have HF10 := hide hfr; have h10 := hfr.blk HMa.out.lst (fun e => HOa.out.ne_blk e HMa.out.lst (by decide)); have HL10 := hide h10; have HE10 := hide (hfr.blk HEa.out (fun e => by have := HVE.out E e; omega)); have yg3 : w10.cell? ⟨G, 0, none⟩ = some vb := cell_of_row _ _ 0 _ _ _ h10; have yz3 : w10.frozen? ⟨G, 0, none⟩ = false := frozen_of_row _ _ _ _ _ h10; have TS3 : Hid (w10.cell? ⟨E, 0, none⟩ = some (.slice Ax m cx) ∧ w10.cell? ⟨E, 1, none⟩ = some (.int .i64 la) ∧ w10.cell? ⟨E, 2, none⟩ = some (.int .i64 ld) ∧ w10.cell? ⟨E, 3, none⟩ = some (.int .i64 (k : Nat))) := hide ⟨cell_of_row _ _ 0 _ _ _ HE10.out, cell_of_row _ _ 1 _ _ _ HE10.out, cell_of_row _ _ 2 _ _ _ HE10.out, cell_of_row _ _ 3 _ _ _ HE10.out⟩; have HE11 := hide (((Fr.refl (Is G) w10).put 0 (.slice A10 (j + 1) c10)).blk HE10.out HgE2.out); have TS4 : Hid ((w10.setCell ⟨G, 0, none⟩ (.slice A10 (j + 1) c10)).cell? ⟨E, 0, none⟩ = some (.slice Ax m cx) ∧ (w10.setCell ⟨G, 0, none⟩ (.slice A10 (j + 1) c10)).cell? ⟨E, 1, none⟩ = some (.int .i64 la) ∧ (w10.setCell ⟨G, 0, none⟩ (.slice A10 (j + 1) c10)).cell? ⟨E, 2, none⟩ = some (.int .i64 ld) ∧ (w10.setCell ⟨G, 0, none⟩ (.slice A10 (j + 1) c10)).cell? ⟨E, 3, none⟩ = some (.int .i64 (k : Nat))) := hide ⟨cell_of_row _ _ 0 _ _ _ HE11.out, cell_of_row _ _ 1 _ _ _ HE11.out, cell_of_row _ _ 2 _ _ _ HE11.out, cell_of_row _ _ 3 _ _ _ HE11.out⟩; clear hown hfr h10
              refine hK1.out _ _ TS3.out (fun hHeld => ?_)
              clear hK1 K1
              try simp only [Act.put, List.setIfInBounds_toArray, List.set_cons_zero, List.set_cons_succ]
              refine wpAnyH_take (i := 8) (v := ?_) rfl (by kernel_rfl) (by kernel_rfl) (by kernel_rfl) (fun _ _ _ h => h) (Or.inl ⟨by kernel_rfl, ?_⟩) (by assumption) ?_
              rotate_left 1
              · (intro w' hSw; (try dsimp only at hSw); go_simp; try with_reducible rfl)
              try simp only [Act.put, List.setIfInBounds_toArray, List.set_cons_zero, List.set_cons_succ]
              refine wpAnyH_take (i := 9) (v := ?_) rfl (by kernel_rfl) (by kernel_rfl) (by kernel_rfl) (fun _ _ _ h => h) (Or.inl ⟨by kernel_rfl, ?_⟩) (by assumption) ?_
              rotate_left 1
              · (intro w' hSw; (try dsimp only at hSw); go_simp; try with_reducible rfl)
              try simp only [Act.put, List.setIfInBounds_toArray, List.set_cons_zero, List.set_cons_succ]
              refine wpAnyH_ready (rs := [10]) (by kernel_rfl) (by simp) ?_
              refine AllReadyH.cons rfl (fun K1 hK1 => ?_) AllReadyH.nil
              go_simp
              refine hK1.out _ _ TS4.out (fun hHeld => ?_)
              clear hK1 K1
              try simp only [Act.put, List.setIfInBounds_toArray, List.set_cons_zero, List.set_cons_succ]
              refine wpAnyH_done (by kernel_rfl) ?_ _
              go_wp2
              go_meet
              have f11 : Fr (Is G) w10 (w10.setCell ⟨G, 0, none⟩ (.slice A10 (j + 1) c10)) := (Fr.refl (Is G) w10).put 0 _
              have r11 : (w10.setCell ⟨G, 0, none⟩ (.slice A10 (j + 1) c10)).heap[G]? = some (.cells #[.slice A10 (j + 1) c10, .int .i64 (n : Nat)] 87 (0, 0)) := by
                have := heap_setCell_same w10 G 0 #[vb, .int .i64 (n : Nat)] 87 (.slice A10 (j + 1) c10) HL10.out
                simpa using this
              have o8 : ∀ T, T ≠ 90 → Off (fun k => vb.ownBlock = some k) (w8.alloc (.cells #[.slice Ax m cx, .int .i64 la, .int .i64 ld, .int .i64 (k : Nat)] 90)).drew T := fun T hT => off_own HOa.out hT
              have o9 : ∀ T, T ≠ 87 → Off (Is G) w10 T := fun T hT => off_is HL10.out hT
              refine ⟨A10, c10, hide ⟨(HMa.out.rd.offT HF10.out (o8 _ (by decide)) (o8 _ (by decide))).offT f11 (o9 _ (by decide)) (o9 _ (by decide)), HMa.out.gB, r11, HMa.out.lo, ⟨?_, fun p hp => ?_⟩, (HMa.out.po.off HF10.out (o8 _ (by decide)) (o8 _ (by decide))).off f11 (o9 _ (by decide)) (o9 _ (by decide)), (HMa.out.fr.own HF10.out (fun k hk => .inl (HOa.out.lt k hk).1)).trans f11 (fun i hi e => by have e : i = G := e; have := HMa.out.lo; omega)⟩, hide ((HPa.out.off HF10.out (o8 _ (by decide)) (o8 _ (by decide))).off f11 (o9 _ (by decide)) (o9 _ (by decide)))⟩
              · rw [List.length_append, hbl, bkFlat_snoc]
                unfold bRow
                dsimp only
                rw [HMm.out]
                exact HO10.out.off f11 (o9 _ (by decide))
              · rcases List.mem_append.1 hp with hp | hp
                · exact ((HMa.out.bk.by' p hp).off HF10.out (o8 _ (by decide))).off f11 (o9 _ (by decide))
                · rw [List.mem_singleton.1 hp]
                  dsimp only
                  rw [HMm.out]
                  exact (HXa.out.off HF10.out (o8 _ (by decide))).off f11 (o9 _ (by decide))
            · go_simp
              refine hK1.out _ _ TS2.out (fun hHeld => ?_)
              clear hK1 K1
              try simp only [Act.put, List.setIfInBounds_toArray, List.set_cons_zero, List.set_cons_succ]
              refine wpAnyH_ready (rs := [4]) (by kernel_rfl) (by simp) ?_
              refine AllReadyH.cons rfl (fun K1 hK1 => ?_) AllReadyH.nil
              go_simp
              refine hK1.out _ _ TS2.out (fun hHeld => ?_)
              clear hK1 K1
              try simp only [Act.put, List.setIfInBounds_toArray, List.set_cons_zero, List.set_cons_succ]
              refine wpAnyH_ready (rs := [7]) (by kernel_rfl) (by simp) ?_
              refine AllReadyH.cons rfl (fun K1 hK1 => ?_) AllReadyH.nil
              refine step_append_any rfl (.tmp 67) (.tmp 69) 85 85 rfl w.heap.size 90 i0 _ 4 48 Try.underlying85 hi hz hsz hby rfl vb j (bkFlat bks) rfl HOa.out _ 1 [.slice Ax m cx, .int .i64 la, .int .i64 ld, .int .i64 (k : Nat)] rfl HSa.out c1 c2 c3 ?_; intro v10 w10 hown hfr; obtain ⟨A10, c10, rfl, _⟩ := hown.form; have HO10 := hide hown; have HF10 := hide hfr; have h10 := hfr.blk HMa.out.lst (fun e => HOa.out.ne_blk e HMa.out.lst (by decide)); have HL10 := hide h10; have HE10 := hide (hfr.blk HEa.out (fun e => by have := HVE.out E e; omega)); have yg3 : w10.cell? ⟨G, 0, none⟩ = some vb := cell_of_row _ _ 0 _ _ _ h10; have yz3 : w10.frozen? ⟨G, 0, none⟩ = false := frozen_of_row _ _ _ _ _ h10; have TS3 : Hid (w10.cell? ⟨E, 0, none⟩ = some (.slice Ax m cx) ∧ w10.cell? ⟨E, 1, none⟩ = some (.int .i64 la) ∧ w10.cell? ⟨E, 2, none⟩ = some (.int .i64 ld) ∧ w10.cell? ⟨E, 3, none⟩ = some (.int .i64 (k : Nat))) := hide ⟨cell_of_row _ _ 0 _ _ _ HE10.out, cell_of_row _ _ 1 _ _ _ HE10.out, cell_of_row _ _ 2 _ _ _ HE10.out, cell_of_row _ _ 3 _ _ _ HE10.out⟩; have HE11 := hide (((Fr.refl (Is G) w10).put 0 (.slice A10 (j + 1) c10)).blk HE10.out HgE2.out); have TS4 : Hid ((w10.setCell ⟨G, 0, none⟩ (.slice A10 (j + 1) c10)).cell? ⟨E, 0, none⟩ = some (.slice Ax m cx) ∧ (w10.setCell ⟨G, 0, none⟩ (.slice A10 (j + 1) c10)).cell? ⟨E, 1, none⟩ = some (.int .i64 la) ∧ (w10.setCell ⟨G, 0, none⟩ (.slice A10 (j + 1) c10)).cell? ⟨E, 2, none⟩ = some (.int .i64 ld) ∧ (w10.setCell ⟨G, 0, none⟩ (.slice A10 (j + 1) c10)).cell? ⟨E, 3, none⟩ = some (.int .i64 (k : Nat))) := hide ⟨cell_of_row _ _ 0 _ _ _ HE11.out, cell_of_row _ _ 1 _ _ _ HE11.out, cell_of_row _ _ 2 _ _ _ HE11.out, cell_of_row _ _ 3 _ _ _ HE11.out⟩; clear hown hfr h10
              refine hK1.out _ _ TS3.out (fun hHeld => ?_)
              clear hK1 K1
              try simp only [Act.put, List.setIfInBounds_toArray, List.set_cons_zero, List.set_cons_succ]
              refine wpAnyH_take (i := 8) (v := ?_) rfl (by kernel_rfl) (by kernel_rfl) (by kernel_rfl) (fun _ _ _ h => h) (Or.inl ⟨by kernel_rfl, ?_⟩) (by assumption) ?_
              rotate_left 1
              · (intro w' hSw; (try dsimp only at hSw); go_simp; try with_reducible rfl)
              try simp only [Act.put, List.setIfInBounds_toArray, List.set_cons_zero, List.set_cons_succ]
              refine wpAnyH_take (i := 9) (v := ?_) rfl (by kernel_rfl) (by kernel_rfl) (by kernel_rfl) (fun _ _ _ h => h) (Or.inl ⟨by kernel_rfl, ?_⟩) (by assumption) ?_
              rotate_left 1
              · (intro w' hSw; (try dsimp only at hSw); go_simp; try with_reducible rfl)
              try simp only [Act.put, List.setIfInBounds_toArray, List.set_cons_zero, List.set_cons_succ]
              refine wpAnyH_ready (rs := [10]) (by kernel_rfl) (by simp) ?_
              refine AllReadyH.cons rfl (fun K1 hK1 => ?_) AllReadyH.nil
              go_simp
              refine hK1.out _ _ TS4.out (fun hHeld => ?_)
              clear hK1 K1
              try simp only [Act.put, List.setIfInBounds_toArray, List.set_cons_zero, List.set_cons_succ]
              refine wpAnyH_done (by kernel_rfl) ?_ _
              go_wp2
              go_meet
              have f11 : Fr (Is G) w10 (w10.setCell ⟨G, 0, none⟩ (.slice A10 (j + 1) c10)) := (Fr.refl (Is G) w10).put 0 _
              have r11 : (w10.setCell ⟨G, 0, none⟩ (.slice A10 (j + 1) c10)).heap[G]? = some (.cells #[.slice A10 (j + 1) c10, .int .i64 (n : Nat)] 87 (0, 0)) := by
                have := heap_setCell_same w10 G 0 #[vb, .int .i64 (n : Nat)] 87 (.slice A10 (j + 1) c10) HL10.out
                simpa using this
              have o8 : ∀ T, T ≠ 90 → Off (fun k => vb.ownBlock = some k) (w8.alloc (.cells #[.slice Ax m cx, .int .i64 la, .int .i64 ld, .int .i64 (k : Nat)] 90)).drew T := fun T hT => off_own HOa.out hT
              have o9 : ∀ T, T ≠ 87 → Off (Is G) w10 T := fun T hT => off_is HL10.out hT
              refine ⟨A10, c10, hide ⟨(HMa.out.rd.offT HF10.out (o8 _ (by decide)) (o8 _ (by decide))).offT f11 (o9 _ (by decide)) (o9 _ (by decide)), HMa.out.gB, r11, HMa.out.lo, ⟨?_, fun p hp => ?_⟩, (HMa.out.po.off HF10.out (o8 _ (by decide)) (o8 _ (by decide))).off f11 (o9 _ (by decide)) (o9 _ (by decide)), (HMa.out.fr.own HF10.out (fun k hk => .inl (HOa.out.lt k hk).1)).trans f11 (fun i hi e => by have e : i = G := e; have := HMa.out.lo; omega)⟩, hide ((HPa.out.off HF10.out (o8 _ (by decide)) (o8 _ (by decide))).off f11 (o9 _ (by decide)) (o9 _ (by decide)))⟩
              · rw [List.length_append, hbl, bkFlat_snoc]
                unfold bRow
                dsimp only
                rw [HMm.out]
                exact HO10.out.off f11 (o9 _ (by decide))
              · rcases List.mem_append.1 hp with hp | hp
                · exact ((HMa.out.bk.by' p hp).off HF10.out (o8 _ (by decide))).off f11 (o9 _ (by decide))
                · rw [List.mem_singleton.1 hp]
                  dsimp only
                  rw [HMm.out]
                  exact (HXa.out.off HF10.out (o8 _ (by decide))).off f11 (o9 _ (by decide))
          case rest =>
            obtain ⟨Ab, cb, HM9, HPs9⟩ := hcut
            obtain ⟨w9, rfl⟩ : ∃ W : World, W = wc := ⟨_, rfl⟩
            obtain ⟨np, hnp⟩ : ∃ np, ps8.length = np := ⟨_, rfl⟩
            have hr9 := HPs9.out.row
            rw [hnp] at hr9 hlen
            obtain ⟨A8, c8, rfl, o1, o2, _, o4, _⟩ := hr9.form
            obtain ⟨ip, hip, hipz, hipsz, hipby⟩ := info_parts Try.infoPo
            have HS9 := hide (Src.ofRd (P := Try.prog) (size := 2) w9 Try.underlying22 A8 np c8 (pFlat ps8) (by rw [pFlat_len, hnp]) (by omega) o4 (pFlat_one ps8))
            have HNp := hide hnp
            have b1 : (ps.length + np) * 32 ≤ 140737488355328 := by omega
            have b2 : ps.length + np ≤ maxLen := by unfold maxLen; omega
            have HApt : Hid (∀ p ∈ ps, ∀ q ∈ ps8, Apt (pVal p) (pVal q)) := hide (fun p hp q hq kk h1 h2 => by
              have a1 := PoN.lt (HM7.out.po.ns p hp) kk h1
              have a2 := (Own.lt (HPs9.out.ns q hq) kk h2).1
              omega)
            clear hnp hr9 o4 hi hz hsz hby c1 c2 c3
            refine hK _ _ ?_
            clear hK
            go_wp2_with (first | (at_builtin; refine wpList_append_gen _ rfl (.tmp 73) (.tmp 74) 22 22 rfl w.heap.size 58 ip (.agg #[.int .i64 0, .slice none 0 0]) 2 32 Try.underlying22 hip hipz hipsz hipby rfl u6 ps.length (pFlat ps) rfl HM9.out.po.row _ np (pFlat ps8) rfl HS9.out b1 b2 HM9.out.fr.size ?_; intro v12 w12 hown hfr hat; have HO12 := hide hown; have HF12 := hide hfr; clear hown hfr hat) | fail)
            have oP : ∀ T, T ≠ 58 → Off (fun k => u6.ownBlock = some k) w9 T := fun T hT => off_own HM9.out.po.row hT
            have HM12 : Hid (PoO w w12 g G bs a3 0 n (.slice Ab (j + 1) cb) (bks ++ [((row, la, ld, k), Ax, cx)]) v12 (ps ++ ps8)) := hide
              ⟨HM9.out.rd.offT HF12.out (oP _ (by decide)) (oP _ (by decide)), HM9.out.gB, HF12.out.blk HM9.out.lst (fun e => HM9.out.po.row.ne_blk e HM9.out.lst (by decide)), HM9.out.lo, HM9.out.bk.off HF12.out (oP _ (by decide)) (oP _ (by decide)), HM9.out.po.app HPs9.out HW8.out HApt.out HF12.out (by rw [HNp.out]; exact HO12.out), HM9.out.fr.own HF12.out (fun k hk => .inl (HM9.out.po.row.lt k hk).1)⟩
            have HNew2 : Hid (PoI bs n (j + 1) a3 0 ld ((ps ++ ps8).map (·.1)) ((bks ++ [((row, la, ld, k), Ax, cx)]).map (·.1))) := hide (by rw [List.map_append (l₁ := bks)]; exact HNew.out)
            go_roundw
            case rel => exact ⟨j + 1, i' + 8, a3, 0, ld, _, bks ++ [((row, la, ld, k), Ax, cx)], ps ++ ps8, by go_num, rfl, hide (by rw [HI.out]; omega), by omega, hld1.1, hld1.2, by rw [List.length_append, hbl]; rfl, by rw [List.length_append, HNp.out]; omega, HNew2, HM12⟩
            case measure => simp [intOf]; omega
    · have hj : ¬ 8 * j < n := by have := HI.out; omega
      have d1 : decide ((i' : Int) < (n : Int)) = false := decide_eq_false (by omega)
      have HEnd := hide (fun l (hf : FormP bs l) => po_end HP.out hj hf)
      obtain ⟨ps1, hps1⟩ : ∃ x, ps.map (·.1) = x := ⟨_, rfl⟩
      obtain ⟨np, hnp⟩ : ∃ np, ps.length = np := ⟨_, rfl⟩
      have hr9 := HM.out.po.row
      rw [hnp] at hr9
      obtain ⟨Ap, cp, rfl, o1, o2, _, o4, _⟩ := hr9.form
      have hrd : RdPo wo wo.heap.size Ap ps1 := by
        have h := HM.out.po
        rw [← hnp] at h
        rw [← hps1]
        exact h.rd
      have hin := HM.out.po.inI
      rw [hps1] at hin
      have HBd := hide (pbuild_any Ap np cp wo.heap.size ps1 wo (by rw [← hps1, List.length_map, hnp]) o1 o2 (Nat.le_refl _) hrd hin.1 hin.2)
      rw [hps1] at HEnd
      obtain ⟨ε, hε⟩ : ∃ ε, endE bs a e = ε := ⟨_, rfl⟩
      have HEn := hide (fun W hW => end_any g bs a e W hW)
      rw [hε] at HEnd HEn
      clear hr9 hrd hin o4 hps1 hε
      go_wp2_with (fail)
      refine HBd.out.mono ?_
      rintro en w13 ⟨hfr, hres⟩
      have HM13 := hide (HM.out.fr0 hfr)
      clear hfr HBd
      rcases hres with ⟨hR, A3, m3, hm3, rfl, ho3⟩ | ⟨hN, rfl⟩
      · have HF3 := hide ho3
        have HM3 := hide hm3
        have HRt := hide hR
        by_cases he : ε = 0
        · have f1 : (ε != 0) = false := by simp [he]
          have HEq := hide (fun W (h3 : Rd W W.heap.size A3 (by8 (buildP ps1))) (h4 : Rd W B A (by8 bs)) => sleq_any A3 A m3 m3 N c W.heap.size B (buildP ps1) bs W hm3.symm HL.out (Nat.le_refl _) (ho3.le.2.2) hn (by unfold maxLen; exact hc) h3 h4)
          have HLn := hide (fun l (hf : FormP bs l) => (HP.out l hf).2.1)
          obtain ⟨q, hq⟩ : ∃ q : Bool, decide (buildP ps1 = bs) = q := ⟨_, rfl⟩
          rw [hq] at HEq
          have HQ := hide hq
          clear he hR hm3 ho3 hq
          cases q with
          | false =>
            have HNo : Hid (∀ l, ¬ FormP bs l) := hide (fun l hf => by
              have h1 := (HEnd.out l hf).1
              have h2 := of_decide_eq_false HQ.out
              rw [h1] at h2
              exact h2 hf.2)
            go_wp2_with (first
              | (go_at_call 54; refine (HEn.out _ HM13.out.rd).mono ?_; rintro en w14 ⟨rfl, hrd, hfr⟩; have HM14 := hide (HM13.out.read hfr hrd); have HF14 := hide (HF3.out.off hfr (by obtain ⟨cs, fz, hh⟩ := HM13.out.rd.blkP; exact off_is hh (by decide))); clear hrd hfr)
              | (go_at_call 55; refine (HEq.out w14 HF14.out.rd (HR.out.fr0 HM14.out.fr)).mono ?_; rintro en w15 ⟨rfl, nq, rfl⟩))
            go_ret2
            exact ⟨HM14.out.fr.drewN _, .inr ⟨HNo.out, rfl⟩⟩
          | true =>
            have HFm : Hid (FormP bs ps1) := hide ⟨HRt.out, of_decide_eq_true HQ.out⟩
            go_wp2_with (first
              | (go_at_call 54; refine (HEn.out _ HM13.out.rd).mono ?_; rintro en w14 ⟨rfl, hrd, hfr⟩; have HM14 := hide (HM13.out.read hfr hrd); have HF14 := hide (HF3.out.off hfr (by obtain ⟨cs, fz, hh⟩ := HM13.out.rd.blkP; exact off_is hh (by decide))); clear hrd hfr)
              | (go_at_call 55; refine (HEq.out w14 HF14.out.rd (HR.out.fr0 HM14.out.fr)).mono ?_; rintro en w15 ⟨rfl, nq, rfl⟩))
            go_ret2
            have fN : Fr No w14 (w14.drewN nq) := (Fr.refl No w14).drewN _
            have hLn := HLn.out ps1 HFm.out
            exact ⟨HM14.out.fr.drewN _, .inl ⟨G, ps1, HFm.out, rfl, ⟨⟨vb, bks, by rw [hLn]; exact fN.blk HM14.out.lst (fun h => h), (HEnd.out ps1 HFm.out).2.2, HM14.out.bk.fr0 fN⟩, HM14.out.lo⟩⟩⟩
        · have f1 : (ε != 0) = true := by simp [he]
          have HNo : Hid (∀ l, ¬ FormP bs l) := hide (fun l hf => he (HEnd.out l hf).2.1)
          clear he hR hm3 ho3
          go_wp2_with (go_at_call 54; refine (HEn.out _ HM13.out.rd).mono ?_; rintro en w14 ⟨rfl, hrd, hfr⟩; have HM14 := hide (HM13.out.read hfr hrd); clear hrd hfr)
          go_ret2
          exact ⟨HM14.out.fr, .inr ⟨HNo.out, rfl⟩⟩
      · have HNo : Hid (∀ l, ¬ FormP bs l) := hide (fun l hf => by have := (HEnd.out l hf).1; rw [this] at hN; exact hN hf.1)
        clear hN
        by_cases he : ε = 0
        · have f1 : (ε != 0) = false := by simp [he]
          clear he
          go_wp2_with (go_at_call 54; refine (HEn.out _ HM13.out.rd).mono ?_; rintro en w14 ⟨rfl, hrd, hfr⟩; have HM14 := hide (HM13.out.read hfr hrd); clear hrd hfr)
          go_ret2
          exact ⟨HM14.out.fr, .inr ⟨HNo.out, rfl⟩⟩
        · have f1 : (ε != 0) = true := by simp [he]
          clear he
          go_wp2_with (go_at_call 54; refine (HEn.out _ HM13.out.rd).mono ?_; rintro en w14 ⟨rfl, hrd, hfr⟩; have HM14 := hide (HM13.out.read hfr hrd); clear hrd hfr)
          go_ret2
          exact ⟨HM14.out.fr, .inr ⟨HNo.out, rfl⟩⟩
end Go.Proofs.Ythlbfnoahdjdeaa
namespace Go.Proofs.Ythlbfnoahdjdeaa
set_option linter.unusedVariables false
set_option linter.unusedSimpArgs false
open Go.RowKit

set_option maxRecDepth 100000 in
set_option maxHeartbeats 400000 in
theorem clipP_any (A : Option Addr) (n c : Nat) (w : World) (hn : n ≤ c) (hc : c ≤ maxLen) :
    Calls Try.prog 64 #[.slice A n c] w (Ret (.slice A n n) w) := by
  unfold maxLen at hc
  go_enter Try.func64, Try.ntmps64
  go_wp2
  go_ret
  exact ⟨by simp, rfl⟩
def PPostsQ (w : World) (l : List Po) (en : Ending) (w' : World) : Prop := Fr No w w' ∧ ∃ A ps, en = .returned (.slice A l.length l.length) ∧ OwnPs w' w.heap.size (.slice A l.length l.length) ps ∧ ps.map (·.1) = l

set_option maxRecDepth 100000 in
set_option maxHeartbeats 8000000 in
theorem pposts_any (base G n : Nat) (l : List Po) (w : World) (h : LstM w base G (bksOf l (nbP l.length)) n) (hR : rightP l) :
    Calls Try.prog 34 #[.pointer (some ⟨G, 0, none⟩)] w (PPostsQ w l) := by
  obtain ⟨v, bs, q1, q2, q3⟩ := h.ex
  obtain ⟨nb, hnb⟩ : ∃ nb, bs.length = nb := ⟨_, rfl⟩
  have hnl : nb = nbP l.length := by rw [← hnb, ← List.length_map (f := (·.1)), q2, bksOf_len]
  have hrow := q3.row
  rw [hnb] at hrow
  obtain ⟨A, c, rfl, o1, o2, _, _, _⟩ := hrow.form
  have k0 : w.cell? ⟨G, 0, none⟩ = some (.slice A nb c) := cell_of_row _ _ 0 _ _ _ q1
  have HB := hide q3
  have HM := hide q2
  have HR := hide hR
  have HN := hide hnb
  have HNl := hide hnl
  have h16 := right_16 hR
  have hnb2 : nb ≤ 2048 := by rw [hnl]; unfold nbP; omega
  have HF0 := hide (Fr.refl No w)
  unfold maxLen at o2
  clear q1 q2 q3 h hR hnb hnl hrow
  go_enter Try.func34, Try.ntmps34
  go_wp2_with (fail)
  go_loopw [15, 3] (fun ix ox wr => ∃ (i : Nat) (ps : List PoL), i ≤ nb ∧ ix = .int .i64 i ∧ Hid (ps.map (·.1) = l.take (8 * i)) ∧ Hid (OwnPs wr w.heap.size ox ps) ∧ Hid (Fr No w wr)) (fun ix _ _ => nb - (intOf ix).toNat)
  case atStart => exact ⟨0, [], Nat.zero_le _, rfl, hide (by simp), hide (OwnPs.nil _ _), HF0⟩
  case round =>
    obtain ⟨wo, rfl⟩ : ∃ wo : World, wo = wr := ⟨_, rfl⟩
    obtain ⟨i, ps, hin, rfl, HPl, HPs, HFr⟩ := hrel
    clear HF0
    by_cases hlt : i < nb
    · have hib : i < bs.length := by rw [HN.out]; exact hlt
      have hp : bs[i]? = some bs[i] := List.getElem?_eq_getElem hib
      have hpe : bs[i].1 = bk1 l i := by
        have h1 : (bs.map (·.1))[i]? = some bs[i].1 := by rw [List.getElem?_map, hp]; rfl
        rw [HM.out, bksOf, List.getElem?_map, List.getElem?_range (by rw [← HNl.out]; exact hlt)] at h1
        injection h1 with h1
        exact h1.symm
      have hB := HB.out.fr0 HFr.out
      rw [← HN.out] at hB
      obtain ⟨ad, rfl, c0, c1, c2, c3, e1, e2, hrd⟩ := hB.at hp
      generalize bs[i] = p at hp hpe c0 c1 c2 c3 e1 e2 hrd
      obtain ⟨⟨row, ah, la, kk⟩, Ak, ck⟩ := p
      dsimp only at hpe c0 c1 c2 c3 e1 e2 hrd
      unfold bk1 at hpe
      injection hpe with g1 hpe
      injection hpe with g2 hpe
      injection hpe with g3 g4
      have hjn : 8 * i < l.length := by have := HNl.out; unfold nbP at this; omega
      have hk8 : kk ≤ 8 := by omega
      have hah := right_last (rightP_take HR.out (8 * i))
      have hah2 : -1 ≤ ah ∧ ah ≤ 1099511627776 := by rw [g2]; unfold aheadPo; omega
      have hrl : row.length ≤ 9000000 := by rw [g1]; exact rowsB_le (right_row HR.out i)
      have HGood : Hid (GoodB ah (blkPo l i) kk ∧ row = rowsB ah (blkPo l i)) := hide ⟨by rw [g2, g4]; exact good_of HR.out hjn, by rw [g1, g2]⟩
      obtain ⟨r, hr⟩ : ∃ r, row.length = r := ⟨_, rfl⟩
      rw [hr] at c0 e1 hrl
      have HPo := hide (fun W (f : Fr No wo W) => posts_any Ak r ck wo.heap.size row ah la kk W hr e1 e2 (by omega) f.size (hrd.fr0 f) hk8 hah2)
      unfold maxLen at e2
      have i0 : (0 : Int) ≤ (i : Int) := by omega
      have i1 : (i : Int) < (nb : Int) := by omega
      clear hib hp hB hrd g1 g2 g3 g4 hah hr
      go_wp2_with (fail)
      refine (HPo.out _ ((Fr.refl No wo).alloc _)).mono ?_
      rintro en w8 ⟨hfr, v8, ps8, ok, rfl, hps, hgood, hlen⟩
      have HF8 : Hid (Fr No wo w8) := hide (((Fr.refl No wo).alloc _).tr hfr)
      have HPl8 : Hid (ps8.map (·.1) = blkPo l i) := hide (hgood _ HGood.out.1 HGood.out.2).1
      have HPs8 := hide (hps.lower (show wo.heap.size ≤ _ from ((Fr.refl No wo).alloc _).size))
      have HPw := hide (HPs.out.fr0 HF8.out)
      obtain ⟨np, hnp⟩ : ∃ np, ps8.length = np := ⟨_, rfl⟩
      have hr9 := HPs8.out.row
      rw [hnp] at hr9 hlen
      obtain ⟨A8, c8, rfl, p1, p2, _, p4, _⟩ := hr9.form
      obtain ⟨ip, hip, hipz, hipsz, hipby⟩ := info_parts Try.infoPo
      have HS9 := hide (Src.ofRd (P := Try.prog) (size := 2) w8 Try.underlying22 A8 np c8 (pFlat ps8) (by rw [pFlat_len, hnp]) (by omega) p4 (pFlat_one ps8))
      have HNp := hide hnp
      have hpl : ps.length ≤ 8 * i := by have := congrArg List.length HPl.out; rw [List.length_map, List.length_take] at this; omega
      have b1 : (ps.length + np) * 32 ≤ 140737488355328 := by omega
      have b2 : ps.length + np ≤ maxLen := by unfold maxLen; omega
      have HApt : Hid (∀ p ∈ ps, ∀ q ∈ ps8, Apt (pVal p) (pVal q)) := hide (fun p hp q hq k h1 h2 => by
        have a1 := PoN.lt (HPs.out.ns p hp) k h1
        have a2 := (Own.lt (HPs8.out.ns q hq) k h2).1
        omega)
      have HF9 : Hid (Fr No w w8) := hide (HFr.out.tr HF8.out)
      clear hnp hr9 p4 hps hgood hfr HPo
      go_wp2_with (first | (at_builtin; refine wpList_append_gen _ rfl (.tmp 24) (.tmp 25) 22 22 rfl w.heap.size 58 ip (.agg #[.int .i64 0, .slice none 0 0]) 2 32 Try.underlying22 hip hipz hipsz hipby rfl u3 ps.length (pFlat ps) rfl HPw.out.row _ np (pFlat ps8) rfl HS9.out b1 b2 HF9.out.size ?_; intro v12 w12 hown hfr hat; have HO12 := hide hown; have HF12 := hide hfr; clear hown hfr hat) | fail)
      have HP12 : Hid (OwnPs w12 w.heap.size v12 (ps ++ ps8)) := hide (HPw.out.app HPs8.out HFr.out.size HApt.out HF12.out (by rw [HNp.out]; exact HO12.out))
      have HF13 : Hid (Fr No w w12) := hide (HF9.out.own HF12.out (fun k hk => .inl (HPw.out.row.lt k hk).1))
      have HT : Hid ((ps ++ ps8).map (·.1) = l.take (8 * (i + 1))) := hide (by rw [List.map_append, HPl.out, HPl8.out, blkPo, show 8 * (i + 1) = 8 * i + 8 by omega, List.take_add])
      go_roundw
      case rel => exact ⟨i + 1, ps ++ ps8, by omega, by go_num, HT, HP12, HF13⟩
      case measure => simp [intOf]; omega
    · obtain rfl : i = nb := by omega
      have HT : Hid (ps.map (·.1) = l) := hide (by rw [HPl.out, List.take_of_length_le]; have := HNl.out; unfold nbP at this; omega)
      have hl : ps.length = l.length := by rw [← HT.out, List.length_map]
      have hr9 := HPs.out.row
      rw [hl] at hr9
      obtain ⟨A8, c8, rfl, p1, p2, _, p4, _⟩ := hr9.form
      have HCl := hide (clipP_any A8 l.length c8 wo p1 p2)
      have HO := hide hr9.clip
      have HL := hide hl
      clear hr9 p4 hl
      go_wp2_with (go_at_call 64; refine HCl.out.mono ?_; rintro en w9 ⟨rfl, rfl⟩)
      go_ret
      exact ⟨HFr.out, A8, ps, rfl, ⟨by rw [HL.out]; exact HO.out, HPs.out.ns, HPs.out.ap, HPs.out.bd⟩, HT.out⟩
end Go.Proofs.Ythlbfnoahdjdeaa
namespace Go.Proofs.Ythlbfnoahdjdeaa
set_option linter.unusedVariables false
set_option linter.unusedSimpArgs false
open Go.RowKit

/-- where a walk stands. -/
inductive ItS where
  | start
  | here (i : Nat)
  | done
def itPs (l : List Po) : ItS → List Po
  | .here i => blkPo l (i / 8)
  | _ => []
def itAt : ItS → Int
  | .start => -1
  | .here i => (i % 8 : Nat)
  | .done => 0
def itNx : ItS → Int
  | .start => 0
  | .here i => (i / 8 + 1 : Nat)
  | .done => 1073741824
def itOn : ItS → Bool
  | .here _ => true
  | _ => false
structure ItM (w : World) (base X : Nat) (lv : Value) (l : List Po) (s : ItS) : Prop where
  ex : ∃ pv ps, w.heap[X]? = some (.cells #[pv, .int .i64 (itAt s), lv, .int .i64 (itNx s)] 97 (0, 0)) ∧ OwnPs w base pv ps ∧ ps.map (·.1) = itPs l s
  lo : base ≤ X
  ok : ∀ i, s = .here i → i < l.length
theorem it_len {l : List Po} {i : Nat} (h : i < l.length) : i % 8 < (blkPo l (i / 8)).length := by
  rw [blkPo_len]
  omega
/-- the three cells and the posts' row. -/
theorem ItM.parts {w : World} {base X : Nat} {lv : Value} {l : List Po} {s : ItS} (h : ItM w base X lv l s) :
    ∃ (A : Option Addr) (n c : Nat), (w.cell? ⟨X, 0, none⟩ = some (.slice A n c) ∧ w.cell? ⟨X, 1, none⟩ = some (.int .i64 (itAt s)) ∧ w.cell? ⟨X, 2, none⟩ = some lv ∧ w.cell? ⟨X, 3, none⟩ = some (.int .i64 (itNx s))) ∧ n = (itPs l s).length ∧ n ≤ c ∧ c ≤ maxLen ∧ RdPo w w.heap.size A (itPs l s) := by
  obtain ⟨pv, ps, q, hp, hm⟩ := h.ex
  have hl : ps.length = (itPs l s).length := by rw [← hm, List.length_map]
  obtain ⟨A, c, e, h1, h2, _, _, _⟩ := hp.row.form
  subst e
  refine ⟨A, ps.length, c, ⟨cell_of_row _ _ 0 _ _ _ q, cell_of_row _ _ 1 _ _ _ q, cell_of_row _ _ 2 _ _ _ q, cell_of_row _ _ 3 _ _ _ q⟩, hl, h1, h2, ?_⟩
  rw [← hm]
  exact hp.rd

set_option maxRecDepth 100000 in
set_option maxHeartbeats 1600000 in
theorem here_any (base X : Nat) (lv : Value) (l : List Po) (s : ItS) (w : World) (h : ItM w base X lv l s) : Calls Try.prog 56 #[.pointer (some ⟨X, 0, none⟩)] w (RetQ (.bool (itOn s)) w) := by
  obtain ⟨A, n, c, ⟨c0, c1, c2, c3⟩, hn, _, _, _⟩ := h.parts
  have hok := h.ok
  clear h c2 c3
  cases s with
  | start =>
    have e1 : decide ((0 : Int) ≤ -1) = false := by decide
    simp only [itAt] at c1
    go_enter Try.func56, Try.ntmps56
    go_wp2
    go_quiet (fail)
    go_wp2
    go_ret
    exact ⟨rfl, _, rfl⟩
  | here i =>
    have h1 := it_len (hok i rfl)
    simp only [itAt, itPs] at c1 hn
    rw [← hn] at h1
    obtain ⟨k, hk⟩ : ∃ k, i % 8 = k := ⟨_, rfl⟩
    rw [hk] at c1 h1
    have e1 : decide ((0 : Int) ≤ (k : Int)) = true := decide_eq_true (by omega)
    have e2 : decide ((k : Int) < (n : Int)) = true := decide_eq_true (by omega)
    clear hok hn hk
    go_enter Try.func56, Try.ntmps56
    go_wp2
    go_quiet (fail)
    go_wp2
    go_ret
    exact ⟨by simp [itOn, h1], _, rfl⟩
  | done =>
    simp only [itAt, itPs] at c1 hn
    subst hn
    go_enter Try.func56, Try.ntmps56
    go_wp2
    go_quiet (fail)
    go_wp2
    go_ret
    exact ⟨by simp [itOn], _, rfl⟩
end Go.Proofs.Ythlbfnoahdjdeaa
namespace Go.Proofs.Ythlbfnoahdjdeaa
set_option linter.unusedVariables false
set_option linter.unusedSimpArgs false
open Go.RowKit

/-- the place at a number. -/
def stS (l : List Po) (k : Nat) : ItS := if k < l.length then .here k else .done
/-- the number of a place. -/
def posS (l : List Po) : ItS → Nat
  | .start => 0
  | .here i => i
  | .done => l.length
def nxS (l : List Po) : ItS → ItS
  | .start => stS l 0
  | .here i => stS l (i + 1)
  | .done => .done
/-- what load comes to. -/
def ldS (l : List Po) (j : Nat) : ItS := if j < nbP l.length then .here (8 * j) else .done
theorem ldS_eq (l : List Po) (j : Nat) : ldS l j = stS l (8 * j) := by
  unfold ldS stS nbP
  by_cases h : 8 * j < l.length
  · rw [if_pos (by omega), if_pos h]
  · rw [if_neg (by omega), if_neg h]
theorem stS_ok {l : List Po} {k : Nat} : ∀ i, stS l k = .here i → i < l.length := by
  intro i h
  unfold stS at h
  split at h
  · injection h with h; omega
  · cases h
theorem itOn_st (l : List Po) (k : Nat) : itOn (stS l k) = decide (k < l.length) := by
  unfold stS
  split
  · rename_i h; simp [itOn, h]
  · rename_i h; simp [itOn, h]
theorem stS_past {l : List Po} {k : Nat} (h : l.length ≤ k) : stS l k = .done := if_neg (by omega)
theorem stS_in {l : List Po} {k : Nat} (h : k < l.length) : stS l k = .here k := if_pos h
theorem itPs_ld {l : List Po} {j : Nat} (h : j < nbP l.length) : itPs l (ldS l j) = blkPo l j := by
  unfold ldS
  rw [if_pos h, itPs, show 8 * j / 8 = j by omega]
/-- k is the first place from i on whose document is at least d. -/
structure IsF (l : List Po) (d : Int) (i k : Nat) : Prop where
  lo : i ≤ k
  hi : k ≤ l.length
  lt : ∀ t, i ≤ t → t < k → (l.getD t noPo).1 < d
  ge : k < l.length → d ≤ (l.getD k noPo).1
theorem IsF.uniq {l : List Po} {d : Int} {i k m : Nat} (h : IsF l d i k) (h2 : IsF l d i m) : k = m := by
  rcases Nat.lt_trichotomy k m with h3 | h3 | h3
  · have a1 := h2.lt k h.lo h3
    have a2 := h.ge (by have := h2.hi; omega)
    omega
  · exact h3
  · have a1 := h.lt m h2.lo h3
    have a2 := h2.ge (by have := h.hi; omega)
    omega
/-- documents go up. -/
theorem right_up {l : List Po} (h : rightP l) : ∀ {i j : Nat}, i < j → j < l.length → (l.getD i noPo).1 < (l.getD j noPo).1
  | i, 0, h1, _ => by omega
  | i, j + 1, h1, h2 => by
    have h3 := (h (j + 1) h2).1
    rw [take_snocP (by omega), lastD_snoc] at h3
    by_cases e : i = j
    · rw [e]; exact h3
    · have := right_up h (i := i) (j := j) (by omega) (by omega)
      omega
theorem right_doc {l : List Po} (h : rightP l) {i : Nat} (hi : i < l.length) : 0 ≤ (l.getD i noPo).1 ∧ (l.getD i noPo).1 < 16384 := by
  have h1 := h i hi
  have h2 := right_last (rightP_take h i)
  exact ⟨by have := h1.1; omega, h1.2.1⟩
/-- a block's last document. -/
theorem blk_lastD {l : List Po} {j : Nat} (hj : 8 * j < l.length) : lastD (l.take (8 * (j + 1))) = (l.getD (min (8 * j + 7) (l.length - 1)) noPo).1 := by
  obtain ⟨m, hm⟩ : ∃ m, min (8 * j + 7) (l.length - 1) = m := ⟨_, rfl⟩
  have h1 : m < l.length := by omega
  have h2 : l.take (8 * (j + 1)) = l.take (m + 1) := by
    by_cases h : 8 * (j + 1) ≤ l.length
    · rw [show m + 1 = 8 * (j + 1) by omega]
    · rw [List.take_of_length_le (by omega), List.take_of_length_le (by omega)]
  rw [h2, hm, take_snocP h1, lastD_snoc]
/-- blocks j0 up to j are below d: so are their posts. -/
theorem blk_below {l : List Po} (h : rightP l) {d : Int} {j : Nat} (hj : 8 * j < l.length) (hd : lastD (l.take (8 * (j + 1))) < d) {t : Nat} (h1 : 8 * j ≤ t) (h2 : t < 8 * (j + 1)) (h3 : t < l.length) : (l.getD t noPo).1 < d := by
  rw [blk_lastD hj] at hd
  obtain ⟨m, hm⟩ : ∃ m, min (8 * j + 7) (l.length - 1) = m := ⟨_, rfl⟩
  rw [hm] at hd
  by_cases e : t = m
  · rw [e]; exact hd
  · have := right_up h (i := t) (j := m) (by omega) (by omega)
    omega
end Go.Proofs.Ythlbfnoahdjdeaa
