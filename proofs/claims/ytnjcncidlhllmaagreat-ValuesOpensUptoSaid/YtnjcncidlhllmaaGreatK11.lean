/- Several texts in one: VaRd. -/
import Derived.Test.YtnjcncidlhllmaaGreatK10
namespace Go.Proofs.YtnjcncidlhllmaaGreat
set_option linter.unusedVariables false
set_option linter.unusedSimpArgs false
open Go.RowKit

set_option maxRecDepth 100000 in
theorem and8_one {y : Nat} (h : y < 256) : bits .and .u8 (y : Int) 1 = ((y % 2 : Nat) : Int) := by
  have h2 : ∀ y : Fin 256, bits .and .u8 ((y.val : Nat) : Int) 1 = ((y.val % 2 : Nat) : Int) := by decide
  exact h2 ⟨y, h⟩
theorem bit8_val {x k : Nat} (hx : x < 256) : bits .and .u8 ((x : Int) / 2 ^ k) 1 = (((if x.testBit k then 1 else 0 : Nat)) : Int) := by
  have hs : x >>> k < 256 := by
    rw [Nat.shiftRight_eq_div_pow]
    exact Nat.lt_of_le_of_lt (Nat.div_le_self _ _) hx
  rw [int_shr, and8_one hs]
  have ht : x.testBit k = decide ((x >>> k) % 2 = 1) := by
    rw [Nat.testBit_eq_decide_div_mod_eq, Nat.shiftRight_eq_div_pow]
  rw [ht]
  by_cases e : (x >>> k) % 2 = 1
  · rw [decide_eq_true e, if_pos rfl, e]
  · rw [decide_eq_false e, if_neg (by decide)]
    have : (x >>> k) % 2 = 0 := by omega
    rw [this]
/-- where rows end. -/
def endsV (bits : List UInt8) (lens : List Int) (n : Nat) : List Int := (List.range n).map fun i => ((atV bits lens (i + 1) : Nat) : Int)
theorem endsV_succ (bits : List UInt8) (lens : List Int) (n : Nat) : endsV bits lens (n + 1) = endsV bits lens n ++ [((atV bits lens (n + 1) : Nat) : Int)] := by simp [endsV, List.range_succ]
theorem endsV_len (bits : List UInt8) (lens : List Int) (n : Nat) : (endsV bits lens n).length = n := by simp [endsV]
def ColV (v1 v2 : Value) : Value := .agg #[v1, v2]
def RdPost (w : World) (bs : List UInt8) (en : Ending) (w' : World) : Prop :=
  Fr No w w' ∧ ((rdOk bs ∧ ∃ v1 v2, en = .returned (.tuple #[ColV v1 v2, .bool true]) ∧ Own w' w.heap.size 3 1 v1 (nV bs) (iz .i64 (endsV (bV bs).1 (lV bs).1 (nV bs))) ∧ Own w' w.heap.size 2 1 v2 (aV bs).1.length (iz .i64 (aV bs).1)) ∨ (¬ rdOk bs ∧ ∃ A1 n1 c1 A2 n2 c2, en = .returned (.tuple #[ColV (.slice A1 n1 c1) (.slice A2 n2 c2), .bool false])))
theorem results_col {fn : Func} {p u : Tmp} {ty : TypeId} (h : fn.results = #[.cell p ty, .tmp u]) (tmps : Array Value) (w : World) (g : Nat) (v : Value)
    (hp : tmps.getD p undef = .pointer (some ⟨g, 0, none⟩)) (hl : (loadVar ty ⟨g, 0, none⟩).run Tryz.prog w = .ok v w) :
    (results fn tmps).run Tryz.prog w = .ok (.tuple #[v, tmps.getD u undef]) w := by
  have hp' : tmps[p]?.getD undef = .pointer (some ⟨g, 0, none⟩) := by simpa using hp
  simp [results, h, hp', asAddr, hl]
theorem load_col {w : World} {g : Nat} {v1 v2 : Value} (hg : w.heap[g]? = some (.cells #[v1, v2] 67 (0, 0))) : (loadVar 67 ⟨g, 0, none⟩).run Tryz.prog w = .ok (.agg #[v1, v2]) w :=
  run_loadVar_row w g _ _ _ _ _ hg Tryz.underlying67 rfl (by kernel_rfl)
theorem put_two {w : World} {R : Nat} {x y a b : Value} {t : TypeId} (h : w.heap[R]? = some (.cells #[x, y] t (0, 0))) : ((w.setCell ⟨R, 0, none⟩ a).setCell ⟨R, 1, none⟩ b).heap[R]? = some (.cells #[a, b] t (0, 0)) := by
  simp [World.setCell, Array.getElem?_modify, h, Array.set!]
theorem put_two_fr {w : World} {R : Nat} {a b : Value} : Fr (Is R) w ((w.setCell ⟨R, 0, none⟩ a).setCell ⟨R, 1, none⟩ b) :=
  ((Fr.refl (Is R) w).setCell (p := ⟨R, 0, none⟩) (fun _ => rfl) _).setCell (p := ⟨R, 1, none⟩) (fun _ => rfl) _
theorem Tryz.infoInV : (Tryz.prog.info? 3).map (fun i => (i.zero, i.size, i.bytes)) = some (some (.int .i64 0), 1, 8) := by kernel_rfl
theorem put_one {w : World} {R : Nat} {x y a : Value} {t : TypeId} (h : w.heap[R]? = some (.cells #[x, y] t (0, 0))) : (w.setCell ⟨R, 0, none⟩ a).heap[R]? = some (.cells #[a, y] t (0, 0)) := by
  simp [World.setCell, Array.getElem?_modify, h, Array.set!]
theorem put_snd {w : World} {R : Nat} {x y b : Value} {t : TypeId} (h : w.heap[R]? = some (.cells #[x, y] t (0, 0))) : (w.setCell ⟨R, 1, none⟩ b).heap[R]? = some (.cells #[x, b] t (0, 0)) := by
  simp [World.setCell, Array.getElem?_modify, h, Array.set!]
structure RdK (W : World) (base : Nat) (A7 A10 A11 : Option Addr) (mm c7 rl c10 f c11 : Nat) (bits rest : List UInt8) (lens : List Int) : Prop where
  b : Own W base 5 1 (.slice A7 mm c7) mm (by8 bits)
  r : Own W base 5 1 (.slice A10 rl c10) rl (by8 rest)
  l : Own W base 2 1 (.slice A11 f c11) f (iz .i64 lens)
theorem RdK.own {W W' : World} {base b2 n2 : Nat} {A7 A10 A11 : Option Addr} {mm c7 rl c10 f c11 : Nat} {bits rest : List UInt8} {lens : List Int} {v2 : Value} {x2 : List Value} (h : RdK W base A7 A10 A11 mm c7 rl c10 f c11 bits rest lens) (o : Own W b2 3 1 v2 n2 x2) (fr : Fr (fun k => v2.ownBlock = some k) W W') : RdK W' base A7 A10 A11 mm c7 rl c10 f c11 bits rest lens :=
  ⟨h.b.fr fr (fun k hk e => o.apart h.b (by decide) k e hk), h.r.fr fr (fun k hk e => o.apart h.r (by decide) k e hk), h.l.fr fr (fun k hk e => o.apart h.l (by decide) k e hk)⟩
theorem RdK.col {W : World} {base C : Nat} {A7 A10 A11 : Option Addr} {mm c7 rl c10 f c11 : Nat} {bits rest : List UInt8} {lens : List Int} {cs : Array Value} {v : Value} (h : RdK W base A7 A10 A11 mm c7 rl c10 f c11 bits rest lens) (hC : W.heap[C]? = some (.cells cs 67 (0, 0))) (i : Nat) : RdK (W.setCell ⟨C, i, none⟩ v) base A7 A10 A11 mm c7 rl c10 f c11 bits rest lens := by
  have fr : Fr (Is C) W (W.setCell ⟨C, i, none⟩ v) := (Fr.refl (Is C) W).setCell (p := ⟨C, i, none⟩) (fun _ => rfl) v
  exact ⟨h.b.fr fr (fun k hk e => h.b.ne_blk (by have e : k = C := e; rw [← e]; exact hk) hC (by decide)), h.r.fr fr (fun k hk e => h.r.ne_blk (by have e : k = C := e; rw [← e]; exact hk) hC (by decide)), h.l.fr fr (fun k hk e => h.l.ne_blk (by have e : k = C := e; rw [← e]; exact hk) hC (by decide))⟩
theorem RdK.fr0 {W W' : World} {base : Nat} {A7 A10 A11 : Option Addr} {mm c7 rl c10 f c11 : Nat} {bits rest : List UInt8} {lens : List Int} (h : RdK W base A7 A10 A11 mm c7 rl c10 f c11 bits rest lens) (fr : Fr No W W') : RdK W' base A7 A10 A11 mm c7 rl c10 f c11 bits rest lens := ⟨h.b.fr0 fr, h.r.fr0 fr, h.l.fr0 fr⟩
set_option maxRecDepth 100000 in
set_option maxHeartbeats 3000000 in
theorem read_any (A : Option Addr) (m c B : Nat) (bs : List UInt8) (w : World) (hl : bs.length = m) (hn : m ≤ c) (hc : c ≤ maxLen) (hb : m ≤ 140737488355328) (hB : B ≤ w.heap.size) (hr : Rd w B A (by8 bs)) :
    Calls Tryz.prog 38 #[.slice A m c] w (RdPost w bs) := by
  have HR := hide hr
  have HL := hide hl
  clear hr hl
  have hc' := hc
  unfold maxLen at hc
  obtain ⟨⟨n, a1, e1⟩, hs⟩ : ∃ x, x = sizeS bs 0 0 16384 := ⟨_, rfl⟩
  have hnv : nV bs = n := by unfold nV; rw [← hs]
  have hnb : n ≤ 16384 := by rw [← hnv]; exact nV_le bs
  obtain ⟨mm, hmm⟩ : ∃ x, x = (n + 7) / 8 := ⟨_, rfl⟩
  have em : ((n : Int) + 7) / 8 = (mm : Int) := by omega
  obtain ⟨⟨bits, a2, e2⟩, hbv⟩ : ∃ x, x = bytesS bs a1 e1 (mm : Nat) := ⟨_, rfl⟩
  have hbV : bV bs = (bits, a2, e2) := by unfold bV; rw [hnv, ← hs, ← hmm]; exact hbv.symm
  obtain ⟨w1, hw1⟩ : ∃ w1, w1 = (w.alloc (.cells #[.slice none 0 0, .slice none 0 0] 67)).alloc (.cells #[.slice none 0 0, .slice none 0 0] 67) := ⟨_, rfl⟩
  have f1 : Fr No w w1 := by rw [hw1]; exact ((Fr.refl No w).alloc _).alloc _
  have hR1 : w1.heap[w.heap.size]? = some (.cells #[.slice none 0 0, .slice none 0 0] 67 (0, 0)) := by
    rw [hw1, heap_alloc_old _ _ (by simp)]; exact heap_alloc_new w _
  have hC1 : w1.heap[w.heap.size + 1]? = some (.cells #[.slice none 0 0, .slice none 0 0] 67 (0, 0)) := by
    have := heap_alloc_new (w.alloc (.cells #[.slice none 0 0, .slice none 0 0] 67)) (.cells #[.slice none 0 0, .slice none 0 0] 67)
    rw [hw1]; simpa using this
  have hz1 : w1.heap.size = w.heap.size + 2 := by rw [hw1]; simp
  have HN := hide (newReader_any A m c B bs w1 HL.out hn hc' hb (by have := f1.size; omega) (HR.out.fr0 f1))
  have HSz := hide (fun g W (h : RD W g bs 0 0) => sizeN_any g bs 0 0 16384 W h (by decide) (by decide))
  rw [← hs] at HSz
  have HBy := hide (fun g W (h : RD W g bs a1 e1) => bytes_any g bs a1 e1 (mm : Nat) W h)
  rw [← hbv] at HBy
  have HHS := hide hs
  have HNV := hide hnv
  have HBV := hide hbV
  have HMM := hide hmm
  have HBY0 := hide hbv.symm
  clear hs hnv hbV hmm hbv
  dsimp only at HSz HBy
  obtain ⟨R, hR⟩ : ∃ R, R = w.heap.size := ⟨_, rfl⟩
  obtain ⟨C, hC⟩ : ∃ R, R = w.heap.size + 1 := ⟨_, rfl⟩
  have hRC : R ≠ C := by omega
  go_enter Tryz.func38, Tryz.ntmps38
  go_upto_region 2 with (fail)
  rw [← hw1, ← hC, ← hR]
  rw [← hR] at hR1
  rw [← hC] at hC1
  have HF1 := hide f1
  have HW := hide hz1
  have HRw := hide hR
  have HCw := hide hC
  clear hw1 f1 hz1 hR hC
  have HR1 := hide hR1
  have HC1 := hide hC1
  clear hR1 hC1
  go_upto_region 5 with (first
    | (go_at_call 48; refine HN.out.mono ?_; rintro en w2 ⟨g, rfl, hg, hrd, hf⟩; have hCg : C ≠ g := (by have := HW.out; have := HCw.out; omega); have hRg : R ≠ g := (by have := HW.out; have := HRw.out; omega); have hwg : w.heap.size ≤ g := (by have := HW.out; omega); have HF2 : Hid (Fr No w w2) := hide (HF1.out.trans hf (fun _ _ h => h.elim)); have HR2 := hide (hf.blk HR1.out (fun h => h)); have HC2 := hide (hf.blk HC1.out (fun h => h)); have HRD2 := hide hrd; have HCs := hide (HSz.out g w2 hrd); clear hg hrd hf)
    | (go_at_call 49; refine HCs.out.mono ?_; rintro en w3 ⟨rfl, hrd, hf⟩; have HF3 : Hid (Fr No w w3) := hide (HF2.out.trans hf (fun i hi e => by have e : i = g := e; omega)); have HR3 := hide (hf.blk HR2.out hRg); have HC3 := hide (hf.blk HC2.out hCg); have HRD3 := hide hrd; have HCb := hide (HBy.out g w3 hrd); clear hrd hf)
    | (go_at_call 52; refine HCb.out.mono ?_; rintro en w4 ⟨v7, rfl, hown, hrd, hf⟩; have HF4 : Hid (Fr No w w4) := hide (HF3.out.trans hf (fun i hi e => by have e : i = g := e; omega)); have HR4 := hide (hf.blk HR3.out hRg); have HC4 := hide (hf.blk HC3.out hCg); have HRD4 := hide hrd; have HO7 := hide hown; have HEr := hide (err_any g bs a2 e2 w4 hrd); clear hrd hf hown))
  by_cases he : e2 = 0
  · subst he
    obtain ⟨he1, hbl, hpre, ha2⟩ := bytes_of (bs := bs) (a := a1) (k := mm) (e := e1) (by rw [HBY0.out])
    rw [HBY0.out] at hbl hpre ha2
    dsimp only at hbl hpre ha2
    have ha2m : a2 ≤ m := by
      have := pre_le hpre
      have h3 := HL.out
      obtain ⟨_, _, _, _, _, h4, _⟩ := HRD4.out
      omega
    have hzr := HF4.out.size
    obtain ⟨A7, c7, rfl, q1, q2, _, q3, _⟩ := HO7.out.form
    have HQ7 := hide q3
    have HBL := hide hbl
    rw [hbl] at q1 HO7
    rw [hbl]
    unfold maxLen at q2
    have hmmb : mm ≤ 2048 := by omega
    clear he1 hpre ha2 q3 em hbl
    go_wp2_with (go_at_call 50; refine HEr.out.mono ?_; rintro en w' ⟨rfl, rfl⟩)
    go_loopw [8, 9, 33] (fun v8 _ i wr => ∃ k f : Nat, k ≤ n ∧ i = .int .i64 (k : Nat) ∧ f ≤ k ∧ v8 = .int .i64 (f : Nat) ∧ Hid (f = kB bits k) ∧ wr = w4) (fun _ _ i _ => n - (intOf i).toNat)
    case atStart => exact ⟨0, 0, by omega, by go_num, by omega, by go_num, hide rfl, rfl⟩
    case round =>
      obtain ⟨k, f, hk, rfl, hfk, rfl, HFk, rfl⟩ := hrel
      by_cases hlt : k < n
      · obtain ⟨q8, hq8⟩ : ∃ q, q = k / 8 := ⟨_, rfl⟩
        obtain ⟨s8, hs8⟩ : ∃ q, q = k % 8 := ⟨_, rfl⟩
        have e5 : (k : Int) / 8 = (q8 : Int) := by omega
        have e6 : (k : Int) % 8 = (s8 : Int) := by omega
        have hs7 : s8 ≤ 7 := by omega
        have hqm : q8 < mm := by have := HMM.out; omega
        obtain ⟨ad, rfl, _, hcell⟩ := HQ7.out.byte (k := q8) (by rw [HBL.out]; exact hqm)
        obtain ⟨x, hx⟩ : ∃ x, x = (bits.getD q8 0).toNat := ⟨_, rfl⟩
        have hx2 : x < 256 := by rw [hx]; exact (bits.getD q8 0).toNat_lt
        rw [← hx] at hcell
        have hv := bit8_val (k := s8) hx2
        have hkb : kB bits (k + 1) = f + (if x.testBit s8 then 1 else 0) := by rw [kB, ← HFk.out, isBit, ← hq8, ← hs8, ← hx]
        have HKB := hide hkb
        obtain ⟨o, ho⟩ : ∃ o, o = (if x.testBit s8 then 1 else 0) := ⟨_, rfl⟩
        have ho1 : o ≤ 1 := by rw [ho]; split <;> omega
        rw [← ho] at hv HKB
        clear hkb hx ho hq8 hs8 hx2
        go_wp2
        go_roundw
        case rel => exact ⟨k + 1, f + o, by omega, by go_num, by omega, by go_num, hide HKB.out.symm, trivial⟩
        case measure => simp [intOf]; omega
      · obtain rfl : k = n := by omega
        obtain ⟨rl, hrl⟩ : ∃ x, x = bs.length - a2 := ⟨_, rfl⟩
        obtain ⟨rest, hrest⟩ : ∃ x, x = bs.drop a2 := ⟨_, rfl⟩
        have hrestl : rest.length = rl := by rw [hrest, hrl, List.length_drop]
        have hrlm : rl ≤ m := by have := HL.out; omega
        have hbyt : bytesS bs a2 0 (rl : Nat) = (rest, a2 + rl, 0) := by
          rw [bS_ok (by have := HL.out; omega), ← hrest, List.take_of_length_le (by omega)]
        obtain ⟨⟨lens, sz, e3⟩, hlv⟩ : ∃ x, x = getZ rest (f : Nat) := ⟨_, rfl⟩
        have hrv : restV bs = rest := by unfold restV; rw [HBV.out, hrest]
        have hfv : fV bs = f := by unfold fV; rw [HBV.out, HNV.out, ← HFk.out]
        have hlV : lV bs = (lens, sz, e3) := by unfold lV; rw [hrv, hfv]; exact hlv.symm
        have HLf := left_any g bs a2 0 wr HRD4.out
        rw [← hrl] at HLf
        have HLeft := hide HLf
        have HRV := hide hrv
        have HLV := hide hlV
        have HRL := hide hrestl
        have HGet := hide (fun (A' : Option Addr) (c' B' : Nat) W h1 h2 h3 h4 => get_any A' rl c' B' (f : Nat) rest W hrestl (by omega) h1 h2 h3 h4)
        rw [← hlv] at HGet
        have HGs := hide (getZ_cases rest (f : Nat))
        rw [← hlv] at HGs
        have HBy2 := hide (fun W (h : RD W g bs a2 0) => bytes_any g bs a2 0 (rl : Nat) W h)
        rw [hbyt] at HBy2
        dsimp only at HBy2
        clear HLf hrv hlV hrestl hlv hbyt hrest hfv hlt hrl
        go_upto_region 15 with (first
          | (go_at_call 53; refine HLeft.out.mono ?_; rintro en w5 ⟨rfl, nq, hw5⟩; have hf5 : Fr No wr w5 := (by rw [hw5]; exact (Fr.refl No wr).drewN nq); have HF5 : Hid (Fr No w w5) := hide (HF4.out.trans hf5 (fun _ _ h => h.elim)); have HR5 := hide (hf5.blk HR4.out (fun h => h)); have HC5 := hide (hf5.blk HC4.out (fun h => h)); have HRD5 := hide (HRD4.out.fr0 hf5); have HO75 := hide (HO7.out.fr0 hf5); have HCb2 := hide (HBy2.out w5 HRD5.out); clear hf5 hw5)
          | (go_at_call 52; refine HCb2.out.mono ?_; rintro en w6 ⟨v10, rfl, hown, hrd, hf⟩; have HF6 : Hid (Fr No w w6) := hide (HF5.out.trans hf (fun i hi e => by have e : i = g := e; omega)); have HR6 := hide (hf.blk HR5.out hRg); have HC6 := hide (hf.blk HC5.out hCg); have HO76 := hide (HO75.out.offRD HRD5.out (by decide) hf); rw [HRL.out] at hown; obtain ⟨A10, c10, rfl, x1, x2, _, x3, _⟩ := hown.form; have HO10 := hide hown; have HX2 := hide x2; have HCg := hide (HGet.out A10 c10 w6.heap.size w6 x1 x2 (Nat.le_refl _) x3); unfold maxLen at x2; clear hown hrd hf x3)
          | (go_at_call 68; refine HCg.out.mono ?_; rintro en w7 ⟨v11, rfl, hown, hf⟩; have HF7 : Hid (Fr No w w7) := hide (HF6.out.trans hf (fun _ _ h => h.elim)); have HR7 := hide (hf.blk HR6.out (fun h => h)); have HC7 := hide (hf.blk HC6.out (fun h => h)); have HO77 := hide (HO76.out.fr0 hf); have HO107 := hide (HO10.out.fr0 hf); have HO11 := hide hown; clear hown hf))
        by_cases he3 : e3 = 0
        · subst he3
          obtain ⟨_, _, hlf, hli, hsz, hput⟩ := HGs.out.resolve_left (fun h => h.1 rfl)
          have hlf : lens.length = f := by omega
          rw [HRL.out] at hsz
          rw [hlf] at HO11
          obtain ⟨A11, c11, rfl, y1, y2, _⟩ := HO11.out.form
          unfold maxLen at y2
          have HK0 : Hid (RdK w7 w.heap.size A7 A10 A11 mm c7 rl c10 f c11 bits rest lens) := hide ⟨HO77.out.lower (by have := HF3.out.size; omega), HO107.out.lower (by have := HF5.out.size; omega), HO11.out.lower (by have := HF6.out.size; omega)⟩
          have HLF := hide hlf
          have HLI := hide hli
          clear hput hli hlf HO7 HO75 HO76 HO77 HO10 HO107 HO11 HQ7 HRD2 HRD3 HRD4 HRD5 HEr HLeft HCs HCb HCb2 HCg HSz HBy HBy2 HN HR1 HC1 HR2 HC2 HR3 HC3 HR4 HC4 HR5 HC5 HR6 HC6
          obtain ⟨i2, hi2, hz2, hsz2, hby2⟩ := info_parts Tryz.infoInV
          go_wp2
          go_loopw [14, 15, 16, 64] (fun v14 v15 _ i wr => ∃ (j kk a : Nat) (vE : Value), j ≤ k ∧ i = .int .i64 (j : Nat) ∧ kk ≤ j ∧ a ≤ 64 * j ∧ v14 = .int .i64 (a : Nat) ∧ v15 = .int .i64 (kk : Nat) ∧ Hid (kk = kB bits j) ∧ Hid (a = atV bits lens j) ∧ Hid (Fr No w wr) ∧ Hid (wr.heap[C]? = some (.cells #[vE, .slice none 0 0] 67 (0, 0))) ∧ Hid (wr.heap[R]? = some (.cells #[.slice none 0 0, .slice none 0 0] 67 (0, 0))) ∧
            Hid (Own wr w.heap.size 3 1 vE j (iz .i64 (endsV bits lens j))) ∧ Hid (∀ x ∈ lens.take kk, 0 ≤ x ∧ x < 64) ∧ Hid (RdK wr w.heap.size A7 A10 A11 mm c7 rl c10 f c11 bits rest lens)) (fun _ _ _ i _ => k - (intOf i).toNat)
          case atStart => exact ⟨0, 0, 0, .slice none 0 0, by omega, by go_num, by omega, by omega, by go_num, by go_num, hide rfl, hide rfl, HF7, HC7, HR7, hide (Own.nil _ _ _ _), hide (fun x hx => by rw [List.take_zero] at hx; cases hx), HK0⟩
          case round =>
            clear HF7 HC7 HR7 HK0
            obtain ⟨j, kk, a, vE, hj, rfl, hkk, ha, rfl, rfl, HKk, HAt, HF, HC, HR', HOE, HLo, HK⟩ := hrel
            by_cases hlt : j < k
            · obtain ⟨AE, cE, rfl, z1, z2, _⟩ := HOE.out.form
              unfold maxLen at z2
              obtain ⟨q8, hq8⟩ : ∃ q, q = j / 8 := ⟨_, rfl⟩
              obtain ⟨s8, hs8⟩ : ∃ q, q = j % 8 := ⟨_, rfl⟩
              have e5 : (j : Int) / 8 = (q8 : Int) := by omega
              have e6 : (j : Int) % 8 = (s8 : Int) := by omega
              have hs7 : s8 ≤ 7 := by omega
              have hqm : q8 < mm := by have := HMM.out; omega
              obtain ⟨ad, rfl, _, hcell⟩ := HK.out.b.rd.byte (k := q8) (by rw [HBL.out]; exact hqm)
              obtain ⟨x, hx⟩ : ∃ x, x = (bits.getD q8 0).toNat := ⟨_, rfl⟩
              have hx2 : x < 256 := by rw [hx]; exact (bits.getD q8 0).toNat_lt
              rw [← hx] at hcell
              have hv := bit8_val (k := s8) hx2
              have hib : isBit bits j = x.testBit s8 := by rw [isBit, ← hq8, ← hs8, ← hx]
              have hkb : kB bits (j + 1) = kk + (if x.testBit s8 = true then 1 else 0) := by rw [kB, ← HKk.out, hib]
              have hav : atV bits lens (j + 1) = a + (if x.testBit s8 = true then (lens.getD kk 0).toNat + 1 else 0) := by rw [atV, ← HAt.out, hib, ← HKk.out]
              have b1 : (j + 1) * 8 ≤ 140737488355328 := by omega
              have b2 : j + 1 ≤ maxLen := by unfold maxLen; omega
              clear hx hq8 hs8 hx2 hib
              by_cases hbit : x.testBit s8 = true
              · rw [if_pos hbit] at hkb hav hv
                have hkf : kk < f := by
                  have := kB_mono bits (i := j + 1) (j := k) (by omega)
                  have := HFk.out
                  omega
                obtain ⟨ad11, rfl, _, hc11⟩ := HK.out.l.rd.intAt (j := kk) (by rw [HLF.out]; exact hkf)
                obtain ⟨y, hy⟩ : ∃ y, y = lens.getD kk 0 := ⟨_, rfl⟩
                rw [← hy] at hc11 hav
                have hym : y ∈ lens := by
                  have h2 : kk < lens.length := by rw [HLF.out]; exact hkf
                  rw [hy, List.getD, List.getElem?_eq_getElem h2]
                  exact List.getElem_mem h2
                have HYM := hide hym
                have HY := hide hy
                clear hbit hym hy
                by_cases hy0 : y < 0
                · have d0 : decide (y < 0) = true := decide_eq_true hy0
                  have cC0 : wr.cell? ⟨C, 0, none⟩ = some (.slice AE j cE) := cell_of_row _ _ 0 _ _ _ HC.out
                  have cC1 : wr.cell? ⟨C, 1, none⟩ = some (.slice none 0 0) := cell_of_row _ _ 1 _ _ _ HC.out
                  have cR0 : wr.cell? ⟨R, 0, none⟩ = some (.slice none 0 0) := cell_of_row _ _ 0 _ _ _ HR'.out
                  have cR1 : wr.cell? ⟨R, 1, none⟩ = some (.slice none 0 0) := cell_of_row _ _ 1 _ _ _ HR'.out
                  have fR0 : wr.frozen? ⟨R, 0, none⟩ = false := frozen_of_row _ _ _ _ _ HR'.out
                  have fR1 : wr.frozen? ⟨R, 1, none⟩ = false := frozen_of_row _ _ _ _ _ HR'.out
                  go_wp2
                  have hw := put_two (a := .slice AE j cE) (b := .slice none 0 0) HR'.out
                  have hno : ¬ rdOk bs := fun h => by have h3 := h.2.2.1; rw [HLV.out] at h3; have := h3 y HYM.out; omega
                  exact bodyPost_ret (results_col Tryz.results38 _ _ R _ rfl (load_col hw)) rfl ⟨HF.out.trans put_two_fr (fun i hi e => by have e : i = R := e; have := HRw.out; omega), .inr ⟨hno, _, _, _, _, _, _, rfl⟩⟩
                · have d0 : decide (y < 0) = false := decide_eq_false hy0
                  by_cases hy64 : 64 ≤ y
                  · have d1 : decide (64 ≤ y) = true := decide_eq_true hy64
                    have cC0 : wr.cell? ⟨C, 0, none⟩ = some (.slice AE j cE) := cell_of_row _ _ 0 _ _ _ HC.out
                    have cC1 : wr.cell? ⟨C, 1, none⟩ = some (.slice none 0 0) := cell_of_row _ _ 1 _ _ _ HC.out
                    have cR0 : wr.cell? ⟨R, 0, none⟩ = some (.slice none 0 0) := cell_of_row _ _ 0 _ _ _ HR'.out
                    have cR1 : wr.cell? ⟨R, 1, none⟩ = some (.slice none 0 0) := cell_of_row _ _ 1 _ _ _ HR'.out
                    have fR0 : wr.frozen? ⟨R, 0, none⟩ = false := frozen_of_row _ _ _ _ _ HR'.out
                    have fR1 : wr.frozen? ⟨R, 1, none⟩ = false := frozen_of_row _ _ _ _ _ HR'.out
                    go_wp2
                    have hw := put_two (a := .slice AE j cE) (b := .slice none 0 0) HR'.out
                    have hno : ¬ rdOk bs := fun h => by have h3 := h.2.2.1; rw [HLV.out] at h3; have := h3 y HYM.out; omega
                    exact bodyPost_ret (results_col Tryz.results38 _ _ R _ rfl (load_col hw)) rfl ⟨HF.out.trans put_two_fr (fun i hi e => by have e : i = R := e; have := HRw.out; omega), .inr ⟨hno, _, _, _, _, _, _, rfl⟩⟩
                  · have d1 : decide (64 ≤ y) = false := decide_eq_false hy64
                    obtain ⟨yn, rfl⟩ : ∃ n : Nat, y = (n : Int) := ⟨y.toNat, by omega⟩
                    have hyn : yn < 64 := by omega
                    rw [Int.toNat_natCast] at hav
                    obtain ⟨a', ha'⟩ : ∃ x, x = a + (yn + 1) := ⟨_, rfl⟩
                    rw [← ha'] at hav
                    have ea : (a : Int) + ((yn : Int) + 1) = (a' : Int) := by omega
                    have HKB := hide hkb
                    have HATV := hide hav
                    have ha64 : a' ≤ 64 * (j + 1) := by omega
                    have HLo' : Hid (∀ x ∈ lens.take (kk + 1), 0 ≤ x ∧ x < 64) := hide (fun x hx => by
                      rw [(take_one (s := lens) (k := kk) (by rw [HLF.out]; exact hkf)).1] at hx
                      rcases List.mem_append.1 hx with hx | hx
                      · exact HLo.out x hx
                      · rw [List.mem_singleton.1 hx, ← HY.out]; omega)
                    clear hkb hav ha' hy0 hy64 HLo
                    have hE0 := HOE.out.fr0 ((Fr.refl No wr).alloc (.cells #[.int .i64 (a' : Nat)] 3))
                    have hC0 := ((Fr.refl No wr).alloc (.cells #[.int .i64 (a' : Nat)] 3)).blk HC.out (fun h => h)
                    have hR0 := ((Fr.refl No wr).alloc (.cells #[.int .i64 (a' : Nat)] 3)).blk HR'.out (fun h => h)
                    have hK0 := HK.out.fr0 ((Fr.refl No wr).alloc (.cells #[.int .i64 (a' : Nat)] 3))
                    have HE0 := hide hE0
                    have HCc := hide hC0
                    have HRr := hide hR0
                    have HKk0 := hide hK0
                    have hFa : Fr No w (wr.alloc (.cells #[.int .i64 (a' : Nat)] 3)) := HF.out.alloc _
                    have HFa := hide hFa
                    have hz3 := hFa.size
                    have cC0 : wr.cell? ⟨C, 0, none⟩ = some (.slice AE j cE) := cell_of_row _ _ 0 _ _ _ HC.out
                    have HS := hide (Src.one (P := Tryz.prog) wr (e := 3) Tryz.underlying45 (.int .i64 (a' : Nat)) rfl)
                    clear hE0 hC0 hR0 hK0 hFa
                    go_wp2_with (at_builtin; refine wpList_append_gen _ rfl (.tmp 100) (.tmp 102) 45 45 rfl w.heap.size 3 i2 (.int .i64 0) 1 8 Tryz.underlying45 hi2 hz2 hsz2 hby2 rfl (.slice AE j cE) j _ rfl HE0.out _ 1 [.int .i64 (a' : Nat)] rfl HS.out b1 b2 hz3 ?_; intro v9 w9 hown hfr hat; obtain ⟨A9, c9, rfl, z3, z4, _⟩ := hown.form; unfold maxLen at z4; have HO9 := hide hown; have HF9 : Hid (Fr No w w9) := hide (HFa.out.own hfr (fun g hg => .inl (HE0.out.lt g hg).1)); have HC9 := hide (hfr.blk HCc.out (fun h => HE0.out.ne_blk h HCc.out (by decide))); have HR9 := hide (hfr.blk HRr.out (fun h => HE0.out.ne_blk h HRr.out (by decide))); have HK9 := hide (HKk0.out.own HE0.out hfr); have fC9 : w9.frozen? ⟨C, 0, none⟩ = false := (frozen_of_row _ _ _ _ _ HC9.out); have cC9 : w9.cell? ⟨C, 0, none⟩ = some (.slice AE j cE) := (cell_of_row _ _ 0 _ _ _ HC9.out); clear hown hfr hat)
                    go_roundw
                    case rel =>
                      have fcol : Fr (Is C) w9 (w9.setCell ⟨C, 0, none⟩ (.slice A9 (j + 1) c9)) := (Fr.refl (Is C) w9).setCell (p := ⟨C, 0, none⟩) (fun _ => rfl) _
                      refine ⟨j + 1, kk + 1, a', .slice A9 (j + 1) c9, by omega, by go_num, by omega, by omega, by go_num, by go_num, hide (by rw [HKB.out]), hide (by rw [HATV.out]), hide (HF9.out.trans fcol (fun i hi e => by have e : i = C := e; have := HCw.out; omega)), hide (put_one HC9.out), hide (fcol.blk HR9.out hRC), hide ?_, HLo', hide (HK9.out.col HC9.out 0)⟩
                      have h := HO9.out.fr fcol (fun i hi e => HO9.out.ne_blk (by have e : i = C := e; rw [← e]; exact hi) HC9.out (by decide))
                      rw [endsV_succ, iz_append, HATV.out]
                      exact h
                    case measure => simp [intOf]; omega
              · have hbit : x.testBit s8 = false := by simpa using hbit
                rw [if_neg (by rw [hbit]; decide)] at hkb hav hv
                have HKB : Hid (kB bits (j + 1) = kk) := hide hkb
                have HATV : Hid (atV bits lens (j + 1) = a) := hide hav
                have ha64 : a ≤ 64 * (j + 1) := by omega
                clear hkb hav hbit
                have hE0 := HOE.out.fr0 ((Fr.refl No wr).alloc (.cells #[.int .i64 (a : Nat)] 3))
                have hC0 := ((Fr.refl No wr).alloc (.cells #[.int .i64 (a : Nat)] 3)).blk HC.out (fun h => h)
                have hR0 := ((Fr.refl No wr).alloc (.cells #[.int .i64 (a : Nat)] 3)).blk HR'.out (fun h => h)
                have hK0 := HK.out.fr0 ((Fr.refl No wr).alloc (.cells #[.int .i64 (a : Nat)] 3))
                have HE0 := hide hE0
                have HCc := hide hC0
                have HRr := hide hR0
                have HKk0 := hide hK0
                have hFa : Fr No w (wr.alloc (.cells #[.int .i64 (a : Nat)] 3)) := HF.out.alloc _
                have HFa := hide hFa
                have hz3 := hFa.size
                have cC0 : wr.cell? ⟨C, 0, none⟩ = some (.slice AE j cE) := cell_of_row _ _ 0 _ _ _ HC.out
                have HS := hide (Src.one (P := Tryz.prog) wr (e := 3) Tryz.underlying45 (.int .i64 (a : Nat)) rfl)
                clear hE0 hC0 hR0 hK0 hFa
                go_wp2_with (at_builtin; refine wpList_append_gen _ rfl (.tmp 100) (.tmp 102) 45 45 rfl w.heap.size 3 i2 (.int .i64 0) 1 8 Tryz.underlying45 hi2 hz2 hsz2 hby2 rfl (.slice AE j cE) j _ rfl HE0.out _ 1 [.int .i64 (a : Nat)] rfl HS.out b1 b2 hz3 ?_; intro v9 w9 hown hfr hat; obtain ⟨A9, c9, rfl, z3, z4, _⟩ := hown.form; unfold maxLen at z4; have HO9 := hide hown; have HF9 : Hid (Fr No w w9) := hide (HFa.out.own hfr (fun g hg => .inl (HE0.out.lt g hg).1)); have HC9 := hide (hfr.blk HCc.out (fun h => HE0.out.ne_blk h HCc.out (by decide))); have HR9 := hide (hfr.blk HRr.out (fun h => HE0.out.ne_blk h HRr.out (by decide))); have HK9 := hide (HKk0.out.own HE0.out hfr); have fC9 : w9.frozen? ⟨C, 0, none⟩ = false := (frozen_of_row _ _ _ _ _ HC9.out); have cC9 : w9.cell? ⟨C, 0, none⟩ = some (.slice AE j cE) := (cell_of_row _ _ 0 _ _ _ HC9.out); clear hown hfr hat)
                go_roundw
                case rel =>
                  have fcol : Fr (Is C) w9 (w9.setCell ⟨C, 0, none⟩ (.slice A9 (j + 1) c9)) := (Fr.refl (Is C) w9).setCell (p := ⟨C, 0, none⟩) (fun _ => rfl) _
                  refine ⟨j + 1, kk, a, .slice A9 (j + 1) c9, by omega, by go_num, by omega, by omega, by go_num, by go_num, hide (by rw [HKB.out]), hide (by rw [HATV.out]), hide (HF9.out.trans fcol (fun i hi e => by have e : i = C := e; have := HCw.out; omega)), hide (put_one HC9.out), hide (fcol.blk HR9.out hRC), hide ?_, HLo, hide (HK9.out.col HC9.out 0)⟩
                  have h := HO9.out.fr fcol (fun i hi e => HO9.out.ne_blk (by have e : i = C := e; rw [← e]; exact hi) HC9.out (by decide))
                  rw [endsV_succ, iz_append, HATV.out]
                  exact h
                case measure => simp [intOf]; omega
            · obtain rfl : j = k := by omega
              have hkf : kk = f := by rw [HKk.out, ← HFk.out]
              subst hkf
              have hlo : lensOk lens := fun x hx => HLo.out x (by rw [List.take_of_length_le (by rw [HLF.out]; omega)]; exact hx)
              have hszl : sz ≤ rl := hsz
              obtain ⟨⟨all, mo, e4⟩, hal⟩ : ∃ x, x = getZ (rest.drop sz) (a : Nat) := ⟨_, rfl⟩
              have haV : aV bs = (all, mo, e4) := by
                unfold aV sV
                rw [HRV.out, HLV.out, HBV.out, HNV.out, ← HAt.out]
                exact hal.symm
              have HAV := hide haV
              have HGs2 := hide (getZ_cases (rest.drop sz) (a : Nat))
              rw [← hal] at HGs2
              have HLO := hide hlo
              obtain ⟨AE, cE, rfl, z1, z2, _⟩ := HOE.out.form
              unfold maxLen at z2
              have hrr := HK.out.r.rd
              have HG2 := hide (fun (A' : Option Addr) (n' c' : Nat) W (h0 : n' = rl - sz) h1 h2 (h4 : Rd W W.heap.size A' (by8 (rest.drop sz))) => get_any A' n' c' W.heap.size (a : Nat) (rest.drop sz) W (by rw [List.length_drop, HRL.out, h0]) (by omega) h1 h2 (Nat.le_refl _) h4)
              rw [← hal] at HG2
              have hrz : rl ≤ c10 := HK.out.r.le.2.1
              have HD2 : Hid (rl ≤ sz → by8 (rest.drop sz) = []) := hide (fun h => by rw [List.drop_of_length_le (by rw [HRL.out]; exact h)]; rfl)
              clear hal haV hlo
              cases A10 with
              | none =>
                obtain ⟨_, _, e10, _, _, hz0, _⟩ := HK.out.r.form
                injection e10 with e11 _ e12
                have hz0 : c10 = 0 := by rw [e12]; exact hz0 e11.symm
                have hrsz : rl ≤ sz := by omega
                have HGn := hide (HG2.out none 0 0 wr (by omega) (Nat.le_refl _) (Nat.zero_le _) (by rw [HD2.out hrsz]; exact Rd.nil _ _ _))
                have HZ0 := hide hz0
                clear e11 e12 hz0 hrr HD2 HG2
                go_upto_region 29 with (fail)
                · refine HGn.out.mono ?_
                  rintro en w8 ⟨v17, rfl, hown, hf⟩
                  dsimp only at hown ⊢
                  obtain ⟨A17, c17, rfl, t1, t2, _⟩ := hown.form
                  unfold maxLen at t2
                  have HO17 := hide hown
                  have HF8 : Hid (Fr No w w8) := hide (HF.out.trans hf (fun _ _ h => h.elim))
                  have HC8 := hide (hf.blk HC.out (fun h => h))
                  have HR8 := hide (hf.blk HR'.out (fun h => h))
                  have HE8 := hide (HOE.out.fr0 hf)
                  clear hown hf
                  by_cases he4 : e4 = 0
                  · subst he4
                    have hmo : mo ≤ rl := by
                      have h := (HGs2.out.resolve_left (fun h => h.1 rfl)).2.2.2.2.1
                      rw [List.length_drop, HRL.out] at h
                      omega
                    by_cases hsum : sz + mo = rl
                    · have d1 : ((sz : Int) + (mo : Int) == (rl : Int)) = true := by simpa using (by omega : (sz : Int) + (mo : Int) = (rl : Int))
                      have d2 : (sz + mo == rl) = true := by simpa using hsum
                      have d3 : (sz : Int) + (mo : Int) = (rl : Int) := by omega
                      have d4 : decide ((sz : Int) + (mo : Int) = (rl : Int)) = true := decide_eq_true d3
                      have HSUM := hide hsum
                      have cC0 : w8.cell? ⟨C, 0, none⟩ = some (.slice AE j cE) := cell_of_row _ _ 0 _ _ _ HC8.out
                      have cC1 : w8.cell? ⟨C, 1, none⟩ = some (.slice none 0 0) := cell_of_row _ _ 1 _ _ _ HC8.out
                      have fC1 : w8.frozen? ⟨C, 1, none⟩ = false := frozen_of_row _ _ _ _ _ HC8.out
                      clear hsum
                      have cR0 : w8.cell? ⟨R, 0, none⟩ = some (.slice none 0 0) := cell_of_row _ _ 0 _ _ _ HR8.out
                      have cR1 : w8.cell? ⟨R, 1, none⟩ = some (.slice none 0 0) := cell_of_row _ _ 1 _ _ _ HR8.out
                      have fR0 : w8.frozen? ⟨R, 0, none⟩ = false := frozen_of_row _ _ _ _ _ HR8.out
                      have fR1 : w8.frozen? ⟨R, 1, none⟩ = false := frozen_of_row _ _ _ _ _ HR8.out
                      go_wp2
                      obtain ⟨w9, hw9⟩ : ∃ x, x = w8.setCell ⟨C, 1, none⟩ (.slice A17 all.length c17) := ⟨_, rfl⟩
                      rw [← hw9]
                      have f9 : Fr (Is C) w8 w9 := by rw [hw9]; exact (Fr.refl (Is C) w8).setCell (p := ⟨C, 1, none⟩) (fun _ => rfl) _
                      have hC9 : w9.heap[C]? = some (.cells #[.slice AE j cE, .slice A17 all.length c17] 67 (0, 0)) := by rw [hw9]; exact put_snd HC8.out
                      have hR9 := f9.blk HR8.out hRC
                      have hF9 : Fr No w w9 := HF8.out.trans f9 (fun i hi e => by have e : i = C := e; have := HCw.out; omega)
                      have hE9 := HE8.out.fr f9 (fun i hi e => HE8.out.ne_blk (by have e : i = C := e; rw [← e]; exact hi) HC8.out (by decide))
                      have hO9 := HO17.out.fr f9 (fun i hi e => HO17.out.ne_blk (by have e : i = C := e; rw [← e]; exact hi) HC8.out (by decide))
                      have HC9 := hide hC9
                      have HR9 := hide hR9
                      have HF9 := hide hF9
                      have HE9 := hide hE9
                      have HO9 := hide hO9
                      clear hw9 f9 hC9 hR9 hF9 hE9 hO9
                      have hw := put_two (a := .slice AE j cE) (b := .slice A17 all.length c17) HR9.out
                      have hok : rdOk bs := ⟨by rw [HBV.out], by rw [HLV.out], by rw [HLV.out]; exact HLO.out, by rw [HAV.out], by rw [HLV.out, HAV.out, HRV.out, HRL.out]; exact HSUM.out⟩
                      refine bodyPost_ret (results_col Tryz.results38 _ _ R _ rfl (load_col hw)) rfl ⟨HF9.out.trans put_two_fr (fun i hi e => by have e : i = R := e; have := HRw.out; omega), .inl ⟨hok, _, _, rfl, ?_, ?_⟩⟩
                      · rw [HNV.out, HBV.out, HLV.out]
                        exact HE9.out.fr put_two_fr (fun i hi e => HE9.out.ne_blk (by have e : i = R := e; rw [← e]; exact hi) HR9.out (by decide))
                      · rw [HAV.out]
                        exact (HO9.out.fr put_two_fr (fun i hi e => HO9.out.ne_blk (by have e : i = R := e; rw [← e]; exact hi) HR9.out (by decide))).lower HF.out.size
                    · have d1 : ((sz : Int) + (mo : Int) == (rl : Int)) = false := by
                        have : ¬ ((sz : Int) + (mo : Int) = (rl : Int)) := by omega
                        simpa using this
                      have d2 : (sz + mo == rl) = false := by simpa using hsum
                      have d3 : ¬ ((sz : Int) + (mo : Int) = (rl : Int)) := by omega
                      have d4 : decide ((sz : Int) + (mo : Int) = (rl : Int)) = false := decide_eq_false d3
                      have HSUM := hide hsum
                      clear hsum
                      have cC0 : w8.cell? ⟨C, 0, none⟩ = some (.slice AE j cE) := cell_of_row _ _ 0 _ _ _ HC8.out
                      have cC1 : w8.cell? ⟨C, 1, none⟩ = some (.slice none 0 0) := cell_of_row _ _ 1 _ _ _ HC8.out
                      have cR0 : w8.cell? ⟨R, 0, none⟩ = some (.slice none 0 0) := cell_of_row _ _ 0 _ _ _ HR8.out
                      have cR1 : w8.cell? ⟨R, 1, none⟩ = some (.slice none 0 0) := cell_of_row _ _ 1 _ _ _ HR8.out
                      have fR0 : w8.frozen? ⟨R, 0, none⟩ = false := frozen_of_row _ _ _ _ _ HR8.out
                      have fR1 : w8.frozen? ⟨R, 1, none⟩ = false := frozen_of_row _ _ _ _ _ HR8.out
                      go_wp2
                      have hw := put_two (a := .slice AE j cE) (b := .slice none 0 0) HR8.out
                      have hno : ¬ rdOk bs := fun h => HSUM.out (by have h3 := h.2.2.2.2; rw [HLV.out, HAV.out, HRV.out, HRL.out] at h3; exact h3)
                      exact bodyPost_ret (results_col Tryz.results38 _ _ R _ rfl (load_col hw)) rfl ⟨HF8.out.trans put_two_fr (fun i hi e => by have e : i = R := e; have := HRw.out; omega), .inr ⟨hno, _, _, _, _, _, _, rfl⟩⟩
                  · have d1 : (e4 == 0) = false := by simpa using he4
                    have cC0 : w8.cell? ⟨C, 0, none⟩ = some (.slice AE j cE) := cell_of_row _ _ 0 _ _ _ HC8.out
                    have cC1 : w8.cell? ⟨C, 1, none⟩ = some (.slice none 0 0) := cell_of_row _ _ 1 _ _ _ HC8.out
                    have cR0 : w8.cell? ⟨R, 0, none⟩ = some (.slice none 0 0) := cell_of_row _ _ 0 _ _ _ HR8.out
                    have cR1 : w8.cell? ⟨R, 1, none⟩ = some (.slice none 0 0) := cell_of_row _ _ 1 _ _ _ HR8.out
                    have fR0 : w8.frozen? ⟨R, 0, none⟩ = false := frozen_of_row _ _ _ _ _ HR8.out
                    have fR1 : w8.frozen? ⟨R, 1, none⟩ = false := frozen_of_row _ _ _ _ _ HR8.out
                    go_wp2
                    have hw := put_two (a := .slice AE j cE) (b := .slice none 0 0) HR8.out
                    have hno : ¬ rdOk bs := fun h => he4 (by have h3 := h.2.2.2.1; rw [HAV.out] at h3; exact h3)
                    exact bodyPost_ret (results_col Tryz.results38 _ _ R _ rfl (load_col hw)) rfl ⟨HF8.out.trans put_two_fr (fun i hi e => by have e : i = R := e; have := HRw.out; omega), .inr ⟨hno, _, _, _, _, _, _, rfl⟩⟩
              | some ad10 =>
                have HD1 : Hid (Rd wr wr.heap.size (some (ad10.add sz)) (by8 (rest.drop sz))) := hide (by
                  have h := hrr.dr sz
                  rw [← by8_drop] at h
                  exact h)
                have g1 : rl - sz ≤ c10 - sz := by omega
                have g2 : c10 - sz ≤ maxLen := by unfold maxLen; omega
                have HGa := hide (HG2.out (some (ad10.add sz)) (rl - sz) (c10 - sz) wr rfl g1 g2 HD1.out)
                have HGb := hide (fun (h : c10 ≤ sz) => HG2.out (some ad10) (rl - sz) 0 wr rfl (by omega) (Nat.zero_le _) (by rw [HD2.out (by omega)]; exact Rd.nil _ _ _))
                clear hrr g1 g2 HD1 HD2 HG2
                go_upto_region 29 with (fail)
                · refine (HGb.out (by omega)).mono ?_
                  rintro en w8 ⟨v17, rfl, hown, hf⟩
                  dsimp only at hown ⊢
                  obtain ⟨A17, c17, rfl, t1, t2, _⟩ := hown.form
                  unfold maxLen at t2
                  have HO17 := hide hown
                  have HF8 : Hid (Fr No w w8) := hide (HF.out.trans hf (fun _ _ h => h.elim))
                  have HC8 := hide (hf.blk HC.out (fun h => h))
                  have HR8 := hide (hf.blk HR'.out (fun h => h))
                  have HE8 := hide (HOE.out.fr0 hf)
                  clear hown hf
                  by_cases he4 : e4 = 0
                  · subst he4
                    have hmo : mo ≤ rl := by
                      have h := (HGs2.out.resolve_left (fun h => h.1 rfl)).2.2.2.2.1
                      rw [List.length_drop, HRL.out] at h
                      omega
                    by_cases hsum : sz + mo = rl
                    · have d1 : ((sz : Int) + (mo : Int) == (rl : Int)) = true := by simpa using (by omega : (sz : Int) + (mo : Int) = (rl : Int))
                      have d2 : (sz + mo == rl) = true := by simpa using hsum
                      have d3 : (sz : Int) + (mo : Int) = (rl : Int) := by omega
                      have d4 : decide ((sz : Int) + (mo : Int) = (rl : Int)) = true := decide_eq_true d3
                      have HSUM := hide hsum
                      have cC0 : w8.cell? ⟨C, 0, none⟩ = some (.slice AE j cE) := cell_of_row _ _ 0 _ _ _ HC8.out
                      have cC1 : w8.cell? ⟨C, 1, none⟩ = some (.slice none 0 0) := cell_of_row _ _ 1 _ _ _ HC8.out
                      have fC1 : w8.frozen? ⟨C, 1, none⟩ = false := frozen_of_row _ _ _ _ _ HC8.out
                      clear hsum
                      have cR0 : w8.cell? ⟨R, 0, none⟩ = some (.slice none 0 0) := cell_of_row _ _ 0 _ _ _ HR8.out
                      have cR1 : w8.cell? ⟨R, 1, none⟩ = some (.slice none 0 0) := cell_of_row _ _ 1 _ _ _ HR8.out
                      have fR0 : w8.frozen? ⟨R, 0, none⟩ = false := frozen_of_row _ _ _ _ _ HR8.out
                      have fR1 : w8.frozen? ⟨R, 1, none⟩ = false := frozen_of_row _ _ _ _ _ HR8.out
                      go_wp2
                      obtain ⟨w9, hw9⟩ : ∃ x, x = w8.setCell ⟨C, 1, none⟩ (.slice A17 all.length c17) := ⟨_, rfl⟩
                      rw [← hw9]
                      have f9 : Fr (Is C) w8 w9 := by rw [hw9]; exact (Fr.refl (Is C) w8).setCell (p := ⟨C, 1, none⟩) (fun _ => rfl) _
                      have hC9 : w9.heap[C]? = some (.cells #[.slice AE j cE, .slice A17 all.length c17] 67 (0, 0)) := by rw [hw9]; exact put_snd HC8.out
                      have hR9 := f9.blk HR8.out hRC
                      have hF9 : Fr No w w9 := HF8.out.trans f9 (fun i hi e => by have e : i = C := e; have := HCw.out; omega)
                      have hE9 := HE8.out.fr f9 (fun i hi e => HE8.out.ne_blk (by have e : i = C := e; rw [← e]; exact hi) HC8.out (by decide))
                      have hO9 := HO17.out.fr f9 (fun i hi e => HO17.out.ne_blk (by have e : i = C := e; rw [← e]; exact hi) HC8.out (by decide))
                      have HC9 := hide hC9
                      have HR9 := hide hR9
                      have HF9 := hide hF9
                      have HE9 := hide hE9
                      have HO9 := hide hO9
                      clear hw9 f9 hC9 hR9 hF9 hE9 hO9
                      have hw := put_two (a := .slice AE j cE) (b := .slice A17 all.length c17) HR9.out
                      have hok : rdOk bs := ⟨by rw [HBV.out], by rw [HLV.out], by rw [HLV.out]; exact HLO.out, by rw [HAV.out], by rw [HLV.out, HAV.out, HRV.out, HRL.out]; exact HSUM.out⟩
                      refine bodyPost_ret (results_col Tryz.results38 _ _ R _ rfl (load_col hw)) rfl ⟨HF9.out.trans put_two_fr (fun i hi e => by have e : i = R := e; have := HRw.out; omega), .inl ⟨hok, _, _, rfl, ?_, ?_⟩⟩
                      · rw [HNV.out, HBV.out, HLV.out]
                        exact HE9.out.fr put_two_fr (fun i hi e => HE9.out.ne_blk (by have e : i = R := e; rw [← e]; exact hi) HR9.out (by decide))
                      · rw [HAV.out]
                        exact (HO9.out.fr put_two_fr (fun i hi e => HO9.out.ne_blk (by have e : i = R := e; rw [← e]; exact hi) HR9.out (by decide))).lower HF.out.size
                    · have d1 : ((sz : Int) + (mo : Int) == (rl : Int)) = false := by
                        have : ¬ ((sz : Int) + (mo : Int) = (rl : Int)) := by omega
                        simpa using this
                      have d2 : (sz + mo == rl) = false := by simpa using hsum
                      have d3 : ¬ ((sz : Int) + (mo : Int) = (rl : Int)) := by omega
                      have d4 : decide ((sz : Int) + (mo : Int) = (rl : Int)) = false := decide_eq_false d3
                      have HSUM := hide hsum
                      clear hsum
                      have cC0 : w8.cell? ⟨C, 0, none⟩ = some (.slice AE j cE) := cell_of_row _ _ 0 _ _ _ HC8.out
                      have cC1 : w8.cell? ⟨C, 1, none⟩ = some (.slice none 0 0) := cell_of_row _ _ 1 _ _ _ HC8.out
                      have cR0 : w8.cell? ⟨R, 0, none⟩ = some (.slice none 0 0) := cell_of_row _ _ 0 _ _ _ HR8.out
                      have cR1 : w8.cell? ⟨R, 1, none⟩ = some (.slice none 0 0) := cell_of_row _ _ 1 _ _ _ HR8.out
                      have fR0 : w8.frozen? ⟨R, 0, none⟩ = false := frozen_of_row _ _ _ _ _ HR8.out
                      have fR1 : w8.frozen? ⟨R, 1, none⟩ = false := frozen_of_row _ _ _ _ _ HR8.out
                      go_wp2
                      have hw := put_two (a := .slice AE j cE) (b := .slice none 0 0) HR8.out
                      have hno : ¬ rdOk bs := fun h => HSUM.out (by have h3 := h.2.2.2.2; rw [HLV.out, HAV.out, HRV.out, HRL.out] at h3; exact h3)
                      exact bodyPost_ret (results_col Tryz.results38 _ _ R _ rfl (load_col hw)) rfl ⟨HF8.out.trans put_two_fr (fun i hi e => by have e : i = R := e; have := HRw.out; omega), .inr ⟨hno, _, _, _, _, _, _, rfl⟩⟩
                  · have d1 : (e4 == 0) = false := by simpa using he4
                    have cC0 : w8.cell? ⟨C, 0, none⟩ = some (.slice AE j cE) := cell_of_row _ _ 0 _ _ _ HC8.out
                    have cC1 : w8.cell? ⟨C, 1, none⟩ = some (.slice none 0 0) := cell_of_row _ _ 1 _ _ _ HC8.out
                    have cR0 : w8.cell? ⟨R, 0, none⟩ = some (.slice none 0 0) := cell_of_row _ _ 0 _ _ _ HR8.out
                    have cR1 : w8.cell? ⟨R, 1, none⟩ = some (.slice none 0 0) := cell_of_row _ _ 1 _ _ _ HR8.out
                    have fR0 : w8.frozen? ⟨R, 0, none⟩ = false := frozen_of_row _ _ _ _ _ HR8.out
                    have fR1 : w8.frozen? ⟨R, 1, none⟩ = false := frozen_of_row _ _ _ _ _ HR8.out
                    go_wp2
                    have hw := put_two (a := .slice AE j cE) (b := .slice none 0 0) HR8.out
                    have hno : ¬ rdOk bs := fun h => he4 (by have h3 := h.2.2.2.1; rw [HAV.out] at h3; exact h3)
                    exact bodyPost_ret (results_col Tryz.results38 _ _ R _ rfl (load_col hw)) rfl ⟨HF8.out.trans put_two_fr (fun i hi e => by have e : i = R := e; have := HRw.out; omega), .inr ⟨hno, _, _, _, _, _, _, rfl⟩⟩
                · refine HGa.out.mono ?_
                  rintro en w8 ⟨v17, rfl, hown, hf⟩
                  dsimp only at hown ⊢
                  obtain ⟨A17, c17, rfl, t1, t2, _⟩ := hown.form
                  unfold maxLen at t2
                  have HO17 := hide hown
                  have HF8 : Hid (Fr No w w8) := hide (HF.out.trans hf (fun _ _ h => h.elim))
                  have HC8 := hide (hf.blk HC.out (fun h => h))
                  have HR8 := hide (hf.blk HR'.out (fun h => h))
                  have HE8 := hide (HOE.out.fr0 hf)
                  clear hown hf
                  by_cases he4 : e4 = 0
                  · subst he4
                    have hmo : mo ≤ rl := by
                      have h := (HGs2.out.resolve_left (fun h => h.1 rfl)).2.2.2.2.1
                      rw [List.length_drop, HRL.out] at h
                      omega
                    by_cases hsum : sz + mo = rl
                    · have d1 : ((sz : Int) + (mo : Int) == (rl : Int)) = true := by simpa using (by omega : (sz : Int) + (mo : Int) = (rl : Int))
                      have d2 : (sz + mo == rl) = true := by simpa using hsum
                      have d3 : (sz : Int) + (mo : Int) = (rl : Int) := by omega
                      have d4 : decide ((sz : Int) + (mo : Int) = (rl : Int)) = true := decide_eq_true d3
                      have HSUM := hide hsum
                      have cC0 : w8.cell? ⟨C, 0, none⟩ = some (.slice AE j cE) := cell_of_row _ _ 0 _ _ _ HC8.out
                      have cC1 : w8.cell? ⟨C, 1, none⟩ = some (.slice none 0 0) := cell_of_row _ _ 1 _ _ _ HC8.out
                      have fC1 : w8.frozen? ⟨C, 1, none⟩ = false := frozen_of_row _ _ _ _ _ HC8.out
                      clear hsum
                      have cR0 : w8.cell? ⟨R, 0, none⟩ = some (.slice none 0 0) := cell_of_row _ _ 0 _ _ _ HR8.out
                      have cR1 : w8.cell? ⟨R, 1, none⟩ = some (.slice none 0 0) := cell_of_row _ _ 1 _ _ _ HR8.out
                      have fR0 : w8.frozen? ⟨R, 0, none⟩ = false := frozen_of_row _ _ _ _ _ HR8.out
                      have fR1 : w8.frozen? ⟨R, 1, none⟩ = false := frozen_of_row _ _ _ _ _ HR8.out
                      go_wp2
                      obtain ⟨w9, hw9⟩ : ∃ x, x = w8.setCell ⟨C, 1, none⟩ (.slice A17 all.length c17) := ⟨_, rfl⟩
                      rw [← hw9]
                      have f9 : Fr (Is C) w8 w9 := by rw [hw9]; exact (Fr.refl (Is C) w8).setCell (p := ⟨C, 1, none⟩) (fun _ => rfl) _
                      have hC9 : w9.heap[C]? = some (.cells #[.slice AE j cE, .slice A17 all.length c17] 67 (0, 0)) := by rw [hw9]; exact put_snd HC8.out
                      have hR9 := f9.blk HR8.out hRC
                      have hF9 : Fr No w w9 := HF8.out.trans f9 (fun i hi e => by have e : i = C := e; have := HCw.out; omega)
                      have hE9 := HE8.out.fr f9 (fun i hi e => HE8.out.ne_blk (by have e : i = C := e; rw [← e]; exact hi) HC8.out (by decide))
                      have hO9 := HO17.out.fr f9 (fun i hi e => HO17.out.ne_blk (by have e : i = C := e; rw [← e]; exact hi) HC8.out (by decide))
                      have HC9 := hide hC9
                      have HR9 := hide hR9
                      have HF9 := hide hF9
                      have HE9 := hide hE9
                      have HO9 := hide hO9
                      clear hw9 f9 hC9 hR9 hF9 hE9 hO9
                      have hw := put_two (a := .slice AE j cE) (b := .slice A17 all.length c17) HR9.out
                      have hok : rdOk bs := ⟨by rw [HBV.out], by rw [HLV.out], by rw [HLV.out]; exact HLO.out, by rw [HAV.out], by rw [HLV.out, HAV.out, HRV.out, HRL.out]; exact HSUM.out⟩
                      refine bodyPost_ret (results_col Tryz.results38 _ _ R _ rfl (load_col hw)) rfl ⟨HF9.out.trans put_two_fr (fun i hi e => by have e : i = R := e; have := HRw.out; omega), .inl ⟨hok, _, _, rfl, ?_, ?_⟩⟩
                      · rw [HNV.out, HBV.out, HLV.out]
                        exact HE9.out.fr put_two_fr (fun i hi e => HE9.out.ne_blk (by have e : i = R := e; rw [← e]; exact hi) HR9.out (by decide))
                      · rw [HAV.out]
                        exact (HO9.out.fr put_two_fr (fun i hi e => HO9.out.ne_blk (by have e : i = R := e; rw [← e]; exact hi) HR9.out (by decide))).lower HF.out.size
                    · have d1 : ((sz : Int) + (mo : Int) == (rl : Int)) = false := by
                        have : ¬ ((sz : Int) + (mo : Int) = (rl : Int)) := by omega
                        simpa using this
                      have d2 : (sz + mo == rl) = false := by simpa using hsum
                      have d3 : ¬ ((sz : Int) + (mo : Int) = (rl : Int)) := by omega
                      have d4 : decide ((sz : Int) + (mo : Int) = (rl : Int)) = false := decide_eq_false d3
                      have HSUM := hide hsum
                      clear hsum
                      have cC0 : w8.cell? ⟨C, 0, none⟩ = some (.slice AE j cE) := cell_of_row _ _ 0 _ _ _ HC8.out
                      have cC1 : w8.cell? ⟨C, 1, none⟩ = some (.slice none 0 0) := cell_of_row _ _ 1 _ _ _ HC8.out
                      have cR0 : w8.cell? ⟨R, 0, none⟩ = some (.slice none 0 0) := cell_of_row _ _ 0 _ _ _ HR8.out
                      have cR1 : w8.cell? ⟨R, 1, none⟩ = some (.slice none 0 0) := cell_of_row _ _ 1 _ _ _ HR8.out
                      have fR0 : w8.frozen? ⟨R, 0, none⟩ = false := frozen_of_row _ _ _ _ _ HR8.out
                      have fR1 : w8.frozen? ⟨R, 1, none⟩ = false := frozen_of_row _ _ _ _ _ HR8.out
                      go_wp2
                      have hw := put_two (a := .slice AE j cE) (b := .slice none 0 0) HR8.out
                      have hno : ¬ rdOk bs := fun h => HSUM.out (by have h3 := h.2.2.2.2; rw [HLV.out, HAV.out, HRV.out, HRL.out] at h3; exact h3)
                      exact bodyPost_ret (results_col Tryz.results38 _ _ R _ rfl (load_col hw)) rfl ⟨HF8.out.trans put_two_fr (fun i hi e => by have e : i = R := e; have := HRw.out; omega), .inr ⟨hno, _, _, _, _, _, _, rfl⟩⟩
                  · have d1 : (e4 == 0) = false := by simpa using he4
                    have cC0 : w8.cell? ⟨C, 0, none⟩ = some (.slice AE j cE) := cell_of_row _ _ 0 _ _ _ HC8.out
                    have cC1 : w8.cell? ⟨C, 1, none⟩ = some (.slice none 0 0) := cell_of_row _ _ 1 _ _ _ HC8.out
                    have cR0 : w8.cell? ⟨R, 0, none⟩ = some (.slice none 0 0) := cell_of_row _ _ 0 _ _ _ HR8.out
                    have cR1 : w8.cell? ⟨R, 1, none⟩ = some (.slice none 0 0) := cell_of_row _ _ 1 _ _ _ HR8.out
                    have fR0 : w8.frozen? ⟨R, 0, none⟩ = false := frozen_of_row _ _ _ _ _ HR8.out
                    have fR1 : w8.frozen? ⟨R, 1, none⟩ = false := frozen_of_row _ _ _ _ _ HR8.out
                    go_wp2
                    have hw := put_two (a := .slice AE j cE) (b := .slice none 0 0) HR8.out
                    have hno : ¬ rdOk bs := fun h => he4 (by have h3 := h.2.2.2.1; rw [HAV.out] at h3; exact h3)
                    exact bodyPost_ret (results_col Tryz.results38 _ _ R _ rfl (load_col hw)) rfl ⟨HF8.out.trans put_two_fr (fun i hi e => by have e : i = R := e; have := HRw.out; omega), .inr ⟨hno, _, _, _, _, _, _, rfl⟩⟩
        · have hb3 : (e3 == 0) = false := by simpa using he3
          have cC0 : w7.cell? ⟨C, 0, none⟩ = some (.slice none 0 0) := cell_of_row _ _ 0 _ _ _ HC7.out
          have cC1 : w7.cell? ⟨C, 1, none⟩ = some (.slice none 0 0) := cell_of_row _ _ 1 _ _ _ HC7.out
          have cR0 : w7.cell? ⟨R, 0, none⟩ = some (.slice none 0 0) := cell_of_row _ _ 0 _ _ _ HR7.out
          have cR1 : w7.cell? ⟨R, 1, none⟩ = some (.slice none 0 0) := cell_of_row _ _ 1 _ _ _ HR7.out
          have fR0 : w7.frozen? ⟨R, 0, none⟩ = false := frozen_of_row _ _ _ _ _ HR7.out
          have fR1 : w7.frozen? ⟨R, 1, none⟩ = false := frozen_of_row _ _ _ _ _ HR7.out
          go_wp2
          have hw := put_two (a := .slice none 0 0) (b := .slice none 0 0) HR7.out
          have hno : ¬ rdOk bs := fun h => he3 (by have := h.2.1; rw [HLV.out] at this; exact this)
          exact bodyPost_ret (results_col Tryz.results38 _ _ R _ rfl (load_col hw)) rfl ⟨HF7.out.trans put_two_fr (fun i hi e => by have e : i = R := e; have := HRw.out; omega), .inr ⟨hno, _, _, _, _, _, _, rfl⟩⟩
  · have HE := hide he
    have hb2 : (e2 == 0) = false := by simpa using he
    have cC0 : w4.cell? ⟨C, 0, none⟩ = some (.slice none 0 0) := cell_of_row _ _ 0 _ _ _ HC4.out
    have cC1 : w4.cell? ⟨C, 1, none⟩ = some (.slice none 0 0) := cell_of_row _ _ 1 _ _ _ HC4.out
    have cR0 : w4.cell? ⟨R, 0, none⟩ = some (.slice none 0 0) := cell_of_row _ _ 0 _ _ _ HR4.out
    have cR1 : w4.cell? ⟨R, 1, none⟩ = some (.slice none 0 0) := cell_of_row _ _ 1 _ _ _ HR4.out
    have fR0 : w4.frozen? ⟨R, 0, none⟩ = false := frozen_of_row _ _ _ _ _ HR4.out
    have fR1 : w4.frozen? ⟨R, 1, none⟩ = false := frozen_of_row _ _ _ _ _ HR4.out
    go_wp2_with (go_at_call 50; refine HEr.out.mono ?_; rintro en w' ⟨rfl, rfl⟩)
    have hw := put_two (a := .slice none 0 0) (b := .slice none 0 0) HR4.out
    have hno : ¬ rdOk bs := fun h => he (by have := h.1; rw [HBV.out] at this; exact this)
    exact bodyPost_ret (results_col Tryz.results38 _ _ R _ rfl (load_col hw)) rfl ⟨HF4.out.trans put_two_fr (fun i hi e => by have e : i = R := e; have := HRw.out; omega), .inr ⟨hno, _, _, _, _, _, _, rfl⟩⟩
end Go.Proofs.YtnjcncidlhllmaaGreat
