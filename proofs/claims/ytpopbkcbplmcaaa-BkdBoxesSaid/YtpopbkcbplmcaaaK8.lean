/- Several texts in one: BkRr, BkRs, BkC, BkO, BkS, BkQ, BkW. -/
import Derived.Test.YtpopbkcbplmcaaaK7
import Derived.Deep.RegionHeld3
import Derived.Sort.Grow
import Derived.Shelf.Lay
import Derived.Shelf.SlSortCmp.WholeK
import Derived.Ground.SlsfProg
import Derived.BigQuiet
namespace Go.Proofs.Ytpopbkcbplmcaaa
set_option linter.unusedVariables false
set_option linter.unusedSimpArgs false
open Go.RowKit

/-- which documents were hit. -/
def hitB (N : Nat) (L : List Pt) : List Bool := (List.range N).map fun d : Nat => L.any fun p => p.1 == ((d : Nat) : Int)
def bzB (l : List Bool) : List Value := l.map Value.bool
theorem hitB_len (N : Nat) (L : List Pt) : (hitB N L).length = N := by simp [hitB]
theorem hitB_at {N : Nat} {L : List Pt} {d : Nat} (h : d < N) : (bzB (hitB N L))[d]? = some (.bool (L.any fun p => p.1 == (d : Int))) := by simp [bzB, hitB, h]
theorem hitB_none (N : Nat) : hitB N [] = List.replicate N false := by
  refine List.ext_getElem (by simp [hitB]) fun i h1 h2 => ?_
  simp [hitB]
theorem hitB_set {N : Nat} {L : List Pt} {p : Pt} {d : Nat} (hp : p.1 = (d : Int)) (hd : d < N) : (bzB (hitB N L)).set d (.bool true) = bzB (hitB N (L ++ [p])) := by
  refine List.ext_getElem (by simp [bzB, hitB]) fun i h1 h2 => ?_
  rw [List.getElem_set]
  by_cases hi : d = i
  · subst hi
    simp [bzB, hitB, hp]
  · rw [if_neg hi]
    have hne : ¬ p.1 = (i : Int) := by omega
    simp [bzB, hitB, hne]
/-- the documents that were hit, up to one. -/
def hitZ (L : List Pt) (k : Nat) : List Int := ((List.range k).filter fun d : Nat => L.any fun p => p.1 == ((d : Nat) : Int)).map fun d : Nat => (d : Int)
theorem hitZ_succ (L : List Pt) (k : Nat) : hitZ L (k + 1) = hitZ L k ++ (if (L.any fun p => p.1 == (k : Int)) then [(k : Int)] else []) := by
  unfold hitZ
  rw [List.range_succ, List.filter_append, List.map_append]
  congr 1
  cases h : (L.any fun p => p.1 == (k : Int)) <;> simp [List.filter, h]
theorem hitZ_len (L : List Pt) (k : Nat) : (hitZ L k).length ≤ k := by
  unfold hitZ
  rw [List.length_map]
  exact Nat.le_trans (List.length_filter_le _ _) (by simp)
theorem hitZ_lt (L : List Pt) : ∀ k, leZ (hitZ L k) ∧ ltZ (hitZ L k) ∧ ∀ t ∈ hitZ L k, t < (k : Int)
  | 0 => by simp [hitZ, leZ, ltZ]
  | k + 1 => by
    obtain ⟨h1, h2, h3⟩ := hitZ_lt L k
    rw [hitZ_succ]
    split
    · refine ⟨List.pairwise_append.2 ⟨h1, by simp, fun a ha b hb => ?_⟩, List.pairwise_append.2 ⟨h2, by simp, fun a ha b hb => ?_⟩, fun t ht => ?_⟩
      · have := h3 a ha; rw [List.mem_singleton.1 hb]; omega
      · have := h3 a ha; rw [List.mem_singleton.1 hb]; omega
      · rcases List.mem_append.1 ht with ht | ht
        · have := h3 t ht; omega
        · rw [List.mem_singleton.1 ht]; omega
    · rw [List.append_nil]
      exact ⟨h1, h2, fun t ht => by have := h3 t ht; omega⟩
theorem hitZ_all {L : List Pt} {N : Nat} (h : ∀ p ∈ L, 0 ≤ p.1 ∧ p.1 < (N : Int)) : hitZ L N = setZ (L.map (·.1)) := by
  refine (setZ_of (hitZ_lt L N).2.1 fun t => ?_).symm
  unfold hitZ
  simp only [List.mem_map, List.mem_filter, List.mem_range, List.any_eq_true, beq_iff_eq]
  constructor
  · rintro ⟨d, ⟨hd, p, hp, e⟩, rfl⟩
    exact ⟨p, hp, e⟩
  · rintro ⟨p, hp, rfl⟩
    have := h p hp
    exact ⟨p.1.toNat, ⟨by omega, p, hp, by omega⟩, by omega⟩
theorem Try.infoRB : (Try.prog.info? 4).map (fun i => (i.zero, i.size, i.bytes)) = some (some (.bool false), 1, 1) := by kernel_rfl
theorem make_hits (W : World) : (Instr.makeSlice 84 (.int .i64 16384) (.int .i64 16384)).run Try.prog W = .ok (.slice (some ⟨W.heap.size, 0, none⟩) 16384 16384) (W.alloc (.cells (madeCells #[.bool false] 16384) 4)) := by
  obtain ⟨i0, hi, hz, hsz, hby⟩ := info_parts Try.infoRB
  have h := run_make (P := Try.prog) W 84 4 i0 (.bool false) Try.underlying84 hi hz .i64 .i64 (16384 : Int) (16384 : Int) (by omega) (by omega) (by rw [hby]; omega) (by omega)
  rw [hsz] at h
  exact h
def GivesZ (w : World) (xs : List Int) (en : Ending) (w' : World) : Prop := ∃ v, en = .returned v ∧ Own w' w.heap.size 3 1 v xs.length (iz .i64 xs) ∧ Fr No w w'
set_option maxRecDepth 100000 in
set_option maxHeartbeats 4000000 in
theorem rrange_in (A Al Ah : Option Addr) (n m c cl ch B B2 B3 : Nat) (l : List Po) (low high : List Int) (w : World) (hl : l.length = n) (hn : n ≤ c) (hc : c ≤ maxLen) (hm : mayP (m : Int) l) (hl1 : low.length = m) (hl2 : high.length = m) (h2 : m ≤ cl) (h3 : m ≤ ch) (hc2 : cl ≤ maxLen) (hc3 : ch ≤ maxLen) (hr : RdPo w B A l) (hr2 : Rd w B2 Al (iz .i64 low)) (hr3 : Rd w B3 Ah (iz .i64 high)) :
    Calls Try.prog 24 #[.int .i64 (m : Nat), .slice A n c, .slice Al m cl, .slice Ah m ch] w (GivesZ w (hitZ (l.filter (inB low high)) 16384)) := by
  have hm4 : m ≤ 4 := by have := hm.2.1; omega
  have hn20 : n ≤ 1048576 := by have := hm.2.2.1; omega
  have HPL := hide (fun p (hp : p ∈ l) => (show p.2.length = m ∧ 0 ≤ p.1 ∧ p.1 < 16384 by have := (hm.2.2.2 p hp); omega))
  have HL := hide hl
  have HR := hide hr
  have HIn := hide (fun (d : Int) (P : List Int) (Ap : Option Addr) (cp Bp : Nat) (W : World) (f : Fr No w W) (hp : P.length = m) (h1 : m ≤ cp) (hc1 : cp ≤ maxLen) (hr1 : Rd W Bp Ap (iz .i64 P)) => rin_any d P low high Ap Al Ah m cp cl ch Bp B2 B3 W hp hl1 hl2 hm4 h1 h2 h3 hc1 hc2 hc3 hr1 (hr2.fr0 f) (hr3.fr0 f))
  have b1 : ((m : Int) != (m : Int)) = false := by simp
  unfold maxLen at hc
  have hmk := make_hits w
  have HO : Hid (Own (w.alloc (.cells (madeCells #[.bool false] 16384) 4)) w.heap.size 4 1 (.slice (some ⟨w.heap.size, 0, none⟩) 16384 16384) 16384 (bzB (hitB 16384 []))) := hide (by
    have h := made_own w 16384 4 (.bool false) _ rfl (by unfold maxLen; omega)
    rw [hitB_none, bzB, List.map_replicate]
    exact h)
  generalize madeCells #[.bool false] 16384 = z at hmk HO
  obtain ⟨i0, hi, hz, hsz, hby⟩ := info_parts Try.infoRI
  clear hl hr hm hl1 hl2 hr2 hr3 hc2 hc3 h2 h3 hm4
  obtain ⟨F, hFd⟩ : ∃ F, F = inB low high := ⟨_, rfl⟩
  rw [← hFd] at HIn ⊢
  obtain ⟨L, hL⟩ : ∃ L, L = l.filter F := ⟨_, rfl⟩
  rw [← hL]
  have HLd := hide hL
  have hLn : L.length ≤ 1048576 := by rw [hL]; exact Nat.le_trans (List.length_filter_le _ _) (by rw [HL.out]; omega)
  clear hFd hL
  go_enter Try.func24, Try.ntmps24
  go_wp2_with (fail)
  have hF0 : Fr No w (w.alloc (.cells z 4)) := (Fr.refl No w).alloc _
  go_loopg [11] n (fun gk i wr => ∃ k : Nat, k + gk = n ∧ i = .int .i64 (k : Nat) ∧ Hid (Own wr w.heap.size 4 1 (.slice (some ⟨w.heap.size, 0, none⟩) 16384 16384) 16384 (bzB (hitB 16384 ((l.take k).filter F)))) ∧ Hid (Fr No w wr))
  case atStart => exact ⟨0, by omega, rfl, by simpa using HO, hide hF0⟩
  case round =>
    clear HO hmk hF0
    obtain ⟨k, hk, rfl, HO, HF⟩ := hrel
    obtain ⟨wo, rfl⟩ : ∃ wo : World, wo = wr := ⟨_, rfl⟩
    by_cases hlk : k < n
    · have hkl : k < l.length := by rw [HL.out]; exact hlk
      obtain ⟨ad, Ak, cp, rfl, _, kc0, kc1, hpc, hpm, hrp⟩ := (HR.out.fr0 HF.out).at hkl
      have hpl := HPL.out _ (getP_mem hkl)
      have HSn := hide (filt_snoc (f := F) hkl)
      obtain ⟨p, hp⟩ : ∃ p, p = l.getD k noPo := ⟨_, rfl⟩
      have hp' : l.getD k noPt = p := hp.symm
      rw [← hp] at kc0 kc1 hpc hrp hpl
      rw [hp'] at HSn
      obtain ⟨g', rfl⟩ : ∃ g', gk = g' + 1 := ⟨gk - 1, by omega⟩
      obtain ⟨pd, P⟩ := p
      dsimp only at kc0 kc1 hpc hrp hpl
      obtain ⟨dn, rfl⟩ : ∃ d : Nat, pd = (d : Int) := ⟨pd.toNat, by omega⟩
      have hdn : dn < 16384 := by omega
      rw [hpl.1] at kc1 hpc
      have HC := hide (HIn.out (dn : Int) P Ak cp _ wo HF.out hpl.1 hpc hpm hrp)
      have HK := hide hk
      obtain ⟨bb, hbb⟩ : ∃ b, b = F ((dn : Int), P) := ⟨_, rfl⟩
      rw [← hbb] at HC HSn
      have HKc := hide (And.intro kc0 kc1)
      unfold maxLen at hpm
      clear hkl hp hp' hpl hrp hk hbb
      go_upto_region 9 with (go_at_call 44; refine HC.out.mono ?_; rintro en w2 ⟨rfl, f2⟩; have HF2 := hide (HF.out.tr f2); have HO2 := hide (HO.out.fr0 f2); have kd0 := f2.cell HKc.out.1 (fun h => h); clear f2 kc0 kc1 HKc HC; cases bb)
      · go_wp2_with (fail)
        go_roundg g'
        case measure => omega
        case rel => exact ⟨k + 1, by have := HK.out; omega, by go_num, by rw [HSn.out, if_neg Bool.false_ne_true, List.append_nil]; exact HO2, HF2⟩
      · obtain ⟨gg, e, _, _, hcell, hfz, hst⟩ := HO2.out.store hdn
        have e1 : w.heap.size = gg := by injection e with e; injection e
        subst e1
        rw [hitB_at hdn] at hcell
        have HS := hide (hst (.bool true))
        rw [hitB_set (p := ((dn : Int), P)) rfl hdn] at HS
        generalize (List.any (List.filter F (List.take k l)) fun p => p.1 == (dn : Int)) = old at hcell
        clear hst e HO2
        go_wp2_with (fail)
        go_roundg g'
        case measure => omega
        case rel => exact ⟨k + 1, by have := HK.out; omega, by go_num, by rw [HSn.out, if_pos trivial]; exact HS, hide (HF2.out.setCell (p := ⟨w.heap.size, dn, none⟩) (fun h => absurd h (Nat.lt_irrefl _)) _)⟩
    · obtain rfl : k = n := by omega
      have hall : l.take k = l := List.take_of_length_le (by rw [HL.out]; exact Nat.le_refl _)
      rw [hall, ← HLd.out] at HO
      clear hall hk HIn
      go_upto_region 11 with (fail)
      go_loopg [9, 12] 16384 (fun gk v i wx => ∃ (j s : Nat), j + gk = 16384 ∧ i = .int .i64 (j : Nat) ∧ s ≤ j ∧ Hid (s = (hitZ L j).length) ∧ Hid (Own wx w.heap.size 3 1 v s (iz .i64 (hitZ L j))) ∧ Hid (Own wx w.heap.size 4 1 (.slice (some ⟨w.heap.size, 0, none⟩) 16384 16384) 16384 (bzB (hitB 16384 L))) ∧ Hid (Fr No w wx))
      case atStart => exact ⟨0, 0, by omega, rfl, Nat.le_refl _, hide (by simp [hitZ]), hide (by simp [hitZ, iz]; exact Own.nil _ _ _ _), HO, HF⟩
      case round =>
        clear HO HF
        obtain ⟨j, s, hj, rfl, hsj, HSl, HOv, HO, HF⟩ := hrel
        obtain ⟨wo, rfl⟩ : ∃ wo : World, wo = wr := ⟨_, rfl⟩
        obtain ⟨Av, cv, rfl, hv1, hv2, _⟩ := HOv.out.form
        by_cases hlj : j < 16384
        · obtain ⟨gg, e, _, _, hcell, _, _⟩ := HO.out.store hlj
          have e1 : w.heap.size = gg := by injection e with e; injection e
          subst e1
          rw [hitB_at hlj] at hcell
          have HSu := hide (hitZ_succ L j)
          obtain ⟨bb, hbb⟩ : ∃ b, b = (L.any fun p => p.1 == (j : Int)) := ⟨_, rfl⟩
          rw [← hbb] at hcell HSu
          obtain ⟨g', rfl⟩ : ∃ g', gk = g' + 1 := ⟨gk - 1, by omega⟩
          have HJ := hide hj
          have hzw := HF.out.size
          have b2 : (s + 1) * 8 ≤ 140737488355328 := by omega
          have b3 : s + 1 ≤ maxLen := by unfold maxLen; omega
          have HSr := hide (Src.one (P := Try.prog) wo (e := 3) Try.underlying40 (.int .i64 (j : Nat)) rfl)
          have HOv1 := hide (HOv.out.fr0 ((Fr.refl No wo).alloc (.cells #[.int .i64 (j : Nat)] 3)))
          have HO1 := hide (HO.out.fr0 ((Fr.refl No wo).alloc (.cells #[.int .i64 (j : Nat)] 3)))
          have HF1 := hide (HF.out.alloc (.cells #[.int .i64 (j : Nat)] 3))
          have hzl : w.heap.size ≤ (wo.alloc (.cells #[.int .i64 (j : Nat)] 3)).heap.size := by simp; omega
          unfold maxLen at hv2
          clear e hbb hj
          cases bb
          · go_wp2_with (fail)
            go_roundg g'
            case measure => omega
            case rel => exact ⟨j + 1, s, by have := HJ.out; omega, by go_num, by omega, by rw [HSu.out, if_neg Bool.false_ne_true, List.append_nil]; exact HSl, by rw [HSu.out, if_neg Bool.false_ne_true, List.append_nil]; exact HOv, HO, HF⟩
          · go_wp2_with (at_builtin; refine wpList_append_gen _ rfl (.tmp 55) (.tmp 57) 40 40 rfl w.heap.size 3 i0 (.int .i64 0) 1 8 Try.underlying40 hi hz hsz hby rfl _ s _ rfl HOv1.out _ 1 [.int .i64 (j : Nat)] rfl HSr.out b2 b3 hzl ?_; intro v2 w2 hown hfr hat; have HOn := hide hown; have HFn := hide (HF1.out.own hfr (fun g hg => .inl (HOv1.out.lt g hg).1)); have HOb := hide (HO1.out.fr hfr (fun k hk e => by obtain ⟨_, cs, fz, hh⟩ := HO1.out.cellsT hk; exact HOv1.out.ne_blk e hh (by decide))); clear hown hfr hat)
            go_roundg g'
            case measure => omega
            case rel => exact ⟨j + 1, s + 1, by have := HJ.out; omega, by go_num, by omega, hide (by rw [HSu.out, List.length_append, ← HSl.out]; simp), hide (by rw [HSu.out, if_pos trivial]; simpa [iz] using HOn.out), HOb, HFn⟩
        · obtain rfl : j = 16384 := by omega
          clear hlj hj
          have HR := hide (show GivesZ w (hitZ L 16384) (.returned (.slice Av s cv)) wo from ⟨_, rfl, by rw [← HSl.out]; exact HOv.out, HF.out⟩)
          clear HOv HO HF HSl
          go_wp2_with (fail)
          go_ret
          exact HR.out
end Go.Proofs.Ytpopbkcbplmcaaa
namespace Go.Proofs.Ytpopbkcbplmcaaa
set_option linter.unusedVariables false
set_option linter.unusedSimpArgs false
open Go.RowKit

set_option maxRecDepth 100000 in
set_option maxHeartbeats 1000000 in
theorem rcount_out (A Al Ah : Option Addr) (n n1 n2 m c cl ch : Nat) (w : World) (h : n1 ≠ m ∨ n2 ≠ m) :
    Calls Try.prog 25 #[.int .i64 (m : Nat), .slice A n c, .slice Al n1 cl, .slice Ah n2 ch] w (fun en w' => en = .returned (.int .i64 0) ∧ Fr No w w') := by
  by_cases h0 : 0 < n
  · have d0 : decide ((0 : Int) < (n : Int)) = true := decide_eq_true (by omega)
    by_cases h1 : n1 = m
    · have h2 : n2 ≠ m := h.resolve_left (fun f => f h1)
      subst h1
      have b1 : ((n1 : Int) == (n1 : Int)) = true := by simp
      have b2 : ((n2 : Int) == (n1 : Int)) = false := by simp only [beq_eq_false_iff_ne, ne_eq]; omega
      clear h h2
      go_enter Try.func25, Try.ntmps25
      go_wp2
      go_loopw [9, 10] (fun cn i wr => i = .int .i64 0 ∧ cn = .int .i64 0 ∧ wr = w) (fun _ _ _ => 0)
      case atStart => exact ⟨rfl, rfl, rfl⟩
      case round =>
        obtain ⟨rfl, rfl, rfl⟩ := hrel
        go_wp2
        go_ret
        exact ⟨rfl, Fr.refl _ _⟩
    · have b1 : ((n1 : Int) == (m : Int)) = false := by simp only [beq_eq_false_iff_ne, ne_eq]; omega
      clear h h1
      go_enter Try.func25, Try.ntmps25
      go_wp2
      go_loopw [9, 10] (fun cn i wr => i = .int .i64 0 ∧ cn = .int .i64 0 ∧ wr = w) (fun _ _ _ => 0)
      case atStart => exact ⟨rfl, rfl, rfl⟩
      case round =>
        obtain ⟨rfl, rfl, rfl⟩ := hrel
        go_wp2
        go_ret
        exact ⟨rfl, Fr.refl _ _⟩
  · obtain rfl : n = 0 := by omega
    clear h h0
    go_enter Try.func25, Try.ntmps25
    go_wp2
    go_loopw [9, 10] (fun cn i wr => i = .int .i64 0 ∧ cn = .int .i64 0 ∧ wr = w) (fun _ _ _ => 0)
    case atStart => exact ⟨rfl, rfl, rfl⟩
    case round =>
      obtain ⟨rfl, rfl, rfl⟩ := hrel
      go_wp2
      go_ret
      exact ⟨rfl, Fr.refl _ _⟩
set_option maxRecDepth 100000 in
set_option maxHeartbeats 1000000 in
theorem rrange_out (A Al Ah : Option Addr) (n n1 n2 m c cl ch : Nat) (w : World) (h : n1 ≠ m ∨ n2 ≠ m) :
    Calls Try.prog 24 #[.int .i64 (m : Nat), .slice A n c, .slice Al n1 cl, .slice Ah n2 ch] w (fun en w' => en = .returned (.slice none 0 0) ∧ Fr No w w') := by
  by_cases h1 : n1 = m
  · have h2 : n2 ≠ m := h.resolve_left (fun f => f h1)
    subst h1
    have b1 : ((n1 : Int) != (n1 : Int)) = false := by simp
    have b2 : ((n2 : Int) != (n1 : Int)) = true := by simp only [bne_iff_ne, ne_eq]; omega
    clear h h2
    go_enter Try.func24, Try.ntmps24
    go_wp2
    go_ret
    exact ⟨rfl, Fr.refl _ _⟩
  · have b1 : ((n1 : Int) != (m : Int)) = true := by simp only [bne_iff_ne, ne_eq]; omega
    clear h h1
    go_enter Try.func24, Try.ntmps24
    go_wp2
    go_ret
    exact ⟨rfl, Fr.refl _ _⟩
/-- Count, of any box. -/
theorem rcount_any (A Al Ah : Option Addr) (n n1 n2 m c cl ch B B2 B3 : Nat) (l : List Po) (low high : List Int) (w : World) (hl : l.length = n) (hn : n ≤ c) (hc : c ≤ maxLen) (hm : mayP (m : Int) l) (hl1 : low.length = n1) (hl2 : high.length = n2) (h2 : n1 ≤ cl) (h3 : n2 ≤ ch) (hc2 : cl ≤ maxLen) (hc3 : ch ≤ maxLen) (hr : RdPo w B A l) (hr2 : Rd w B2 Al (iz .i64 low)) (hr3 : Rd w B3 Ah (iz .i64 high)) :
    Calls Try.prog 25 #[.int .i64 (m : Nat), .slice A n c, .slice Al n1 cl, .slice Ah n2 ch] w (fun en w' => en = .returned (.int .i64 ((boxP m l low high).length : Nat)) ∧ Fr No w w') := by
  unfold boxP
  rw [hl1, hl2]
  by_cases h : n1 = m ∧ n2 = m
  · rw [if_pos h]
    obtain ⟨rfl, rfl⟩ := h
    exact rcount_in A Al Ah n n2 c cl ch B B2 B3 l low high w hl hn hc hm hl1 hl2 h2 h3 hc2 hc3 hr hr2 hr3
  · rw [if_neg h]
    exact rcount_out A Al Ah n n1 n2 m c cl ch w (by omega)
theorem boxP_docs {m : Nat} {l : List Pt} {low high : List Int} (hm : mayP (m : Int) l) : ∀ p ∈ boxP m l low high, 0 ≤ p.1 ∧ p.1 < ((16384 : Nat) : Int) := by
  intro p hp
  unfold boxP at hp
  split at hp
  · have := hm.2.2.2 p (List.mem_filter.1 hp).1; omega
  · cases hp
/-- Range, of any box. -/
theorem rrange_any (A Al Ah : Option Addr) (n n1 n2 m c cl ch B B2 B3 : Nat) (l : List Po) (low high : List Int) (w : World) (hl : l.length = n) (hn : n ≤ c) (hc : c ≤ maxLen) (hm : mayP (m : Int) l) (hl1 : low.length = n1) (hl2 : high.length = n2) (h2 : n1 ≤ cl) (h3 : n2 ≤ ch) (hc2 : cl ≤ maxLen) (hc3 : ch ≤ maxLen) (hr : RdPo w B A l) (hr2 : Rd w B2 Al (iz .i64 low)) (hr3 : Rd w B3 Ah (iz .i64 high)) :
    Calls Try.prog 24 #[.int .i64 (m : Nat), .slice A n c, .slice Al n1 cl, .slice Ah n2 ch] w (GivesZ w (rngZ m l low high)) := by
  have hd := boxP_docs (low := low) (high := high) hm
  unfold rngZ
  rw [← hitZ_all hd]
  unfold boxP
  rw [hl1, hl2]
  by_cases h : n1 = m ∧ n2 = m
  · rw [if_pos h]
    obtain ⟨rfl, rfl⟩ := h
    exact rrange_in A Al Ah n n2 c cl ch B B2 B3 l low high w hl hn hc hm hl1 hl2 h2 h3 hc2 hc3 hr hr2 hr3
  · rw [if_neg h]
    refine (rrange_out A Al Ah n n1 n2 m c cl ch w (by omega)).mono fun en w' h => ⟨_, h.1, ?_, h.2⟩
    have e : hitZ [] 16384 = [] := by unfold hitZ; simp
    rw [e]
    exact Own.nil _ _ _ _
end Go.Proofs.Ytpopbkcbplmcaaa
namespace Go.Proofs.Ytpopbkcbplmcaaa
set_option linter.unusedVariables false
set_option linter.unusedSimpArgs false

def cmpI (x y : Int) : Int := if x < y then -1 else if y < x then 1 else 0
theorem cmpI_neg {x y : Int} : cmpI x y < 0 ↔ x < y := by unfold cmpI; split <;> (try split) <;> omega
theorem cmpI_zero {x y : Int} : cmpI x y = 0 ↔ x = y := by unfold cmpI; split <;> (try split) <;> omega
theorem cmpI_in (x y : Int) : cmpI x y = -1 ∨ cmpI x y = 0 ∨ cmpI x y = 1 := by unfold cmpI; split <;> (try split) <;> simp
/-- slices.Compare. -/
def cmpL : List Int → List Int → Int
  | [], [] => 0
  | [], _ :: _ => -1
  | _ :: _, [] => 1
  | x :: r, y :: s => if cmpI x y = 0 then cmpL r s else cmpI x y
theorem cmpL_in : ∀ r s : List Int, cmpL r s = -1 ∨ cmpL r s = 0 ∨ cmpL r s = 1
  | [], [] => by simp [cmpL]
  | [], _ :: _ => by simp [cmpL]
  | _ :: _, [] => by simp [cmpL]
  | x :: r, y :: s => by
    rw [cmpL]
    split
    · exact cmpL_in r s
    · exact cmpI_in x y
theorem cons_lt {x y : Int} {r s : List Int} : x :: r < y :: s ↔ x < y ∨ x = y ∧ r < s := List.cons_lt_cons_iff
theorem cmpL_snoc {m n : Int} : ∀ {r s : List Int}, r.length = s.length → ((r ++ [m] < s ++ [n]) ↔ (cmpL r s < 0 ∨ cmpL r s = 0 ∧ m < n))
  | [], [], _ => by
    rw [List.nil_append, List.nil_append, cons_lt]
    simp [cmpL]
  | x :: r, y :: s, h => by
    have h' : r.length = s.length := by simpa using h
    rw [List.cons_append, List.cons_append, cons_lt, cmpL_snoc h', cmpL]
    by_cases e : cmpI x y = 0
    · rw [if_pos e]
      have := cmpI_zero.1 e
      subst this
      have : ¬ x < x := Int.lt_irrefl x
      simp [this]
    · rw [if_neg e]
      have h1 : ¬ x = y := fun h => e (cmpI_zero.2 h)
      have h2 := cmpI_neg (x := x) (y := y)
      constructor
      · rintro (h3 | ⟨h3, _⟩)
        · exact .inl (h2.2 h3)
        · exact absurd h3 h1
      · rintro (h3 | ⟨h3, _⟩)
        · exact .inl (h2.1 h3)
        · exact absurd h3 e
  | [], _ :: _, h => by simp at h
  | _ :: _, [], h => by simp at h
/-- what the comparison answers. -/
def cmpP (d : Nat) (a b : Pt) : Int := if cmpI (a.2.getD d 0) (b.2.getD d 0) ≠ 0 then cmpI (a.2.getD d 0) (b.2.getD d 0) else if cmpL a.2 b.2 ≠ 0 then cmpL a.2 b.2 else cmpI a.1 b.1
theorem cmpP_lt {d : Nat} {a b : Pt} (h : a.2.length = b.2.length) : cmpP d a b < 0 ↔ ltP d a b := by
  unfold ltP keyP
  rw [cons_lt, cmpL_snoc h, cmpP]
  generalize a.2.getD d 0 = X
  generalize b.2.getD d 0 = Y
  generalize cmpL a.2 b.2 = L
  generalize a.1 = m
  generalize b.1 = n
  have h1 := cmpI_zero (x := X) (y := Y)
  have h2 := cmpI_neg (x := X) (y := Y)
  have h3 := cmpI_neg (x := m) (y := n)
  by_cases e : X = Y
  · rw [if_neg (fun h => h (h1.2 e))]
    by_cases e4 : L = 0
    · rw [if_neg (fun h => h e4)]
      constructor
      · intro h; exact .inr ⟨e, .inr ⟨e4, h3.1 h⟩⟩
      · rintro (h | ⟨_, h | ⟨_, h⟩⟩)
        · omega
        · omega
        · exact h3.2 h
    · rw [if_pos e4]
      constructor
      · intro h; exact .inr ⟨e, .inl h⟩
      · rintro (h | ⟨_, h | ⟨h, _⟩⟩)
        · omega
        · exact h
        · exact absurd h e4
  · rw [if_pos (fun h => e (h1.1 h))]
    constructor
    · intro h; exact .inl (h2.1 h)
    · rintro (h | ⟨h, _⟩)
      · exact h2.2 h
      · exact absurd h e
/-- below, the document's. -/
def belP (d : Nat) (a b : Pt) : Bool := decide (ltP d a b)
theorem belP_eq {d : Nat} {a b : Pt} (h : a.2.length = b.2.length) : belP d a b = (if a.2.getD d 0 ≠ b.2.getD d 0 then decide (a.2.getD d 0 < b.2.getD d 0) else if cmpL a.2 b.2 ≠ 0 then decide (cmpL a.2 b.2 < 0) else decide (a.1 < b.1)) := by
  unfold belP
  have h1 := cmpP_lt (d := d) h
  rw [show decide (ltP d a b) = decide (cmpP d a b < 0) from decide_eq_decide.2 h1.symm, cmpP]
  generalize a.2.getD d 0 = X
  generalize b.2.getD d 0 = Y
  generalize cmpL a.2 b.2 = L
  generalize a.1 = m
  generalize b.1 = n
  have h1 := cmpI_zero (x := X) (y := Y)
  have h2 := cmpI_neg (x := X) (y := Y)
  have h3 := cmpI_neg (x := m) (y := n)
  by_cases e : X = Y
  · have e1 : ¬ (cmpI X Y ≠ 0) := fun h => h (h1.2 e)
    have e2 : ¬ (X ≠ Y) := fun h => h e
    rw [if_neg e1, if_neg e2]
    by_cases e4 : L = 0
    · have e5 : ¬ (L ≠ 0) := fun h => h e4
      rw [if_neg e5, if_neg e5]
      exact decide_eq_decide.2 h3
    · rw [if_pos e4, if_pos e4]
  · rw [if_pos e, if_pos (fun h => e (h1.1 h))]
    exact decide_eq_decide.2 h2
theorem cmpL_drop {r s : List Int} {k : Nat} (h1 : k < r.length) (h2 : k < s.length) : cmpL (r.drop k) (s.drop k) = if cmpI (r.getD k 0) (s.getD k 0) = 0 then cmpL (r.drop (k + 1)) (s.drop (k + 1)) else cmpI (r.getD k 0) (s.getD k 0) := by
  rw [List.drop_eq_getElem_cons h1, List.drop_eq_getElem_cons h2, cmpL, List.getD, List.getElem?_eq_getElem h1, List.getD, List.getElem?_eq_getElem h2]
  rfl
theorem cmpL_done {r s : List Int} (h : r.length = s.length) : cmpL (r.drop r.length) (s.drop r.length) = 0 := by
  rw [List.drop_length, h, List.drop_length]
  rfl
/-- two halves in order, put together. -/
theorem sort_merge (d k : Nat) (l : List Pt) : (sortP d (l.take k)).merge (sortP d (l.drop k)) (leP d) = sortP d l := by
  refine sortP_uniq ?_ ?_
  · refine (List.merge_perm_append _).trans ?_
    refine ((sortP_perm d _).append (sortP_perm d _)).trans ?_
    rw [List.take_append_drop]
  · exact List.pairwise_merge (leP_trans d) (fun a b => by simpa using leP_total d a b) _ _ (sortP_up d _) (sortP_up d _)
theorem sort_short {d : Nat} {l : List Pt} (h : l.length < 2) : sortP d l = l := by
  match l, h with
  | [], _ => simp [sortP]
  | [x], _ => simp [sortP]
  | _ :: _ :: _, h => simp at h; omega
theorem merge_b {d : Nat} {y : Pt} {r s : List Pt} (h : r = [] ∨ ∃ x t, r = x :: t ∧ leP d x y = false) : r.merge (y :: s) (leP d) = y :: r.merge s (leP d) := by
  rcases h with rfl | ⟨x, t, rfl, h⟩
  · simp [List.merge]
  · rw [List.cons_merge_cons, if_neg (by rw [h]; exact Bool.false_ne_true)]
theorem merge_a {d : Nat} {x : Pt} {t s : List Pt} (h : s = [] ∨ ∃ y r, s = y :: r ∧ leP d x y = true) : (x :: t).merge s (leP d) = x :: t.merge s (leP d) := by
  rcases h with rfl | ⟨y, r, rfl, h⟩
  · simp [List.merge]
  · rw [List.cons_merge_cons, if_pos h]
theorem leP_bel {d : Nat} {x y : Pt} : leP d x y = !belP d y x := by
  unfold leP belP
  by_cases h : ltP d y x <;> simp [h]
end Go.Proofs.Ytpopbkcbplmcaaa
namespace Go.Proofs.Ytpopbkcbplmcaaa
set_option linter.unusedVariables false
set_option linter.unusedSimpArgs false
open Go.RowKit

set_option maxRecDepth 100000 in
set_option maxHeartbeats 400000 in
theorem nanI64_any (x : Int) (w : World) : Calls Try.prog 92 #[.int .i64 x] w (Ret (.bool false) w) := by
  have e : (x != x) = false := by simp
  go_enter Try.func92, Try.ntmps92
  go_wp2
  go_ret
  exact ⟨rfl, rfl⟩
set_option maxRecDepth 100000 in
set_option maxHeartbeats 400000 in
theorem nanInt_any (x : Int) (w : World) : Calls Try.prog 93 #[.int .i64 x] w (Ret (.bool false) w) := by
  have e : (x != x) = false := by simp
  go_enter Try.func93, Try.ntmps93
  go_wp2
  go_ret
  exact ⟨rfl, rfl⟩
set_option maxRecDepth 100000 in
set_option maxHeartbeats 800000 in
theorem cmpI64_any (x y : Int) (w : World) : Calls Try.prog 68 #[.int .i64 x, .int .i64 y] w (Ret (.int .i64 (cmpI x y)) w) := by
  by_cases h1 : x < y
  · have d1 : decide (x < y) = true := decide_eq_true h1
    have HE : Hid (cmpI x y = -1) := hide (by unfold cmpI; rw [if_pos h1])
    go_enter Try.func68, Try.ntmps68
    go_wp2_with (go_at_call 92; refine (nanI64_any _ _).mono ?_; rintro en w' ⟨rfl, rfl⟩)
    go_ret
    exact ⟨by rw [HE.out]; rfl, rfl⟩
  · have d1 : decide (x < y) = false := decide_eq_false h1
    by_cases h2 : y < x
    · have d2 : decide (y < x) = true := decide_eq_true h2
      have HE : Hid (cmpI x y = 1) := hide (by unfold cmpI; rw [if_neg h1, if_pos h2])
      go_enter Try.func68, Try.ntmps68
      go_wp2_with (go_at_call 92; refine (nanI64_any _ _).mono ?_; rintro en w' ⟨rfl, rfl⟩)
      go_ret
      exact ⟨by rw [HE.out]; rfl, rfl⟩
    · have d2 : decide (y < x) = false := decide_eq_false h2
      have HE : Hid (cmpI x y = 0) := hide (by unfold cmpI; rw [if_neg h1, if_neg h2])
      go_enter Try.func68, Try.ntmps68
      go_wp2_with (go_at_call 92; refine (nanI64_any _ _).mono ?_; rintro en w' ⟨rfl, rfl⟩)
      go_ret
      exact ⟨by rw [HE.out]; rfl, rfl⟩
set_option maxRecDepth 100000 in
set_option maxHeartbeats 800000 in
theorem cmpInt_any (x y : Int) (w : World) : Calls Try.prog 70 #[.int .i64 x, .int .i64 y] w (Ret (.int .i64 (cmpI x y)) w) := by
  by_cases h1 : x < y
  · have d1 : decide (x < y) = true := decide_eq_true h1
    have HE : Hid (cmpI x y = -1) := hide (by unfold cmpI; rw [if_pos h1])
    go_enter Try.func70, Try.ntmps70
    go_wp2_with (go_at_call 93; refine (nanInt_any _ _).mono ?_; rintro en w' ⟨rfl, rfl⟩)
    go_ret
    exact ⟨by rw [HE.out]; rfl, rfl⟩
  · have d1 : decide (x < y) = false := decide_eq_false h1
    by_cases h2 : y < x
    · have d2 : decide (y < x) = true := decide_eq_true h2
      have HE : Hid (cmpI x y = 1) := hide (by unfold cmpI; rw [if_neg h1, if_pos h2])
      go_enter Try.func70, Try.ntmps70
      go_wp2_with (go_at_call 93; refine (nanInt_any _ _).mono ?_; rintro en w' ⟨rfl, rfl⟩)
      go_ret
      exact ⟨by rw [HE.out]; rfl, rfl⟩
    · have d2 : decide (y < x) = false := decide_eq_false h2
      have HE : Hid (cmpI x y = 0) := hide (by unfold cmpI; rw [if_neg h1, if_neg h2])
      go_enter Try.func70, Try.ntmps70
      go_wp2_with (go_at_call 93; refine (nanInt_any _ _).mono ?_; rintro en w' ⟨rfl, rfl⟩)
      go_ret
      exact ⟨by rw [HE.out]; rfl, rfl⟩
set_option maxRecDepth 100000 in
set_option maxHeartbeats 800000 in
theorem cmpL_any (A A' : Option Addr) (n c c' B B' : Nat) (r s : List Int) (w : World) (hr : r.length = n) (hs : s.length = n) (hc : n ≤ c) (hc2 : c ≤ maxLen) (hc' : n ≤ c') (hc2' : c' ≤ maxLen) (h1 : Rd w B A (iz .i64 r)) (h2 : Rd w B' A' (iz .i64 s)) :
    Calls Try.prog 69 #[.slice A n c, .slice A' n c'] w (Ret (.int .i64 (cmpL r s)) w) := by
  have HR := hide hr
  have HS := hide hs
  have H1 := hide h1
  have H2 := hide h2
  unfold maxLen at hc2 hc2'
  clear hr hs h1 h2
  go_enter Try.func69, Try.ntmps69
  go_wp2
  go_loopw [5, 6, 7, 8, 11] (fun _ _ _ _ i wr => ∃ k : Nat, k ≤ n ∧ i = .int .i64 (k : Nat) ∧ Hid (cmpL r s = cmpL (r.drop k) (s.drop k)) ∧ wr = w) (fun _ _ _ _ i _ => n - (intOf i).toNat)
  case atStart => exact ⟨0, by omega, by go_num, hide rfl, rfl⟩
  case round =>
    obtain ⟨k, hk, rfl, HE, rfl⟩ := hrel
    by_cases hlt : k < n
    · have k1 : k < r.length := by rw [HR.out]; exact hlt
      have k2 : k < s.length := by rw [HS.out]; exact hlt
      obtain ⟨ad, rfl, _, ha⟩ := H1.out.intAt k1
      obtain ⟨bd, rfl, _, hb⟩ := H2.out.intAt k2
      have hd := cmpL_drop k1 k2
      generalize r.getD k 0 = x at ha hd
      generalize s.getD k 0 = y at hb hd
      have HD := hide hd
      have HCm := hide (cmpI64_any x y wr)
      obtain ⟨z, hz⟩ : ∃ z, z = cmpI x y := ⟨_, rfl⟩
      rw [← hz] at HCm HD
      clear k1 k2 hd hz
      by_cases hz0 : z = 0
      · have e1 : (z != 0) = false := by simpa using hz0
        have HE' : Hid (cmpL r s = cmpL (r.drop (k + 1)) (s.drop (k + 1))) := hide (by rw [HE.out, HD.out, if_pos hz0])
        clear hz0
        go_wp2_with (go_at_call 68; refine HCm.out.mono ?_; rintro en w' ⟨rfl, rfl⟩)
        go_roundw
        case rel => exact ⟨k + 1, by omega, by go_num, HE', trivial⟩
        case measure => simp [intOf]; omega
      · have e1 : (z != 0) = true := by simpa using hz0
        have HE' : Hid (cmpL r s = z) := hide (by rw [HE.out, HD.out, if_neg hz0])
        clear hz0
        go_wp2_with (go_at_call 68; refine HCm.out.mono ?_; rintro en w' ⟨rfl, rfl⟩)
        go_ret
        exact ⟨by rw [HE'.out]; rfl, rfl⟩
    · obtain rfl : k = n := by omega
      have HE' : Hid (cmpL r s = 0) := hide (by rw [HE.out, ← HR.out]; exact cmpL_done (by rw [HR.out, HS.out]))
      clear hlt
      go_wp2
      go_ret
      exact ⟨by rw [HE'.out]; rfl, rfl⟩
/-- cmp.Or. -/
def orL : List Int → Int
  | [] => 0
  | x :: r => if x ≠ 0 then x else orL r
theorem orL_drop {l : List Int} {k : Nat} (h : k < l.length) : orL (l.drop k) = if l.getD k 0 ≠ 0 then l.getD k 0 else orL (l.drop (k + 1)) := by
  rw [List.drop_eq_getElem_cons h, orL, List.getD, List.getElem?_eq_getElem h]
  rfl
set_option maxRecDepth 100000 in
set_option maxHeartbeats 800000 in
theorem orL_any (A : Option Addr) (n c B : Nat) (l : List Int) (w : World) (hl : l.length = n) (hc : n ≤ c) (hc2 : c ≤ maxLen) (h : Rd w B A (iz .i64 l)) :
    Calls Try.prog 67 #[.slice A n c] w (Ret (.int .i64 (orL l)) w) := by
  have HL := hide hl
  have H := hide h
  unfold maxLen at hc2
  clear hl h
  go_enter Try.func67, Try.ntmps67
  go_wp2
  go_loopw [5, 8] (fun _ i wr => ∃ k : Nat, k ≤ n ∧ i = .int .i64 (k : Nat) ∧ Hid (orL l = orL (l.drop k)) ∧ wr = w) (fun _ i _ => n - (intOf i).toNat)
  case atStart => exact ⟨0, by omega, by go_num, hide rfl, rfl⟩
  case round =>
    obtain ⟨k, hk, rfl, HE, rfl⟩ := hrel
    by_cases hlt : k < n
    · have k1 : k < l.length := by rw [HL.out]; exact hlt
      obtain ⟨ad, rfl, _, ha⟩ := H.out.intAt k1
      have hd := orL_drop k1
      generalize l.getD k 0 = x at ha hd
      have HD := hide hd
      clear k1 hd
      by_cases hz0 : x = 0
      · have e1 : (x != 0) = false := by simpa using hz0
        have HE' : Hid (orL l = orL (l.drop (k + 1))) := hide (by rw [HE.out, HD.out, if_neg (fun h => h hz0)])
        clear hz0
        go_wp2
        go_roundw
        case rel => exact ⟨k + 1, by omega, by go_num, HE', trivial⟩
        case measure => simp [intOf]; omega
      · have e1 : (x != 0) = true := by simpa using hz0
        have HE' : Hid (orL l = x) := hide (by rw [HE.out, HD.out, if_pos hz0])
        clear hz0
        go_wp2
        go_ret
        exact ⟨by rw [HE'.out]; rfl, rfl⟩
    · obtain rfl : k = n := by omega
      have HE' : Hid (orL l = 0) := hide (by rw [HE.out, ← HL.out, List.drop_length]; rfl)
      clear hlt
      go_wp2
      go_ret
      exact ⟨by rw [HE'.out]; rfl, rfl⟩
end Go.Proofs.Ytpopbkcbplmcaaa
namespace Go.Proofs.Ytpopbkcbplmcaaa
set_option linter.unusedVariables false
set_option linter.unusedSimpArgs false
open Go.RowKit Go.Shelf Go.Lib Go.Sort
shelf_lay_g SlLaysF0.n6 Slsf 6 at Try 52 as Try.sortBP

/-- points in a part of a block. -/
structure ArrP (w : World) (G off : Nat) (ps : List PoL) : Prop where
  cell : ∀ j u, (pFlat ps)[j]? = some u → w.cell? ⟨G, off + j, none⟩ = some u ∧ w.frozen? ⟨G, off + j, none⟩ = false
  lt : G < w.heap.size
/-- what lies outside that part stays. -/
def Apart2 (w w' : World) (G lo hi : Nat) : Prop := ∀ i, (i < lo ∨ hi ≤ i) → w'.cell? ⟨G, i, none⟩ = w.cell? ⟨G, i, none⟩ ∧ w'.frozen? ⟨G, i, none⟩ = w.frozen? ⟨G, i, none⟩
/-- a point in memory: its place has so many numbers, and is read. -/
def OkPt (w : World) (B dims : Nat) (p : PoL) : Prop := p.1.2.length = dims ∧ p.1.2.length ≤ p.2.2 ∧ p.2.2 ≤ maxLen ∧ Rd w B p.2.1 (iz .i64 p.1.2)
theorem OkPt.fr {S : Nat → Prop} {w w' : World} {B dims : Nat} {p : PoL} (h : OkPt w B dims p) (f : Fr S w w') (hS : ∀ k, k < B → ¬ S k) : OkPt w' B dims p := ⟨h.1, h.2.1, h.2.2.1, h.2.2.2.fr f hS⟩
abbrev PtS (w : World) (B dims : Nat) := {p : PoL // OkPt w B dims p}
def encS {w : World} {B dims : Nat} (x : PtS w B dims) : List Value := pRow x.1
theorem encS_len {w : World} {B dims : Nat} (x : PtS w B dims) : (encS x).length = 2 := rfl
theorem encS_one {w : World} {B dims : Nat} (x : PtS w B dims) : ∀ v ∈ encS x, v.oneCell' = true := pRow_one x.1
def cmpS {w : World} {B dims : Nat} (d : Nat) (x y : PtS w B dims) : Int := cmpP d x.1.1 y.1.1
theorem ltOfS {w : World} {B dims : Nat} (d : Nat) (x y : PtS w B dims) : ltOf (cmpS d) x y = belP d x.1.1 y.1.1 := by
  unfold ltOf cmpS belP
  exact decide_eq_decide.2 (cmpP_lt (by rw [x.2.1, y.2.1]))
theorem belP_iff {d : Nat} {a b : Pt} : belP d a b = true ↔ keyP d a < keyP d b := ⟨fun h => of_decide_eq_true h, fun h => decide_eq_true (p := ltP d a b) h⟩
theorem belP_no {d : Nat} {a b : Pt} : belP d a b = false ↔ ¬ keyP d a < keyP d b := ⟨fun h => of_decide_eq_false h, fun h => decide_eq_false (p := ltP d a b) h⟩
theorem swoS {w : World} {B dims : Nat} (d : Nat) : SWO (ltOf (cmpS (w := w) (B := B) (dims := dims) d)) where
  irrefl x := by rw [ltOfS, belP_no]; exact li_irrefl _
  trans x y z h1 h2 := by rw [ltOfS, belP_iff] at *; exact li_trans h1 h2
  ntrans x y z h1 h2 := by
    rw [ltOfS, belP_no] at *
    exact List.not_lt.2 (List.le_trans (List.not_lt.1 h2) (List.not_lt.1 h1))
/-- the list of a row in memory. -/
theorem flat_at {w : World} {B dims : Nat} [Inhabited (PtS w B dims)] (d : Array (PtS w B dims)) (t : Nat) (h : t < d.size * 2) : (pFlat (d.toList.map (·.1)))[t]? = some ((flatK encS 2 d)[t]!) := by
  have hk : t / 2 < d.size := by omega
  have hp : (d.toList.map (·.1))[t / 2]? = some d[t / 2]!.1 := by
    rw [List.getElem?_map, Array.getElem?_toList, getElem!_pos d (t / 2) hk, Array.getElem?_eq_getElem hk]
    rfl
  obtain ⟨a1, a2⟩ := pFlat_at hp
  rw [get_flatK _ _ _ _ h]
  rcases Nat.mod_two_eq_zero_or_one t with e | e
  · rw [e]
    rw [show t = t / 2 * 2 by omega]
    rw [show t / 2 * 2 / 2 = t / 2 by omega]
    exact a1
  · rw [e]
    rw [show t = t / 2 * 2 + 1 by omega]
    rw [show (t / 2 * 2 + 1) / 2 = t / 2 by omega]
    exact a2
theorem holds_arr {w w' : World} {B dims G off : Nat} [Inhabited (PtS w B dims)] {d : Array (PtS w B dims)} (h : ArrP w' G off (d.toList.map (·.1))) : HoldsK encS 2 w' G off d := by
  intro j hj
  rw [size_flatK] at hj
  exact h.cell j _ (flat_at d j hj)
theorem arr_holds {w w' : World} {B dims G off : Nat} [Inhabited (PtS w B dims)] {d : Array (PtS w B dims)} (h : HoldsK encS 2 w' G off d) (hl : G < w'.heap.size) : ArrP w' G off (d.toList.map (·.1)) := by
  refine ⟨fun j u hu => ?_, hl⟩
  have hj := (List.getElem?_eq_some_iff.1 hu).1
  rw [pFlat_len, List.length_map, Array.length_toList] at hj
  rw [flat_at d j hj] at hu
  injection hu with hu
  subst hu
  exact h j (by rw [size_flatK]; exact hj)
theorem fr_sortW {α : Type} [Inhabited α] (enc : α → List Value) (w : World) (G off n : Nat) (d : Array α) (os : Array Obj) : Fr (Is G) w (sortWorldK enc 2 w G off n d os) := by
  refine ⟨rfl, rfl, rfl, by simp [sortWorldK, grow, putRowK, putRow, mapBlock, Sort.ahead], fun k hk hne => ?_⟩
  have hne : G ≠ k := fun e => hne e.symm
  rw [sortWorldK, heap_grow_old _ _ (by simpa [putRowK, putRow, mapBlock, Sort.ahead] using hk)]
  simp [putRowK, putRow, mapBlock, Sort.ahead, Array.getElem?_modify, hne]
theorem apart_sortW {α : Type} [Inhabited α] (enc : α → List Value) (w : World) (G off n : Nat) (d : Array α) (os : Array Obj) (hG : G < w.heap.size) : Apart2 w (sortWorldK enc 2 w G off n d os) G off (off + d.size * 2) := by
  intro i hi
  have hb : G < (putRowK enc 2 (Sort.ahead w n) G off d).heap.size := by simpa [putRowK, putRow, mapBlock, Sort.ahead] using hG
  constructor
  · rw [sortWorldK, cell?_grow _ _ _ hb, putRowK, cell?_putRow_other _ _ _ _ _ _ (by rw [size_flatK]; exact .inr hi)]
    rfl
  · rw [sortWorldK, frozen?_grow _ _ _ hb, putRowK, putRow, frozen?_mapBlock]
    rfl
end Go.Proofs.Ytpopbkcbplmcaaa
namespace Go.Proofs.Ytpopbkcbplmcaaa
set_option linter.unusedVariables false
set_option linter.unusedSimpArgs false
open Go.RowKit Go.Shelf Go.Lib Go.Sort

theorem cmpP_or (d : Nat) (a b : Pt) : orL [cmpI (a.2.getD d 0) (b.2.getD d 0), cmpL a.2 b.2, cmpI a.1 b.1] = cmpP d a b := by
  unfold cmpP
  simp only [orL]
  by_cases h : cmpI a.1 b.1 = 0 <;> simp [h]
theorem lift_list {α : Type} {q : α → Prop} : ∀ l : List α, (∀ x ∈ l, q x) → ∃ ys : List {x // q x}, ys.map (·.1) = l
  | [], _ => ⟨[], rfl⟩
  | x :: r, h => by
    obtain ⟨ys, e⟩ := lift_list r (fun y hy => h y (List.mem_cons_of_mem _ hy))
    exact ⟨⟨x, h x List.mem_cons_self⟩ :: ys, by rw [List.map_cons, e]⟩
theorem grow3 (W : World) (a b c : Obj) : (((W.alloc a).alloc b).alloc c).drew = grow (W.drewN 1) (#[a] ++ #[b] ++ #[c]) := by
  rw [alloc_eq_grow, alloc_eq_grow, alloc_eq_grow, grow_grow, grow_grow, drew_grow]
  rfl
theorem holdsK_sortW {α : Type} [Inhabited α] {enc : α → List Value} {w : World} {G off n : Nat} {d d' : Array α} {os : Array Obj} (h : HoldsK enc 2 w G off d) (hs : d'.size = d.size) (hG : G < w.heap.size) : HoldsK enc 2 (sortWorldK enc 2 w G off n d' os) G off d' := by
  unfold sortWorldK
  refine holdsK_grow (enc := enc) (k := 2) _ os G off d' ?_ ?_
  · simpa [putRowK, putRow, mapBlock, Sort.ahead] using hG
  · exact holdsK_putRowK (enc := enc) (k := 2) _ G off d d' (holdsK_ahead (enc := enc) (k := 2) w n G off d h) hs
set_option maxRecDepth 100000 in
set_option maxHeartbeats 2000000 in
theorem clos_any (d bx n ca cb B : Nat) (da db : Int) (ra rb : List Int) (Aa Ab : Option Addr) (W : World) (hd : d < n) (hra : ra.length = n) (hrb : rb.length = n) (h1 : n ≤ ca) (h2 : ca ≤ maxLen) (h3 : n ≤ cb) (h4 : cb ≤ maxLen)
    (hA : Rd W B Aa (iz .i64 ra)) (hB : Rd W B Ab (iz .i64 rb)) (hbx : W.cell? ⟨bx, 0, none⟩ = some (.int .i64 (d : Nat))) :
    Calls Try.prog 66 #[.agg #[.int .i64 da, .slice Aa n ca], .agg #[.int .i64 db, .slice Ab n cb], .pointer (some ⟨bx, 0, none⟩)] W (fun en w' => en = .returned (.int .i64 (cmpP d (da, ra) (db, rb))) ∧ ∃ q os', w' = grow (W.drewN q) os') := by
  have HO := hide (cmpP_or d (da, ra) (db, rb))
  obtain ⟨r, hr⟩ : ∃ x, x = cmpP d (da, ra) (db, rb) := ⟨_, rfl⟩
  rw [← hr] at HO ⊢
  dsimp only at HO
  obtain ⟨W2, hW2⟩ : ∃ x, x = (W.alloc (.cells #[.int .i64 da, .slice Aa n ca] 44)).alloc (.cells #[.int .i64 db, .slice Ab n cb] 44) := ⟨_, rfl⟩
  have f2 : Fr No W W2 := by rw [hW2]; exact ((Fr.refl No W).alloc _).alloc _
  obtain ⟨ada, rfl, _, xa⟩ := (hA.fr0 f2).intAt (j := d) (by rw [hra]; exact hd)
  obtain ⟨adb, rfl, _, xb⟩ := (hB.fr0 f2).intAt (j := d) (by rw [hrb]; exact hd)
  obtain ⟨g0, hg0⟩ : ∃ x, x = W.heap.size := ⟨_, rfl⟩
  obtain ⟨g1, hg1⟩ : ∃ x, x = W.heap.size + 1 := ⟨_, rfl⟩
  have ba : W2.heap[g0]? = some (.cells #[.int .i64 da, .slice (some ada) n ca] 44 (0, 0)) := by
    rw [hW2, hg0, heap_alloc_old _ _ (by simp)]; exact heap_alloc_new W _
  have bb : W2.heap[g1]? = some (.cells #[.int .i64 db, .slice (some adb) n cb] 44 (0, 0)) := by
    have := heap_alloc_new (W.alloc (.cells #[.int .i64 da, .slice (some ada) n ca] 44)) (.cells #[.int .i64 db, .slice (some adb) n cb] 44)
    rw [hW2, hg1]; simpa using this
  have ka0 := cell_of_row _ _ 0 _ _ _ ba
  have ka1 := cell_of_row _ _ 1 _ _ _ ba
  have kb0 := cell_of_row _ _ 0 _ _ _ bb
  have kb1 := cell_of_row _ _ 1 _ _ _ bb
  have kx := f2.cell hbx (fun h => h)
  have hdn : (d : Int) < (n : Int) := by omega
  have hd0 : (0 : Int) ≤ (d : Int) := by omega
  have HC1 := hide (cmpI64_any (ra.getD d 0) (rb.getD d 0) W2.drew)
  have HC2 := hide (cmpL_any (some ada) (some adb) n ca cb B B ra rb W2.drew hra hrb h1 h2 h3 h4 (hA.fr0 f2.drew) (hB.fr0 f2.drew))
  have HC3 := hide (cmpInt_any da db W2.drew)
  have HW2 := hide hW2
  have HR := hide hr
  generalize ra.getD d 0 = ya at xa HC1 HO
  generalize rb.getD d 0 = yb at xb HC1 HO
  generalize cmpI ya yb = z1 at HC1 HO
  generalize cmpL ra rb = z2 at HC2 HO
  generalize cmpI da db = z3 at HC3 HO
  have HS : Hid (W2.cell? ⟨g0, 0, none⟩ = some (.int .i64 da) ∧ W2.cell? ⟨g0, 1, none⟩ = some (.slice (some ada) n ca) ∧ W2.cell? ⟨g1, 0, none⟩ = some (.int .i64 db) ∧ W2.cell? ⟨g1, 1, none⟩ = some (.slice (some adb) n cb) ∧ W2.cell? ⟨bx, 0, none⟩ = some (.int .i64 (d : Nat)) ∧ W2.cell? (ada.add d) = some (.int .i64 ya) ∧ W2.cell? (adb.add d) = some (.int .i64 yb)) := hide ⟨ka0, ka1, kb0, kb1, kx, xa, xb⟩
  have HOr := hide (orL_any (some ⟨W2.heap.size, 0, none⟩) 3 3 (W2.heap.size + 1) [z1, z2, z3] ((W2.alloc (.cells #[.int .i64 z1, .int .i64 z2, .int .i64 z3] 3)).drew) rfl (by omega) (by decide) ((Rd.block (heap_alloc_new W2 (.cells #[.int .i64 z1, .int .i64 z2, .int .i64 z3] 3))).fr0 (Fr.refl No _).drew))
  have f3 : Fr No W2 ((W2.alloc (.cells #[.int .i64 z1, .int .i64 z2, .int .i64 z3] 3)).drew) := ((Fr.refl No W2).alloc _).drew
  have HS2 := hide (And.intro (f3.cell ka0 (fun h => h)) (And.intro (f3.cell ka1 (fun h => h)) (And.intro (f3.cell kb0 (fun h => h)) (And.intro (f3.cell kb1 (fun h => h)) (And.intro (f3.cell kx (fun h => h)) (And.intro (f3.cell xa (fun h => h)) (f3.cell xb (fun h => h))))))))
  rw [HO.out] at HOr
  unfold maxLen at h2 h4
  have HG0 := hide hg0
  have HG1 := hide hg1
  clear ba bb ka0 ka1 kb0 kb1 kx xa xb hA hB hbx f2 hra hrb hr hW2 hg0 hg1 f3
  go_enter Try.func66, Try.ntmps66
  go_wp2_with (fail)
  have hz1 : (W.alloc (.cells #[.int .i64 da, .slice (some ada) n ca] 44)).heap.size = g1 := by rw [HG1.out]; simp
  rw [← HW2.out]
  try rw [hz1]
  try rw [← HG1.out]
  rw [← HG0.out]
  clear hz1
  go_region_held3 (fun W => W.cell? ⟨g0, 0, none⟩ = some (.int .i64 da) ∧ W.cell? ⟨g0, 1, none⟩ = some (.slice (some ada) n ca) ∧ W.cell? ⟨g1, 0, none⟩ = some (.int .i64 db) ∧ W.cell? ⟨g1, 1, none⟩ = some (.slice (some adb) n cb) ∧ W.cell? ⟨bx, 0, none⟩ = some (.int .i64 (d : Nat)) ∧ W.cell? (ada.add d) = some (.int .i64 ya) ∧ W.cell? (adb.add d) = some (.int .i64 yb)) (first | exact HS.out | exact HS2.out) (first
    | (go_at_call 68; refine HC1.out.mono ?_; rintro en w' ⟨rfl, rfl⟩)
    | (go_at_call 69; refine HC2.out.mono ?_; rintro en w' ⟨rfl, rfl⟩)
    | (go_at_call 70; refine HC3.out.mono ?_; rintro en w' ⟨rfl, rfl⟩)
    | (go_at_call 67; refine HOr.out.mono ?_; rintro en w' ⟨rfl, rfl⟩))
  all_goals (
    go_wp2
    go_ret
    exact ⟨rfl, 1, _, by rw [HW2.out]; exact grow3 W _ _ _⟩)
set_option maxRecDepth 100000 in
theorem sortPts_any (d dims bx G off n c B : Nat) (ps : List PoL) (w : World) (hps : ps.length = n) (hn : 1 ≤ n) (hn2 : n < 4611686018427387904) (hd : d < dims) (hok : ∀ p ∈ ps, OkPt w B dims p) (harr : ArrP w G off ps) (hB : B ≤ G) (hbx : w.cell? ⟨bx, 0, none⟩ = some (.int .i64 (d : Nat))) (hne : bx ≠ G) :
    Calls Try.prog 52 #[.slice (some ⟨G, off, none⟩) n c, .func (.func 66) #[] #[.pointer (some ⟨bx, 0, none⟩)]] w (fun en w' => en = .returned (.tuple #[]) ∧ ∃ ps', ps'.Perm ps ∧ ps'.map (·.1) = sortP d (ps.map (·.1)) ∧ ArrP w' G off ps' ∧ Fr (Is G) w w' ∧ Apart2 w w' G off (off + n * 2)) := by
  obtain ⟨ys, hys⟩ : ∃ ys : List (PtS w B dims), ys.map (·.1) = ps := lift_list ps hok
  have hyl : ys.length = n := by rw [← hps, ← hys, List.length_map]
  haveI : Inhabited (PtS w B dims) := ⟨ys.head (by intro e; rw [e] at hyl; simp at hyl; omega)⟩
  obtain ⟨d0, hd0⟩ : ∃ d0 : Array (PtS w B dims), d0 = ys.toArray := ⟨_, rfl⟩
  have hsz : d0.size = n := by rw [hd0]; simpa using hyl
  have hl0 : d0.toList.map (·.1) = ps := by rw [hd0]; simpa using hys
  have hH : HoldsK (encS (w := w) (B := B) (dims := dims)) 2 w G off d0 := holds_arr (by rw [hl0]; exact harr)
  have eg : ∀ args w, (callFunc 66 args).run Try.prog w = .ok (.enter 66 args) w := enters_of Try.func66 (by kernel_rfl) rfl
  have hcmp : CmpLays Try.prog 66 #[.pointer (some ⟨bx, 0, none⟩)] (encS (w := w) (B := B) (dims := dims)) 2 (cmpS (w := w) (B := B) (dims := dims) d) G off d0.size w := by
    intro m os dk hdk x y
    have f := fr_sortW (encS (w := w) (B := B) (dims := dims)) w G off m dk os
    have hS : ∀ k, k < B → ¬ Is G k := fun k hk e => by have e : k = G := e; omega
    have h := clos_any d bx dims x.1.2.2 y.1.2.2 B x.1.1.1 y.1.1.1 x.1.1.2 y.1.1.2 x.1.2.1 y.1.2.1 (sortWorldK (encS (w := w) (B := B) (dims := dims)) 2 w G off m dk os) hd x.2.1 y.2.1 (by have h1 := x.2.1; have h2 := x.2.2.1; omega) x.2.2.2.1 (by have h1 := y.2.1; have h2 := y.2.2.1; omega) y.2.2.2.1 (x.2.2.2.2.fr f hS) (y.2.2.2.2.fr f hS) (f.cell hbx (fun e => hne e))
    have ex : (encS x).toArray = #[.int .i64 x.1.1.1, .slice x.1.2.1 dims x.1.2.2] := by unfold encS pRow; rw [x.2.1]
    have ey : (encS y).toArray = #[.int .i64 y.1.1.1, .slice y.1.2.1 dims y.1.2.2] := by unfold encS pRow; rw [y.2.1]
    rw [ex, ey]
    exact h
  have hc := AnyQ.slices_SortFunc Try.sortBP 2 (fun _ => by kernel_rfl) (fun _ => by kernel_rfl) (encS (w := w) (B := B) (dims := dims)) encS_len encS_one (cmpS (w := w) (B := B) (dims := dims) d) (swoS d) 66 #[.pointer (some ⟨bx, 0, none⟩)] G off c d0 w eg hcmp hH harr.lt (by rw [hsz]; exact hn2)
  rw [hsz] at hc
  refine hc.mono ?_
  rintro en w' ⟨rfl, d', nn, os, hp, hs, rfl⟩
  have hs' : d'.size = n := by rw [hp.1, hsz]
  have hperm : d'.toList.Perm d0.toList := by
    have h := hp.2.2
    rw [show d'.extract 0 n = d' by rw [← hs']; exact Array.extract_size, show d0.extract 0 n = d0 by rw [← hsz]; exact Array.extract_size] at h
    exact h
  refine ⟨rfl, d'.toList.map (·.1), ?_, ?_, ?_, fr_sortW _ _ _ _ _ _ _, ?_⟩
  · rw [← hl0]; exact hperm.map _
  · refine sortP_uniq ?_ ?_
    · rw [← hl0]; exact (hperm.map _).map _
    · rw [List.map_map, List.pairwise_map, List.pairwise_iff_getElem]
      intro i j hi hj hij
      have hjn : j < d'.size := by simpa using hj
      have hin : i < d'.size := by omega
      have h := hs i j (Nat.zero_le _) hij (by rw [← hs']; exact hjn)
      rw [ltOfS] at h
      rw [leP_bel]
      simp only [Function.comp, Array.getElem_toList]
      rw [getElem!_pos d' j hjn, getElem!_pos d' i hin] at h
      rw [h]
      rfl
  · exact arr_holds (holdsK_sortW hH (by rw [hs', hsz]) harr.lt) (Nat.lt_of_lt_of_le harr.lt (fr_sortW _ _ _ _ _ _ _).size)
  · have := apart_sortW (encS (w := w) (B := B) (dims := dims)) w G off nn d' os harr.lt
    rw [hs'] at this
    exact this
end Go.Proofs.Ytpopbkcbplmcaaa
namespace Go.Proofs.Ytpopbkcbplmcaaa
set_option linter.unusedVariables false
set_option linter.unusedSimpArgs false
open Go.RowKit

theorem far_wrap {lo hi : Int} (h1 : -9223372036854775808 ≤ lo) (h2 : hi ≤ 9223372036854775807) (h3 : lo ≤ hi) : IntKind.u64.wrap (IntKind.u64.wrap hi - IntKind.u64.wrap lo) = (((hi - lo).toNat : Nat) : Int) := by
  simp only [IntKind.wrap, IntKind.bits, IntKind.signed]
  simp
  omega
theorem lowP_in {d : Nat} : ∀ {l : List Pt} {m : Int}, (∀ p ∈ l, InI p.2) → -9223372036854775808 ≤ m → -9223372036854775808 ≤ lowP d l m
  | [], m, _, h => h
  | p :: r, m, hp, h => by
    rw [lowP]
    refine lowP_in (fun q hq => hp q (List.mem_cons_of_mem _ hq)) ?_
    split
    · by_cases hd : d < p.2.length
      · have := hp p List.mem_cons_self (p.2.getD d 0) (by rw [List.getD, List.getElem?_eq_getElem hd]; exact List.getElem_mem hd)
        omega
      · rw [List.getD, List.getElem?_eq_none (by omega)]; simp
    · exact h
theorem highP_in {d : Nat} : ∀ {l : List Pt} {m : Int}, (∀ p ∈ l, InI p.2) → m ≤ 9223372036854775807 → highP d l m ≤ 9223372036854775807
  | [], m, _, h => h
  | p :: r, m, hp, h => by
    rw [highP]
    refine highP_in (fun q hq => hp q (List.mem_cons_of_mem _ hq)) ?_
    split
    · by_cases hd : d < p.2.length
      · have := hp p List.mem_cons_self (p.2.getD d 0) (by rw [List.getD, List.getElem?_eq_getElem hd]; exact List.getElem_mem hd)
        omega
      · rw [List.getD, List.getElem?_eq_none (by omega)]; simp
    · exact h
theorem wid_gt {l : List Pt} {d ff : Nat} (h : d = 0 ∧ ff = 0 ∨ ff = farP (widF l d) l) (hf : ff < farP d l) : widF l (d + 1) = d := by
  rw [widF]
  rcases h with ⟨rfl, _⟩ | h
  · rw [if_neg (by simp [widF])]; rfl
  · rw [if_pos (by omega)]
theorem wid_le {l : List Pt} {d ff : Nat} (h : d = 0 ∧ ff = 0 ∨ ff = farP (widF l d) l) (hf : ¬ ff < farP d l) : widF l (d + 1) = widF l d ∧ ff = farP (widF l d) l := by
  rw [widF]
  rcases h with ⟨rfl, rfl⟩ | h
  · rw [if_neg (by simp [widF])]
    exact ⟨rfl, by simp only [widF]; omega⟩
  · rw [if_neg (by omega)]
    exact ⟨rfl, h⟩
set_option maxRecDepth 100000 in
set_option maxHeartbeats 2000000 in
theorem widest_any (A : Option Addr) (n c B dims : Nat) (l : List Po) (w : World) (hl : l.length = n) (hn1 : 1 ≤ n) (hn : n ≤ c) (hc : c ≤ maxLen) (hB : B ≤ w.heap.size) (hd : ∀ p ∈ l, p.2.length = dims ∧ InI p.2) (hdm : dims ≤ 4) (hr : RdPo w B A l) :
    Calls Try.prog 55 #[.int .i64 (dims : Nat), .slice A n c] w (fun en w' => en = .returned (.int .i64 ((widF l dims : Nat) : Int)) ∧ Fr No w w') := by
  have HL := hide hl
  have HR := hide hr
  have HD := hide hd
  unfold maxLen at hc
  clear hl hr hd
  go_enter Try.func55, Try.ntmps55
  go_wp2
  go_loopw [5, 6, 7, 8, 9, 11, 12, 14] (fun b f _ _ _ _ _ i wr => ∃ (k bb ff : Nat), k ≤ dims ∧ i = .int .i64 (k : Nat) ∧ b = .int .i64 (bb : Nat) ∧ f = .int .u64 (ff : Nat) ∧ Hid (bb = widF l k) ∧ Hid (k = 0 ∧ ff = 0 ∨ ff = farP bb l) ∧ Hid (Fr No w wr)) (fun _ _ _ _ _ _ _ i _ => dims - (intOf i).toNat)
  case atStart => exact ⟨0, 0, 0, by omega, by go_num, by go_num, by go_num, hide rfl, hide (.inl ⟨rfl, rfl⟩), hide (Fr.refl _ _)⟩
  case round =>
    obtain ⟨wo, rfl⟩ : ∃ wo : World, wo = wr := ⟨_, rfl⟩
    obtain ⟨d, bb, ff, hdk, rfl, rfl, rfl, HBb, HFf, HF⟩ := hrel
    by_cases hlt : d < dims
    · have hl0 : 0 < l.length := by rw [HL.out]; omega
      obtain ⟨ad, A0, c0, rfl, _, k0, k1, e1, e2, hrk⟩ := (HR.out.fr0 HF.out).at hl0
      have hp0 := HD.out _ (getP_mem hl0)
      have hfar : farP d l = (highP d l ((l.getD 0 noPt).2.getD d 0) - lowP d l ((l.getD 0 noPt).2.getD d 0)).toNat := rfl
      have e00 : l.getD 0 noPt = l.getD 0 noPo := rfl
      rw [e00] at hfar
      obtain ⟨p0, hp0e⟩ : ∃ x, x = l.getD 0 noPo := ⟨_, rfl⟩
      rw [← hp0e] at k0 k1 e1 hrk hp0 hfar
      rw [hp0.1] at k1 e1
      obtain ⟨ad0, rfl, _, hx0⟩ := hrk.intAt (j := d) (by rw [hp0.1]; exact hlt)
      have hx0I := hp0.2 (p0.2.getD d 0) (by rw [List.getD, List.getElem?_eq_getElem (by rw [hp0.1]; exact hlt)]; exact List.getElem_mem _)
      obtain ⟨x0, hx0e⟩ : ∃ x, x = p0.2.getD d 0 := ⟨_, rfl⟩
      rw [← hx0e] at hx0 hx0I hfar
      rw [Nat.zero_mul, Addr.add_zero'] at k0 k1
      have HFar := hide hfar
      unfold maxLen at e2
      clear hl0 hp0 hfar e00 hp0e hrk hx0e
      go_wp2_with (fail)
      go_quiet (fail)
      have HF1 := hide (HF.out.drewN nq)
      obtain ⟨w1, hw1⟩ : ∃ x, x = wo.drewN nq := ⟨_, rfl⟩
      rw [← hw1] at HF1 ⊢
      clear hw1 k0 k1 hx0
      go_wp2_with (fail)
      go_loopw [8, 9, 11, 33] (fun lo hi _ i wr => ∃ (k : Nat) (a b : Int), k ≤ n ∧ i = .int .i64 (k : Nat) ∧ lo = .int .i64 a ∧ hi = .int .i64 b ∧ Hid (a = lowP d (l.take k) x0) ∧ Hid (b = highP d (l.take k) x0) ∧ Hid (Fr No w wr)) (fun _ _ _ i _ => n - (intOf i).toNat)
      case atStart => exact ⟨0, x0, x0, by omega, by go_num, rfl, rfl, hide (by rw [List.take_zero]; rfl), hide (by rw [List.take_zero]; rfl), HF1⟩
      case round =>
        obtain ⟨wx, rfl⟩ : ∃ wo : World, wo = wr := ⟨_, rfl⟩
        obtain ⟨k, a, b, hk, rfl, rfl, rfl, HLo, HHi, HFk⟩ := hrel
        by_cases hlk : k < n
        · have hk1 : k < l.length := by rw [HL.out]; exact hlk
          obtain ⟨ad', A1, c1, e, _, k0, k1, g1, g2, hrk⟩ := (HR.out.fr0 HFk.out).at hk1
          cases e
          have hpk := HD.out _ (getP_mem hk1)
          have htk := take_snocP hk1
          obtain ⟨pk, hpke⟩ : ∃ x, x = l.getD k noPo := ⟨_, rfl⟩
          rw [← hpke] at k0 k1 g1 hrk hpk htk
          rw [hpk.1] at k1 g1
          obtain ⟨ad1, rfl, _, hx1⟩ := hrk.intAt (j := d) (by rw [hpk.1]; exact hlt)
          obtain ⟨dk, hdk⟩ : ∃ x, x = pk.1 := ⟨_, rfl⟩
          rw [← hdk] at k0
          have hlo : lowP d (l.take (k + 1)) x0 = (if pk.2.getD d 0 < a then pk.2.getD d 0 else a) := by rw [htk, lowP_snoc, ← HLo.out]
          have hhi : highP d (l.take (k + 1)) x0 = (if b < pk.2.getD d 0 then pk.2.getD d 0 else b) := by rw [htk, highP_snoc, ← HHi.out]
          obtain ⟨x1, hx1e⟩ : ∃ x, x = pk.2.getD d 0 := ⟨_, rfl⟩
          rw [← hx1e] at hx1 hlo hhi
          have HLo' := hide hlo
          have HHi' := hide hhi
          unfold maxLen at g2
          clear hk1 hpk htk hpke hrk hdk hlo hhi hx1e
          go_wp2_with (fail)
          obtain ⟨w2, hw2⟩ : ∃ x, x = wx.alloc (.cells #[.int .i64 dk, .slice (some ad1) dims c1] 44) := ⟨_, rfl⟩
          obtain ⟨g, hg⟩ : ∃ x, x = wx.heap.size := ⟨_, rfl⟩
          have hb2 : w2.heap[g]? = some (.cells #[.int .i64 dk, .slice (some ad1) dims c1] 44 (0, 0)) := by rw [hw2, hg]; exact heap_alloc_new wx _
          have f2 : Fr No wx w2 := by rw [hw2]; exact (Fr.refl No wx).alloc _
          have q1 := cell_of_row _ _ 1 _ _ _ hb2
          have q2 := f2.cell hx1 (fun h => h)
          have HF2 := hide (HFk.out.tr f2)
          rw [← hw2, ← hg]
          clear hw2 hg hb2 f2 k0 k1 hx1
          go_quiet (fail)
          have HF3 := hide (HF2.out.drewN nq)
          obtain ⟨w3, hw3⟩ : ∃ x, x = w2.drewN nq := ⟨_, rfl⟩
          rw [← hw3] at HF3 ⊢
          clear hw3 q1 q2
          go_wp2_with (fail)
          go_roundw
          case rel => exact ⟨k + 1, _, _, by omega, by go_num, rfl, rfl, hide (by have h := HLo'.out; first | exact h.symm | (rw [h]; split <;> omega)), hide (by have h := HHi'.out; first | exact h.symm | (rw [h]; split <;> omega)), HF3⟩
          case measure => simp [intOf]; omega
        · obtain rfl : k = n := by omega
          have hall : l.take k = l := List.take_of_length_le (by rw [HL.out]; exact Nat.le_refl _)
          rw [hall] at HLo HHi
          have hab : a ≤ b := by
            have h1 := lowP_le d l x0
            have h2 := highP_ge d l x0
            rw [HLo.out, HHi.out]
            omega
          have ha : -9223372036854775808 ≤ a := by rw [HLo.out]; exact lowP_in (fun p hp => (HD.out p hp).2) hx0I.1
          have hb : b ≤ 9223372036854775807 := by rw [HHi.out]; exact highP_in (fun p hp => (HD.out p hp).2) hx0I.2
          have hw := far_wrap ha hb hab
          have hff : farP d l = (b - a).toNat := by rw [HFar.out, ← HLo.out, ← HHi.out]
          obtain ⟨f2, hf2⟩ : ∃ x, x = (b - a).toNat := ⟨_, rfl⟩
          rw [← hf2] at hw hff
          have HFf2 := hide hff
          have hfb : f2 < 18446744073709551616 := by omega
          clear hall hf2 hff hlk
          by_cases hgt : ff < f2
          · have d1 : decide (ff < f2) = true := decide_eq_true hgt
            have d2 : decide ((ff : Int) < (f2 : Int)) = true := decide_eq_true (by omega)
            have hwd : widF l (d + 1) = d := wid_gt (by rw [← HBb.out]; exact HFf.out) (by rw [HFf2.out]; exact hgt)
            go_wp2_with (fail)
            refine ⟨⟨d + 1, d, f2, by omega, by go_num, rfl, rfl, hide hwd.symm, hide (.inr HFf2.out.symm), HFk⟩, ?_⟩
            simp [intOf]; omega
          · have d1 : decide (ff < f2) = false := decide_eq_false hgt
            have d2 : decide ((ff : Int) < (f2 : Int)) = false := decide_eq_false (by omega)
            have hwd := wid_le (l := l) (d := d) (by rw [← HBb.out]; exact HFf.out) (by rw [HFf2.out]; exact hgt)
            rw [← HBb.out] at hwd
            go_wp2_with (fail)
            refine ⟨⟨d + 1, bb, ff, by omega, by go_num, rfl, rfl, hide hwd.1.symm, hide (.inr hwd.2), HFk⟩, ?_⟩
            simp [intOf]; omega
    · obtain rfl : d = dims := by omega
      go_wp2
      go_ret
      exact ⟨by rw [← HBb.out]; rfl, HF.out⟩
end Go.Proofs.Ytpopbkcbplmcaaa
