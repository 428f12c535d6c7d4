/- Several texts in one: StoLv, StoIt, StoBu. -/
import Derived.Test.YtpnhnnhocekchaaK10
import Derived.Deep.RegionLaw
import Derived.Deep.DeepCutAuto
import Derived.Deep.RegionHeld3
namespace Go.Proofs.Ytpnhnnhocekchaa
set_option linter.unusedVariables false
set_option linter.unusedSimpArgs false
open Go.RowKit

/-- a store at hand. -/
def cntC (cs : List ChV) : List (Nat × List UInt8) := cs.map fun c => (c.2.length, c.1)
def StoM (w : World) (base g : Nat) (cs : List ChV) : Prop :=
  ∃ v m N ps, w.heap[g]? = some (.cells #[v, .int .i64 (N : Nat)] 115 (0, 0)) ∧ base ≤ g ∧ OwnC w base v m ps ∧ ps.map tri = chs 0 (cntC cs) ∧ N = (docsC cs).length ∧ N ≤ 16384 ∧ (∀ c ∈ cs, chunkOk c.1 c.2.length c.2)
theorem StoM.off {S : Nat → Prop} {w w' : World} {base g : Nat} {cs : List ChV} (h : StoM w base g cs) (f : Fr S w w') (h0 : Off S w 115) (h1 : Off S w 106) (h2 : Off S w 5) : StoM w' base g cs := by
  obtain ⟨v, m, N, ps, q1, q2, q3, q4, q5, q6⟩ := h
  exact ⟨v, m, N, ps, f.blk q1 (h0 _ _ _ q1), q2, q3.off f h1 h2, q4, q5, q6⟩
theorem StoM.fr0 {w w' : World} {base g : Nat} {cs : List ChV} (h : StoM w base g cs) (f : Fr No w w') : StoM w' base g cs := h.off f (fun _ _ _ _ h => h) (fun _ _ _ _ h => h) (fun _ _ _ _ h => h)
def OpenPost (w : World) (bs : List UInt8) (en : Ending) (w' : World) : Prop :=
  ∃ (p : Option Addr) (e : Int), en = .returned (.tuple #[.pointer p, .int .i64 e]) ∧ Fr No w w' ∧
    ((∃ ks cs g, OpenOk bs ks cs ∧ p = some ⟨g, 0, none⟩ ∧ e = 0 ∧ StoM w' w.heap.size g cs) ∨ ((∀ ks cs, ¬ OpenOk bs ks cs) ∧ p = none ∧ e = 20))

def mkD (D : Nat) : Deferred := { target := .collected D, args := #[] }
theorem leave_marks {F : Fence} {n : Nat} {P : Program} {fn : Func} {tmps : Array Value} {R : Ending → World → Prop} {rest : List Deferred} {u : FrameMode} (hu : u ≠ .run) :
    ∀ (Ds : List Nat) (W : World), Ds.Nodup → (∀ D ∈ Ds, W.heap[D]? = some (.deferred (some []))) → (∀ W', Fr (fun k => k ∈ Ds) W W' → LeavesInM F n P fn tmps R rest u W') → LeavesInM F n P fn tmps R (Ds.map mkD ++ rest) u W
  | [], W, _, _, h => h W ((Fr.refl _ W))
  | D :: Ds, W, hn, hd, h => by
    refine ⟨hu, .inl ⟨D, _, rfl, run_takeDeferred (hd D List.mem_cons_self), ?_⟩⟩
    have f1 : Fr (fun k => k = D) W (W.putObj D (.deferred none)) := (Fr.of_grown (grownBy_putObj' W D (.deferred none))).mono (fun i _ e => (Option.some.inj e).symm)
    refine leave_marks hu Ds _ (List.nodup_cons.1 hn).2 (fun E hE => ?_) (fun W' f => h W' ?_)
    · exact f1.blk (hd E (List.mem_cons_of_mem _ hE)) (fun e => by
        have e : E = D := e
        subst e
        exact (List.nodup_cons.1 hn).1 hE)
    · exact (f1.mono (fun i _ e => by have e : i = D := e; subst e; exact List.mem_cons_self)).trans f (fun i _ hi => List.mem_cons_of_mem _ hi)

/-- the deferred call. -/
def clD (b1 b2 : Nat) : Deferred := { target := .fn (.func 75) #[.pointer (some ⟨b1, 0, none⟩), .pointer (some ⟨b2, 0, none⟩)], args := #[] }
/-- marks that are not yet taken over. -/
structure Marks (w W : World) (Ds : List Nat) : Prop where
  nd : Ds.Nodup
  at_ : ∀ D ∈ Ds, w.heap.size ≤ D ∧ W.heap[D]? = some (.deferred (some []))
theorem Marks.nil (w W : World) : Marks w W [] := ⟨List.nodup_nil, (fun D h => by cases h)⟩
theorem Marks.off {S : Nat → Prop} {w W W' : World} {Ds : List Nat} (h : Marks w W Ds) (f : Fr S W W') (hS : ∀ k, W.heap[k]? = some (.deferred (some [])) → ¬ S k) : Marks w W' Ds :=
  ⟨h.nd, fun D hD => ⟨(h.at_ D hD).1, f.blk (h.at_ D hD).2 (hS _ (h.at_ D hD).2)⟩⟩
theorem Marks.cons {w W0 W : World} {Ds : List Nat} {D : Nat} (h : Marks w W Ds) (h0 : Marks w W0 Ds) (hD : W0.heap.size ≤ D) (hw : w.heap.size ≤ W0.heap.size) (hk : W.heap[D]? = some (.deferred (some []))) : Marks w W (D :: Ds) := by
  refine ⟨List.nodup_cons.2 ⟨fun hm => ?_, h.nd⟩, fun E hE => ?_⟩
  · have := (Array.getElem?_eq_some_iff.1 (h0.at_ D hm).2).1
    omega
  · rcases List.mem_cons.1 hE with hE | hE
    · subst hE; exact ⟨Nat.le_trans hw hD, hk⟩
    · exact h.at_ E hE

theorem leave_bad {n : Nat} {tmps : Array Value} {w W : World} {bs : List UInt8} {b1 b2 : Nat} {v1 v2 : Value} {Ds : List Nat} (ht2 : tmps[2]? = some (.pointer (some ⟨b1, 0, none⟩))) (ht3 : tmps[3]? = some (.pointer (some ⟨b2, 0, none⟩))) (hne : b1 ≠ b2) (hb1 : w.heap.size ≤ b1) (hb2 : w.heap.size ≤ b2)
    (h1 : W.heap[b1]? = some (.cells #[v1] 62 (0, 0))) (h2 : W.heap[b2]? = some (.cells #[v2] 28 (0, 0))) (hF : Fr No w W) (hM : Marks w W Ds) (hno : ∀ ks cs, ¬ OpenOk bs ks cs) :
    LeavesInM Fence.wide n Try.prog Try.f43 tmps (OpenPost w bs) (Ds.map mkD ++ [clD b1 b2]) (.panicking chainC) W := by
  refine leave_marks (by simp) Ds W hM.nd (fun D hD => (hM.at_ D hD).2) fun W' f => ?_
  have k1 := f.blk h1 (fun h => by have := (hM.at_ b1 h).2; rw [h1] at this; cases this)
  have k2 := f.blk h2 (fun h => by have := (hM.at_ b2 h).2; rw [h2] at this; cases this)
  have c1 : W'.cell? ⟨b1, 0, none⟩ = some v1 := cell_of_row _ _ 0 _ _ _ k1
  have c2 : W'.cell? ⟨b2, 0, none⟩ = some v2 := cell_of_row _ _ 0 _ _ _ k2
  have z1 : W'.frozen? ⟨b1, 0, none⟩ = false := frozen_of_row _ _ _ _ _ k1
  have z2 : W'.frozen? ⟨b2, 0, none⟩ = false := frozen_of_row _ _ _ _ _ k2
  have hF' : Fr No w W' := hF.trans f (fun i hi hm => by have := (hM.at_ i hm).1; omega)
  have eg : ∀ args w, (callFunc 75 args).run Try.prog w = .ok (.enter 75 args) w := enters_of Try.func75 (by kernel_rfl) rfl
  refine ⟨by simp, .inr ⟨(by intro h; cases h), _, _, 75, #[.pointer (some ⟨b1, 0, none⟩), .pointer (some ⟨b2, 0, none⟩)], rfl, by simp [clD, invoke, go_sem, eg], (fun _ _ => trivial), ?_⟩⟩
  refine (rec_bad (n - 1) b1 b2 v1 v2 W' hne c1 c2 z1 z2).mono ?_
  rintro e u' w'' ⟨rfl, rfl, rfl⟩
  show LeavesIn _ _ _ _ _ _ _ _ _
  have a1 : (((W'.alloc (.cells #[] 111)).setCell ⟨b1, 0, none⟩ (.pointer none)).setCell ⟨b2, 0, none⟩ (.int .i64 20)).cell? ⟨b1, 0, none⟩ = some (.pointer none) :=
    (World.cell?_setCell_other _ ⟨b2, 0, none⟩ ⟨b1, 0, none⟩ _ (by intro h; injection h; exact hne (by rename_i h _ _; exact h.symm))).trans (World.cell?_setCell_same' _ ⟨b1, 0, none⟩ _ (by rw [((Fr.refl No W').alloc _).cell c1 (fun h => h)]; rfl))
  have a2 : (((W'.alloc (.cells #[] 111)).setCell ⟨b1, 0, none⟩ (.pointer none)).setCell ⟨b2, 0, none⟩ (.int .i64 20)).cell? ⟨b2, 0, none⟩ = some (.int .i64 20) :=
    World.cell?_setCell_same' _ ⟨b2, 0, none⟩ _ (by rw [World.cell?_setCell_other _ ⟨b1, 0, none⟩ ⟨b2, 0, none⟩ _ (by intro h; injection h; exact hne (by assumption)), ((Fr.refl No W').alloc _).cell c2 (fun h => h)]; rfl)
  have hFe : Fr No w (((W'.alloc (.cells #[] 111)).setCell ⟨b1, 0, none⟩ (.pointer none)).setCell ⟨b2, 0, none⟩ (.int .i64 20)) := ((hF'.alloc _).setCell (p := ⟨b1, 0, none⟩) (fun h => by have h : b1 < w.heap.size := h; omega) _).setCell (p := ⟨b2, 0, none⟩) (fun h => by have h : b2 < w.heap.size := h; omega) _
  generalize ((W'.alloc (.cells #[] 111)).setCell ⟨b1, 0, none⟩ (.pointer none)).setCell ⟨b2, 0, none⟩ (.int .i64 20) = Z at a1 a2 hFe
  refine ⟨.tuple #[.pointer none, .int .i64 20], ?_, none, 20, rfl, hFe, .inr ⟨hno, rfl, rfl⟩⟩
  simp [results, Try.f43, go_sem, ht2, ht3, a1, a2]
theorem leave_ok {n : Nat} {tmps : Array Value} {w W : World} {bs : List UInt8} {b1 b2 g : Nat} {Ds : List Nat} {ks : List (Nat × Nat)} {cs : List ChV} (ht2 : tmps[2]? = some (.pointer (some ⟨b1, 0, none⟩))) (ht3 : tmps[3]? = some (.pointer (some ⟨b2, 0, none⟩))) (hb1 : w.heap.size ≤ b1) (hb2 : w.heap.size ≤ b2)
    (h1 : W.heap[b1]? = some (.cells #[.pointer (some ⟨g, 0, none⟩)] 62 (0, 0))) (h2 : W.heap[b2]? = some (.cells #[.int .i64 0] 28 (0, 0))) (hF : Fr No w W) (hM : Marks w W Ds) (hok : OpenOk bs ks cs) (hst : StoM W w.heap.size g cs) :
    LeavesInM Fence.wide n Try.prog Try.f43 tmps (OpenPost w bs) (Ds.map mkD ++ [clD b1 b2]) .returning W := by
  refine leave_marks (by simp) Ds W hM.nd (fun D hD => (hM.at_ D hD).2) fun W' f => ?_
  have k1 := f.blk h1 (fun h => by have := (hM.at_ b1 h).2; rw [h1] at this; cases this)
  have k2 := f.blk h2 (fun h => by have := (hM.at_ b2 h).2; rw [h2] at this; cases this)
  have hF' : Fr No w W' := hF.trans f (fun i hi hm => by have := (hM.at_ i hm).1; omega)
  have hS' : StoM W' w.heap.size g cs := by
    have ho : ∀ t, Off (fun k => k ∈ Ds) W t := fun t k cs fz hk hm => by have := (hM.at_ k hm).2; rw [hk] at this; cases this
    exact hst.off f (ho _) (ho _) (ho _)
  have eg : ∀ args w, (callFunc 75 args).run Try.prog w = .ok (.enter 75 args) w := enters_of Try.func75 (by kernel_rfl) rfl
  refine ⟨by simp, .inr ⟨(by intro h; cases h), _, _, 75, #[.pointer (some ⟨b1, 0, none⟩), .pointer (some ⟨b2, 0, none⟩)], rfl, by simp [clD, invoke, go_sem, eg], (fun _ _ => trivial), ?_⟩⟩
  refine (rec_ok (n - 1) b1 b2 W').mono ?_
  rintro e u' w'' ⟨rfl, rfl, rfl⟩
  show LeavesIn _ _ _ _ _ _ _ _ _
  have a1 : (W'.alloc (.cells #[] 111)).cell? ⟨b1, 0, none⟩ = some (.pointer (some ⟨g, 0, none⟩)) := ((Fr.refl No W').alloc _).cell (cell_of_row _ _ 0 _ _ _ k1) (fun h => h)
  have a2 : (W'.alloc (.cells #[] 111)).cell? ⟨b2, 0, none⟩ = some (.int .i64 0) := ((Fr.refl No W').alloc _).cell (cell_of_row _ _ 0 _ _ _ k2) (fun h => h)
  have hFe : Fr No w (W'.alloc (.cells #[] 111)) := hF'.alloc _
  have hSe := hS'.fr0 ((Fr.refl No W').alloc (.cells #[] 111))
  generalize W'.alloc (.cells #[] 111) = Z at a1 a2 hFe hSe
  refine ⟨.tuple #[.pointer (some ⟨g, 0, none⟩), .int .i64 0], ?_, some ⟨g, 0, none⟩, 0, rfl, hFe, .inl ⟨ks, cs, g, hok, rfl, rfl, hSe⟩⟩
  simp [results, Try.f43, go_sem, ht2, ht3, a1, a2]
end Go.Proofs.Ytpnhnnhocekchaa
namespace Go.Proofs.Ytpnhnnhocekchaa
set_option linter.unusedVariables false
set_option linter.unusedSimpArgs false
open Go.RowKit
attribute [local go_sem] Oper.semAt_some

theorem Try.infoI64b : (Try.prog.info? 2).map (fun i => (i.zero, i.size, i.bytes)) = some (some (.int .i64 0), 1, 8) := by kernel_rfl

theorem docS_of {bs : List UInt8} {b n0 a1 : Nat} {e1 : Int} (h : sizeS bs b 0 64 = (n0, a1, e1)) : docS bs b = if e1 = 0 then entsS bs n0 a1 else none := by
  unfold docS
  rw [h]
theorem chunk_no {bs : List UInt8} {k q b : Nat} {l : List (List EntV)} (hq : q < k) (h : docsS bs q 0 = some (l, b)) (h2 : docS bs b = none) : ∀ ds, ¬ chunkOk bs k ds := by
  intro ds hd
  have h3 : docsS bs (q + 1) 0 = none := by rw [docsS_some h, h2]
  have h4 := docsS_none h3 k hq
  unfold chunkOk at hd
  rw [h4] at hd
  cases hd
/-- what follows, under a name: for 'go_cut' where the statement is the last of its sequence. -/
theorem wp_named {P : Program} {s : Code} {Q : Exit → Act → World → Prop} {a : Act} {w : World} (h : ∀ K : Act → World → Prop, (∀ a' w', Q .normal a' w' → K a' w') → s.wp P (Exit.then K Q) a w) : s.wp P Q a w := by
  refine wp_mono (h (Q .normal) (fun _ _ h => h)) ?_
  intro e a' w' hq
  cases e <;> exact hq

set_option maxRecDepth 100000 in
set_option maxHeartbeats 16000000 in
theorem docs1_in (fr : Nat) (hn : 1 ≤ fr) (G m c from_ to_ k : Nat) (A : Option Addr) (bs : List UInt8) (B : Nat) (w : World) (hbox : w.heap[G]? = some (.cells #[.int .i64 (from_ : Nat), .int .i64 (to_ : Nat), .slice A m c] 106 (0, 0))) (hto : to_ = from_ + k) (hl : bs.length = m) (hm : m ≤ c) (hc : c ≤ maxLen) (hb : m ≤ 140737488355328) (hB : B ≤ w.heap.size) (hr : Rd w B A (by8 bs)) (hfk : to_ ≤ 16384) :
    SeqMem Fence.wide fr Try.prog 104 #[.pointer (some ⟨G, 0, none⟩)] encX 131 KpE (fun x W => OwnE W w.heap.size x.A x.c x.d) (DocsAll bs from_ k) (DocsPre bs from_) (fun _ => ∀ ds, ¬ chunkOk bs k ds) chainC k w := by
  intro l J Jx W hW hJ hJx hY h0
  obtain ⟨i0, hi, hz, hsz, hby⟩ := info_parts Try.infoI64b
  obtain ⟨iE, hiE, hzE, hszE, hbyE⟩ := info_parts Try.infoEnt
  have hbx := hW.blk hbox (fun h => h)
  have c0 : W.cell? ⟨G, 0, none⟩ = some (.int .i64 (from_ : Nat)) := cell_of_row _ _ 0 _ _ _ hbx
  have c2 : W.cell? ⟨G, 2, none⟩ = some (.slice A m c) := cell_of_row _ _ 2 _ _ _ hbx
  have HNew := hide (newReader_any A m c B bs W hl hm hc hb (Nat.le_trans hB hW.size) (hr.fr0 hW))
  have HBx := hide hbx
  have HY := hide hY
  have HJ := hide hJ
  have HJ0 := hide h0
  have HWs := hide hW.size
  have HTo := hide hto
  have hGlt := (Array.getElem?_eq_some_iff.1 hbx).1
  have HGlt := hide hGlt
  clear hbx hbox hY hJ hJx h0 hW hr hl hto hGlt
  refine callsIn_of_wp Try.func104 rfl trivial ?_ rfl
  simp only [Try.ntmps104, List.size_toArray, List.length_cons, List.length_nil, Nat.reduceAdd, Nat.reduceSub, Array.replicate_succ, Array.replicate_zero, List.push_toArray, List.append_toArray, List.nil_append, List.cons_append]
  gi_wp2_with (refine ⟨trivial, ?_⟩; gi_at_call 61; refine (callsIn_wide.2 HNew.out).mono ?_; rintro en w1 ⟨g, rfl, hg, hrd, hfr⟩; have HR1 := hide hrd; have HF1 := hide hfr; have HG := hide hg; have HB1 := hide (hfr.blk HBx.out (fun h => h)); have d0 : w1.cell? ⟨G, 0, none⟩ = some (.int .i64 (from_ : Nat)) := cell_of_row _ _ 0 _ _ _ HB1.out; clear hrd hfr hg)
  have HGg : Hid (G ≠ g) := hide (by have h1 := HGlt.out; have h2 := HG.out; omega)
  gi_loopw [4] (fun i wr => ∃ (q b i' : Nat) (pre : List DocX), i = .int .i64 (i' : Nat) ∧ Hid (i' = from_ + q) ∧ Hid (pre.length = q) ∧ Hid (docsS bs q 0 = some (pre.map (·.d), b)) ∧ Hid (IdxOk from_ pre) ∧ Hid (RD wr g bs b 0) ∧ Hid (wr.heap[G]? = some (.cells #[.int .i64 (from_ : Nat), .int .i64 (to_ : Nat), .slice A m c] 106 (0, 0))) ∧ Hid (J pre wr) ∧ i' ≤ to_ ∧ Hid (W.heap.size ≤ wr.heap.size)) (fun i _ => to_ - (intOf i).toNat)
  case atStart => exact ⟨0, 0, from_, [], rfl, hide rfl, hide rfl, hide rfl, hide (fun j x h => by simp at h), HR1, HB1, hide (HJ.out _ _ _ HJ0.out (HF1.out.any _)), by rw [HTo.out]; omega, hide HF1.out.size⟩
  case round =>
    obtain ⟨wo, rfl⟩ : ∃ wo : World, wo = wr := ⟨_, rfl⟩
    obtain ⟨q, b, i', pre, rfl, HI, HPl, HDs, HIx, HRD, HBW, HJw, hit, HSw⟩ := hrel
    have d1 : wo.cell? ⟨G, 1, none⟩ = some (.int .i64 (to_ : Nat)) := cell_of_row _ _ 1 _ _ _ HBW.out
    clear HR1 HB1
    by_cases hlt : i' < to_
    · have hqk : q < k := by have h1 := HI.out; have h2 := HTo.out; omega
      have HQk := hide hqk
      clear hqk
      obtain ⟨n0, a1, e1, hsz0⟩ : ∃ n0 a1 e1, sizeS bs b 0 64 = (n0, a1, e1) := ⟨_, _, _, rfl⟩
      have HSz := hide (sizeN_any g bs b 0 64 wo HRD.out (by omega) (by omega))
      rw [hsz0] at HSz
      have h64 : (n0 : Int) ≤ 64 := by have := sizeS_le (bs := bs) (a := b) (e := 0) (most := 64) (by omega); rw [hsz0] at this; exact this
      have h64' : n0 ≤ 64 := by omega
      have HS0 := hide hsz0
      have HZ0 := hide (show e1 ≠ 0 → n0 = 0 from fun h => by have := size_zero (bs := bs) (a := b) (e := 0) (most := 64) (by rw [hsz0]; exact h); rw [hsz0] at this; exact this)
      clear hsz0 h64
      have hltI : (i' : Int) < (to_ : Int) := by omega
      gi_wp2_with (refine ⟨trivial, ?_⟩; gi_at_call 76; refine (callsIn_wide.2 HSz.out).mono ?_; rintro en w2 ⟨rfl, hrd, hfr⟩; have HR2 := hide hrd; have HF2 := hide hfr; clear hrd hfr)
      refine wpIn_wide.2 ?_
      go_loopw [5, 6] (fun v nn wx => ∃ (j z b2 : Nat) (e2 : Int) (ps : List EntL), z + j = n0 ∧ nn = .int .i64 (z : Nat) ∧ Hid (ps.length = j) ∧ Hid (entsS bs j a1 = some (ps.map (·.1), b2)) ∧ Hid ((j = 0 → e2 = e1) ∧ (0 < j → e2 = 0)) ∧ Hid (RD wx g bs b2 e2) ∧ Hid (OwnEs wx wo.heap.size v j ps) ∧ Hid (Fr (Is g) wo wx)) (fun _ nn _ => (intOf nn).toNat)
      case atStart => exact ⟨0, n0, a1, e1, [], by omega, rfl, hide rfl, hide rfl, hide ⟨fun _ => rfl, fun h => by omega⟩, HR2, hide (OwnEs.nil _ _), HF2⟩
      case round =>
        obtain ⟨wx, rfl⟩ : ∃ wx : World, wx = wr := ⟨_, rfl⟩
        obtain ⟨j, z, b2, e2, ps, hzj, rfl, HPj, HEn, HE2, HRx, HOx, HFx⟩ := hrel
        obtain ⟨Ax, cx, hgx, _⟩ := HRx.out
        have HGx := hide hgx
        clear hgx
        by_cases hz0 : 0 < z
        · have hz1 : (0 : Int) < (z : Int) := by omega
          obtain rfl : e2 = 0 := by
            by_cases hj0 : j = 0
            · have h1 := HE2.out.1 hj0
              by_cases h2 : e1 = 0
              · rw [h1, h2]
              · have := HZ0.out h2
                omega
            · exact HE2.out.2 (by omega)
          obtain ⟨s1, a2, e3, ht1⟩ : ∃ s a e, textS bs b2 0 24 = (s, a, e) := ⟨_, _, _, rfl⟩
          obtain ⟨s2, a3, e4, ht2⟩ : ∃ s a e, textS bs a2 e3 4096 = (s, a, e) := ⟨_, _, _, rfl⟩
          obtain ⟨n1, a4, e5, hs3⟩ : ∃ s a e, sizeS bs a3 e4 4 = (s, a, e) := ⟨_, _, _, rfl⟩
          have HT1 := hide (text_any g bs b2 0 24 wx HRx.out (by omega) (by omega))
          have HT2 := hide (fun W h => text_any g bs a2 e3 4096 W h (by omega) (by omega))
          have HT3 := hide (fun W h => sizeN_any g bs a3 e4 4 W h (by omega) (by omega))
          rw [ht1] at HT1
          rw [ht2] at HT2
          rw [hs3] at HT3
          have h4 : n1 ≤ 4 := by have := sizeS_le (bs := bs) (a := a3) (e := e4) (most := 4) (by omega); rw [hs3] at this; omega
          have HEq := hide (entS_eq ht1 ht2 hs3)
          clear ht1 ht2 hs3
          go_wp2_with (fail)
          refine HT1.out.mono ?_
          rintro en w3 ⟨rfl, hrd, hfr⟩
          have HT2b := hide (HT2.out w3 hrd)
          have HF3 := hide hfr
          clear hrd hfr HT1
          go_wp2_with (fail)
          refine HT2b.out.mono ?_
          rintro en w4 ⟨rfl, hrd, hfr⟩
          have HF4 : Hid (Fr (Is g) wx w4) := hide (HF3.out.ts hfr)
          have HR4 := hide hrd
          clear hrd hfr HT2b
          obtain ⟨T1, hT1⟩ : ∃ T : ByteArray, T = ⟨s1.toArray⟩ := ⟨_, rfl⟩
          obtain ⟨T2, hT2⟩ : ∃ T : ByteArray, T = ⟨s2.toArray⟩ := ⟨_, rfl⟩
          rw [← hT1, ← hT2] at HEq
          rw [← hT1, ← hT2]
          clear hT1 hT2
          have HT3b := hide (HT3.out (w4.alloc (.cells #[.string T1, .string T2, .slice none 0 0] 109)) (HR4.out.fr0 ((Fr.refl No _).alloc _)))
          have HF5 : Hid (Fr (Is g) wx (w4.alloc (.cells #[.string T1, .string T2, .slice none 0 0] 109))) := hide (HF4.out.tr ((Fr.refl No _).alloc _))
          have hrow := heap_alloc_new w4 (.cells #[.string T1, .string T2, .slice none 0 0] 109)
          have HRow := hide hrow
          obtain ⟨E, hE⟩ : ∃ E, E = w4.heap.size := ⟨_, rfl⟩
          rw [← hE] at HRow
          have HE := hide hE
          have HgE : Hid (E ≠ g) := hide (by have := HR4.out.lt; omega)
          have HxE : Hid (wx.heap.size ≤ E) := hide (by rw [hE]; exact HF4.out.size)
          clear hrow
          go_wp2_with (fail)
          refine HT3b.out.mono ?_
          rintro en w5 ⟨rfl, hrd, hfr⟩
          have HR5 := hide hrd
          have HB5 := hide (hfr.blk HRow.out (fun e => HgE.out e))
          have HF6 : Hid (Fr (Is g) wx w5) := hide (HF5.out.ts hfr)
          have HxW : Hid (E < w5.heap.size) := hide (by have := hfr.size; simp at this; omega)
          rw [← hE]
          clear hrd hfr HT3b hE
          go_wp2_with (fail)
          go_loopw [8] (fun kk wy => ∃ (q2 z2 ae cn : Nat) (An : Option Addr) (ee : Int) (ns : List Int), z2 + q2 = n1 ∧ kk = .int .i64 (z2 : Nat) ∧ Hid (intsS bs q2 a4 e5 = (ns, ae, ee)) ∧ Hid (RD wy g bs ae ee) ∧ Hid (wy.heap[E]? = some (.cells #[.string T1, .string T2, .slice An q2 cn] 109 (0, 0))) ∧ Hid (Own wy (E + 1) 2 1 (.slice An q2 cn) q2 (iz .i64 ns)) ∧ Hid (Fr (Is g) wx wy) ∧ Hid (E < wy.heap.size)) (fun kk _ => (intOf kk).toNat)
          case atStart => exact ⟨0, n1, a4, 0, none, e5, [], by omega, rfl, hide rfl, HR5, HB5, hide (Own.nil _ _ _ _), HF6, HxW⟩
          case round =>
            obtain ⟨wy, rfl⟩ : ∃ wy : World, wy = wr := ⟨_, rfl⟩
            obtain ⟨q2, z2, ae, cn, An, ee, ns, hzq, rfl, HIn, HRy, HBy, HOy, HFy, HEy⟩ := hrel
            clear HR5 HB5 HF6 HxW
            by_cases hz2 : 0 < z2
            · have hz3 : (0 : Int) < (z2 : Int) := by omega
              have k1 : wy.cell? ⟨E, 2, none⟩ = some (.slice An q2 cn) := cell_of_row _ _ 2 _ _ _ HBy.out
              have K1 : Hid (wy.drew.cell? ⟨E, 2, none⟩ = some (.slice An q2 cn)) := hide k1
              have HInt := hide (int_any g bs ae ee wy.drew HRy.out)
              obtain ⟨x, a6, e6, hu⟩ : ∃ x a e, uintR bs ae ee = (x, a, e) := ⟨_, _, _, rfl⟩
              rw [hu] at HInt
              obtain ⟨y, hy⟩ : ∃ y, y = unzz x := ⟨_, rfl⟩
              have HNx : Hid (intsS bs (q2 + 1) a4 e5 = (ns ++ [y], a6, e6)) := hide (by
                unfold intsS
                rw [HIn.out]
                dsimp only
                rw [hu, hy])
              rw [← hy] at HInt
              have b1 : (q2 + 1) * 8 ≤ 140737488355328 := by omega
              have b2 : q2 + 1 ≤ maxLen := by unfold maxLen; omega
              obtain ⟨Ag, cg, hgr, _⟩ := HRy.out
              have HGr := hide hgr
              clear hu hy hgr
              go_upto_region 12 with (fail)
              refine wp_named fun K hK => ?_
              go_cut [] from 37 to 43 (fun wz => ∃ (cn' : Nat) (An' : Option Addr), Hid (RD wz g bs a6 e6) ∧ Hid (wz.heap[E]? = some (.cells #[.string T1, .string T2, .slice An' (q2 + 1) cn'] 109 (0, 0))) ∧ Hid (Own wz (E + 1) 2 1 (.slice An' (q2 + 1) cn') (q2 + 1) (iz .i64 (ns ++ [y]))) ∧ Hid (Fr (Is g) wx wz) ∧ Hid (E < wz.heap.size))
              case first =>
                go_region_law (first
                  | (go_simp; go_at_call 62; refine HInt.out.mono ?_; rintro en w6 ⟨rfl, hrd, hfr0⟩; have hfr : Fr (Is g) wy w6 := ((Fr.refl (Is g) wy).drew).ts hfr0; have HR6 := hide hrd; have HB6 := hide (hfr.blk HBy.out (fun e => HgE.out e)); have HO6 := hide (HOy.out.off hfr (off_is HGr.out (by decide))); have HF6 : Hid (Fr (Is g) wx w6) := hide (HFy.out.ts hfr); have k6 : w6.cell? ⟨E, 2, none⟩ = some (.slice An q2 cn) := cell_of_row _ _ 2 _ _ _ HB6.out; have k7 : (w6.alloc (.cells #[.int .i64 y] 2)).cell? ⟨E, 2, none⟩ = some (.slice An q2 cn) := ((Fr.refl No w6).alloc _).cell k6 (fun h => h); have HS6 := hide (Src.one (P := Try.prog) w6 (e := 2) Try.underlying41 (.int .i64 y) rfl); have HO7 := hide (HO6.out.fr0 ((Fr.refl No _).alloc (.cells #[.int .i64 y] 2))); have HE6 : Hid (E < w6.heap.size) := hide (Nat.lt_of_lt_of_le HEy.out hfr.size); have b3 : E + 1 ≤ (w6.alloc (.cells #[.int .i64 y] 2)).heap.size := (by have := HE6.out; simp; omega); clear hrd hfr hfr0)
                  | (refine step_append_any rfl (.tmp 38) (.tmp 41) 41 41 rfl (E + 1) 2 i0 (.int .i64 0) 1 8 Try.underlying41 hi hz hsz hby rfl (.slice An q2 cn) q2 (iz .i64 ns) rfl HO7.out _ 1 [.int .i64 y] rfl HS6.out b1 b2 b3 ?_; intro v8 w8 hown hfr; obtain ⟨A8, c8, rfl, _⟩ := hown.form; have HO8 := hide hown; have HF8 := hide hfr; have hb8 := hfr.blk (((Fr.refl No w6).alloc (.cells #[.int .i64 y] 2)).blk HB6.out (fun h => h)) (fun e => by have := (HO7.out.lt E e).1; omega); have HB8 := hide hb8; have k8 : w8.cell? ⟨E, 2, none⟩ = some (.slice An q2 cn) := cell_of_row _ _ 2 _ _ _ hb8; have fz8 : w8.frozen? ⟨E, 2, none⟩ = false := frozen_of_row _ _ _ _ _ hb8; clear hown hfr hb8))
                all_goals (go_wp2; go_meet)
                all_goals (
                  have f9 : Fr (Is E) w8 (w8.setCell ⟨E, 2, none⟩ (.slice A8 (q2 + 1) c8)) := (Fr.refl (Is E) w8).put 2 _
                  have r9 : (w8.setCell ⟨E, 2, none⟩ (.slice A8 (q2 + 1) c8)).heap[E]? = some (.cells #[.string T1, .string T2, .slice A8 (q2 + 1) c8] 109 (0, 0)) := by
                    have := heap_setCell_same w8 E 2 #[.string T1, .string T2, .slice An q2 cn] 109 (.slice A8 (q2 + 1) c8) HB8.out
                    simpa using this
                  have q1 : RD w8 g bs a6 e6 := (HR6.out.fr0 ((Fr.refl No _).alloc (.cells #[.int .i64 y] 2))).offT HF8.out (off_own HO7.out (by decide)) (off_own HO7.out (by decide))
                  refine ⟨c8, A8, hide (q1.offT f9 (off_is HB8.out (by decide)) (off_is HB8.out (by decide))), hide r9, hide ?_, hide ?_, hide (Nat.lt_of_lt_of_le HE6.out ?_)⟩
                  · rw [show iz .i64 (ns ++ [y]) = iz .i64 ns ++ [.int .i64 y] by simp [iz]]
                    exact HO8.out.off f9 (off_is HB8.out (by decide))
                  · have f8 : Fr (Is g) wx w8 := (HF6.out.alloc (.cells #[.int .i64 y] 2)).own HF8.out (fun k hk => .inl (by have h1 := (HO7.out.lt k hk).1; have h2 := HxE.out; omega))
                    exact f8.setCell (p := ⟨E, 2, none⟩) (fun h => by have h2 := HxE.out; have h : E < wx.heap.size := h; omega) _
                  · have h1 := ((Fr.refl No w6).alloc (.cells #[.int .i64 y] 2)).size
                    exact Nat.le_trans h1 (Nat.le_trans HF8.out.size f9.size))
              case rest =>
                obtain ⟨cn', An', HR7, HB7, HO7, HF7, HE7⟩ := hcut
                clear k1 K1 HRy HBy HOy HFy
                refine hK _ _ ?_
                go_wp2
                go_roundw
                case rel => exact ⟨q2 + 1, z2 - 1, a6, cn', An', e6, ns ++ [y], by omega, by first | go_num | (congr 1; omega), HNx, HR7, HB7, HO7, HF7, HE7⟩
                case measure => simp [intOf]; omega
            · obtain rfl : z2 = 0 := by omega
              obtain rfl : q2 = n1 := by omega
              have hnl : ns.length = q2 := by have := intsS_len bs a4 e5 q2; rw [HIn.out] at this; exact this
              have hni : InI ns := by have := intsS_in bs a4 e5 q2; rw [HIn.out] at this; exact this
              have hen : entS bs b2 0 = (⟨T1, T2, ns⟩, ae, ee) := by rw [HEq.out, HIn.out]
              have HNl := hide hnl
              have HNi := hide hni
              have HEn2 := hide hen
              clear hz2 hnl hni hen
              by_cases hee : ee = 0
              · subst hee
                have HGo := hide (good_ok g bs ae wy HRy.out)
                have k0 : wy.cell? ⟨E, 0, none⟩ = some (.string T1) := cell_of_row _ _ 0 _ _ _ HBy.out
                have k1 : wy.cell? ⟨E, 1, none⟩ = some (.string T2) := cell_of_row _ _ 1 _ _ _ HBy.out
                have k2 : wy.cell? ⟨E, 2, none⟩ = some (.slice An q2 cn) := cell_of_row _ _ 2 _ _ _ HBy.out
                have HOe : Hid (OwnEs wy wo.heap.size u5 j ps) := hide (HOx.out.off HFy.out (off_is HGx.out (by decide)) (off_is HGx.out (by decide)))
                have HOe2 := hide (HOe.out.fr0 ((Fr.refl No wy).alloc (.cells #[.string T1, .string T2, .slice An q2 cn] 109)))
                have HS5 := hide (Src.ofRd (P := Try.prog) (size := 3) _ Try.underlying71 (some ⟨wy.heap.size, 0, none⟩) 1 1 [.string T1, .string T2, .slice An q2 cn] rfl (by omega) (Rd.block (heap_alloc_new wy (.cells #[.string T1, .string T2, .slice An q2 cn] 109))) (by simp [Value.oneCell']))
                have b1 : (j + 1) * 56 ≤ 140737488355328 := by omega
                have b2' : j + 1 ≤ maxLen := by unfold maxLen; omega
                have b3 : wo.heap.size ≤ (wy.alloc (.cells #[.string T1, .string T2, .slice An q2 cn] 109)).heap.size := by
                  have h1 := HFx.out.size
                  have h2 := HFy.out.size
                  simp
                  omega
                go_wp2_with (fail)
                refine HGo.out.mono ?_
                rintro en w10 ⟨⟨r10, rfl⟩, rfl⟩
                go_wp2_with (first | (at_builtin; refine wpList_append_gen _ rfl (.tmp 46) (.tmp 48) 71 71 rfl wo.heap.size 109 iE _ 3 56 Try.underlying71 hiE hzE hszE hbyE rfl u5 j (eFlat ps) rfl HOe2.out.row _ 1 [.string T1, .string T2, .slice An q2 cn] rfl HS5.out b1 b2' b3 ?_; intro v11 w11 hown hfr hat; have HO11 := hide hown; have HF11 := hide hfr; clear hown hfr hat) | fail)
                go_roundw
                case measure => simp [intOf]; omega
                case rel =>
                  have hlw : wx.heap.size ≤ E + 1 := by have := HxE.out; omega
                  have hnp : OwnN (w10.alloc (.cells #[.string T1, .string T2, .slice An q2 cn] 109)) wx.heap.size (⟨T1, T2, ns⟩, An, cn) := by
                    refine ⟨?_, HNi.out⟩
                    show Own _ _ _ 1 (.slice An ns.length cn) ns.length (iz .i64 ns)
                    rw [HNl.out]
                    exact (HOy.out.lower hlw).fr0 ((Fr.refl No _).alloc _)
                  refine ⟨j + 1, z - 1, ae, 0, ps ++ [(⟨T1, T2, ns⟩, An, cn)], by omega, by first | go_num | (congr 1; omega), hide ?_, hide ?_, hide ⟨fun h => by omega, fun _ => rfl⟩, hide ?_, hide ?_, hide ?_⟩
                  · rw [List.length_append, HPj.out]; rfl
                  · rw [entsS_some HEn.out, HEn2.out, if_pos rfl, List.map_append]
                    rfl
                  · exact (HRy.out.fr0 ((Fr.refl No _).alloc _)).offT HF11.out (off_own HOe2.out.row (by decide)) (off_own HOe2.out.row (by decide))
                  · refine HOx.out.snoc HOe2.out hnp HFx.out.size HF11.out ?_
                    have e : eRow (⟨T1, T2, ns⟩, An, cn) = [.string T1, .string T2, .slice An q2 cn] := by unfold eRow; rw [HNl.out]
                    rw [e]
                    exact HO11.out
                  · exact ((HFx.out.ts HFy.out).alloc _).own HF11.out (fun k hk => .inl (HOe2.out.row.lt k hk).1)
              · have hno : entsS bs (j + 1) a1 = none := by rw [entsS_some HEn.out, HEn2.out, if_neg hee]
                have hdn : docS bs b = none := by
                  rw [docS_of HS0.out]
                  split
                  · exact entsS_none hno n0 (by omega)
                  · rfl
                have HNo := hide (chunk_no HQk.out HDs.out hdn)
                have HGo := hide (good_bad g bs ae ee true wy HRy.out (.inl hee))
                have HJp := hide (HJ.out _ _ _ HJw.out (((HFx.out.ts HFy.out).mono (fun i _ hi => by have hi : i = g := hi; subst hi; exact ⟨HG.out, by obtain ⟨A', c', hh, _⟩ := HRD.out; exact ⟨_, _, hh⟩⟩)) : Fr (OfT 131 W.heap.size wo) wo wy))
                clear hno hdn
                go_wp2_with (fail)
                refine HGo.out.mono ?_
                rintro en w10 ⟨rfl, rfl⟩
                go_wp2
                have HZ : ∃ pre', (∀ ds, ¬ chunkOk bs k ds) ∧ Ending.panicked chainC = .panicked chainC ∧ J pre' w10 := ⟨pre, HNo.out, rfl, HJp.out⟩
                exact ⟨rfl, Or.inr HZ⟩
        · obtain rfl : z = 0 := by omega
          obtain rfl : j = n0 := by omega
          have HE3 : Hid (e2 = 0 → docS bs b = some (ps.map (·.1), b2)) := hide (fun h => by
            have h1 : e1 = 0 := by
              by_cases hj0 : j = 0
              · rw [← HE2.out.1 hj0]; exact h
              · exact Classical.byContradiction (fun h2 => hj0 (HZ0.out h2))
            rw [docS_of HS0.out, if_pos h1]
            exact HEn.out)
          have HBX := hide (HFx.out.blk HBW.out (fun e => HGg.out e))
          have HJx := hide (HJ.out _ _ _ HJw.out (HFx.out.mono (fun i _ hi => by have hi : i = g := hi; subst hi; exact ⟨HG.out, by obtain ⟨A', c', hh, _⟩ := HRD.out; exact ⟨_, _, hh⟩⟩) : Fr (OfT 131 W.heap.size wo) wo wx))
          obtain ⟨A5, c5, rfl, _⟩ := HOx.out.row.form
          clear hz0
          by_cases hee : e2 = 0
          · subst hee
            have HDo := hide (HE3.out rfl)
            have HGo := hide (good_ok g bs b2 wx HRx.out)
            have hdl : (ps.map (·.1)).length = j := by rw [List.length_map]; exact HPj.out
            obtain ⟨d, hd⟩ : ∃ d, d = ps.map (·.1) := ⟨_, rfl⟩
            have hOd : OwnE wx w.heap.size A5 c5 d := ⟨ps, hd.symm, by rw [hd, hdl]; exact HOx.out.lower (Nat.le_trans HWs.out HSw.out)⟩
            rw [← hd] at HDo hdl
            obtain ⟨fn, tmps, assign, body, hy, hR⟩ := HY.out pre ⟨i', A5, c5, d⟩ wx HJx.out hOd (by rw [HPl.out]; exact HQk.out)
            have henc : encX ⟨i', A5, c5, d⟩ = #[.int .i64 (i' : Nat), .slice A5 j c5] := by unfold encX; rw [hdl]
            rw [henc] at hy
            have HR2 := hide hR
            clear hd hdl hR henc hOd
            go_wp2
            gi_wp2_with (refine ⟨trivial, ?_⟩; gi_at_call 77; refine (callsIn_wide.2 HGo.out).mono ?_; rintro en w10 ⟨⟨r10, rfl⟩, rfl⟩)
            refine HR2.out.mono ?_
            rintro en W3 (⟨rfl, hJ3, hk3⟩ | ⟨rfl, hJx3⟩)
            · have HJ3 := hide hJ3
              have HR3 : Hid (RD W3 g bs b2 0) := hide (HRx.out.offT hk3 (DocT.off (by decide) (by decide)) (DocT.off (by decide) (by decide)))
              have HB3 := hide (Fr.blk hk3 HBX.out (fun hd => (hd _ _ _ HBX.out).elim (by decide) (by decide)))
              have HZ3 : Hid (W.heap.size ≤ W3.heap.size) := hide (by have h1 := HSw.out; have h2 := HFx.out.size; have h3 := Fr.size hk3; omega)
              clear hy hJ3 hk3
              gi_wp2
              go_roundw
              case rel => exact ⟨q + 1, b2, i' + 1, pre ++ [⟨i', A5, c5, d⟩], by first | go_num | (congr 1; omega), hide (by rw [HI.out]; omega), hide (by rw [List.length_append, HPl.out]; rfl), hide (by rw [docsS_some HDs.out, HDo.out, List.map_append]; rfl), hide (HIx.out.snoc (by rw [HPl.out]; exact HI.out)), HR3, HB3, HJ3, by omega, HZ3⟩
              case measure => simp [intOf]; omega
            · have HX := hide hJx3
              clear hy hJx3
              gi_wp2
              refine bodyPost_ret (results_none rfl _ _ _) rfl ?_
              exact .inl ⟨⟨_, rfl⟩, .inr ⟨_, ⟨HIx.out.snoc (by rw [HPl.out]; exact HI.out), b2, by rw [List.length_append, HPl.out, List.map_append]; show docsS bs (q + 1) 0 = _; rw [docsS_some HDs.out, HDo.out]; rfl⟩, HX.out⟩⟩
          · have hj0 : e1 ≠ 0 := by
              by_cases hj0 : j = 0
              · rw [← HE2.out.1 hj0]; exact hee
              · exact fun _ => hee (HE2.out.2 (by omega))
            have HNo := hide (chunk_no HQk.out HDs.out (by rw [docS_of HS0.out, if_neg hj0]))
            have HGo := hide (good_bad g bs b2 e2 true wx HRx.out (.inl hee))
            clear hj0
            go_wp2
            gi_wp2_with (refine ⟨trivial, ?_⟩; gi_at_call 77; refine (callsIn_wide.2 HGo.out).mono ?_; rintro en w10 ⟨rfl, rfl⟩)
            have HZ : ∃ pre', (∀ ds, ¬ chunkOk bs k ds) ∧ Ending.panicked chainC = .panicked chainC ∧ J pre' w10 := ⟨pre, HNo.out, rfl, HJx.out⟩
            exact ⟨rfl, Or.inr HZ⟩
    · have HQe : Hid (q = k) := hide (by have h1 := HI.out; have h2 := HTo.out; omega)
      obtain rfl : i' = to_ := by omega
      obtain ⟨r, hr⟩ : ∃ r, r = bs.length - b := ⟨_, rfl⟩
      have HL := hide (left_any g bs b 0 wo HRD.out)
      rw [← hr] at HL
      have hble : b ≤ bs.length := by obtain ⟨_, _, _, _, _, h, _⟩ := HRD.out; exact h
      have HJq := hide (fun nq => HJ.out _ _ _ HJw.out (((Fr.refl No wo).drewN nq).any _))
      have hck : r = 0 ↔ b = bs.length := by omega
      have HCk := hide hck
      clear hr hble hlt hck
      by_cases hr0 : r = 0
      · subst hr0
        have HBe := hide (HCk.out.1 rfl)
        have HGo := hide (fun nq => good_ok g bs b (wo.drewN nq) (HRD.out.drewN nq))
        gi_wp2_with (first
          | (refine ⟨trivial, ?_⟩; gi_at_call 67; refine (callsIn_wide.2 HL.out).mono ?_; rintro en w10 ⟨rfl, nq, rfl⟩)
          | (refine ⟨trivial, ?_⟩; gi_at_call 77; refine (callsIn_wide.2 (HGo.out nq)).mono ?_; rintro en w11 ⟨⟨r10, rfl⟩, rfl⟩))
        go_end0
        exact .inl ⟨⟨_, rfl⟩, .inl ⟨pre, ⟨HIx.out, by unfold chunkOk; rw [← HBe.out, ← HQe.out]; exact HDs.out⟩, HJq.out nq⟩⟩
      · have hrI : ¬ (r : Int) = 0 := by omega
        have hrB : ((r : Int) == 0) = false := by simpa using hr0
        have HNo : Hid (∀ ds, ¬ chunkOk bs k ds) := hide (fun ds hd => by
          unfold chunkOk at hd
          rw [← HQe.out, HDs.out] at hd
          injection hd with hd
          injection hd with _ hd
          exact hr0 (HCk.out.2 hd))
        have HGo := hide (fun nq => good_bad g bs b 0 ((r : Int) == 0) (wo.drewN nq) (HRD.out.drewN nq) (.inr hrB))
        clear hrB
        gi_wp2_with (first
          | (refine ⟨trivial, ?_⟩; gi_at_call 67; refine (callsIn_wide.2 HL.out).mono ?_; rintro en w10 ⟨rfl, nq, rfl⟩)
          | (refine ⟨trivial, ?_⟩; gi_at_call 77; refine (callsIn_wide.2 (HGo.out nq)).mono ?_; rintro en w11 ⟨rfl, rfl⟩))
        have HZ : ∃ pre', (∀ ds, ¬ chunkOk bs k ds) ∧ Ending.panicked chainC = .panicked chainC ∧ J pre' (wo.drewN nq) := ⟨pre, HNo.out, rfl, HJq.out nq⟩
        exact ⟨rfl, Or.inr HZ⟩
end Go.Proofs.Ytpnhnnhocekchaa
namespace Go.Proofs.Ytpnhnnhocekchaa
set_option linter.unusedVariables false
set_option linter.unusedSimpArgs false
open Go.RowKit

theorem chs_at {a q : Nat} {cs : List (Nat × List UInt8)} {x : Nat × List UInt8} (h : cs[q]? = some x) : (chs a cs)[q]? = some (a + cntB (cs.take q), a + cntB (cs.take q) + x.1, x.2) := by
  induction cs generalizing a q with
  | nil => simp at h
  | cons y r ih =>
    cases q with
    | zero =>
      have h : y = x := by simpa using h
      subst h
      rfl
    | succ q =>
      have h : r[q]? = some x := by simpa using h
      rw [chs, List.getElem?_cons_succ, ih h, List.take_succ_cons, cntB_cons]
      simp only [Nat.add_assoc]
theorem cuts_small {ds : List (List EntV)} (hd : ∀ d ∈ ds, docOk d) : ∀ x ∈ cutsB ds, x.2.length ≤ 268426 := by
  have h : ∀ k, k ≤ ds.length → ∀ x ∈ cutsB (ds.take k), x.2.length ≤ 268426 := by
    intro k
    induction k with
    | zero => intro _ x hx; simp [cutsB] at hx
    | succ k ih =>
      intro hk x hx
      have ih := ih (by omega)
      rw [take_getD (d := []) (by omega), cutsB_snoc, addD_open] at hx
      rcases List.mem_append.1 hx with hx | hx
      · by_cases hf : fullB (cutsB (ds.take k)) = true
        · rw [openB_full hf] at hx
          exact ih x hx
        · obtain ⟨y, h1, _, _⟩ := openB_part (by simpa using hf)
          exact ih x (by rw [h1]; exact List.mem_append_left _ hx)
      · rw [List.mem_singleton.1 hx]
        have h1 := openB_small (cutsB (ds.take k))
        have h2 := formB_le (hd _ (getD_mem2 (l := ds) (d := []) (q := k) (by omega)))
        rw [List.length_append]
        omega
  have := h ds.length (Nat.le_refl _)
  rwa [List.take_length] at this
theorem cuts_cnt {ds : List (List EntV)} : (cutsB ds).length ≤ ds.length ∧ ∀ x ∈ cutsB ds, 1 ≤ x.1 ∧ x.1 ≤ ds.length := by
  obtain ⟨h1, h2⟩ := groups_flat ds
  have h3 := flat_len_le h2
  rw [h1] at h3
  rw [groups_cuts]
  refine ⟨by rw [List.length_map]; exact h3, ?_⟩
  intro x hx
  obtain ⟨g, hg, rfl⟩ := List.mem_map.1 hx
  have h4 := flat_mem_le hg
  rw [h1] at h4
  exact ⟨List.length_pos_iff.2 (h2 g hg), h4⟩
theorem headB_snoc (cs : List (Nat × List UInt8)) (x : Nat × List UInt8) : headB (cs ++ [x]) = headB cs ++ (enc x.1 ++ enc x.2.length) := by simp [headB, List.flatMap_append]
theorem bodyB_snoc (cs : List (Nat × List UInt8)) (x : Nat × List UInt8) : bodyB (cs ++ [x]) = bodyB cs ++ x.2 := by simp [bodyB, List.flatMap_append]
theorem take_some {α : Type} {l : List α} {x : α} {q : Nat} (h : l[q]? = some x) : l.take (q + 1) = l.take q ++ [x] := by
  obtain ⟨h1, h2⟩ := List.getElem?_eq_some_iff.1 h
  rw [List.take_succ_eq_append_getElem h1, h2]

theorem own_ne {w : World} {base e n g : Nat} {v : Value} {xs : List Value} {cs : Array Value} {t : TypeId} {fz : Nat × Nat} (h : Own w base e 1 v n xs) (hg : w.heap[g]? = some (.cells cs t fz)) (hne : e ≠ t) : ¬ v.ownBlock = some g := fun hk => h.ne_blk hk hg hne
set_option maxRecDepth 100000 in
set_option maxHeartbeats 4000000 in
theorem build_any (A : Option Addr) (n c B : Nat) (ds : List (List EntV)) (w : World) (hl : ds.length = n) (hn : n ≤ c) (hc : c ≤ maxLen) (hB : B ≤ w.heap.size) (hr : RdD w B A ds) :
    Calls Try.prog 39 #[.slice A n c] w (GivesB w (buildB ds)) := by
  obtain ⟨i5, hi5, hz5, hsz5, hby5⟩ := info_parts Try.info5
  have HL := hide hl
  have HCut := hide (cut_any A n c B ds w hl hn hc hB hr)
  clear hr
  by_cases hm : mayB ds
  · have hn2 := hm.1
    rw [hl] at hn2
    have HMay := hide hm
    rw [decide_eq_true hm] at HCut
    obtain ⟨cs, hcs⟩ : ∃ cs, cs = cutsB ds := ⟨_, rfl⟩
    have HCs := hide hcs
    have hcc := cuts_cnt (ds := ds)
    have hsm := cuts_small hm.2
    have hbe : buildB ds = enc n ++ enc cs.length ++ headB cs ++ bodyB cs := by
      unfold buildB
      rw [if_pos hm, hl, hcs]
    have HBe := hide hbe
    rw [← hcs, hl] at hcc
    rw [← hcs] at hsm
    obtain ⟨m, hmm⟩ : ∃ m, m = cs.length := ⟨_, rfl⟩
    have HM := hide hmm
    rw [← hmm] at hcc
    have hmn := hcc.1
    have HCc := hide hcc.2
    have HSm := hide hsm
    clear hm hcs hbe hmm hcc hsm hl
    have HU := hide (fun (A : Option Addr) (n c B : Nat) (bs : List UInt8) (W : World) (u : Nat) (h1 : bs.length = n) (h2 : n ≤ c) (h3 : c ≤ maxLen) (h4 : n ≤ 1000) (h5 : B ≤ W.heap.size) (h6 : Rd W B A (by8 bs)) (hu : u < 18446744073709551616) => putU_any A n c B bs u W h1 h2 h3 (by omega) h5 h6 hu)
    go_enter Try.func39, Try.ntmps39
    go_wp2_with (go_at_call 71; refine HCut.out.mono ?_; rintro en w1 ⟨v1, rfl, hfr, hps⟩; obtain ⟨ps, hown, htr⟩ := hps HMay.out; have HF1 : Hid (Fr No w w1) := hide hfr; have HT := hide htr; have hpl : ps.length = m := (by have := congrArg List.length htr; rw [List.length_map, chs_len, ← HCs.out, ← HM.out] at this; exact this); rw [hpl] at hown; have HC1 := hide hown; obtain ⟨Av, cv, rfl, _⟩ := hown.row.form; clear hfr hps hown htr hpl)
    refine (HU.out none 0 0 0 [] _ n rfl (Nat.le_refl _) (Nat.zero_le _) (by omega) (Nat.zero_le _) (Rd.nil _ _ _) (by omega)).mono ?_
    rintro en w2 ⟨v2, rfl, hown, hfr⟩
    rw [List.nil_append] at hown
    obtain ⟨l2, hl2⟩ : ∃ k, k = (enc n).length := ⟨_, rfl⟩
    have hb2 : l2 ≤ 10 := by rw [hl2]; exact (enc_len _).2
    rw [← hl2] at hown
    obtain ⟨A2, c2, rfl, x1, x2, _⟩ := hown.form
    have HF2 : Hid (Fr No w1 w2) := hide hfr
    have HP2 := hide (HU.out A2 l2 c2 _ (enc n) w2 m hl2.symm x1 x2 (by omega) (Nat.le_refl _) hown.rd (by omega))
    clear hown hfr x1 x2 hl2
    go_wp2_with (fail)
    refine HP2.out.mono ?_
    rintro en w3 ⟨v3, rfl, hown, hfr⟩
    obtain ⟨l3, hl3⟩ : ∃ k, k = (enc n ++ enc m).length := ⟨_, rfl⟩
    have hb3 : l3 ≤ 20 := by rw [hl3, List.length_append]; have h1 := (enc_len n).2; have h2 := (enc_len m).2; omega
    rw [← hl3] at hown
    obtain ⟨A3, c3, rfl, _⟩ := hown.form
    have HF3 : Hid (Fr No w1 w3) := hide (HF2.out.tr hfr)
    have HO3 := hide (hown.lower HF2.out.size)
    have HL3 := hide hl3
    clear hown hfr HP2 HU hl3
    have HU := hide (fun (A : Option Addr) (n c B : Nat) (bs : List UInt8) (W : World) (u : Nat) (h1 : bs.length = n) (h2 : n ≤ c) (h3 : c ≤ maxLen) (h4 : n ≤ 1000) (h5 : B ≤ W.heap.size) (h6 : Rd W B A (by8 bs)) (hu : u < 18446744073709551616) => putU_any A n c B bs u W h1 h2 h3 (by omega) h5 h6 hu)
    go_wp2_with (fail)
    go_loopw [5, 27] (fun v ix wr => ∃ (q z : Nat) (Z : List UInt8), q ≤ m ∧ ix = .int .i64 q ∧ Hid (Z = enc n ++ enc m ++ headB (cs.take q)) ∧ Hid (z = Z.length) ∧ z ≤ 20 + 20 * q ∧ Hid (Own wr w1.heap.size 5 1 v z (by8 Z)) ∧ Hid (Fr No w1 wr)) (fun _ ix _ => m - (intOf ix).toNat)
    case atStart => exact ⟨0, l3, enc n ++ enc m, by omega, rfl, hide (by simp [headB]), HL3, by omega, HO3, HF3⟩
    case round =>
      obtain ⟨wo, rfl⟩ : ∃ wo : World, wo = wr := ⟨_, rfl⟩
      obtain ⟨q, z, Z, hq, rfl, HZ, Hz, hzb, HO, HFr⟩ := hrel
      clear HO3 HF3
      by_cases hlt : q < m
      · obtain ⟨g, cc, p, eg, _, _, ep, _, k0, k1, k2, kO⟩ := (HC1.out.fr0 HFr.out).at hlt
        obtain rfl : Av = some ⟨g, 0, none⟩ := by injection eg
        obtain ⟨x, hx⟩ : ∃ x, cs[q]? = some x := ⟨_, List.getElem?_eq_getElem (by rw [← HM.out]; exact hlt)⟩
        have htp : tri p = (cntB (cs.take q), cntB (cs.take q) + x.1, x.2) := by
          have h : (ps.map tri)[q]? = (chs 0 (cutsB ds))[q]? := by rw [HT.out]
          rw [List.getElem?_map, ep, ← HCs.out, chs_at hx] at h
          simpa using h
        obtain ⟨pf, hpf⟩ : ∃ pf, pf = p.f := ⟨_, rfl⟩
        obtain ⟨pt, hpt⟩ : ∃ pt, pt = p.t := ⟨_, rfl⟩
        have hxm := List.mem_of_getElem? hx
        have hx1 := HCc.out x hxm
        have hx2 := HSm.out x hxm
        obtain ⟨xn, hxn⟩ : ∃ xn, xn = x.1 := ⟨_, rfl⟩
        obtain ⟨xl, hxl⟩ : ∃ xl, xl = x.2.length := ⟨_, rfl⟩
        have hpx : pt = pf + xn := by
          have h1 : p.f = cntB (cs.take q) := congrArg (·.1) htp
          have h2 : p.t = cntB (cs.take q) + x.1 := congrArg (·.2.1) htp
          omega
        have hpb : p.b = x.2 := congrArg (·.2.2) htp
        obtain ⟨Ab, cb, hbv, y1, y2, _⟩ := kO.form
        rw [hpb, ← hxl] at hbv y1
        rw [hbv] at k2
        rw [← hpf] at k0
        rw [← hpt] at k1
        rw [← hxn] at hx1
        rw [← hxl] at hx2
        have hsub : (pt : Int) - (pf : Int) = (xn : Int) := by omega
        have hwA : IntKind.i64.wrap (xn : Int) = (xn : Int) := IntWalk.i64_in _ (by omega)
        have hwB : IntKind.u64.wrap (xn : Int) = (xn : Int) := IntWalk.u64_in _ (by omega)
        have hwC : IntKind.u64.wrap (xl : Int) = (xl : Int) := IntWalk.u64_in _ (by omega)
        have HTk : Hid (headB (cs.take (q + 1)) = headB (cs.take q) ++ (enc xn ++ enc xl)) := hide (by rw [take_some hx, headB_snoc, hxn, hxl])
        have HU1 := hide (fun W => HU.out none 0 0 0 [] W xn rfl (Nat.le_refl _) (Nat.zero_le _) (by omega) (Nat.zero_le _) (Rd.nil _ _ _) (by omega))
        have hxn1 := hx1.1
        have hxn2 := hx1.2
        clear eg ep kO htp hpf hpt hx hxm hx1 hxn hxl hpx hpb hbv y1 y2
        obtain ⟨wa, hwa⟩ : ∃ wa, wa = wo.alloc (.cells #[.int .i64 pf, .int .i64 pt, .slice Ab xl cb] 106) := ⟨_, rfl⟩
        have hrow : wa.heap[wo.heap.size]? = some (.cells #[.int .i64 pf, .int .i64 pt, .slice Ab xl cb] 106 (0, 0)) := by rw [hwa]; exact heap_alloc_new wo _
        have HRow := hide hrow
        have HFa : Hid (Fr No wo wa) := hide (by rw [hwa]; exact (Fr.refl No wo).alloc _)
        have HOa := hide (HO.out.fr0 HFa.out)
        go_upto_region 8 with (fail)
        rw [← hwa]
        obtain ⟨E, hE⟩ : ∃ E, E = wo.heap.size := ⟨_, rfl⟩
        rw [← hE] at HRow hrow
        rw [← hE]
        have a0 : wa.drew.cell? ⟨E, 0, none⟩ = some (.int .i64 pf) := cell_of_row wa E 0 _ _ _ hrow
        have a1 : wa.drew.cell? ⟨E, 1, none⟩ = some (.int .i64 pt) := cell_of_row wa E 1 _ _ _ hrow
        have a2 : wa.drew.cell? ⟨E, 2, none⟩ = some (.slice Ab xl cb) := cell_of_row wa E 2 _ _ _ hrow
        have A0 : Hid (wa.drew.cell? ⟨E, 0, none⟩ = some (.int .i64 pf) ∧ wa.drew.cell? ⟨E, 1, none⟩ = some (.int .i64 pt) ∧ wa.drew.cell? ⟨E, 2, none⟩ = some (.slice Ab xl cb)) := hide ⟨a0, a1, a2⟩
        have b1 : (z + (20)) * 1 ≤ 140737488355328 := by omega
        clear hwa hrow k0 k1 k2 a0 a1 a2 hE
        refine wp_named fun K hK => ?_
        go_cut [5] from 31 to 44 (fun v wx => ∃ z', Hid (z' = (Z ++ (enc xn ++ enc xl)).length) ∧ z' ≤ z + 20 ∧ Hid (Own wx w1.heap.size 5 1 v z' (by8 (Z ++ (enc xn ++ enc xl)))) ∧ Hid (Fr No w1 wx))
        case first =>
          go_region_held3 (fun W => W.cell? ⟨E, 0, none⟩ = some (.int .i64 pf) ∧ W.cell? ⟨E, 1, none⟩ = some (.int .i64 pt) ∧ W.cell? ⟨E, 2, none⟩ = some (.slice Ab xl cb)) (first | exact A6.out | exact A5.out | exact A4.out | exact A0.out) (first
            | (refine step_append_any rfl (.tmp 31) (.tmp 43) 23 23 rfl w1.heap.size 5 i5 (.int .u8 0) 1 1 Try.underlying23 hi5 hz5 hsz5 hby5 rfl u5 z (by8 Z) rfl HO5.out _ l5 (by8 (enc xn ++ enc xl)) rfl HS5.out c1' c2' c3' ?_; intro v6 w6 hown hfr; have HO6 := hide hown; have HF6 : Hid (Fr No w1 w6) := hide (HF5.out.own hfr (fun k hk => .inl (HO5.out.lt k hk).1)); have A6 : Hid (w6.cell? ⟨E, 0, none⟩ = some (.int .i64 pf) ∧ w6.cell? ⟨E, 1, none⟩ = some (.int .i64 pt) ∧ w6.cell? ⟨E, 2, none⟩ = some (.slice Ab xl cb)) := hide ⟨hfr.cell A5.out.1 (own_ne HO5.out HB5.out (by decide)), hfr.cell A5.out.2.1 (own_ne HO5.out HB5.out (by decide)), hfr.cell A5.out.2.2 (own_ne HO5.out HB5.out (by decide))⟩; clear hown hfr)
            | (go_at_call 72; refine HU2.out.mono ?_; clear HU2; rintro en w5 ⟨v5, rfl, hown, hfr⟩; obtain ⟨l5, hl5⟩ : ∃ k, k = (enc xn ++ enc xl).length := ⟨_, rfl⟩; have hl5b : l5 ≤ 20 := (by rw [hl5, List.length_append]; have h1 := (enc_len xn).2; have h2 := (enc_len xl).2; omega); rw [← hl5] at hown; obtain ⟨A5', c5, rfl, y1, _⟩ := hown.form; have HF5 : Hid (Fr No w1 w5) := hide (HF4.out.tr hfr); have HO5 := hide (HO4.out.fr0 hfr); have HB5 := hide (hfr.blk HB4.out (fun h => h)); have HL5 := hide hl5; have HS5 := hide (Src.ofRd (P := Try.prog) (size := 1) w5 Try.underlying23 A5' l5 c5 (by8 (enc xn ++ enc xl)) (by rw [by8_length, hl5]; omega) (by omega) hown.rd (by8_one _)); have A5 : Hid (w5.cell? ⟨E, 0, none⟩ = some (.int .i64 pf) ∧ w5.cell? ⟨E, 1, none⟩ = some (.int .i64 pt) ∧ w5.cell? ⟨E, 2, none⟩ = some (.slice Ab xl cb)) := hide ⟨hfr.cell A4.out.1 (fun h => h), hfr.cell A4.out.2.1 (fun h => h), hfr.cell A4.out.2.2 (fun h => h)⟩; have c1' : (z + l5) * 1 ≤ 140737488355328 := (by omega); have c2' : z + l5 ≤ maxLen := (by unfold maxLen; omega); have c3' : w1.heap.size ≤ w5.heap.size := HF5.out.size; clear hown hfr hl5)
            | (go_at_call 72; refine (HU1.out _).mono ?_; rintro en w4 ⟨v4, rfl, hown, hfr0⟩; have hfr : Fr No wa w4 := ((Fr.refl No wa).drew).tr hfr0; rw [List.nil_append] at hown; obtain ⟨A4', c4, rfl, y1, y2, _⟩ := hown.form; have HF4 : Hid (Fr No w1 w4) := hide ((HFr.out.tr HFa.out).tr hfr); have HO4 := hide (HOa.out.fr0 hfr); have HB4 := hide (hfr.blk HRow.out (fun h => h)); have HU2 := hide (HU.out A4' _ c4 _ (enc xn) w4 xl rfl y1 y2 (by have := (enc_len xn).2; omega) (Nat.le_refl _) hown.rd (by omega)); have A4 : Hid (w4.cell? ⟨E, 0, none⟩ = some (.int .i64 pf) ∧ w4.cell? ⟨E, 1, none⟩ = some (.int .i64 pt) ∧ w4.cell? ⟨E, 2, none⟩ = some (.slice Ab xl cb)) := hide ⟨hfr.cell A0.out.1 (fun h => h), hfr.cell A0.out.2.1 (fun h => h), hfr.cell A0.out.2.2 (fun h => h)⟩; clear hown hfr hfr0))
          all_goals (go_wp2; go_meet)
          all_goals exact ⟨z + l5, hide (by rw [List.length_append, ← Hz.out, ← HL5.out]), by omega, hide (by rw [by8_append]; exact HO6.out), HF6⟩
        case rest =>
          obtain ⟨z', Hz', hz', HO7, HF7⟩ := hcut
          refine hK _ _ ?_
          go_wp2
          go_roundw
          case rel => exact ⟨q + 1, z', Z ++ (enc xn ++ enc xl), by omega, by go_num, hide (by rw [HZ.out, HTk.out]; simp), Hz', by omega, HO7, HF7⟩
          case measure => simp [intOf]; omega
      · obtain rfl : q = m := by omega
        have HX : Hid (Z = enc n ++ enc q ++ headB cs) := hide (by rw [HZ.out, List.take_of_length_le (by rw [← HM.out]; exact Nat.le_refl _)])
        obtain ⟨y, hy⟩ : ∃ y, y = z := ⟨_, rfl⟩
        obtain ⟨X, hX⟩ : ∃ X, X = Z := ⟨_, rfl⟩
        rw [← hX, ← hy] at HO
        rw [← hX] at HX
        have HYl : Hid (y = X.length) := hide (by rw [hy, hX]; exact Hz.out)
        have hyb : y ≤ 330000 := by omega
        clear hlt hy hX
        go_wp2
        go_loopw [5, 48] (fun v ix wr => ∃ (q2 z : Nat) (Z : List UInt8), q2 ≤ q ∧ ix = .int .i64 q2 ∧ Hid (Z = X ++ bodyB (cs.take q2)) ∧ Hid (z = Z.length) ∧ z ≤ y + 268426 * q2 ∧ Hid (Own wr w1.heap.size 5 1 v z (by8 Z)) ∧ Hid (Fr No w1 wr)) (fun _ ix _ => q - (intOf ix).toNat)
        case atStart => exact ⟨0, y, X, by omega, rfl, hide (by simp [bodyB]), HYl, by omega, HO, HFr⟩
        case round =>
          obtain ⟨wy, rfl⟩ : ∃ wy : World, wy = wr := ⟨_, rfl⟩
          clear HO HFr HZ Hz
          obtain ⟨q2, z2, Z2, hq2, rfl, HZ, Hz, hzb2, HO, HFr⟩ := hrel
          by_cases hlt : q2 < q
          · obtain ⟨g, cc, p, eg, _, _, ep, _, k0, k1, k2, kO⟩ := (HC1.out.fr0 HFr.out).at hlt
            obtain rfl : Av = some ⟨g, 0, none⟩ := by injection eg
            obtain ⟨x, hx⟩ : ∃ x, cs[q2]? = some x := ⟨_, List.getElem?_eq_getElem (by rw [← HM.out]; exact hlt)⟩
            have htp : tri p = (cntB (cs.take q2), cntB (cs.take q2) + x.1, x.2) := by
              have h : (ps.map tri)[q2]? = (chs 0 (cutsB ds))[q2]? := by rw [HT.out]
              rw [List.getElem?_map, ep, ← HCs.out, chs_at hx] at h
              simpa using h
            have hpb : p.b = x.2 := congrArg (·.2.2) htp
            have hx2 := HSm.out x (List.mem_of_getElem? hx)
            obtain ⟨xb, hxb⟩ : ∃ xb, xb = x.2 := ⟨_, rfl⟩
            obtain ⟨xl, hxl⟩ : ∃ xl, xl = xb.length := ⟨_, rfl⟩
            rw [← hxb] at hpb hx2
            rw [← hxl] at hx2
            obtain ⟨Ab, cb, hbv, y1, y2, _, hrd, _⟩ := kO.form
            rw [hpb, ← hxl] at hbv y1
            rw [hbv] at k2
            rw [hpb] at hrd
            have HTk : Hid (bodyB (cs.take (q2 + 1)) = bodyB (cs.take q2) ++ xb) := hide (by rw [take_some hx, bodyB_snoc, hxb])
            have HXl := hide hxl
            obtain ⟨pf, hpf⟩ : ∃ pf, pf = p.f := ⟨_, rfl⟩
            obtain ⟨pt, hpt⟩ : ∃ pt, pt = p.t := ⟨_, rfl⟩
            rw [← hpf] at k0
            rw [← hpt] at k1
            have HO2 := hide (HO.out.fr0 ((Fr.refl No wy).alloc (.cells #[.int .i64 pf, .int .i64 pt, .slice Ab xl cb] 106)))
            have HS2 := hide (Src.ofRd (P := Try.prog) (size := 1) (wy.alloc (.cells #[.int .i64 pf, .int .i64 pt, .slice Ab xl cb] 106)) Try.underlying23 Ab xl cb (by8 xb) (by rw [by8_length, hxl]; omega) (by omega) (hrd.fr0 ((Fr.refl No wy).alloc _)) (by8_one _))
            have c1' : (z2 + xl) * 1 ≤ 140737488355328 := by omega
            have c2' : z2 + xl ≤ maxLen := by unfold maxLen; omega
            have c3' : w1.heap.size ≤ (wy.alloc (.cells #[.int .i64 pf, .int .i64 pt, .slice Ab xl cb] 106)).heap.size := by have := HFr.out.size; simp; omega
            clear eg ep kO htp hpf hpt hx hpb hxb hxl hbv y1 y2 hrd
            go_wp2_with (first | (at_builtin; refine wpList_append_gen _ rfl (.tmp 52) (.tmp 54) 23 23 rfl w1.heap.size 5 i5 (.int .u8 0) 1 1 Try.underlying23 hi5 hz5 hsz5 hby5 rfl u5 z2 (by8 Z2) rfl HO2.out _ xl (by8 xb) rfl HS2.out c1' c2' c3' ?_; intro v5 w5 hown hfr hat; have HO5 := hide hown; have HF5 : Hid (Fr No w1 w5) := hide ((HFr.out.alloc _).own hfr (fun k hk => .inl (HO2.out.lt k hk).1)); clear hown hfr hat) | fail)
            go_roundw
            case rel => exact ⟨q2 + 1, z2 + xl, Z2 ++ xb, by omega, by go_num, hide (by rw [HZ.out, HTk.out, List.append_assoc]), hide (by rw [List.length_append, ← Hz.out, ← HXl.out]), by omega, hide (by rw [by8_append]; exact HO5.out), HF5⟩
            case measure => simp [intOf]; omega
          · obtain rfl : q2 = q := by omega
            clear hlt
            go_wp2
            go_ret
            have e : buildB ds = Z2 := by rw [HBe.out, HZ.out, HX.out, List.take_of_length_le (by rw [← HM.out]; exact Nat.le_refl _), ← HM.out]
            rw [e]
            refine ⟨_, rfl, ?_, HF1.out.tr HFr.out⟩
            rw [← Hz.out]
            exact HO.out.lower HF1.out.size
  · have hb : buildB ds = [] := by unfold buildB; rw [if_neg hm]
    rw [decide_eq_false hm] at HCut
    rw [hb]
    clear hm hb
    go_enter Try.func39, Try.ntmps39
    go_wp2_with (go_at_call 71; refine HCut.out.mono ?_; rintro en w1 ⟨v1, rfl, hfr, hps⟩; have HF1 : Hid (Fr No w w1) := hide hfr; clear hfr hps)
    go_ret
    exact ⟨_, rfl, Own.nil _ _ _ _, HF1.out⟩
end Go.Proofs.Ytpnhnnhocekchaa
