/- Several texts in one: KitU64, OffT, TerM, TerD, DicM, DicT, LowC, LowL. -/
import Derived.Test.YtcdhbdhhknlbaaaK4
import Derived.RegionTactic
import Derived.Shelf.SlSorted.Search
import Derived.Shelf.Lay
namespace Go.Proofs.Ytcdhbdhhknlbaaa
set_option linter.unusedVariables false
set_option linter.unusedSimpArgs false
open Go.RowKit

set_option maxRecDepth 100000 in
set_option maxHeartbeats 800000 in
theorem sameU64_any (A B : Option Addr) (n c m d b1 b2 : Nat) (xs ys : List Int) (w : World) (hx : xs.length = n) (hy : ys.length = m) (hn : n ≤ c) (hc : c ≤ maxLen) (hm : m ≤ d) (hd : d ≤ maxLen) (hr : Rd w b1 A (iz .u64 xs)) (hs : Rd w b2 B (iz .u64 ys)) :
    Calls Try.prog 19 #[.slice A n c, .slice B m d] w (RetQ (.bool (decide (xs = ys))) w) := by
  unfold maxLen at hc hd
  have HX := hide hx
  have HY := hide hy
  have HR := hide hr
  have HS := hide hs
  clear hx hy hr hs
  by_cases hnm : n = m
  · subst hnm
    have hb : ((n : Int) != n) = false := by simp
    go_enter Try.func19, Try.ntmps19
    go_wp2
    go_loopw [5] (fun i wr => ∃ k nq : Nat, k ≤ n ∧ i = .int .i64 k ∧ wr = w.drewN nq ∧ Hid (xs.take k = ys.take k)) (fun i _ => n - (intOf i).toNat)
    case atStart => exact ⟨0, 0, by omega, rfl, rfl, hide rfl⟩
    case round =>
      obtain ⟨k, nq, hk, rfl, rfl, HT⟩ := hrel
      by_cases hlt : k < n
      · have h1 : k < xs.length := by rw [HX.out]; exact hlt
        have h2 : k < ys.length := by rw [HY.out]; exact hlt
        obtain ⟨ad, rfl, _, hcell⟩ := HR.out.intAt h1
        obtain ⟨bd, rfl, _, hcell2⟩ := HS.out.intAt h2
        have HE := hide (fun he => take_succ_int h1 h2 HT.out he)
        have HN := hide (show xs.getD k 0 ≠ ys.getD k 0 → xs ≠ ys from fun h e => h (by rw [e]))
        clear h1 h2
        generalize xs.getD k 0 = x at hcell HE HN
        generalize ys.getD k 0 = y at hcell2 HE HN
        by_cases he : x = y
        · subst he
          have HE' := hide (HE.out rfl)
          clear HE
          have hb2 : (x != x) = false := by simp
          go_wp2
          go_quiet (fail)
          go_wp2
          go_round
          case rel => exact ⟨k + 1, _, by omega, by go_num, rfl, HE'⟩
          case measure => simp [intOf]; omega
        · have hb2 : (x != y) = true := by simpa using he
          have HF := hide (HN.out he)
          clear HN HE he
          go_wp2
          go_quiet (fail)
          go_wp2
          go_ret
          exact ⟨by simp [HF.out], _, World.drewN_drewN _ _ _⟩
      · have HF := hide (show xs = ys by
          have h := HT.out
          rwa [List.take_of_length_le (by rw [HX.out]; omega), List.take_of_length_le (by rw [HY.out]; omega)] at h)
        go_wp2
        go_ret
        exact ⟨by simp [HF.out], _, rfl⟩
  · have hb : ((n : Int) != m) = true := by simp; omega
    have HF := hide (show xs ≠ ys from fun e => hnm (by rw [← HX.out, ← HY.out, e]))
    go_enter Try.func19, Try.ntmps19
    go_wp2
    go_ret
    exact ⟨by simp [HF.out], 0, rfl⟩

theorem Try.infoKU64 : (Try.prog.info? 40).map (fun i => (i.zero, i.size, i.bytes)) = some (some (.int .u64 0), 1, 8) := by kernel_rfl
def GivesLentU64 (w : World) (xs : List Int) (en : Ending) (w' : World) : Prop :=
  ∃ A c, en = .returned (.slice A xs.length c) ∧ Own w' w.heap.size 40 1 (.slice A (xs.length + 1) c) (xs.length + 1) (iz .u64 (xs ++ [7171])) ∧ Fr No w w'

set_option maxRecDepth 100000 in
set_option maxHeartbeats 800000 in
theorem lentU64_any (A : Option Addr) (n c B : Nat) (xs : List Int) (w : World) (hl : xs.length = n) (hb : (n + 1) * 8 ≤ 140737488355328) (hr : Rd w B A (iz .u64 xs)) :
    Calls Try.prog 21 #[.slice A n c] w (GivesLentU64 w xs) := by
  obtain ⟨i0, hi, hz, hsz, hby⟩ := info_parts Try.infoKU64
  have HS := hide (Src.ofRd (P := Try.prog) (size := 1) w Try.underlying23 A n c (iz .u64 xs) (by rw [iz_len, hl]; omega) (by omega) hr (iz_one _ _))
  have HL := hide hl
  clear hr hl
  have b1 : (0 + n) * 8 ≤ 140737488355328 := by omega
  have b2 : 0 + n ≤ maxLen := by unfold maxLen; omega
  have c1 : (0 + n + 1) * 8 ≤ 140737488355328 := by omega
  have c2 : 0 + n + 1 ≤ maxLen := by unfold maxLen; omega
  have HO0 := hide (Own.nil w w.heap.size 40 1)
  go_enter Try.func21, Try.ntmps21
  go_wp2_with (first
    | (at_builtin; refine wpList_append_gen _ rfl (.tmp 4) (.tmp 5) 23 23 rfl w.heap.size 40 i0 (.int .u64 0) 1 8 Try.underlying23 hi hz hsz hby rfl (.slice none 0 0) 0 [] rfl HO0.out _ n (iz .u64 xs) rfl HS.out b1 b2 (Nat.le_refl _) ?_; intro v1 w1 hown hfr hat; have HO1 := hide hown; have HF1 : Hid (Fr No w w1) := hide ((Fr.refl No w).own hfr (fun g h => by cases h)); have hz1 := hfr.size; clear hown hfr hat)
    | (at_builtin; refine wpList_append_gen _ rfl (.tmp 7) (.tmp 8) 23 23 rfl w.heap.size 40 i0 (.int .u64 0) 1 8 Try.underlying23 hi hz hsz hby rfl v1 (0 + n) _ rfl (HO1.out.fr0 ((Fr.refl No w1).alloc (.cells #[.int .u64 (7171)] 40))) _ 1 [.int .u64 (7171)] rfl (Src.one (P := Try.prog) w1 (e := 40) Try.underlying23 (.int .u64 (7171)) rfl) c1 c2 (by simp; omega) ?_; intro v2 w2 hown hfr hat; obtain ⟨A2, k2, rfl, hc1, hc2, _⟩ := hown.form; unfold maxLen at hc2; have HO2 := hide hown; have HF2 : Hid (Fr No w w2) := hide ((HF1.out.alloc _).own hfr (fun g hg => .inl (HO1.out.lt g hg).1)); clear hown hfr hat))
  go_ret
  refine ⟨A2, k2, ?_, ?_, HF2.out⟩
  · rw [HL.out]; first | rfl | simp
  · have h := HO2.out
    rw [HL.out, iz_append]
    simpa [iz] using h

set_option maxRecDepth 100000 in
set_option maxHeartbeats 800000 in
theorem keptU64_any (A B : Option Addr) (n c m d b1 b2 : Nat) (xs : List Int) (w : World) (hx : xs.length = n) (hm : xs.length = m) (hn : n + 1 ≤ c) (hc : c ≤ maxLen) (hmd : m ≤ d) (hd : d ≤ maxLen) (hr : Rd w b1 A (iz .u64 (xs ++ [7171]))) (hs : Rd w b2 B (iz .u64 xs)) :
    Calls Try.prog 23 #[.slice A n c, .slice B m d] w (RetQ (.bool true) w) := by
  have hr1 : Rd w b1 A (iz .u64 xs) := by
    have h := hr.tk xs.length
    rw [← iz_take, List.take_left] at h
    exact h
  have HK := hide (sameU64_any A B n c m d b1 b2 xs xs w hx hm (by omega) hc hmd hd hr1 hs)
  rw [decide_eq_true rfl] at HK
  obtain ⟨ad, rfl, _, hcell⟩ := hr.intAt (j := n) (by simp; omega)
  have e1 : (xs ++ [7171]).getD n 0 = 7171 := by rw [← hx]; simp
  rw [e1] at hcell
  unfold maxLen at hc
  clear hr hs hr1 hx hm e1
  go_enter Try.func23, Try.ntmps23
  go_wp2_with (go_at_call 19; refine HK.out.mono ?_; rintro en w2 ⟨rfl, nq, rfl⟩)
  go_ret
  exact ⟨rfl, _, rfl⟩

end Go.Proofs.Ytcdhbdhhknlbaaa
namespace Go.Proofs.Ytcdhbdhhknlbaaa
set_option linter.unusedVariables false
set_option linter.unusedSimpArgs false
open Go.RowKit

theorem Own.cellsT {w : World} {base e size n : Nat} {v : Value} {xs : List Value} (h : Own w base e size v n xs) {k : Nat} (hk : v.ownBlock = some k) : base ≤ k ∧ ∃ cs fz, w.heap[k]? = some (.cells cs e fz) := by
  refine ⟨(h.lt k hk).1, ?_⟩
  obtain ⟨_, A, c, rfl, _, _, hA⟩ := h
  rcases hA with ⟨rfl, _⟩ | ⟨g, cur, rfl, _, hh, _⟩
  · cases hk
  · have e : g = k := Option.some.inj hk
    subst e
    exact ⟨_, _, hh⟩
/-- a frame that writes no block of one type. -/
def Off (S : Nat → Prop) (w : World) (t : TypeId) : Prop := ∀ k cs fz, w.heap[k]? = some (.cells cs t fz) → ¬ S k
theorem Own.off {S : Nat → Prop} {w w' : World} {base e size n : Nat} {v : Value} {xs : List Value} (h : Own w base e size v n xs) (f : Fr S w w') (hS : Off S w e) : Own w' base e size v n xs :=
  h.fr f (fun k hk => by
    obtain ⟨_, cs, fz, hh⟩ := h.cellsT hk
    exact hS k cs fz hh)
theorem RD.offT {S : Nat → Prop} {w w' : World} {g : Nat} {bs : List UInt8} {a : Nat} {e : Int} (h : RD w g bs a e) (f : Fr S w w') (h1 : Off S w 94) (h2 : Off S w 5) : RD w' g bs a e := by
  obtain ⟨A, c, hh, q1, q2, q3, q4, ho⟩ := h
  exact ⟨A, c, f.blk hh (h1 _ _ _ hh), q1, q2, q3, q4, ho.off f h2⟩
theorem off_is {w : World} {g : Nat} {cs : Array Value} {t t' : TypeId} {fz : Nat × Nat} (h : w.heap[g]? = some (.cells cs t fz)) (hne : t' ≠ t) : Off (Is g) w t' := by
  intro k cs' fz' hk e
  have e : k = g := e
  subst e
  rw [h] at hk
  injection hk with hk
  injection hk with _ hk _
  exact hne hk.symm
theorem off_own {w : World} {base e size n : Nat} {v : Value} {xs : List Value} (h : Own w base e size v n xs) {t : TypeId} (hne : t ≠ e) : Off (fun k => v.ownBlock = some k) w t := by
  intro k cs fz hk hv
  obtain ⟨_, cs', fz', hh⟩ := h.cellsT hv
  rw [hh] at hk
  injection hk with hk
  injection hk with _ hk _
  exact hne hk.symm


end Go.Proofs.Ytcdhbdhhknlbaaa
namespace Go.Proofs.Ytcdhbdhhknlbaaa
set_option linter.unusedVariables false
set_option linter.unusedSimpArgs false
open Go.RowKit

theorem Try.infoS : (Try.prog.info? 9).map (fun i => (i.zero, i.size, i.bytes)) = some (some (.string ⟨#[]⟩), 1, 16) := by kernel_rfl
theorem Try.infoU : (Try.prog.info? 40).map (fun i => (i.zero, i.size, i.bytes)) = some (some (.int .u64 0), 1, 8) := by kernel_rfl
theorem make_strs (n : Nat) (hn : n ≤ 1048576) (W : World) : (Instr.makeSlice 22 (.int .i64 (n : Nat)) (.int .i64 (n : Nat))).run Try.prog W = .ok (.slice (some ⟨W.heap.size, 0, none⟩) n n) (W.alloc (.cells (madeCells #[.string ⟨#[]⟩] n) 9)) := by
  obtain ⟨i0, hi, hz, hsz, hby⟩ := info_parts Try.infoS
  have h := run_make (P := Try.prog) W 22 9 i0 (.string ⟨#[]⟩) Try.underlying22 hi hz .i64 .i64 (n : Int) (n : Int) (by omega) (by omega) (by rw [hby]; omega) (by omega)
  rw [h, hsz]
  simp [Value.cells]
theorem make_u64s (n : Nat) (hn : n ≤ 1048576) (W : World) : (Instr.makeSlice 23 (.int .i64 (n : Nat)) (.int .i64 (n : Nat))).run Try.prog W = .ok (.slice (some ⟨W.heap.size, 0, none⟩) n n) (W.alloc (.cells (madeCells #[.int .u64 0] n) 40)) := by
  obtain ⟨i0, hi, hz, hsz, hby⟩ := info_parts Try.infoU
  have h := run_make (P := Try.prog) W 23 40 i0 (.int .u64 0) Try.underlying23 hi hz .i64 .i64 (n : Int) (n : Int) (by omega) (by omega) (by rw [hby]; omega) (by omega)
  rw [h, hsz]
  simp [Value.cells]

theorem three (w : World) (o1 o2 o3 : Obj) : (((w.alloc o1).alloc o2).alloc o3).heap[w.heap.size]? = some o1 ∧ (((w.alloc o1).alloc o2).alloc o3).heap[w.heap.size + 1]? = some o2 ∧ (((w.alloc o1).alloc o2).alloc o3).heap[w.heap.size + 1 + 1]? = some o3 := by
  have h1 := heap_alloc_new w o1
  have h2 := heap_alloc_new (w.alloc o1) o2
  have h3 := heap_alloc_new ((w.alloc o1).alloc o2) o3
  have f2 : Fr No (w.alloc o1) ((w.alloc o1).alloc o2) := (Fr.refl No _).alloc _
  have f3 : Fr No ((w.alloc o1).alloc o2) (((w.alloc o1).alloc o2).alloc o3) := (Fr.refl No _).alloc _
  rw [World.size_alloc] at h2
  rw [World.size_alloc, World.size_alloc] at h3
  exact ⟨f3.blk (f2.blk h1 (fun h => h)) (fun h => h), f3.blk h2 (fun h => h), h3⟩
theorem fr_three (w : World) (o1 o2 o3 : Obj) : Fr No w (((w.alloc o1).alloc o2).alloc o3).drew := ((((Fr.refl No w).alloc _).alloc _).alloc _).drew

theorem own_of_row {w : World} {B L n : Nat} {e : TypeId} {cs : Array Value} {xs : List Value} (h : w.heap[L]? = some (.cells cs e (0, 0))) (hx : cs.toList = xs) (hn : xs.length = n) (hB : B ≤ L) (hm : n ≤ maxLen) : Own w B e 1 (.slice (some ⟨L, 0, none⟩) n n) n xs := by
  have hc : cs.size = n := by rw [← hn, ← hx, Array.length_toList]
  refine ⟨by omega, _, _, rfl, Nat.le_refl _, hm, .inr ⟨L, cs, rfl, hB, h, by omega, ?_⟩⟩
  rw [Nat.mul_one, List.take_of_length_le (by rw [Array.length_toList]; omega), hx]
theorem made_list (v : Value) (n : Nat) : (madeCells #[v] n).toList = List.replicate n v := by
  apply List.ext_getElem
  · simp [madeCells]
  · intro i h1 h2
    simp [madeCells, Nat.mod_one]
def un (vs : List Nat) : List Value := vs.map fun (v : Nat) => .int .u64 (v : Int)

/-- the memory of a call of read. -/
structure ReadS (w : World) (B br bl g L V n : Nat) (bs : List UInt8) (a : Nat) (e : Int) (xs ys : List Value) : Prop where
  rd : RD w g bs a e
  bx : BoxT w br bl g L n
  row : Own w B 9 1 (.slice (some ⟨L, 0, none⟩) n n) n xs
  val : Own w B 40 1 (.slice (some ⟨V, 0, none⟩) n n) n ys
section
variable {w w' : World} {B br bl g L V n : Nat} {bs : List UInt8} {a a' : Nat} {e e' : Int} {xs ys : List Value}
theorem ReadS.heapg (h : ReadS w B br bl g L V n bs a e xs ys) : ∃ cs fz, w.heap[g]? = some (.cells cs 94 fz) := by
  obtain ⟨A, c, hh, _⟩ := h.rd
  exact ⟨_, _, hh⟩
theorem BoxT.off {S : Nat → Prop} (h : BoxT w br bl g L n) (f : Fr S w w') (h1 : Off S w 71) (h2 : Off S w 22) : BoxT w' br bl g L n := h.fr f (h1 _ _ _ h.r) (h2 _ _ _ h.l)
/-- behind a call of the reader. -/
theorem ReadS.read (h : ReadS w B br bl g L V n bs a e xs ys) (f : Fr (Is g) w w') (r : RD w' g bs a' e') : ReadS w' B br bl g L V n bs a' e' xs ys := by
  obtain ⟨cs, fz, hg⟩ := h.heapg
  exact ⟨r, h.bx.off f (off_is hg (by decide)) (off_is hg (by decide)), h.row.off f (off_is hg (by decide)), h.val.off f (off_is hg (by decide))⟩
theorem ReadS.fr0 (h : ReadS w B br bl g L V n bs a e xs ys) (f : Fr No w w') : ReadS w' B br bl g L V n bs a e xs ys := ⟨h.rd.fr0 f, h.bx.fr f (fun h => h) (fun h => h), h.row.fr0 f, h.val.fr0 f⟩
theorem ReadS.put (h : ReadS w B br bl g L V n bs a e xs ys) {k : Nat} (hk : k < n) (v : Value) : ReadS (w.setCell ⟨L, k, none⟩ v) B br bl g L V n bs a e (xs.set k v) ys := by
  have f := Fr.putO w L k n n v
  obtain ⟨G, e1, _, _, _, _, h6⟩ := h.row.store hk
  injection e1 with e1
  injection e1 with e1 _ _
  subst e1
  exact ⟨h.rd.offT f (off_own h.row (by decide)) (off_own h.row (by decide)), h.bx.off f (off_own h.row (by decide)) (off_own h.row (by decide)), h6 v, h.val.off f (off_own h.row (by decide))⟩
theorem ReadS.putV (h : ReadS w B br bl g L V n bs a e xs ys) {k : Nat} (hk : k < n) (v : Value) : ReadS (w.setCell ⟨V, k, none⟩ v) B br bl g L V n bs a e xs (ys.set k v) := by
  have f := Fr.putO w V k n n v
  obtain ⟨G, e1, _, _, _, _, h6⟩ := h.val.store hk
  injection e1 with e1
  injection e1 with e1 _ _
  subst e1
  exact ⟨h.rd.offT f (off_own h.val (by decide)) (off_own h.val (by decide)), h.bx.off f (off_own h.val (by decide)) (off_own h.val (by decide)), h.row.off f (off_own h.val (by decide)), h6 v⟩
theorem ReadS.cellL (h : ReadS w B br bl g L V n bs a e xs ys) {k : Nat} (hk : k < n) : w.cell? ⟨L, k, none⟩ = xs[k]? ∧ w.frozen? ⟨L, k, none⟩ = false ∧ B ≤ L := by
  obtain ⟨G, e1, h2, _, h4, h5, _⟩ := h.row.store hk
  injection e1 with e1
  injection e1 with e1 _ _
  subst e1
  exact ⟨h4, h5, h2⟩
theorem ReadS.cellV (h : ReadS w B br bl g L V n bs a e xs ys) {k : Nat} (hk : k < n) : w.cell? ⟨V, k, none⟩ = ys[k]? ∧ w.frozen? ⟨V, k, none⟩ = false ∧ B ≤ V := by
  obtain ⟨G, e1, h2, _, h4, h5, _⟩ := h.val.store hk
  injection e1 with e1
  injection e1 with e1 _ _
  subst e1
  exact ⟨h4, h5, h2⟩
end
def padT (l : List Tx) (n : Nat) : List Value := svs l ++ List.replicate (n - l.length) (.string ⟨#[]⟩)
theorem padT_set {l : List Tx} {n : Nat} (h : l.length < n) (t : Tx) : (padT l n).set l.length (sv t) = padT (l ++ [t]) n := by
  unfold padT
  rw [List.set_append_right _ _ (by rw [svs_len]; exact Nat.le_refl _), svs_len, Nat.sub_self, svs_snoc, List.append_assoc, List.length_append]
  obtain ⟨m, hm⟩ : ∃ m, n - l.length = m + 1 := ⟨n - l.length - 1, by omega⟩
  rw [hm, List.replicate_succ, List.set_cons_zero, show n - (l.length + [t].length) = m by simp; omega]
  rfl
theorem padT_at {l : List Tx} {n k : Nat} (h : k < l.length) : (padT l n)[k]? = some (sv (l.getD k [])) := by
  unfold padT
  rw [List.getElem?_append_left (by rw [svs_len]; exact h), svs_get h]
theorem padT_off {l : List Tx} {n : Nat} (h : l.length < n) : (padT l n)[l.length]? = some (.string ⟨#[]⟩) := by
  unfold padT
  rw [List.getElem?_append_right (by rw [svs_len]; exact Nat.le_refl _), svs_len, Nat.sub_self, List.getElem?_replicate, if_pos (by omega)]
theorem padT_len {l : List Tx} {n : Nat} (h : l.length ≤ n) : (padT l n).length = n := by unfold padT; simp [svs_len]; omega
def padU (l : List Nat) (n : Nat) : List Value := un l ++ List.replicate (n - l.length) (.int .u64 0)
theorem un_len (l : List Nat) : (un l).length = l.length := by simp [un]
theorem padU_set {l : List Nat} {n : Nat} (h : l.length < n) (t : Nat) : (padU l n).set l.length (.int .u64 (t : Nat)) = padU (l ++ [t]) n := by
  unfold padU
  rw [List.set_append_right _ _ (by rw [un_len]; exact Nat.le_refl _), un_len, Nat.sub_self, show un (l ++ [t]) = un l ++ [.int .u64 (t : Nat)] by simp [un], List.append_assoc, List.length_append]
  obtain ⟨m, hm⟩ : ∃ m, n - l.length = m + 1 := ⟨n - l.length - 1, by omega⟩
  rw [hm, List.replicate_succ, List.set_cons_zero, show n - (l.length + [t].length) = m by simp; omega]
  rfl
theorem padU_off {l : List Nat} {n : Nat} (h : l.length < n) : (padU l n)[l.length]? = some (.int .u64 0) := by
  unfold padU
  rw [List.getElem?_append_right (by rw [un_len]; exact Nat.le_refl _), un_len, Nat.sub_self, List.getElem?_replicate, if_pos (by omega)]

end Go.Proofs.Ytcdhbdhhknlbaaa
namespace Go.Proofs.Ytcdhbdhhknlbaaa
set_option linter.unusedVariables false
set_option linter.unusedSimpArgs false
open Go.RowKit

def nxT (bs : List UInt8) (k : Nat) (l : List Tx) (a : Nat) (e : Int) : Tx × Nat × Int := if k = 0 then textS bs a e 4096 else nextT bs (l.getD (k - 1) []) a e
theorem textS_le (bs : List UInt8) (a : Nat) (e : Int) : (textS bs a e 4096).1.length ≤ 4096 := by
  by_cases h : (textS bs a e 4096).2.2 = 0
  · have := (text_of h).2.1; omega
  · rw [text_zero h]; simp
theorem nextT_le (bs : List UInt8) (p : Tx) (a : Nat) (e : Int) : (nextT bs p a e).1.length ≤ 4096 := by
  by_cases h : (nextT bs p a e).1 = []
  · rw [h]; simp
  · obtain ⟨s, a', h1, _, _, h2, _⟩ := next_of h
    rw [h1]
    exact h2
theorem nxT_le (bs : List UInt8) (k : Nat) (l : List Tx) (a : Nat) (e : Int) : (nxT bs k l a e).1.length ≤ 4096 := by
  unfold nxT
  split
  · exact textS_le _ _ _
  · exact nextT_le _ _ _ _
/-- how far reading is. -/
def Going (bs : List UInt8) (n a : Nat) (e : Int) (l : List Tx) (a1 : Nat) (e1 : Int) : Prop :=
  if l.length = 0 then a1 = a ∧ e1 = e else rdA bs (n - l.length) l a1 e1 = rdT bs n a e
theorem going_on {bs : List UInt8} {n a a1 : Nat} {e e1 : Int} {l : List Tx} (h : Going bs n a e l a1 e1) (hl : l.length < n) (hc : l.length = 0 ∨ (nxT bs l.length l a1 e1).1 ≠ []) :
    Going bs n a e (l ++ [(nxT bs l.length l a1 e1).1]) (nxT bs l.length l a1 e1).2.1 (nxT bs l.length l a1 e1).2.2 := by
  unfold Going at h ⊢
  rw [if_neg (by simp)]
  unfold nxT at hc ⊢
  by_cases h0 : l.length = 0
  · rw [if_pos h0] at h
    obtain ⟨rfl, rfl⟩ := h
    have e0 : l = [] := List.eq_nil_of_length_eq_zero h0
    subst e0
    rfl
  · rw [if_neg h0] at h hc ⊢
    rw [← h]
    obtain ⟨m, hm⟩ : ∃ m, n - l.length = m + 1 := ⟨n - l.length - 1, by omega⟩
    rw [hm, rdA, if_neg (hc.resolve_left h0), List.length_append, show n - (l.length + [(nextT bs (l.getD (l.length - 1) []) a1 e1).1].length) = m by simp; omega]
theorem going_bad {bs : List UInt8} {n a a1 : Nat} {e e1 : Int} {l : List Tx} (h : Going bs n a e l a1 e1) (hl : l.length < n) (h0 : l.length ≠ 0) (hc : (nxT bs l.length l a1 e1).1 = []) : (rdT bs n a e).1 = none := by
  unfold Going at h
  unfold nxT at hc
  rw [if_neg h0] at h hc
  rw [← h]
  obtain ⟨m, hm⟩ : ∃ m, n - l.length = m + 1 := ⟨n - l.length - 1, by omega⟩
  rw [hm, rdA, if_pos hc]
theorem going_end {bs : List UInt8} {n a a1 : Nat} {e e1 : Int} {l : List Tx} (h : Going bs n a e l a1 e1) (hl : l.length = n) (hn : 0 < n) : rdT bs n a e = (some l, a1, e1) := by
  unfold Going at h
  rw [if_neg (by omega), hl, Nat.sub_self, rdA] at h
  exact h.symm

set_option maxRecDepth 100000 in
set_option maxHeartbeats 4000000 in
theorem read_any (g : Nat) (bs : List UInt8) (a : Nat) (e : Int) (n : Nat) (w : World) (h : RD w g bs a e) (hn0 : 0 < n) (hn : n ≤ 16) :
    Calls Try.prog 43 #[.pointer (some ⟨g, 0, none⟩), .int .i64 n] w (fun en w' => Fr (Is g) w w' ∧ ((∃ l L V vs a', (rdT bs n a e).1 = some l ∧ rdV bs n [] (rdT bs n a e).2.1 (rdT bs n a e).2.2 = (vs, a', 0) ∧
      en = .returned (.tuple #[.slice (some ⟨L, 0, none⟩) n n, .slice (some ⟨V, 0, none⟩) n n, .bool true]) ∧ Own w' w.heap.size 9 1 (.slice (some ⟨L, 0, none⟩) n n) n (svs l) ∧ Own w' w.heap.size 40 1 (.slice (some ⟨V, 0, none⟩) n n) n (un vs) ∧ RD w' g bs a' 0) ∨
      (((rdT bs n a e).1 = none ∨ (rdV bs n [] (rdT bs n a e).2.1 (rdT bs n a e).2.2).2.2 ≠ 0) ∧ ∃ v1 v2, en = .returned (.tuple #[v1, v2, .bool false])))) := by
  have HR := hide h
  have HL := hide h.lt
  have m1 := make_strs n (by omega)
  have m2 := make_u64s n (by omega)
  obtain ⟨z1, hz1⟩ : ∃ z, z = madeCells #[Value.string ⟨#[]⟩] n := ⟨_, rfl⟩
  obtain ⟨z2, hz2⟩ : ∃ z, z = madeCells #[Value.int .u64 0] n := ⟨_, rfl⟩
  rw [← hz1] at m1
  rw [← hz2] at m2
  have HZ1 := hide hz1
  have HZ2 := hide hz2
  clear h hz1 hz2
  go_enter Try.func43, Try.ntmps43
  go_wp2_with (fail)
  obtain ⟨w1, hw1⟩ : ∃ w1, w1 = w.alloc (.cells #[.pointer (some ⟨g, 0, none⟩)] 71) := ⟨_, rfl⟩
  have HF1 : Hid (Fr No w w1) := hide (by rw [hw1]; exact (Fr.refl No w).alloc _)
  have HB1 : Hid (w1.heap[w.heap.size]? = some (.cells #[.pointer (some ⟨g, 0, none⟩)] 71 (0, 0))) := hide (by rw [hw1]; exact heap_alloc_new w _)
  have HS1 : Hid (w1.heap.size = w.heap.size + 1) := hide (by rw [hw1]; simp)
  have HR1 := hide (HR.out.fr0 HF1.out)
  rw [← hw1]
  clear hw1
  go_cut [7, 8] from 12 to 15 (fun v7 v8 wx => ∃ bl V, v7 = .pointer (some ⟨bl, 0, none⟩) ∧ v8 = .slice (some ⟨V, 0, none⟩) n n ∧ ∃ L, wx.heap[bl]? = some (.cells #[.slice (some ⟨L, 0, none⟩) n n] 22 (0, 0)) ∧ wx.heap[L]? = some (.cells z1 9 (0, 0)) ∧ wx.heap[V]? = some (.cells z2 40 (0, 0)) ∧ Fr No w1 wx ∧ w1.heap.size ≤ bl ∧ w1.heap.size ≤ L ∧ w1.heap.size ≤ V)
  case first =>
    go_region
    all_goals go_wp2
    all_goals go_meet
    all_goals (first
      | exact ⟨_, _, rfl, rfl, _, (three w1 _ _ _).1, (three w1 _ _ _).2.1, (three w1 _ _ _).2.2, fr_three _ _ _ _, by omega, by omega, by omega⟩
      | exact ⟨_, _, rfl, rfl, _, (three w1 _ _ _).1, (three w1 _ _ _).2.2, (three w1 _ _ _).2.1, fr_three _ _ _ _, by omega, by omega, by omega⟩
      | exact ⟨_, _, rfl, rfl, _, (three w1 _ _ _).2.1, (three w1 _ _ _).1, (three w1 _ _ _).2.2, fr_three _ _ _ _, by omega, by omega, by omega⟩
      | exact ⟨_, _, rfl, rfl, _, (three w1 _ _ _).2.1, (three w1 _ _ _).2.2, (three w1 _ _ _).1, fr_three _ _ _ _, by omega, by omega, by omega⟩
      | exact ⟨_, _, rfl, rfl, _, (three w1 _ _ _).2.2, (three w1 _ _ _).1, (three w1 _ _ _).2.1, fr_three _ _ _ _, by omega, by omega, by omega⟩
      | exact ⟨_, _, rfl, rfl, _, (three w1 _ _ _).2.2, (three w1 _ _ _).2.1, (three w1 _ _ _).1, fr_three _ _ _ _, by omega, by omega, by omega⟩)
  case rest =>
    obtain ⟨bl, V, rfl, rfl, L, hx1, hx2, hx3, hx4, hx5, hx6, hx7⟩ := hcut
    have HX := hide (And.intro hx1 (And.intro hx2 (And.intro hx3 (And.intro hx4 (And.intro hx5 (And.intro hx6 hx7))))))
    have k0 : wc.cell? ⟨bl, 0, none⟩ = some (.slice (some ⟨L, 0, none⟩) n n) := cell_of_row _ _ 0 _ _ _ hx1
    clear hx1 hx2 hx3 hx4 hx5 hx6 hx7 m1 m2
    obtain ⟨x1, x2, x3, x4, x5, x6, x7⟩ := HX.out
    have HGW : Hid (Going bs n a e [] a e) := hide ⟨rfl, rfl⟩
    have HS : Hid (ReadS wc w1.heap.size w.heap.size bl g L V n bs a e (padT [] n) (padU [] n)) := hide ⟨HR1.out.fr0 x4, ⟨x4.blk HB1.out (fun h => h), x1⟩,
      own_of_row x2 (by rw [HZ1.out, made_list]; simp [padT, svs]) (padT_len (by simp)) x6 (by unfold maxLen; omega),
      own_of_row x3 (by rw [HZ2.out, made_list]; simp [padU, un]) (by simp [padU, un]) x7 (by unfold maxLen; omega)⟩
    have HFc : Hid (Fr (Is g) w wc) := hide ((HF1.out.tr x4).any _)
    clear x1 x2 x3 x4 x5 x6 x7 HX HZ1 HZ2 HB1 HR1 HR HF1
    have hB : w.heap.size < w1.heap.size := by have := HS1.out; omega
    have hgB : g < w1.heap.size := by have := HL.out; omega
    generalize w1.heap.size = B at HS hB hgB
    have HBB := hide (And.intro hB hgB)
    clear HS1 hB hgB HL
    go_wp2_with (fail)
    go_loopw [19] (fun i wr => ∃ (k : Nat) (l : List Tx) (a1 : Nat) (e1 : Int), k ≤ n ∧ i = .int .i64 k ∧ l.length = k ∧ Hid (∀ t ∈ l, t.length ≤ 4096) ∧ Hid (ReadS wr B w.heap.size bl g L V n bs a1 e1 (padT l n) (padU [] n)) ∧ Hid (Going bs n a e l a1 e1) ∧ Hid (Fr (Is g) w wr)) (fun i _ => n - (intOf i).toNat)
    case atStart => exact ⟨0, [], a, e, by omega, rfl, rfl, hide (fun t ht => nomatch ht), HS, HGW, HFc⟩
    case round =>
      clear HS HGW HFc k0
      obtain ⟨k, l, a1, e1, hk, rfl, hkl, HLe, HS, HG, HF⟩ := hrel
      obtain ⟨wo, rfl⟩ : ∃ wo : World, wo = wr := ⟨_, rfl⟩
      by_cases hlt : k < n
      · have hne1 : w.heap.size ≠ g := fun h => by
          obtain ⟨cs, fz, hh⟩ := HS.out.heapg
          have := HS.out.bx.r
          rw [h, hh] at this
          injection this with this
          injection this with _ this _
          exact absurd this (by decide)
        have hne2 : bl ≠ g := fun h => by
          obtain ⟨cs, fz, hh⟩ := HS.out.heapg
          have := HS.out.bx.l
          rw [h, hh] at this
          injection this with this
          injection this with _ this _
          exact absurd this (by decide)
        have hne3 : L ≠ g := by have := (HS.out.cellL hlt).2.2; have := HBB.out.2; omega
        have HCl : Hid (Calls Try.prog 68 #[.int .i64 k, .pointer (some ⟨w.heap.size, 0, none⟩), .pointer (some ⟨bl, 0, none⟩)] wo.drew (RDRet (sv (nxT bs k l a1 e1).1) wo.drew g bs (nxT bs k l a1 e1).2.1 (nxT bs k l a1 e1).2.2)) := hide (by
          have hbx : BoxT wo.drew w.heap.size bl g L n := (HS.out.fr0 (Fr.refl No wo).drew).bx
          unfold nxT
          by_cases h0 : k = 0
          · rw [if_pos h0, h0]
            exact next_zero g bs a1 e1 wo.drew w.heap.size bl L n (HS.out.rd.drewN 1) hbx
          · rw [if_neg h0]
            obtain ⟨j, rfl⟩ : ∃ j, k = j + 1 := ⟨k - 1, by omega⟩
            have hj : j < l.length := by omega
            rw [Nat.add_sub_cancel]
            refine next_any g bs a1 e1 (l.getD j []) wo.drew w.heap.size bl L n j (HS.out.rd.drewN 1) hbx hlt hn ?_ ?_ hne1 hne2 hne3
            · rw [List.getD, List.getElem?_eq_getElem hj]
              exact HLe.out _ (List.getElem_mem hj)
            · show wo.cell? _ = _
              rw [(HS.out.cellL (k := j) (by omega)).1]
              exact padT_at hj)
        have k1 : wo.drew.cell? ⟨bl, 0, none⟩ = some (.slice (some ⟨L, 0, none⟩) n n) := cell_of_row _ _ 0 _ _ _ HS.out.bx.l
        have i2 : (0 : Int) ≤ (k : Int) := by omega
        have i3 : (k : Int) < (n : Int) := by omega
        have i4 : decide ((k : Int) < n) = true := decide_eq_true i3
        obtain ⟨x, hx⟩ : ∃ x, nxT bs k l a1 e1 = x := ⟨_, rfl⟩
        have HNX := hide hx
        rw [hx] at HCl
        clear hx
        obtain ⟨t, a2, e2⟩ := x
        dsimp only at HCl
        obtain ⟨X, hX⟩ : ∃ X : ByteArray, sv t = .string X := ⟨_, rfl⟩
        rw [hX] at HCl
        have HXt := hide hX
        clear hX
        go_wp2_with (fail)
        go_region_held3 (fun W => W.cell? ⟨bl, 0, none⟩ = some (.slice (some ⟨L, 0, none⟩) n n)) (first | exact HK4.out | exact HK3.out | exact k1) (first
          | (go_at_call 68; refine HCl.out.mono ?_; rintro en w3 ⟨rfl, hrd, hfr⟩; have HS3 := hide ((HS.out.fr0 (Fr.refl No wo).drew).read hfr hrd); have HF3 : Hid (Fr (Is g) w w3) := hide (HF.out.ts (Fr.of_drewN (n := 1) hfr)); have HK3 : Hid (w3.cell? ⟨bl, 0, none⟩ = some (.slice (some ⟨L, 0, none⟩) n n)) := hide (cell_of_row _ _ 0 _ _ _ HS3.out.bx.l); have kc : w3.cell? ⟨L, k, none⟩ = some (.string ⟨#[]⟩) := (by rw [(HS3.out.cellL hlt).1, ← hkl]; exact padT_off (by omega)); have kf : w3.frozen? ⟨L, k, none⟩ = false := (HS3.out.cellL hlt).2.1; have HK4 : Hid ((w3.setCell ⟨L, k, none⟩ (.string X)).cell? ⟨bl, 0, none⟩ = some (.slice (some ⟨L, 0, none⟩) n n)) := hide (cell_of_row _ _ 0 _ _ _ (HS3.out.put hlt (.string X)).bx.l); clear hrd hfr))
        have HS4 : Hid (ReadS (w3.setCell ⟨L, k, none⟩ (.string X)) B w.heap.size bl g L V n bs a2 e2 (padT (l ++ [t]) n) (padU [] n)) := hide (by
          have h := HS3.out.put hlt (.string X)
          rw [← HXt.out, ← hkl, padT_set (by omega)] at h
          rw [← hkl, ← HXt.out]
          exact h)
        have HF4 : Hid (Fr (Is g) w (w3.setCell ⟨L, k, none⟩ (.string X))) := hide (HF3.out.setCell (p := ⟨L, k, none⟩) (fun h => by have h : L < w.heap.size := h; have := (HS3.out.cellL hlt).2.2; have := HBB.out.1; omega) _)
        have HLe2 : Hid (∀ t' ∈ l ++ [t], t'.length ≤ 4096) := hide (by
          intro t' ht
          rcases List.mem_append.1 ht with ht | ht
          · exact HLe.out t' ht
          · have h := nxT_le bs k l a1 e1
            rw [HNX.out] at h
            rw [List.mem_singleton.1 ht]
            exact h)
        have hkc : (w3.setCell ⟨L, k, none⟩ (.string X)).cell? ⟨L, k, none⟩ = some (.string X) := by
          rw [(HS4.out.cellL hlt).1, padT_at (by simp; omega), ← HXt.out, ← hkl]
          simp
        have hkb : (w3.setCell ⟨L, k, none⟩ (.string X)).cell? ⟨bl, 0, none⟩ = some (.slice (some ⟨L, 0, none⟩) n n) := HK4.out
        generalize w3.setCell ⟨L, k, none⟩ (.string X) = w4 at HS4 HF4 hkc hkb ⊢
        clear kc kf k1 HK3 HK4 HS3 HF3 HCl HLe HS HF i4
        by_cases h0 : k = 0
        · have hG2 : Hid (Going bs n a e (l ++ [t]) a2 e2) := hide (by
            have h := going_on HG.out (by omega) (.inl (by omega))
            rw [hkl, HNX.out] at h
            exact h)
          have d1 : decide ((0 : Int) < k) = false := decide_eq_false (by omega)
          have d2 : decide (0 < k) = false := decide_eq_false (by omega)
          subst h0
          go_wp2_with (fail)
          go_roundw
          case rel => exact ⟨1, l ++ [t], a2, e2, by omega, by go_num, by simp [hkl], HLe2, HS4, hG2, HF4⟩
          case measure => simp [intOf]; omega
        · have d1 : decide ((0 : Int) < k) = true := decide_eq_true (by omega)
          have d2 : decide (0 < k) = true := decide_eq_true (by omega)
          have hXe : X.toList = t := by
            have h := HXt.out
            unfold sv at h
            injection h with h
            rw [← h, tx_list]
          by_cases ht : t = []
          · have hbad := hide (going_bad HG.out (by omega) (by omega) (by rw [hkl, HNX.out]; exact ht))
            have d3 : (X.toList == []) = true := by rw [hXe, ht]; rfl
            have d4 : (X.toList == (ByteArray.mk #[]).toList) = true := by rw [hXe, ht, ByteArray.toList_eq]; rfl
            clear hXe h0 HNX HXt
            go_wp2_with (fail)
            go_ret3
            exact ⟨HF4.out, .inr ⟨.inl hbad.out, _, _, rfl⟩⟩
          · have hG2 : Hid (Going bs n a e (l ++ [t]) a2 e2) := hide (by
              have h := going_on HG.out (by omega) (.inr (by rw [hkl, HNX.out]; exact ht))
              rw [hkl, HNX.out] at h
              exact h)
            have d3 : (X.toList == []) = false := by rw [hXe]; simp [ht]
            have d4 : (X.toList == (ByteArray.mk #[]).toList) = false := by rw [hXe, ByteArray.toList_eq]; simp [ht]
            clear hXe HNX HXt
            go_wp2_with (fail)
            go_roundw
            case rel => exact ⟨k + 1, l ++ [t], a2, e2, by omega, by go_num, by simp [hkl], HLe2, HS4, hG2, HF4⟩
            case measure => simp [intOf]; omega
      · obtain rfl : k = n := by omega
        have HGe := hide (going_end HG.out hkl (by omega))
        have HS0 : Hid (ReadS wo B w.heap.size bl g L V k bs a1 e1 (svs l) (padU [] k)) := hide (by
          have h := HS.out
          have e : padT l k = svs l := by unfold padT; rw [hkl, Nat.sub_self, List.replicate_zero, List.append_nil]
          rw [e] at h
          exact h)
        have HV0 : Hid (rdV bs k [] (rdT bs k a e).2.1 (rdT bs k a e).2.2 = rdV bs (k - 0) [] a1 e1) := hide (by rw [HGe.out]; rfl)
        clear HG HS HLe hlt hk
        go_wp2_with (fail)
        go_loopw [40] (fun i wr => ∃ (q : Nat) (vs : List Nat) (a2 : Nat) (e2 : Int), q ≤ k ∧ i = .int .i64 q ∧ vs.length = q ∧ Hid (ReadS wr B w.heap.size bl g L V k bs a2 e2 (svs l) (padU vs k)) ∧ Hid (rdV bs k [] (rdT bs k a e).2.1 (rdT bs k a e).2.2 = rdV bs (k - q) vs a2 e2) ∧ Hid (Fr (Is g) w wr)) (fun i _ => k - (intOf i).toNat)
        case atStart => exact ⟨0, [], a1, e1, by omega, rfl, rfl, HS0, HV0, HF⟩
        case round =>
          clear HS0 HV0 HF
          obtain ⟨q, vs, a2, e2, hq, rfl, hvl, HS, HV, HF⟩ := hrel
          obtain ⟨wp, rfl⟩ : ∃ wp : World, wp = wr := ⟨_, rfl⟩
          by_cases hlt : q < k
          · have HU := hide (uint_any g bs a2 e2 wp HS.out.rd)
            have k1 : wp.cell? ⟨w.heap.size, 0, none⟩ = some (.pointer (some ⟨g, 0, none⟩)) := cell_of_row _ _ 0 _ _ _ HS.out.bx.r
            have hulen := uintR_lt bs a2 e2
            have HV2 : Hid (rdV bs k [] (rdT bs k a e).2.1 (rdT bs k a e).2.2 = rdV bs (k - (q + 1)) (vs ++ [(uintR bs a2 e2).1]) (uintR bs a2 e2).2.1 (uintR bs a2 e2).2.2) := hide (by
              rw [HV.out]
              obtain ⟨m, hm⟩ : ∃ m, k - q = m + 1 := ⟨k - q - 1, by omega⟩
              rw [hm, rdV, show k - (q + 1) = m by omega])
            generalize uintR bs a2 e2 = x at HU HV2 hulen
            obtain ⟨u, a3, e3⟩ := x
            dsimp only at HU HV2 hulen
            have i3 : (q : Int) < (k : Int) := by omega
            go_wp2_with (go_at_call 71; refine HU.out.mono ?_; rintro en w3 ⟨rfl, hrd, hfr⟩; have HS3 := hide (HS.out.read hfr hrd); have HF3 : Hid (Fr (Is g) w w3) := hide (HF.out.ts hfr); have kc : w3.cell? ⟨V, q, none⟩ = some (.int .u64 0) := (by rw [(HS3.out.cellV hlt).1, ← hvl]; exact padU_off (by omega)); have kf : w3.frozen? ⟨V, q, none⟩ = false := (HS3.out.cellV hlt).2.1; clear hrd hfr)
            have HS4 : Hid (ReadS (w3.setCell ⟨V, q, none⟩ (.int .u64 (u : Nat))) B w.heap.size bl g L V k bs a3 e3 (svs l) (padU (vs ++ [u]) k)) := hide (by
              have h := HS3.out.putV hlt (.int .u64 (u : Nat))
              rw [← hvl, padU_set (by omega)] at h
              rw [← hvl]
              exact h)
            have HF4 : Hid (Fr (Is g) w (w3.setCell ⟨V, q, none⟩ (.int .u64 (u : Nat)))) := hide (HF3.out.setCell (p := ⟨V, q, none⟩) (fun h => by have h : V < w.heap.size := h; have := (HS3.out.cellV hlt).2.2; have := HBB.out.1; omega) _)
            go_roundw
            case rel => exact ⟨q + 1, vs ++ [u], a3, e3, by omega, by go_num, by simp [hvl], HS4, HV2, HF4⟩
            case measure => simp [intOf]; omega
          · obtain rfl : q = k := by omega
            have HE := hide (fun nq => (err_any g bs a2 e2 (wp.drewN nq) (HS.out.rd.drewN nq)).mono (fun en w' h => (⟨h.1, h.2.symm⟩ : en = .returned (.int .i64 e2) ∧ w' = wp.drewN nq)))
            have k1 : ∀ nq, (wp.drewN nq).cell? ⟨w.heap.size, 0, none⟩ = some (.pointer (some ⟨g, 0, none⟩)) := fun _ => cell_of_row wp _ 0 _ _ _ HS.out.bx.r
            have k2 : ∀ nq, (wp.drewN nq).cell? ⟨bl, 0, none⟩ = some (.slice (some ⟨L, 0, none⟩) q q) := fun _ => cell_of_row wp _ 0 _ _ _ HS.out.bx.l
            have k3 : wp.cell? ⟨w.heap.size, 0, none⟩ = some (.pointer (some ⟨g, 0, none⟩)) := k1 0
            have k4 : wp.cell? ⟨bl, 0, none⟩ = some (.slice (some ⟨L, 0, none⟩) q q) := k2 0
            have HV3 : Hid (rdV bs q [] (rdT bs q a e).2.1 (rdT bs q a e).2.2 = (vs, a2, e2)) := hide (by rw [HV.out, Nat.sub_self]; rfl)
            have hpu : padU vs q = un vs := by unfold padU; rw [hvl, Nat.sub_self, List.replicate_zero, List.append_nil]
            have HPU := hide hpu
            clear hpu HV
            by_cases he : e2 = 0
            · have d1 : (e2 == 0) = true := by simpa using he
              subst he
              go_wp2_with (fail)
              go_quiet ((go_at_call 70; exact Calls.quiet_of_same (HE.out _)))
              go_wp2_with (fail)
              go_ret3
              refine ⟨HF.out.drewN _, .inl ⟨l, L, V, vs, a2, by rw [HGe.out], HV3.out, rfl, ?_, ?_, HS.out.rd⟩⟩
              · exact HS.out.row.lower (by have := HBB.out.1; omega)
              · rw [← HPU.out]
                exact HS.out.val.lower (by have := HBB.out.1; omega)
            · have d1 : (e2 == 0) = false := by simpa using he
              go_wp2_with (fail)
              go_quiet ((go_at_call 70; exact Calls.quiet_of_same (HE.out _)))
              go_wp2_with (fail)
              go_ret3
              exact ⟨HF.out.drewN _, .inr ⟨.inr (by rw [HV3.out]; exact he), _, _, rfl⟩⟩
end Go.Proofs.Ytcdhbdhhknlbaaa
namespace Go.Proofs.Ytcdhbdhhknlbaaa
set_option linter.unusedVariables false
set_option linter.unusedSimpArgs false
open Go.RowKit

structure DictB (w : World) (B g : Nat) (bss : List (List UInt8)) (fs : List Tx) (n : Nat) : Prop where
  lo : B ≤ g
  ex : ∃ vb vf vals, w.heap[g]? = some (.cells #[vb, vf, .int .i64 n] 75 (0, 0)) ∧ Own w B 24 1 vb bss.length vals ∧ Vals w B vals bss ∧ Own w B 9 1 vf fs.length (svs fs)
def nbT (n : Nat) : Nat := (n + 15) / 16
def bssT (l : List Tx) (at_ : List Nat) : List (List UInt8) := (List.range (nbT l.length)).map fun j => blkT (blkOf l j) (valOf at_ j)
def fsT (l : List Tx) : List Tx := (List.range (nbT l.length)).map fun j => l.getD (16 * j) []
theorem bssT_at {l : List Tx} {at_ : List Nat} {j : Nat} (h : 16 * j < l.length) : (bssT l at_)[j]? = some (blkT (blkOf l j) (valOf at_ j)) := by
  have hj : j < nbT l.length := by unfold nbT; omega
  simp [bssT, hj]
theorem fsT_at {l : List Tx} {j : Nat} (h : 16 * j < l.length) : (fsT l).getD j [] = l.getD (16 * j) [] := by
  have hj : j < nbT l.length := by unfold nbT; omega
  simp [fsT, hj]
theorem fsT_len (l : List Tx) : (fsT l).length = nbT l.length := by simp [fsT]
theorem bssT_len (l : List Tx) (at_ : List Nat) : (bssT l at_).length = nbT l.length := by simp [bssT]
/-- a dictionary of terms and values. -/
structure DictM (w : World) (B g : Nat) (l : List Tx) (at_ : List Nat) : Prop where
  mem : DictB w B g (bssT l at_) (fsT l) l.length
  ok : termsOk l at_
  u64 : U64s at_
theorem DictB.fr0 {w w' : World} {B g n : Nat} {bss : List (List UInt8)} {fs : List Tx} (h : DictB w B g bss fs n) (f : Fr No w w') : DictB w' B g bss fs n := by
  obtain ⟨lo, vb, vf, vals, h1, h2, h3, h4⟩ := h
  exact ⟨lo, vb, vf, vals, f.blk h1 (fun h => h), h2.fr0 f, h3.fr0 f, h4.fr0 f⟩
theorem DictB.above {S : Nat → Prop} {w w' : World} {B g n : Nat} {bss : List (List UInt8)} {fs : List Tx} (h : DictB w B g bss fs n) (f : Fr S w w') (hS : ∀ k, S k → k < B) : DictB w' B g bss fs n := by
  obtain ⟨lo, vb, vf, vals, h1, h2, h3, h4⟩ := h
  exact ⟨lo, vb, vf, vals, f.blk h1 (fun h => by have := hS _ h; omega), h2.above f hS, h3.above f hS, h4.above f hS⟩
theorem DictM.fr0 {w w' : World} {B g : Nat} {l : List Tx} {at_ : List Nat} (h : DictM w B g l at_) (f : Fr No w w') : DictM w' B g l at_ := ⟨h.mem.fr0 f, h.ok, h.u64⟩
theorem DictM.above {S : Nat → Prop} {w w' : World} {B g : Nat} {l : List Tx} {at_ : List Nat} (h : DictM w B g l at_) (f : Fr S w w') (hS : ∀ k, S k → k < B) : DictM w' B g l at_ := ⟨h.mem.above f hS, h.ok, h.u64⟩
theorem DictM.asc {w : World} {B g : Nat} {l : List Tx} {at_ : List Nat} (h : DictM w B g l at_) : Asc l := h.ok.2.2.2
theorem asc_blk {l : List Tx} (h : Asc l) (j : Nat) : Asc (blkOf l j) := by
  rw [asc_iff]
  intro i hi
  have hl := blkOf_len l j
  rw [blkOf_get (by omega), blkOf_get (by omega)]
  exact h.lt (by omega) (by omega)
theorem mem_blk {l : List Tx} {j : Nat} {t : Tx} (h : t ∈ blkOf l j) : t ∈ l := List.mem_of_mem_drop (List.mem_of_mem_take h)
theorem mem_val {l : List Nat} {j v : Nat} (h : v ∈ valOf l j) : v ∈ l := List.mem_of_mem_drop (List.mem_of_mem_take h)

set_option maxRecDepth 100000 in
set_option maxHeartbeats 400000 in
theorem dlen_any (g B n : Nat) (bss : List (List UInt8)) (fs : List Tx) (w : World) (h : DictB w B g bss fs n) :
    Calls Try.prog 14 #[.pointer (some ⟨g, 0, none⟩)] w (Ret (.int .i64 n) w) := by
  obtain ⟨_, vb, vf, vals, h1, _⟩ := h
  have k : w.cell? ⟨g, 2, none⟩ = some (.int .i64 n) := cell_of_row _ _ 2 _ _ _ h1
  clear h1
  go_enter Try.func14, Try.ntmps14
  go_wp2
  go_ret
  exact ⟨rfl, rfl⟩
set_option maxRecDepth 100000 in
set_option maxHeartbeats 400000 in
theorem dlen_nil (w : World) : Calls Try.prog 14 #[.pointer none] w (Ret (.int .i64 0) w) := by
  go_enter Try.func14, Try.ntmps14
  go_wp2
  go_ret
  exact ⟨rfl, rfl⟩
set_option maxRecDepth 100000 in
set_option maxHeartbeats 400000 in
theorem dsize_any (g B n j : Nat) (bss : List (List UInt8)) (fs : List Tx) (w : World) (h : DictB w B g bss fs n) (hj : 16 * j < n) (hn : n ≤ 1048576) :
    Calls Try.prog 44 #[.pointer (some ⟨g, 0, none⟩), .int .i64 j] w (Ret (.int .i64 (min 16 (n - 16 * j) : Nat)) w) := by
  obtain ⟨_, vb, vf, vals, h1, _⟩ := h
  have k : w.cell? ⟨g, 2, none⟩ = some (.int .i64 n) := cell_of_row _ _ 2 _ _ _ h1
  have i1 : IntKind.i64.wrap ((j : Int) * 16) = (j : Int) * 16 := IntWalk.i64_in _ (by omega)
  have i2 : IntKind.i64.wrap ((n : Int) - (j : Int) * 16) = (n : Int) - (j : Int) * 16 := IntWalk.i64_in _ (by omega)
  have hm : ((min 16 (n - 16 * j) : Nat) : Int) = min 16 ((n : Int) - (j : Int) * 16) := by omega
  rw [hm]
  clear h1 hm
  go_enter Try.func44, Try.ntmps44
  go_wp2
  go_ret
  exact ⟨rfl, rfl⟩

set_option maxRecDepth 100000 in
set_option maxHeartbeats 1600000 in
theorem dblock_any (g B j : Nat) (l : List Tx) (at_ : List Nat) (w : World) (h : DictM w B g l at_) (hj : 16 * j < l.length) :
    Calls Try.prog 48 #[.pointer (some ⟨g, 0, none⟩), .int .i64 j] w (fun en w' => Fr No w w' ∧ ∃ L V m, m = (blkOf l j).length ∧ en = .returned (.tuple #[.slice (some ⟨L, 0, none⟩) m m, .slice (some ⟨V, 0, none⟩) m m]) ∧
      Own w' w.heap.size 9 1 (.slice (some ⟨L, 0, none⟩) m m) m (svs (blkOf l j)) ∧ Own w' w.heap.size 40 1 (.slice (some ⟨V, 0, none⟩) m m) m (un (valOf at_ j))) := by
  have HM := hide h
  have hln := h.ok.1
  obtain ⟨_, vb, vf, vals, h1, h2, h3, _⟩ := h.mem
  have hj2 : j < (bssT l at_).length := by rw [bssT_len]; unfold nbT; omega
  obtain ⟨A, c, rfl, hc1, hc2, _, hrd, _⟩ := h2.form
  obtain ⟨u, hu⟩ := h2.some_at hj2
  obtain ⟨bs, hb1, hb2⟩ := h3.get hu
  rw [bssT_at hj] at hb1
  injection hb1 with hb1
  obtain ⟨ad, rfl, hab, hcell⟩ := hrd j u hu
  obtain ⟨A2, c2, rfl, hd1, hd2, _, hrd2, _⟩ := hb2.form
  have hlb := blkOf_len l j
  have hvb := valOf_len at_ j
  have hat := h.ok.2.1
  have hbl : bs.length ≤ 100000 := by
    have := blkT_le (blkOf l j) (valOf at_ j) (fun t ht => h.ok.2.2.1 t (mem_blk ht))
    rw [← hb1]
    omega
  have hhas := blk_has (bs := bs) (l := blkOf l j) (vs := valOf at_ j) (a := 0) (by omega) (by omega) (fun t ht => h.ok.2.2.1 t (mem_blk ht)) (asc_blk h.asc j) (fun v hv => h.u64 v (mem_val hv)) (by rw [List.drop_zero, ← hb1]; exact List.prefix_refl _)
  have HHas := hide hhas
  have HNew := hide (newReader_any A2 bs.length c2 w.heap.size bs w rfl hd1 hd2 (by omega) (Nat.le_refl _) hrd2)
  have HSz := hide (fun W hW => dsize_any g B l.length j (bssT l at_) (fsT l) W hW hj hln)
  have c0 : w.cell? ⟨g, 0, none⟩ = some (.slice (some ad) (bssT l at_).length c) := cell_of_row _ _ 0 _ _ _ h1
  obtain ⟨m, hm⟩ : ∃ m, m = (blkOf l j).length := ⟨_, rfl⟩
  have hm2 : min 16 (l.length - 16 * j) = m := by omega
  have HRd := hide (fun g2 W hW => read_any g2 bs 0 0 m W hW (by omega) (by omega))
  rw [← hm] at HHas
  rw [hm2] at HSz
  have HMm := hide hm
  generalize (bssT l at_).length = N at hj2 c0 hc1
  have i3 : (j : Int) < (N : Int) := by omega
  have i2 : (0 : Int) ≤ (j : Int) := by omega
  clear h h1 h2 h3 hc2 hrd hu hb1 hb2 hlb hvb hat hbl hhas hd1 hd2 hrd2 hm hm2 hln
  generalize bs.length = bl at hcell HNew
  go_enter Try.func48, Try.ntmps48
  go_wp2_with (first
    | (go_at_call 40; refine HNew.out.mono ?_; rintro en w2 ⟨g2, rfl, hg2, hrd2, hfr2⟩; have HR2 := hide hrd2; have HF2 := hide hfr2; have HG2 := hide hg2; clear hrd2 hfr2 hg2)
    | (go_at_call 44; refine (HSz.out w2 (HM.out.mem.fr0 HF2.out)).mono ?_; rintro en w3 ⟨rfl, rfl⟩)
    | (go_at_call 43; refine (HRd.out g2 _ HR2.out).mono ?_; rintro en w3 ⟨hfr3, hres⟩; have HF3 := hide hfr3; have HRes := hide hres; clear hfr3 hres; obtain ⟨L, V, HEn, HO1, HO2⟩ : ∃ L V, en = .returned (.tuple #[.slice (some ⟨L, 0, none⟩) m m, .slice (some ⟨V, 0, none⟩) m m, .bool true]) ∧ Hid (Own w3 w2.heap.size 9 1 (.slice (some ⟨L, 0, none⟩) m m) m (svs (blkOf l j))) ∧ Hid (Own w3 w2.heap.size 40 1 (.slice (some ⟨V, 0, none⟩) m m) m (un (valOf at_ j))) := (by
        have hr := HRes.out
        obtain ⟨q1, q2⟩ := HHas.out
        rw [q1] at hr
        dsimp only at hr
        rw [q2] at hr
        rcases hr with ⟨l2, L, V, vs, a2, r1, r2, r3, r4, r5, r6⟩ | ⟨r1 | r1, _⟩
        · injection r1 with r1
          injection r2 with r2 _
          subst r1; subst r2
          exact ⟨L, V, r3, r4, r5⟩
        · cases r1
        · exact absurd rfl r1); subst HEn))
  go_ret2
  refine ⟨HF2.out.trans HF3.out (fun i hi e => by have e : i = g2 := e; have := HG2.out; omega), L, V, m, HMm.out, rfl, HO1.out.lower HF2.out.size, HO2.out.lower HF2.out.size⟩
end Go.Proofs.Ytcdhbdhhknlbaaa
namespace Go.Proofs.Ytcdhbdhhknlbaaa
set_option linter.unusedVariables false
set_option linter.unusedSimpArgs false
open Go.RowKit

def termAt (l : List Tx) (o : Int) : Tx := if 0 ≤ o then l.getD o.toNat [] else []
def valAt (l : List Nat) (o : Int) : Nat := if 0 ≤ o then l.getD o.toNat 0 else 0
theorem un_get {l : List Nat} {k : Nat} (h : k < l.length) : (un l)[k]? = some (.int .u64 (l.getD k 0 : Nat)) := by simp [un, List.getElem?_eq_getElem h]

set_option maxRecDepth 100000 in
set_option maxHeartbeats 1600000 in
theorem dterm_any (g B : Nat) (l : List Tx) (at_ : List Nat) (w : World) (o : Int) (h : DictM w B g l at_) :
    Calls Try.prog 15 #[.pointer (some ⟨g, 0, none⟩), .int .i64 o] w (fun en w' => en = .returned (sv (termAt l o)) ∧ Fr No w w') := by
  have HLe := hide (dlen_any g B l.length _ _ w h.mem)
  have hn := h.ok.1
  unfold termAt
  by_cases h0 : o < 0
  · have e0 : (if 0 ≤ o then l.getD o.toNat [] else []) = [] := if_neg (by omega)
    rw [e0]
    have d1 : decide (o < 0) = true := decide_eq_true h0
    clear h e0
    go_enter Try.func15, Try.ntmps15
    go_wp2_with (fail)
    go_ret
    exact ⟨rfl, Fr.refl _ _⟩
  · have d1 : decide (o < 0) = false := decide_eq_false h0
    rw [if_pos (by omega)]
    obtain ⟨i, rfl⟩ : ∃ i : Nat, o = i := ⟨o.toNat, by omega⟩
    rw [Int.toNat_natCast]
    by_cases hi : i < l.length
    · have HBl := hide (dblock_any g B (i / 16) l at_ w h (by omega))
      have hm : i % 16 < (blkOf l (i / 16)).length := by rw [blkOf_len]; omega
      have hv : (svs (blkOf l (i / 16)))[i % 16]? = some (sv (l.getD i [])) := by
        rw [svs_get hm, blkOf_get (by omega)]
        congr 3
        omega
      have HV := hide hv
      have HMm := hide hm
      rw [show ((i / 16 : Nat) : Int) = (i : Int) / 16 by omega] at HBl
      obtain ⟨r, hr⟩ : ∃ r : Nat, i % 16 = r := ⟨_, rfl⟩
      have hr2 : (i : Int) % 16 = (r : Int) := by omega
      rw [hr] at HV HMm
      have d2 : decide ((l.length : Int) ≤ i) = false := decide_eq_false (by omega)
      have d3 : decide (l.length ≤ i) = false := decide_eq_false (by omega)
      have i0 : (0 : Int) ≤ (i : Int) := by omega
      have iq : wrap64 ((i : Int) / 16) = (i : Int) / 16 := by unfold wrap64; omega
      have ir : wrap64 (r : Int) = (r : Int) := by unfold wrap64; omega
      clear h h0 hi hv hm hr
      generalize l.getD i [] = t at HV ⊢
      obtain ⟨X, hX⟩ : ∃ X : ByteArray, sv t = .string X := ⟨_, rfl⟩
      rw [hX] at HV ⊢
      generalize blkOf l (i / 16) = b at HBl HV HMm
      generalize valOf at_ (i / 16) = vb at HBl
      generalize l.length = n at HLe d2 d3
      clear hX
      go_enter Try.func15, Try.ntmps15
      go_wp2_with (first
        | (go_at_call 14; refine HLe.out.mono ?_; rintro en w2 ⟨rfl, rfl⟩)
        | (go_at_call 48; refine HBl.out.mono ?_; rintro en w2 ⟨hfr, L, V, m, hm, rfl, ho1, ho2⟩; have HF := hide hfr; have i1 : (0 : Int) ≤ (r : Int) := (by omega); have i2 : (r : Int) < (m : Int) := (by have := HMm.out; omega); have kc : w2.cell? ⟨L, r, none⟩ = some (.string X) := (by
            obtain ⟨G, e1, _, _, h4, _⟩ := ho1.store (k := r) (by omega)
            injection e1 with e1
            injection e1 with e1 _ _
            subst e1
            rw [h4, HV.out]); clear hfr ho1 ho2 hm))
      go_ret
      exact ⟨rfl, HF.out⟩
    · have e0 : l.getD i [] = [] := by rw [List.getD, List.getElem?_eq_none (by omega)]; rfl
      rw [e0]
      have d2 : decide ((l.length : Int) ≤ i) = true := decide_eq_true (by omega)
      have d3 : decide (l.length ≤ i) = true := decide_eq_true (by omega)
      clear h e0 h0
      generalize l.length = n at HLe d2 d3
      go_enter Try.func15, Try.ntmps15
      go_wp2_with (go_at_call 14; refine HLe.out.mono ?_; rintro en w2 ⟨rfl, rfl⟩)
      go_ret
      exact ⟨rfl, Fr.refl _ _⟩
set_option maxRecDepth 100000 in
set_option maxHeartbeats 1600000 in
theorem dat_any (g B : Nat) (l : List Tx) (at_ : List Nat) (w : World) (o : Int) (h : DictM w B g l at_) :
    Calls Try.prog 16 #[.pointer (some ⟨g, 0, none⟩), .int .i64 o] w (fun en w' => en = .returned (.int .u64 (valAt at_ o : Nat)) ∧ Fr No w w') := by
  have HLe := hide (dlen_any g B l.length _ _ w h.mem)
  have hn := h.ok.1
  unfold valAt
  by_cases h0 : o < 0
  · have e0 : (if 0 ≤ o then at_.getD o.toNat 0 else 0) = 0 := if_neg (by omega)
    rw [e0]
    have d1 : decide (o < 0) = true := decide_eq_true h0
    clear h e0
    go_enter Try.func16, Try.ntmps16
    go_wp2_with (fail)
    go_ret
    exact ⟨rfl, Fr.refl _ _⟩
  · have d1 : decide (o < 0) = false := decide_eq_false h0
    rw [if_pos (by omega)]
    obtain ⟨i, rfl⟩ : ∃ i : Nat, o = i := ⟨o.toNat, by omega⟩
    rw [Int.toNat_natCast]
    by_cases hi : i < l.length
    · have HBl := hide (dblock_any g B (i / 16) l at_ w h (by omega))
      have hm : i % 16 < (blkOf l (i / 16)).length := by rw [blkOf_len]; omega
      have hat := h.ok.2.1
      have hm2 : i % 16 < (valOf at_ (i / 16)).length := by rw [valOf_len]; omega
      have hv : (un (valOf at_ (i / 16)))[i % 16]? = some (.int .u64 (at_.getD i 0 : Nat)) := by
        rw [un_get hm2, valOf_get (by omega), show 16 * (i / 16) + i % 16 = i by omega]
      have HV := hide hv
      have HMm := hide hm
      rw [show ((i / 16 : Nat) : Int) = (i : Int) / 16 by omega] at HBl
      obtain ⟨r, hr⟩ : ∃ r : Nat, i % 16 = r := ⟨_, rfl⟩
      have hr2 : (i : Int) % 16 = (r : Int) := by omega
      rw [hr] at HV HMm
      have d2 : decide ((l.length : Int) ≤ i) = false := decide_eq_false (by omega)
      have d3 : decide (l.length ≤ i) = false := decide_eq_false (by omega)
      have i0 : (0 : Int) ≤ (i : Int) := by omega
      have iq : wrap64 ((i : Int) / 16) = (i : Int) / 16 := by unfold wrap64; omega
      have ir : wrap64 (r : Int) = (r : Int) := by unfold wrap64; omega
      clear h h0 hi hv hm hr hm2 hat
      generalize at_.getD i 0 = X at HV ⊢
      generalize blkOf l (i / 16) = b at HBl HMm
      generalize valOf at_ (i / 16) = vb at HBl HV
      generalize l.length = n at HLe d2 d3
      go_enter Try.func16, Try.ntmps16
      go_wp2_with (first
        | (go_at_call 14; refine HLe.out.mono ?_; rintro en w2 ⟨rfl, rfl⟩)
        | (go_at_call 48; refine HBl.out.mono ?_; rintro en w2 ⟨hfr, L, V, m, hm, rfl, ho1, ho2⟩; have HF := hide hfr; have i1 : (0 : Int) ≤ (r : Int) := (by omega); have i2 : (r : Int) < (m : Int) := (by have := HMm.out; omega); have kc : w2.cell? ⟨V, r, none⟩ = some (.int .u64 (X : Nat)) := (by
            obtain ⟨G, e1, _, _, h4, _⟩ := ho2.store (k := r) (by omega)
            injection e1 with e1
            injection e1 with e1 _ _
            subst e1
            rw [h4, HV.out]); clear hfr ho1 ho2 hm))
      go_ret
      exact ⟨rfl, HF.out⟩
    · have hat := h.ok.2.1
      have e0 : at_.getD i 0 = 0 := by rw [List.getD, List.getElem?_eq_none (by omega)]; rfl
      rw [e0]
      have d2 : decide ((l.length : Int) ≤ i) = true := decide_eq_true (by omega)
      have d3 : decide (l.length ≤ i) = true := decide_eq_true (by omega)
      clear h e0 h0 hat
      generalize l.length = n at HLe d2 d3
      go_enter Try.func16, Try.ntmps16
      go_wp2_with (go_at_call 14; refine HLe.out.mono ?_; rintro en w2 ⟨rfl, rfl⟩)
      go_ret
      exact ⟨rfl, Fr.refl _ _⟩
end Go.Proofs.Ytcdhbdhhknlbaaa
namespace Go.Proofs.Ytcdhbdhhknlbaaa
set_option linter.unusedVariables false
set_option linter.unusedSimpArgs false
open Go.RowKit

set_option maxRecDepth 100000 in
set_option maxHeartbeats 800000 in
theorem lowc_any (g bd bs L n c i : Nat) (s f : Tx) (w : World) (v0 v2 : Value)
    (h1 : w.heap[bd]? = some (.cells #[.pointer (some ⟨g, 0, none⟩)] 28 (0, 0))) (h2 : w.heap[bs]? = some (.cells #[sv s] 9 (0, 0)))
    (h3 : w.heap[g]? = some (.cells #[v0, .slice (some ⟨L, 0, none⟩) n c, v2] 75 (0, 0))) (hi : i < n) (hn : n ≤ 1048576) (h4 : w.cell? ⟨L, i, none⟩ = some (sv f)) :
    Calls Try.prog 77 #[.int .i64 i, .pointer (some ⟨bd, 0, none⟩), .pointer (some ⟨bs, 0, none⟩)] w (RetQ (.bool (decide (s < f))) w) := by
  obtain ⟨X, hX⟩ : ∃ X : ByteArray, sv s = .string X := ⟨_, rfl⟩
  obtain ⟨Y, hY⟩ : ∃ Y : ByteArray, sv f = .string Y := ⟨_, rfl⟩
  have eX : X.toList = s := by
    unfold sv at hX
    injection hX with h
    rw [← h, tx_list]
  have eY : Y.toList = f := by
    unfold sv at hY
    injection hY with h
    rw [← h, tx_list]
  have k1 : ∀ nq, (w.drewN nq).cell? ⟨bd, 0, none⟩ = some (.pointer (some ⟨g, 0, none⟩)) := fun _ => cell_of_row w _ 0 _ _ _ h1
  have k2 : ∀ nq, (w.drewN nq).cell? ⟨bs, 0, none⟩ = some (.string X) := fun _ => by rw [← hX]; exact cell_of_row w _ 0 _ _ _ h2
  have k3 : ∀ nq, (w.drewN nq).cell? ⟨g, 1, none⟩ = some (.slice (some ⟨L, 0, none⟩) n c) := fun _ => cell_of_row w _ 1 _ _ _ h3
  have k4 : ∀ nq, (w.drewN nq).cell? ⟨L, i, none⟩ = some (.string Y) := fun _ => by rw [← hY]; exact h4
  have q1 : w.cell? ⟨bd, 0, none⟩ = some (.pointer (some ⟨g, 0, none⟩)) := k1 0
  have q2 : w.cell? ⟨bs, 0, none⟩ = some (.string X) := k2 0
  have q3 : w.cell? ⟨g, 1, none⟩ = some (.slice (some ⟨L, 0, none⟩) n c) := k3 0
  have q4 : w.cell? ⟨L, i, none⟩ = some (.string Y) := k4 0
  have i1 : (0 : Int) ≤ (i : Int) := by omega
  have i2 : (i : Int) < (n : Int) := by omega
  have HB : Hid ((!Op.bytesLess Y.toList X.toList && !(Y.toList == X.toList)) = decide (s < f)) := hide (by
    rw [eX, eY, bytesLess_eq]
    rcases tl_total s f with h | h | h
    · have a1 : ¬ f < s := fun k => tl_irrefl _ (tl_trans h k)
      have a2 : f ≠ s := fun k => by rw [k] at h; exact tl_irrefl _ h
      simp [h, a1, a2]
    · subst h
      simp [tl_irrefl]
    · have a1 : ¬ s < f := fun k => tl_irrefl _ (tl_trans h k)
      simp [h, a1])
  clear h1 h2 h3 h4 eX eY hX hY hi
  go_enter Try.func77, Try.ntmps77
  go_wp2_with (fail)
  go_quiet (fail)
  go_wp2_with (fail)
  go_ret
  exact ⟨by rw [← HB.out]; rfl, _, rfl⟩
end Go.Proofs.Ytcdhbdhhknlbaaa
namespace Go.Proofs.Ytcdhbdhhknlbaaa
open Go.Shelf Go.RowKit Go.Lib Go.Sort
shelf_lay SlLaysO.n16 Slso 16 at Try as Try.search
shelf_lay SlLaysO.n15 Slso 15 at Try as Try.searchStrings
end Go.Proofs.Ytcdhbdhhknlbaaa
