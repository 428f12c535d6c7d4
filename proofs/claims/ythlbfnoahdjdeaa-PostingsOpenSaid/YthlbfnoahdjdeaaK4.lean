/- Several texts in one: Apart8, BSl, Vals, KitU64. -/
import Derived.Test.YthlbfnoahdjdeaaK3
import Derived.Laws.MakeOwn
namespace Go.Proofs.Ythlbfnoahdjdeaa
set_option linter.unusedVariables false
set_option linter.unusedSimpArgs false
open Go.RowKit

theorem Try.info8 : (Try.prog.info? 5).map (fun i => (i.zero, i.size, i.bytes)) = some (some (.int .u8 0), 1, 1) := by kernel_rfl
theorem Try.infoS8 : (Try.prog.info? 25).map (fun i => (i.zero, i.size, i.bytes)) = some (some (.slice none 0 0), 1, 24) := by kernel_rfl

/-- rows of memory that are apart. -/
structure Apart (m : Nat) (A : Nat → Option Addr) (N C : Nat → Nat) : Prop where
  dis : ∀ i j, i < m → j < m → i ≠ j → ∀ k, (Value.slice (A i) (N i) (C i)).ownBlock = some k → (Value.slice (A j) (N j) (C j)).ownBlock ≠ some k
def Owns (w : World) (base e m : Nat) (A : Nat → Option Addr) (N C : Nat → Nat) (Z : Nat → List Value) : Prop := ∀ j, j < m → Own w base e 1 (.slice (A j) (N j) (C j)) (N j) (Z j)
/-- the blocks of rows. -/
def Blocks (m : Nat) (A : Nat → Option Addr) (N C : Nat → Nat) : Nat → Prop := fun k => ∃ j, j < m ∧ (Value.slice (A j) (N j) (C j)).ownBlock = some k
def upd (Z : Nat → List Value) (i : Nat) (z : List Value) : Nat → List Value := fun j => if j = i then z else Z j
theorem upd_same (Z : Nat → List Value) (i : Nat) (z : List Value) : upd Z i z i = z := if_pos rfl
theorem upd_other (Z : Nat → List Value) {i j : Nat} (z : List Value) (h : j ≠ i) : upd Z i z j = Z j := if_neg h

section
variable {w : World} {base e m : Nat} {A : Nat → Option Addr} {N C : Nat → Nat} {Z : Nat → List Value}
theorem Owns.store (h : Owns w base e m A N C Z) (ha : Apart m A N C) {i k : Nat} (hi : i < m) (hk : k < N i) :
    ∃ g, A i = some ⟨g, 0, none⟩ ∧ g < w.heap.size ∧ w.cell? ⟨g, k, none⟩ = (Z i)[k]? ∧ w.frozen? ⟨g, k, none⟩ = false ∧
      (∀ q cs t fz, w.heap[q]? = some (.cells cs t fz) → e ≠ t → g ≠ q) ∧
      ∀ v : Value, Owns (w.setCell ⟨g, k, none⟩ v) base e m A N C (upd Z i ((Z i).set k v)) ∧ Fr (Blocks m A N C) w (w.setCell ⟨g, k, none⟩ v) := by
  obtain ⟨g, hA, hb, hl, hc, hf, hs⟩ := (h i hi).store hk
  have hob : (Value.slice (A i) (N i) (C i)).ownBlock = some g := by rw [hA]; rfl
  refine ⟨g, hA, hl, hc, hf, ?_, ?_⟩
  · rintro q cs t fz hq hne rfl
    exact (h i hi).ne_blk hob hq hne
  · intro v
    refine ⟨?_, (Fr.refl _ _).setCell (p := ⟨g, k, none⟩) (fun _ => ⟨i, hi, hob⟩) v⟩
    intro j hj
    by_cases hij : j = i
    · subst hij
      rw [upd_same]
      exact hs v
    · rw [upd_other _ _ hij]
      refine (h j hj).fr ((Fr.refl (Is g) w).setCell (p := ⟨g, k, none⟩) (fun _ => rfl) v) ?_
      rintro g' hg' rfl
      exact ha.dis i j hi hj (fun e => hij e.symm) _ hob hg'
end

/-- what is written. -/
def mk1 (j n : Nat) : List Value := (List.range n).map fun k : Nat => .int .u8 ((37 * (j : Int) + (k : Int)) % 256)
def mk2 (j : Nat) : List Value := (List.range 70).map fun k : Nat => .int .u8 ((11 * (j : Int) + (k : Int)) % 256)
theorem mk1_at {j n k : Nat} (h : k < n) : (mk1 j n)[k]? = some (.int .u8 ((37 * (j : Int) + (k : Int)) % 256)) := by simp [mk1, List.getElem?_range h]
theorem mk2_at {j k : Nat} (h : k < 70) : (mk2 j)[k]? = some (.int .u8 ((11 * (j : Int) + (k : Int)) % 256)) := by simp [mk2, List.getElem?_range h]
theorem mk1_len (j n : Nat) : (mk1 j n).length = n := by simp [mk1]
theorem mk2_len (j : Nat) : (mk2 j).length = 70 := by simp [mk2]
theorem take_set_snoc {z y : List Value} {k : Nat} {v : Value} (h : z.take k = y.take k) (hy : y[k]? = some v) (hk : k < z.length) : (z.set k v).take (k + 1) = y.take (k + 1) := by
  obtain ⟨hl, rfl⟩ := List.getElem?_eq_some_iff.1 hy
  rw [List.take_succ_eq_append_getElem (by simpa using hk), List.take_succ_eq_append_getElem hl, List.take_set_of_le (by omega), h]
  simp

theorem Own.ne_own {w : World} {b1 e1 s1 n1 b2 e2 s2 n2 : Nat} {v1 v2 : Value} {x1 x2 : List Value} (h1 : Own w b1 e1 s1 v1 n1 x1) (h2 : Own w b2 e2 s2 v2 n2 x2) (hne : e1 ≠ e2) {k : Nat} (hk : v2.ownBlock = some k) : v1.ownBlock ≠ some k := by
  intro hk1
  obtain ⟨_, A, c, rfl, _, _, hA⟩ := h2
  rcases hA with ⟨rfl, _⟩ | ⟨g, cur, rfl, hb, hh, _⟩
  · simp [Value.ownBlock] at hk
  · have e : g = k := Option.some.inj hk
    subst e
    exact h1.ne_blk hk1 hh hne
theorem Rd.fr2 {w w' : World} {B : Nat} {A : Option Addr} {xs : List Value} {S : Nat → Prop} (h : Rd w B A xs) (f : Fr S w w') (hS : ∀ ad, A = some ad → ¬ S ad.block) : Rd w' B A xs := fun j u hu => by
  obtain ⟨ad, e, hb, hc⟩ := h j u hu
  exact ⟨ad, e, hb, f.cell hc (by rw [block_of_add]; exact hS ad e)⟩
theorem own_at {A : Option Addr} {n c : Nat} {ad : Addr} (h : A = some ad) (h0 : ad.spot = none ∧ ad.off = 0) : (Value.slice A n c).ownBlock = some ad.block := by subst h; rfl
theorem Own.rdAt {w : World} {base e n : Nat} {v : Value} {xs : List Value} {g : Nat} (h : Own w base e 1 v n xs) (hg : v.ownBlock = some g) : Rd w w.heap.size (some ⟨g, 0, none⟩) xs := by
  obtain ⟨A, c, rfl, _, _, _, hr, _⟩ := h.form
  rcases h.mem with ⟨rfl, _⟩ | ⟨g', rfl, e⟩
  · simp [Value.ownBlock] at hg
  · have : g' = g := Option.some.inj (e.symm.trans hg)
    subst this
    exact hr

theorem apart_step {wi wr w' : World} {o : Obj} {M e nn : Nat} {Ai : Option Addr} {V l v' : Value} {xs ys : List Value} (hM : M ≤ wi.heap.size)
    (LT : ∀ k, V.ownBlock = some k → k < M) (AI : Ai = none ∧ xs = [] ∨ ∃ g, Ai = some ⟨g, 0, none⟩ ∧ V.ownBlock = some g)
    (I2 : l.ownBlock = V.ownBlock ∨ ∀ g, l.ownBlock = some g → wi.heap.size ≤ g) (I3 : Rd wr M Ai xs) (I4 : Fr (fun k => V.ownBlock = some k) wi wr)
    (ho : Own w' 0 e 1 v' nn (xs ++ ys)) (hat : (v'.ownBlock = l.ownBlock ∧ Fr (fun k => l.ownBlock = some k) (wr.alloc o) w') ∨ (v'.ownBlock = some (wr.alloc o).heap.size ∧ Fr No (wr.alloc o) w')) :
    (v'.ownBlock = V.ownBlock ∨ ∀ g, v'.ownBlock = some g → wi.heap.size ≤ g) ∧ Rd w' M Ai xs ∧ Fr (fun k => V.ownBlock = some k) wi w' := by
  have h4 := I4.alloc o
  have h3 : Rd (wr.alloc o) M Ai xs := I3.fr0 ((Fr.refl No wr).alloc o)
  have hs := I4.size
  rcases hat with ⟨he, hf⟩ | ⟨he, hf⟩
  · refine ⟨by rw [he]; exact I2, ?_, ?_⟩
    · rcases AI with ⟨_, rfl⟩ | ⟨g, hA, hV⟩
      · exact Rd.nil _ _ _
      · rcases I2 with h2 | h2
        · have hr := (ho.rdAt (he.trans (h2.trans hV))).tk xs.length
          rw [List.take_left] at hr
          intro j u hu
          obtain ⟨ad, e1, hb, _⟩ := I3 j u hu
          obtain ⟨ad', e2, _, hc⟩ := hr j u hu
          rw [hA] at e1
          have e3 : ad' = ad := Option.some.inj (e2.symm.trans e1)
          subst e3
          exact ⟨ad', hA.trans e1, hb, hc⟩
        · refine h3.fr2 hf ?_
          intro ad had hl
          have := h2 _ hl
          rw [hA] at had
          have e3 := Option.some.inj had
          have := LT g hV
          rw [← e3] at hl
          have := h2 _ hl
          simp at this
          omega
    · refine h4.trans hf ?_
      intro i hi hl
      rcases I2 with h2 | h2
      · exact h2.symm.trans hl
      · have := h2 i hl
        omega
  · refine ⟨.inr ?_, h3.fr0 hf, h4.tr hf⟩
    intro g hg
    have := Option.some.inj (he.symm.trans hg)
    simp at this
    omega
def updV (L : Nat → Value) (i : Nat) (l : Value) : Nat → Value := fun j => if j = i then l else L j
theorem updV_same (L : Nat → Value) (i : Nat) (l : Value) : updV L i l i = l := if_pos rfl
theorem updV_other (L : Nat → Value) {i j : Nat} (l : Value) (h : j ≠ i) : updV L i l j = L j := if_neg h
theorem map_snoc {L : Nat → Value} {i : Nat} (l : Value) : (List.range i).map L ++ [l] = (List.range (i + 1)).map (updV L i l) := by
  rw [List.range_succ, List.map_append]
  congr 1
  · apply List.map_congr_left
    intro j hj
    have : j < i := by simpa using hj
    rw [updV_other _ _ (by omega)]
  · simp [updV_same]
theorem take_snoc_at {y : List Value} {k : Nat} {v : Value} (hy : y[k]? = some v) : y.take k ++ [v] = y.take (k + 1) := by
  obtain ⟨hl, rfl⟩ := List.getElem?_eq_some_iff.1 hy
  rw [List.take_succ_eq_append_getElem hl]

section
variable (q m d : Nat) (A : Nat → Option Addr) (N C : Nat → Nat) (cs : Array Value) (W : World)

set_option maxRecDepth 100000 in
set_option maxHeartbeats 3200000 in
theorem apart8_any (base : Nat) (Z : Nat → List Value) (hm : m ≤ 100000) (hN : ∀ j, j < m → N j ≤ 140737488350000) (hd : m ≤ d) (hd2 : d ≤ maxLen) (hq : W.heap[q]? = some (.cells cs 25 (0, 0))) (hcs : ∀ j, j < m → cs[j]? = some (.slice (A j) (N j) (C j)))
    (ho : Owns W base 5 m A N C Z) (ha : Apart m A N C) :
    Calls Try.prog 16 #[.slice (some ⟨q, 0, none⟩) m d] W (fun en w' => en = .returned (.bool true) ∧ Fr (Blocks m A N C) W w') := by
  unfold maxLen at hd2
  have HO := hide ho
  have HQ := hide hq
  have HCS := hide hcs
  have HN := hide hN
  have HA := hide ha
  clear ho hq hcs hN ha
  go_enter Try.func16, Try.ntmps16
  go_wp2
  go_loopw [3, 4] (fun i _ wr => ∃ (i' : Nat) (Z' : Nat → List Value), i' ≤ m ∧ i = .int .i64 i' ∧ Hid (Owns wr base 5 m A N C Z') ∧ Hid (∀ j, j < i' → Z' j = mk1 j (N j)) ∧ Hid (Fr (Blocks m A N C) W wr) ∧ Hid (wr.heap[q]? = some (.cells cs 25 (0, 0)))) (fun i _ _ => m - (intOf i).toNat)
  case atStart => exact ⟨0, Z, by omega, rfl, HO, hide (fun j h => by omega), hide (Fr.refl _ _), HQ⟩
  case round =>
    obtain ⟨i, Z1, hi, rfl, O1, M1, F1, Q1⟩ := hrel
    obtain ⟨wo, rfl⟩ : ∃ wo : World, wo = wr := ⟨_, rfl⟩
    by_cases hlt : i < m
    · have hNi := HN.out i hlt
      have HCI := hide (HCS.out i hlt)
      go_wp2
      go_loopw [4] (fun k' wr => ∃ (k : Nat) (Z' : Nat → List Value), k ≤ N i ∧ k' = .int .i64 k ∧ Hid (Owns wr base 5 m A N C Z') ∧ Hid (∀ j, j < i → Z' j = mk1 j (N j)) ∧ Hid ((Z' i).take k = (mk1 i (N i)).take k) ∧ Hid (Fr (Blocks m A N C) W wr) ∧ Hid (wr.heap[q]? = some (.cells cs 25 (0, 0)))) (fun k' _ => N i - (intOf k').toNat)
      case atStart => exact ⟨0, Z1, by omega, rfl, O1, M1, hide rfl, F1, Q1⟩
      case round =>
        obtain ⟨k, Z2, hk, rfl, O2, M2, T2, F2, Q2⟩ := hrel
        have hci := cell_of_row wr q i cs 25 (0, 0) Q2.out
        rw [HCI.out] at hci
        by_cases hkl : k < N i
        · obtain ⟨g, hAi, hgl, hcell, hfz, hne, hst⟩ := O2.out.store HA.out hlt hkl
          rw [hAi] at hci
          have HST := hide hst
          have HNE := hide (hne q cs _ _ Q2.out (by decide))
          clear hst hne
          obtain ⟨u0, hu0⟩ : ∃ u, (Z2 i)[k]? = some u := ⟨_, List.getElem?_eq_getElem (by have := (O2.out i hlt).1; omega)⟩
          rw [hu0] at hcell
          have HAi := hide hAi
          have HT := hide (take_set_snoc T2.out (mk1_at hkl) (by have := (O2.out i hlt).1; omega))
          clear hAi hu0
          go_wp2
          go_roundw
          case rel => exact ⟨k + 1, _, by omega, by go_num, hide (HST.out _).1, hide (fun j hj => by rw [upd_other _ _ (by omega)]; exact M2.out j hj), hide (by rw [upd_same]; exact HT.out), hide (F2.out.ts (HST.out _).2), hide ((Fr.refl (Is g) wr).setCell (p := ⟨g, k, none⟩) (fun _ => rfl) _ |>.blk Q2.out (fun e => HNE.out e.symm))⟩
          case measure => simp [intOf]; omega
        · have hkN : k = N i := by omega
          go_wp2
          go_roundw
          case rel =>
            refine ⟨i + 1, Z2, by omega, by go_num, O2, hide (fun j hj => ?_), F2, Q2⟩
            by_cases hji : j = i
            · subst hji
              have h := T2.out
              rwa [List.take_of_length_le (by have := (O2.out j hlt).1; omega), List.take_of_length_le (by rw [mk1_len]; omega)] at h
            · exact M2.out j (by omega)
          case measure => simp [intOf]; omega
    · have O2 : Hid (∀ j, j < m → Own wo 0 5 1 (.slice (A j) (N j) (C j)) (N j) (mk1 j (N j))) := fun j hj => by
        have h := O1.out j hj
        rw [M1.out j (by omega)] at h
        exact h.lower (Nat.zero_le _)
      have LT : Hid (∀ j, j < m → ∀ k, (Value.slice (A j) (N j) (C j)).ownBlock = some k → k < W.heap.size) := fun j hj k hk => ((HO.out j hj).lt k hk).2
      have QW : Hid (q < W.heap.size) := (Array.getElem?_eq_some_iff.1 HQ.out).1
      have QN : Hid (∀ j, j < m → (Value.slice (A j) (N j) (C j)).ownBlock ≠ some q) := fun j hj hk => (HO.out j hj).ne_blk hk HQ.out (by decide)
      have hW := F1.out.size
      obtain ⟨i1, hi1, hz1, hs1, hb1⟩ := info_parts Try.info8
      obtain ⟨i2, hi2, hz2, hs2, hb2⟩ := info_parts Try.infoS8
      clear O1 M1 HO HQ
      go_wp2
      go_loopw [5, 6, 7, 8] (fun more i' _ _ wr => ∃ (i : Nat) (L : Nat → Value), i ≤ m ∧ i' = .int .i64 i ∧ Hid (Own wr W.heap.size 25 1 more i ((List.range i).map L))
          ∧ Hid (∀ j, i ≤ j → j < m → Own wr 0 5 1 (.slice (A j) (N j) (C j)) (N j) (mk1 j (N j)))
          ∧ Hid (∀ j, j < m → Rd wr W.heap.size (A j) (mk1 j (N j)))
          ∧ Hid (∀ j, j < i → Own wr 0 5 1 (L j) (N j + 70) (mk1 j (N j) ++ mk2 j))
          ∧ Hid (∀ j, j < i → ∀ j', i ≤ j' → j' < m → ∀ k, (Value.slice (A j') (N j') (C j')).ownBlock = some k → (L j).ownBlock ≠ some k)
          ∧ Hid (Fr (Blocks m A N C) W wr) ∧ Hid (wr.heap[q]? = some (.cells cs 25 (0, 0)))) (fun _ i _ _ _ => m - (intOf i).toNat)
      case atStart =>
        refine ⟨0, fun _ => undef, by omega, rfl, hide (Own.nil _ _ _ _), hide (fun j _ hj => O2.out j hj), hide (fun j hj => ?_), hide (fun j hj => by omega), hide (fun j hj => by omega), F1, Q1⟩
        have h := (O2.out j hj).rd
        intro x u hu
        obtain ⟨ad, e, hb, hc⟩ := h x u hu
        exact ⟨ad, e, LT.out j hj _ (by rw [e]; rfl), hc⟩
      case round =>
        obtain ⟨i, L, hi, rfl, OM, OV, RV, OL, DL, FW, QQ⟩ := hrel
        obtain ⟨wi, rfl⟩ : ∃ wi : World, wi = wr := ⟨_, rfl⟩
        clear hlt
        by_cases hlt : i < m
        · have hNi := HN.out i hlt
          have hci := cell_of_row wi q i cs 25 (0, 0) QQ.out
          rw [HCS.out i hlt] at hci
          have hWi := FW.out.size
          have AI := hide (OV.out i (Nat.le_refl _) hlt).mem
          go_wp2
          go_loopw [7, 8] (fun l k' wr => ∃ (k : Nat), k ≤ 70 ∧ k' = .int .i64 k ∧ Hid (Own wr 0 5 1 l (N i + k) (mk1 i (N i) ++ (mk2 i).take k))
              ∧ Hid (l.ownBlock = (Value.slice (A i) (N i) (C i)).ownBlock ∨ ∀ g, l.ownBlock = some g → wi.heap.size ≤ g)
              ∧ Hid (Rd wr W.heap.size (A i) (mk1 i (N i))) ∧ Hid (Fr (fun k => (Value.slice (A i) (N i) (C i)).ownBlock = some k) wi wr)) (fun _ k' _ => 70 - (intOf k').toNat)
          case atStart => exact ⟨0, by omega, rfl, hide (by simpa using OV.out i (Nat.le_refl _) hlt), hide (.inl rfl), hide (RV.out i hlt), hide (Fr.refl _ _)⟩
          case round =>
            obtain ⟨k, hk, rfl, I1, I2, I3, I4⟩ := hrel
            by_cases hkl : k < 70
            · have HS := hide (Src.one (P := Try.prog) wr (e := 5) Try.underlying25 (.int .u8 ((11 * (i : Int) + (k : Int)) % 256)) rfl)
              have I1' := hide (I1.out.fr0 ((Fr.refl No wr).alloc (.cells #[.int .u8 ((11 * (i : Int) + (k : Int)) % 256)] 5)))
              have b1 : (N i + k + 1) * 1 ≤ 140737488355328 := by omega
              have b2 : N i + k + 1 ≤ maxLen := by unfold maxLen; omega
              go_wp2_with (at_builtin; refine wpList_append_two _ rfl (.tmp 53) (.tmp 59) 25 25 rfl 0 5 i1 (.int .u8 0) 1 1 Try.underlying25 hi1 hz1 hs1 hb1 rfl u7 (N i + k) _ rfl I1'.out _ 1 [.int .u8 ((11 * (i : Int) + (k : Int)) % 256)] rfl HS.out b1 b2 (Nat.zero_le _) ?_; intro v' w' hown hat; have ON := hide hown; have HAT := hide hat; clear hown hat)
              go_roundw
              case rel =>
                have h5 := ON.out
                rw [List.append_assoc, take_snoc_at (mk2_at hkl)] at h5
                have h6 := apart_step hWi (LT.out i hlt) (by
                  rcases AI.out with ⟨h, h0⟩ | h
                  · exact .inl ⟨h, by rw [h0]; rfl⟩
                  · exact .inr h) I2.out I3.out I4.out h5 HAT.out
                exact ⟨k + 1, by omega, by go_num, hide h5, hide h6.1, hide h6.2.1, hide h6.2.2⟩
              case measure => simp [intOf]; omega
            · obtain rfl : k = 70 := by omega
              obtain ⟨Al, cl, rfl, hl1, hl2, _⟩ := I1.out.form
              have HS := hide (Src.one (P := Try.prog) wr (e := 25) Try.underlying36 (.slice Al (N i + 70) cl) rfl)
              have FO : Hid (Fr (fun k => (Value.slice (A i) (N i) (C i)).ownBlock = some k) wi (wr.alloc (.cells #[.slice Al (N i + 70) cl] 25))) := I4.out.alloc _
              have OM' : Hid (Own (wr.alloc (.cells #[.slice Al (N i + 70) cl] 25)) W.heap.size 25 1 u5 i ((List.range i).map L)) := OM.out.fr FO.out (fun g hg hk => by
                have := (OM.out.lt g hg).1
                have := LT.out i hlt g hk
                omega)
              have b1 : (i + 1) * 24 ≤ 140737488355328 := by omega
              have b2 : i + 1 ≤ maxLen := by unfold maxLen; omega
              have b3 : W.heap.size ≤ (wr.alloc (.cells #[.slice Al (N i + 70) cl] 25)).heap.size := Nat.le_trans hWi FO.out.size
              go_wp2_with (at_builtin; refine wpList_append_gen _ rfl (.tmp 61) (.tmp 63) 36 36 rfl W.heap.size 25 i2 (.slice none 0 0) 1 24 Try.underlying36 hi2 hz2 hs2 hb2 rfl u5 i _ rfl OM'.out _ 1 [.slice Al (N i + 70) cl] rfl HS.out b1 b2 b3 ?_; intro v' w' hown hfr hat; have ON := hide hown; have FN := hide hfr; clear hown hfr hat)
              go_roundw
              case rel =>
                have hmw : ∀ g, u5.ownBlock = some g → W.heap.size ≤ g := fun g hg => (OM'.out.lt g hg).1
                have hl : Own (wr.alloc (.cells #[.slice Al (N i + 70) cl] 25)) 0 5 1 (.slice Al (N i + 70) cl) (N i + 70) (mk1 i (N i) ++ mk2 i) := by
                  have h := I1.out
                  rw [List.take_of_length_le (by rw [mk2_len]; omega)] at h
                  exact h.fr0 ((Fr.refl No wr).alloc _)
                refine ⟨i + 1, updV L i (.slice Al (N i + 70) cl), by omega, by go_num, hide (by rw [← map_snoc]; exact ON.out), hide ?_, hide ?_, hide ?_, hide ?_, hide ?_, hide ?_⟩
                · intro j hij hj
                  refine ((OV.out j (by omega) hj).fr FO.out ?_).fr FN.out ?_
                  · intro g hg hk
                    exact HA.out.dis i j hlt hj (by omega) g hk hg
                  · intro g hg hk
                    have := LT.out j hj g hg
                    have := hmw g hk
                    omega
                · intro j hj
                  have h1 : Rd (wr.alloc (.cells #[.slice Al (N i + 70) cl] 25)) W.heap.size (A j) (mk1 j (N j)) := by
                    by_cases hji : j = i
                    · subst hji
                      exact I3.out.fr0 ((Fr.refl No wr).alloc _)
                    · refine (RV.out j hj).fr2 FO.out ?_
                      intro ad had hk
                      exact HA.out.dis i j hlt hj (fun e => hji e.symm) _ hk (by rw [had]; rfl)
                  refine h1.fr2 FN.out ?_
                  intro ad had hk
                  have := LT.out j hj ad.block (by rw [had]; rfl)
                  have := hmw _ hk
                  omega
                · intro j hj
                  by_cases hji : j = i
                  · subst hji
                    rw [updV_same]
                    exact hl.fr FN.out (fun g hg hk => hl.ne_own OM'.out (by decide) hk hg)
                  · rw [updV_other _ _ hji]
                    have h1 := (OL.out j (by omega)).fr FO.out (fun g hg hk => DL.out j (by omega) i (Nat.le_refl _) hlt g hk hg)
                    exact h1.fr FN.out (fun g hg hk => h1.ne_own OM'.out (by decide) hk hg)
                · intro j hj j' hij hj' k hk
                  by_cases hji : j = i
                  · subst hji
                    rw [updV_same]
                    rcases I2.out with h2 | h2
                    · rw [h2]
                      exact fun h => HA.out.dis j j' hlt hj' (by omega) k h hk
                    · intro h
                      have := h2 k h
                      have := LT.out j' hj' k hk
                      omega
                  · rw [updV_other _ _ hji]
                    exact DL.out j (by omega) j' (by omega) hj' k hk
                · refine (FW.out.trans FO.out (fun k _ hk => ⟨i, hlt, hk⟩)).trans FN.out ?_
                  intro k hk h
                  have := hmw k h
                  omega
                · refine FN.out.blk (FO.out.blk QQ.out (QN.out i hlt)) ?_
                  intro h
                  have := hmw q h
                  have := QW.out
                  omega
              case measure => simp [intOf]; omega
        · obtain rfl : m = i := by omega
          clear DL OV hW LT QW QN
          obtain ⟨AM, cM, rfl, hM1, hM2, _, hMR, _⟩ := OM.out.form
          unfold maxLen at hM2
          have MR := hide hMR
          clear hMR OM
          go_wp2
          go_loop [9, 10, 11, 12] (fun i' _ _ _ => ∃ i : Nat, i ≤ m ∧ i' = .int .i64 i) (fun i' _ _ _ => m - (intOf i').toNat)
          case atStart => exact ⟨0, by omega, rfl⟩
          case round =>
            obtain ⟨i, hi2', rfl⟩ := hrel
            clear hlt
            by_cases hlt : i < m
            · have hNi := HN.out i hlt
              have hci := cell_of_row wi q i cs 25 (0, 0) QQ.out
              rw [HCS.out i hlt] at hci
              obtain ⟨Al, cl, hLi, hl1, hl2, _, hLR, _⟩ := (OL.out i hlt).form
              unfold maxLen at hl2
              obtain ⟨am, rfl, _, hmc⟩ := MR.out i (L i) (by simp [List.getElem?_range hlt])
              rw [hLi] at hmc
              have LR := hide hLR
              clear hLR hLi
              go_wp2
              go_loop [11] (fun k' => ∃ k : Nat, k ≤ N i ∧ k' = .int .i64 k) (fun k' => N i - (intOf k').toNat)
              case atStart => exact ⟨0, by omega, rfl⟩
              case round =>
                obtain ⟨k, hk, rfl⟩ := hrel
                by_cases hkl : k < N i
                · obtain ⟨ad, hAi, _, hc1⟩ := RV.out i hlt k _ (mk1_at hkl)
                  obtain ⟨bd, rfl, _, hc2⟩ := LR.out k (.int .u8 ((37 * (i : Int) + (k : Int)) % 256)) (by rw [List.getElem?_append_left (by rw [mk1_len]; exact hkl)]; exact mk1_at hkl)
                  rw [hAi] at hci
                  have hb : ((37 * (i : Int) + (k : Int)) % 256 != (37 * (i : Int) + (k : Int)) % 256) = false := by simp
                  clear hAi
                  go_wp2
                  go_round
                  case rel => exact ⟨k + 1, by omega, by go_num⟩
                  case measure => simp [intOf]; omega
                · go_wp2
                  go_loop [12] (fun k' => ∃ k : Nat, k ≤ 70 ∧ k' = .int .i64 k) (fun k' => 70 - (intOf k').toNat)
                  case atStart => exact ⟨0, by omega, rfl⟩
                  case round =>
                    clear hkl hk
                    obtain ⟨k, hk, rfl⟩ := hrel
                    by_cases hkl : k < 70
                    · obtain ⟨bd, rfl, _, hc2⟩ := LR.out (N i + k) (.int .u8 ((11 * (i : Int) + (k : Int)) % 256)) (by
                        rw [List.getElem?_append_right (by rw [mk1_len]; omega), mk1_len, Nat.add_sub_cancel_left]
                        exact mk2_at hkl)
                      have hb : ((11 * (i : Int) + (k : Int)) % 256 != (11 * (i : Int) + (k : Int)) % 256) = false := by simp
                      have t1 : ((N i : Int) + (k : Int)).toNat = N i + k := by omega
                      go_wp2
                      go_round
                      case rel => exact ⟨k + 1, by omega, by go_num⟩
                      case measure => simp [intOf]; omega
                    · go_wp2
                      go_round
                      case rel => exact ⟨i + 1, by omega, by go_num⟩
                      case measure => simp [intOf]; omega
            · go_wp2
              go_ret
              exact ⟨rfl, FW.out⟩
end
end Go.Proofs.Ythlbfnoahdjdeaa
namespace Go.Proofs.Ythlbfnoahdjdeaa
set_option linter.unusedVariables false
set_option linter.unusedSimpArgs false
open Go.RowKit

theorem Fr.setRow (w : World) (g : Nat) (cs : Array Value) : Fr (Is g) w (w.setRow g cs) :=
  ⟨rfl, rfl, rfl, by simp, fun k _ hk => setRow_other w g k _ hk⟩

/-- lists of bytes that are read. -/
def BSl (w : World) (B : Nat) (A : Option Addr) (bss : List (List UInt8)) : Prop :=
  ∀ j bs, bss[j]? = some bs → ∃ ad Aj cj, A = some ad ∧ ad.block < B ∧ w.cell? (ad.add j) = some (.slice Aj bs.length cj) ∧ bs.length ≤ cj ∧ cj ≤ maxLen ∧ Rd w B Aj (by8 bs)
theorem BSl.fr {S : Nat → Prop} {w w' : World} {B : Nat} {A : Option Addr} {bss : List (List UInt8)} (h : BSl w B A bss) (f : Fr S w w') (hS : ∀ k, k < B → ¬ S k) : BSl w' B A bss := fun j bs hj => by
  obtain ⟨ad, Aj, cj, e, hb, hc, h1, h2, hr⟩ := h j bs hj
  exact ⟨ad, Aj, cj, e, hb, f.cell hc (by rw [block_of_add]; exact hS _ hb), h1, h2, hr.fr f hS⟩
theorem BSl.fr0 {w w' : World} {B : Nat} {A : Option Addr} {bss : List (List UInt8)} (h : BSl w B A bss) (f : Fr No w w') : BSl w' B A bss := h.fr f (fun _ _ h => h)
theorem BSl.more {w : World} {B B' : Nat} {A : Option Addr} {bss : List (List UInt8)} (h : BSl w B A bss) (hB : B ≤ B') : BSl w B' A bss := fun j bs hj => by
  obtain ⟨ad, Aj, cj, e, hb, hc, h1, h2, hr⟩ := h j bs hj
  exact ⟨ad, Aj, cj, e, by omega, hc, h1, h2, hr.more hB⟩

theorem BSl.single {w : World} {B n c : Nat} {A : Option Addr} {bs : List UInt8} {e : TypeId} (hn : bs.length = n) (h1 : n ≤ c) (h2 : c ≤ maxLen) (hr : Rd w B A (by8 bs)) (hB : B ≤ w.heap.size) : BSl (w.alloc (.cells #[.slice A n c] e)) (w.heap.size + 1) (some ⟨w.heap.size, 0, none⟩) [bs] := by
  subst hn
  intro j bs' hj
  cases j with
  | zero =>
    injection hj with hj
    subst hj
    refine ⟨_, A, c, rfl, by simp, ?_, h1, h2, (hr.fr0 ((Fr.refl _ _).alloc _)).more (by omega)⟩
    rw [Addr.add_lit, cell_of_row _ w.heap.size (0 + 0) #[.slice A bs.length c] e (0, 0) (heap_alloc_new w _)]
    rfl
  | succ j => simp at hj

end Go.Proofs.Ythlbfnoahdjdeaa
namespace Go.Proofs.Ythlbfnoahdjdeaa
set_option linter.unusedVariables false
set_option linter.unusedSimpArgs false
open Go.RowKit

theorem Own.apart {w : World} {b1 b2 e1 e2 s1 s2 n1 n2 : Nat} {v1 v2 : Value} {xs1 xs2 : List Value} (h1 : Own w b1 e1 s1 v1 n1 xs1) (h2 : Own w b2 e2 s2 v2 n2 xs2) (hne : e1 ≠ e2) : ∀ k, v1.ownBlock = some k → v2.ownBlock ≠ some k := by
  intro k hk hk2
  obtain ⟨_, A, c, rfl, _, _, hA⟩ := h2
  rcases hA with ⟨rfl, _⟩ | ⟨g, cur, rfl, _, hh, _⟩
  · simp [Value.ownBlock] at hk2
  · have e : g = k := Option.some.inj hk2
    subst e
    exact h1.ne_blk hk hh hne
theorem Own.above {S : Nat → Prop} {w w' : World} {base e size n : Nat} {v : Value} {xs : List Value} (h : Own w base e size v n xs) (f : Fr S w w') (hS : ∀ k, S k → k < base) : Own w' base e size v n xs :=
  h.fr f (fun k hk e => by have := (h.lt k hk).1; have := hS k e; omega)
theorem made_own (w : World) (k : Nat) (e : TypeId) (v : Value) (z : Array Value) (hz : z = #[v]) (hk : k ≤ maxLen) : Own (w.alloc (.cells (madeCells z k) e)) w.heap.size e 1 (.slice (some ⟨w.heap.size, 0, none⟩) k k) k (List.replicate k v) := by
  subst hz
  refine ⟨by simp, _, _, rfl, Nat.le_refl _, hk, .inr ⟨w.heap.size, _, rfl, Nat.le_refl _, heap_alloc_new w _, by rw [size_madeCells]; omega, ?_⟩⟩
  rw [Nat.mul_one, List.take_of_length_le (by rw [Array.length_toList, size_madeCells]; omega)]
  apply List.ext_getElem
  · simp [madeCells]
  · intro i h1 h2
    simp [madeCells, Nat.mod_one]

theorem Fr.putO (w : World) (G j n c : Nat) (v : Value) : Fr (fun k => (Value.slice (some ⟨G, 0, none⟩) n c).ownBlock = some k) w (w.setCell ⟨G, j, none⟩ v) :=
  (Fr.refl (fun k => (Value.slice (some ⟨G, 0, none⟩) n c).ownBlock = some k) w).setCell (p := ⟨G, j, none⟩) (fun _ => (rfl : some G = some G)) v
theorem Own.some_at {w : World} {base e n : Nat} {v : Value} {xs : List Value} (h : Own w base e 1 v n xs) {k : Nat} (hk : k < n) : ∃ u, xs[k]? = some u :=
  ⟨_, List.getElem?_eq_getElem (by have := h.1; omega)⟩
/-- integers as cells. -/
def ints (l : List Nat) : List Value := l.map fun (n : Nat) => .int .i64 n

/-- slices of bytes that were handed out: each of its own memory. -/
structure Vals (w : World) (base : Nat) (vals : List Value) (bss : List (List UInt8)) : Prop where
  len : vals.length = bss.length
  own : ∀ (j : Nat) (v : Value) (bs : List UInt8), vals[j]? = some v → bss[j]? = some bs → Own w base 5 1 v bs.length (by8 bs)
  dis : ∀ (i j : Nat) (vi vj : Value), i < j → vals[i]? = some vi → vals[j]? = some vj → ∀ k, vi.ownBlock = some k → vj.ownBlock ≠ some k
section
variable {S : Nat → Prop} {w w' : World} {base : Nat} {vals : List Value} {bss : List (List UInt8)}
theorem Vals.nil (w : World) (base : Nat) : Vals w base [] [] := ⟨rfl, fun j v bs h => by simp at h, fun i j vi vj _ h => by simp at h⟩
theorem Vals.get (h : Vals w base vals bss) {j : Nat} {v : Value} (hv : vals[j]? = some v) : ∃ bs, bss[j]? = some bs ∧ Own w base 5 1 v bs.length (by8 bs) := by
  have hj := (List.getElem?_eq_some_iff.1 hv).1
  rw [h.len] at hj
  exact ⟨_, List.getElem?_eq_getElem hj, h.own j v _ hv (List.getElem?_eq_getElem hj)⟩
theorem Vals.fr (h : Vals w base vals bss) (f : Fr S w w') (hS : ∀ (j : Nat) v, vals[j]? = some v → ∀ k, v.ownBlock = some k → ¬ S k) : Vals w' base vals bss :=
  ⟨h.len, fun j v bs hv hb => (h.own j v bs hv hb).fr f (hS j v hv), h.dis⟩
theorem Vals.fr0 (h : Vals w base vals bss) (f : Fr No w w') : Vals w' base vals bss := h.fr f (fun _ _ _ _ _ h => h)
theorem Vals.above (h : Vals w base vals bss) (f : Fr S w w') (hS : ∀ k, S k → k < base) : Vals w' base vals bss := h.fr f (fun j v hv k hk e => by
  obtain ⟨bs, _, ho⟩ := h.get hv
  have := (ho.lt k hk).1
  have := hS k e
  omega)
theorem Vals.other {b2 e2 s2 n2 : Nat} {v2 : Value} {xs2 : List Value} (h : Vals w base vals bss) (o : Own w b2 e2 s2 v2 n2 xs2) (hne : 5 ≠ e2) (f : Fr (fun k => v2.ownBlock = some k) w w') : Vals w' base vals bss := h.fr f (fun j v hv k hk e => by
  obtain ⟨bs, _, ho⟩ := h.get hv
  exact ho.apart o hne k hk e)
theorem Vals.lower {b2 : Nat} (h : Vals w base vals bss) (hb : b2 ≤ base) : Vals w b2 vals bss := ⟨h.len, fun j v bs hv hb' => (h.own j v bs hv hb').lower hb, h.dis⟩
theorem Vals.snoc {w0 : World} {v : Value} {bs : List UInt8} (h0 : Vals w0 base vals bss) (h : Vals w base vals bss) (o : Own w w0.heap.size 5 1 v bs.length (by8 bs)) (hb : base ≤ w0.heap.size) : Vals w base (vals ++ [v]) (bss ++ [bs]) := by
  have hl := h.len
  refine ⟨by simp [hl], ?_, ?_⟩
  · intro j v' bs' hv hb'
    by_cases hj : j < vals.length
    · rw [List.getElem?_append_left hj] at hv
      rw [List.getElem?_append_left (by omega)] at hb'
      exact h.own j v' bs' hv hb'
    · have hj1 := (List.getElem?_eq_some_iff.1 hv).1
      have e1 : j = vals.length := by simp at hj1; omega
      subst e1
      rw [List.getElem?_append_right (Nat.le_refl _), Nat.sub_self] at hv
      rw [hl, List.getElem?_append_right (Nat.le_refl _), Nat.sub_self] at hb'
      simp at hv hb'
      subst hv; subst hb'
      exact o.lower hb
  · intro i j vi vj hij hi hj k hk
    have hj1 := (List.getElem?_eq_some_iff.1 hj).1
    by_cases hjl : j < vals.length
    · rw [List.getElem?_append_left (by omega)] at hi
      rw [List.getElem?_append_left hjl] at hj
      exact h.dis i j vi vj hij hi hj k hk
    · have e1 : j = vals.length := by simp at hj1; omega
      subst e1
      rw [List.getElem?_append_left hij] at hi
      rw [List.getElem?_append_right (Nat.le_refl _), Nat.sub_self] at hj
      simp at hj
      subst hj
      intro hk2
      obtain ⟨bs', _, ho⟩ := h0.get hi
      have h1 := (ho.lt k hk).2
      have h2 := (o.lt k hk2).1
      omega
/-- as lists that are read. -/
theorem Vals.bsl (h : Vals w base vals bss) {A : Option Addr} (hr : Rd w w.heap.size A vals) : BSl w w.heap.size A bss := fun j bs hj => by
  have hj1 := (List.getElem?_eq_some_iff.1 hj).1
  have hv : vals[j]? = some (vals[j]'(by rw [h.len]; exact hj1)) := List.getElem?_eq_getElem _
  obtain ⟨ad, e, hb, hc⟩ := hr j _ hv
  have ho := h.own j _ bs hv hj
  obtain ⟨A', c', hv', h1, h2, _, h3, _⟩ := ho.form
  rw [hv'] at hc
  exact ⟨ad, A', c', e, hb, hc, h1, h2, h3⟩
end
/-- one slice, laid in a new block ('append(s, x)'). -/
theorem src_slice (w : World) (A : Option Addr) (n c : Nat) : Src Try.prog 1 36 (.slice (some ⟨w.heap.size, 0, none⟩) 1 1) 1 [.slice A n c] (w.alloc (.cells #[.slice A n c] 25)) :=
  Src.one (P := Try.prog) w (e := 25) Try.underlying36 _ rfl
theorem Try.infoB : (Try.prog.info? 25).map (fun i => (i.zero, i.size, i.bytes)) = some (some (.slice none 0 0), 1, 24) := by kernel_rfl
end Go.Proofs.Ythlbfnoahdjdeaa
namespace Go.Proofs.Ythlbfnoahdjdeaa
theorem Try.infoKU64 : (Try.prog.info? 72).map (fun i => (i.zero, i.size, i.bytes)) = some (some (.int .u64 0), 1, 8) := by kernel_rfl
end Go.Proofs.Ythlbfnoahdjdeaa
