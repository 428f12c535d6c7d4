/- The statements' own kit: lists of bytes that were handed out, written full and gone on with, share no memory. -/
import Derived.Test.YtpnhnnhocekchaaMem3
namespace Go.Proofs.Ytpnhnnhocekchaa
set_option linter.unusedVariables false
set_option linter.unusedSimpArgs false
open Go.RowKit

theorem Try.info8 : (Try.prog.info? 5).map (fun i => (i.zero, i.size, i.bytes)) = some (some (.int .u8 0), 1, 1) := by kernel_rfl
theorem Try.infoS8 : (Try.prog.info? 23).map (fun i => (i.zero, i.size, i.bytes)) = some (some (.slice none 0 0), 1, 24) := by kernel_rfl

/-- rows of memory that are apart. -/
structure Apart (m : Nat) (A : Nat → Option Addr) (N C : Nat → Nat) : Prop where
  dis : ∀ i j, i < m → j < m → i ≠ j → ∀ k, (Value.slice (A i) (N i) (C i)).ownBlock = some k → (Value.slice (A j) (N j) (C j)).ownBlock ≠ some k
def Owns (w : World) (base e m : Nat) (A : Nat → Option Addr) (N C : Nat → Nat) (Z : Nat → List Value) : Prop := ∀ j, j < m → Own w base e 1 (.slice (A j) (N j) (C j)) (N j) (Z j)
/-- the blocks of rows. -/
def Blocks (m : Nat) (A : Nat → Option Addr) (N C : Nat → Nat) : Nat → Prop := fun k => ∃ j, j < m ∧ (Value.slice (A j) (N j) (C j)).ownBlock = some k
def upd (Z : Nat → List Value) (i : Nat) (z : List Value) : Nat → List Value := fun j => if j = i then z else Z j
theorem upd_same (Z : Nat → List Value) (i : Nat) (z : List Value) : upd Z i z i = z := if_pos rfl
theorem upd_other (Z : Nat → List Value) {i j : Nat} (z : List Value) (h : j ≠ i) : upd Z i z j = Z j := if_neg h

section
variable {w : World} {base e m : Nat} {A : Nat → Option Addr} {N C : Nat → Nat} {Z : Nat → List Value}
theorem Owns.store (h : Owns w base e m A N C Z) (ha : Apart m A N C) {i k : Nat} (hi : i < m) (hk : k < N i) :
    ∃ g, A i = some ⟨g, 0, none⟩ ∧ g < w.heap.size ∧ w.cell? ⟨g, k, none⟩ = (Z i)[k]? ∧ w.frozen? ⟨g, k, none⟩ = false ∧
      (∀ q cs t fz, w.heap[q]? = some (.cells cs t fz) → e ≠ t → g ≠ q) ∧
      ∀ v : Value, Owns (w.setCell ⟨g, k, none⟩ v) base e m A N C (upd Z i ((Z i).set k v)) ∧ Fr (Blocks m A N C) w (w.setCell ⟨g, k, none⟩ v) := by
  obtain ⟨g, hA, hb, hl, hc, hf, hs⟩ := (h i hi).store hk
  have hob : (Value.slice (A i) (N i) (C i)).ownBlock = some g := by rw [hA]; rfl
  refine ⟨g, hA, hl, hc, hf, ?_, ?_⟩
  · rintro q cs t fz hq hne rfl
    exact (h i hi).ne_blk hob hq hne
  · intro v
    refine ⟨?_, (Fr.refl _ _).setCell (p := ⟨g, k, none⟩) (fun _ => ⟨i, hi, hob⟩) v⟩
    intro j hj
    by_cases hij : j = i
    · subst hij
      rw [upd_same]
      exact hs v
    · rw [upd_other _ _ hij]
      refine (h j hj).fr ((Fr.refl (Is g) w).setCell (p := ⟨g, k, none⟩) (fun _ => rfl) v) ?_
      rintro g' hg' rfl
      exact ha.dis i j hi hj (fun e => hij e.symm) _ hob hg'
end

/-- what is written. -/
def mk1 (j n : Nat) : List Value := (List.range n).map fun k : Nat => .int .u8 ((37 * (j : Int) + (k : Int)) % 256)
def mk2 (j : Nat) : List Value := (List.range 70).map fun k : Nat => .int .u8 ((11 * (j : Int) + (k : Int)) % 256)
theorem mk1_at {j n k : Nat} (h : k < n) : (mk1 j n)[k]? = some (.int .u8 ((37 * (j : Int) + (k : Int)) % 256)) := by simp [mk1, List.getElem?_range h]
theorem mk2_at {j k : Nat} (h : k < 70) : (mk2 j)[k]? = some (.int .u8 ((11 * (j : Int) + (k : Int)) % 256)) := by simp [mk2, List.getElem?_range h]
theorem mk1_len (j n : Nat) : (mk1 j n).length = n := by simp [mk1]
theorem mk2_len (j : Nat) : (mk2 j).length = 70 := by simp [mk2]
theorem take_set_snoc {z y : List Value} {k : Nat} {v : Value} (h : z.take k = y.take k) (hy : y[k]? = some v) (hk : k < z.length) : (z.set k v).take (k + 1) = y.take (k + 1) := by
  obtain ⟨hl, rfl⟩ := List.getElem?_eq_some_iff.1 hy
  rw [List.take_succ_eq_append_getElem (by simpa using hk), List.take_succ_eq_append_getElem hl, List.take_set_of_le (by omega), h]
  simp

theorem Own.ne_own {w : World} {b1 e1 s1 n1 b2 e2 s2 n2 : Nat} {v1 v2 : Value} {x1 x2 : List Value} (h1 : Own w b1 e1 s1 v1 n1 x1) (h2 : Own w b2 e2 s2 v2 n2 x2) (hne : e1 ≠ e2) {k : Nat} (hk : v2.ownBlock = some k) : v1.ownBlock ≠ some k := by
  intro hk1
  obtain ⟨_, A, c, rfl, _, _, hA⟩ := h2
  rcases hA with ⟨rfl, _⟩ | ⟨g, cur, rfl, hb, hh, _⟩
  · simp [Value.ownBlock] at hk
  · have e : g = k := Option.some.inj hk
    subst e
    exact h1.ne_blk hk1 hh hne
theorem Rd.fr2 {w w' : World} {B : Nat} {A : Option Addr} {xs : List Value} {S : Nat → Prop} (h : Rd w B A xs) (f : Fr S w w') (hS : ∀ ad, A = some ad → ¬ S ad.block) : Rd w' B A xs := fun j u hu => by
  obtain ⟨ad, e, hb, hc⟩ := h j u hu
  exact ⟨ad, e, hb, f.cell hc (by rw [block_of_add]; exact hS ad e)⟩
theorem own_at {A : Option Addr} {n c : Nat} {ad : Addr} (h : A = some ad) (h0 : ad.spot = none ∧ ad.off = 0) : (Value.slice A n c).ownBlock = some ad.block := by subst h; rfl
theorem Own.rdAt {w : World} {base e n : Nat} {v : Value} {xs : List Value} {g : Nat} (h : Own w base e 1 v n xs) (hg : v.ownBlock = some g) : Rd w w.heap.size (some ⟨g, 0, none⟩) xs := by
  obtain ⟨A, c, rfl, _, _, _, hr, _⟩ := h.form
  rcases h.mem with ⟨rfl, _⟩ | ⟨g', rfl, e⟩
  · simp [Value.ownBlock] at hg
  · have : g' = g := Option.some.inj (e.symm.trans hg)
    subst this
    exact hr

theorem apart_step {wi wr w' : World} {o : Obj} {M e nn : Nat} {Ai : Option Addr} {V l v' : Value} {xs ys : List Value} (hM : M ≤ wi.heap.size)
    (LT : ∀ k, V.ownBlock = some k → k < M) (AI : Ai = none ∧ xs = [] ∨ ∃ g, Ai = some ⟨g, 0, none⟩ ∧ V.ownBlock = some g)
    (I2 : l.ownBlock = V.ownBlock ∨ ∀ g, l.ownBlock = some g → wi.heap.size ≤ g) (I3 : Rd wr M Ai xs) (I4 : Fr (fun k => V.ownBlock = some k) wi wr)
    (ho : Own w' 0 e 1 v' nn (xs ++ ys)) (hat : (v'.ownBlock = l.ownBlock ∧ Fr (fun k => l.ownBlock = some k) (wr.alloc o) w') ∨ (v'.ownBlock = some (wr.alloc o).heap.size ∧ Fr No (wr.alloc o) w')) :
    (v'.ownBlock = V.ownBlock ∨ ∀ g, v'.ownBlock = some g → wi.heap.size ≤ g) ∧ Rd w' M Ai xs ∧ Fr (fun k => V.ownBlock = some k) wi w' := by
  have h4 := I4.alloc o
  have h3 : Rd (wr.alloc o) M Ai xs := I3.fr0 ((Fr.refl No wr).alloc o)
  have hs := I4.size
  rcases hat with ⟨he, hf⟩ | ⟨he, hf⟩
  · refine ⟨by rw [he]; exact I2, ?_, ?_⟩
    · rcases AI with ⟨_, rfl⟩ | ⟨g, hA, hV⟩
      · exact Rd.nil _ _ _
      · rcases I2 with h2 | h2
        · have hr := (ho.rdAt (he.trans (h2.trans hV))).tk xs.length
          rw [List.take_left] at hr
          intro j u hu
          obtain ⟨ad, e1, hb, _⟩ := I3 j u hu
          obtain ⟨ad', e2, _, hc⟩ := hr j u hu
          rw [hA] at e1
          have e3 : ad' = ad := Option.some.inj (e2.symm.trans e1)
          subst e3
          exact ⟨ad', hA.trans e1, hb, hc⟩
        · refine h3.fr2 hf ?_
          intro ad had hl
          have := h2 _ hl
          rw [hA] at had
          have e3 := Option.some.inj had
          have := LT g hV
          rw [← e3] at hl
          have := h2 _ hl
          simp at this
          omega
    · refine h4.trans hf ?_
      intro i hi hl
      rcases I2 with h2 | h2
      · exact h2.symm.trans hl
      · have := h2 i hl
        omega
  · refine ⟨.inr ?_, h3.fr0 hf, h4.tr hf⟩
    intro g hg
    have := Option.some.inj (he.symm.trans hg)
    simp at this
    omega
def updV (L : Nat → Value) (i : Nat) (l : Value) : Nat → Value := fun j => if j = i then l else L j
theorem updV_same (L : Nat → Value) (i : Nat) (l : Value) : updV L i l i = l := if_pos rfl
theorem updV_other (L : Nat → Value) {i j : Nat} (l : Value) (h : j ≠ i) : updV L i l j = L j := if_neg h
theorem map_snoc {L : Nat → Value} {i : Nat} (l : Value) : (List.range i).map L ++ [l] = (List.range (i + 1)).map (updV L i l) := by
  rw [List.range_succ, List.map_append]
  congr 1
  · apply List.map_congr_left
    intro j hj
    have : j < i := by simpa using hj
    rw [updV_other _ _ (by omega)]
  · simp [updV_same]
theorem take_snoc_at {y : List Value} {k : Nat} {v : Value} (hy : y[k]? = some v) : y.take k ++ [v] = y.take (k + 1) := by
  obtain ⟨hl, rfl⟩ := List.getElem?_eq_some_iff.1 hy
  rw [List.take_succ_eq_append_getElem hl]

section
variable (q m d : Nat) (A : Nat → Option Addr) (N C : Nat → Nat) (cs : Array Value) (W : World)

set_option maxRecDepth 100000 in
set_option maxHeartbeats 3200000 in
theorem apart8_any (base : Nat) (Z : Nat → List Value) (hm : m ≤ 100000) (hN : ∀ j, j < m → N j ≤ 140737488350000) (hd : m ≤ d) (hd2 : d ≤ maxLen) (hq : W.heap[q]? = some (.cells cs 23 (0, 0))) (hcs : ∀ j, j < m → cs[j]? = some (.slice (A j) (N j) (C j)))
    (ho : Owns W base 5 m A N C Z) (ha : Apart m A N C) :
    Calls Try.prog 27 #[.slice (some ⟨q, 0, none⟩) m d] W (fun en w' => en = .returned (.bool true) ∧ Fr (Blocks m A N C) W w') := by
  unfold maxLen at hd2
  have HO := hide ho
  have HQ := hide hq
  have HCS := hide hcs
  have HN := hide hN
  have HA := hide ha
  clear ho hq hcs hN ha
  go_enter Try.func27, Try.ntmps27
  go_wp2
  go_loopw [3, 4] (fun i _ wr => ∃ (i' : Nat) (Z' : Nat → List Value), i' ≤ m ∧ i = .int .i64 i' ∧ Hid (Owns wr base 5 m A N C Z') ∧ Hid (∀ j, j < i' → Z' j = mk1 j (N j)) ∧ Hid (Fr (Blocks m A N C) W wr) ∧ Hid (wr.heap[q]? = some (.cells cs 23 (0, 0)))) (fun i _ _ => m - (intOf i).toNat)
  case atStart => exact ⟨0, Z, by omega, rfl, HO, hide (fun j h => by omega), hide (Fr.refl _ _), HQ⟩
  case round =>
    obtain ⟨i, Z1, hi, rfl, O1, M1, F1, Q1⟩ := hrel
    obtain ⟨wo, rfl⟩ : ∃ wo : World, wo = wr := ⟨_, rfl⟩
    by_cases hlt : i < m
    · have hNi := HN.out i hlt
      have HCI := hide (HCS.out i hlt)
      go_wp2
      go_loopw [4] (fun k' wr => ∃ (k : Nat) (Z' : Nat → List Value), k ≤ N i ∧ k' = .int .i64 k ∧ Hid (Owns wr base 5 m A N C Z') ∧ Hid (∀ j, j < i → Z' j = mk1 j (N j)) ∧ Hid ((Z' i).take k = (mk1 i (N i)).take k) ∧ Hid (Fr (Blocks m A N C) W wr) ∧ Hid (wr.heap[q]? = some (.cells cs 23 (0, 0)))) (fun k' _ => N i - (intOf k').toNat)
      case atStart => exact ⟨0, Z1, by omega, rfl, O1, M1, hide rfl, F1, Q1⟩
      case round =>
        obtain ⟨k, Z2, hk, rfl, O2, M2, T2, F2, Q2⟩ := hrel
        have hci := cell_of_row wr q i cs 23 (0, 0) Q2.out
        rw [HCI.out] at hci
        by_cases hkl : k < N i
        · obtain ⟨g, hAi, hgl, hcell, hfz, hne, hst⟩ := O2.out.store HA.out hlt hkl
          rw [hAi] at hci
          have HST := hide hst
          have HNE := hide (hne q cs _ _ Q2.out (by decide))
          clear hst hne
          obtain ⟨u0, hu0⟩ : ∃ u, (Z2 i)[k]? = some u := ⟨_, List.getElem?_eq_getElem (by have := (O2.out i hlt).1; omega)⟩
          rw [hu0] at hcell
          have HAi := hide hAi
          have HT := hide (take_set_snoc T2.out (mk1_at hkl) (by have := (O2.out i hlt).1; omega))
          clear hAi hu0
          go_wp2
          go_roundw
          case rel => exact ⟨k + 1, _, by omega, by go_num, hide (HST.out _).1, hide (fun j hj => by rw [upd_other _ _ (by omega)]; exact M2.out j hj), hide (by rw [upd_same]; exact HT.out), hide (F2.out.ts (HST.out _).2), hide ((Fr.refl (Is g) wr).setCell (p := ⟨g, k, none⟩) (fun _ => rfl) _ |>.blk Q2.out (fun e => HNE.out e.symm))⟩
          case measure => simp [intOf]; omega
        · have hkN : k = N i := by omega
          go_wp2
          go_roundw
          case rel =>
            refine ⟨i + 1, Z2, by omega, by go_num, O2, hide (fun j hj => ?_), F2, Q2⟩
            by_cases hji : j = i
            · subst hji
              have h := T2.out
              rwa [List.take_of_length_le (by have := (O2.out j hlt).1; omega), List.take_of_length_le (by rw [mk1_len]; omega)] at h
            · exact M2.out j (by omega)
          case measure => simp [intOf]; omega
    · have O2 : Hid (∀ j, j < m → Own wo 0 5 1 (.slice (A j) (N j) (C j)) (N j) (mk1 j (N j))) := fun j hj => by
        have h := O1.out j hj
        rw [M1.out j (by omega)] at h
        exact h.lower (Nat.zero_le _)
      have LT : Hid (∀ j, j < m → ∀ k, (Value.slice (A j) (N j) (C j)).ownBlock = some k → k < W.heap.size) := fun j hj k hk => ((HO.out j hj).lt k hk).2
      have QW : Hid (q < W.heap.size) := (Array.getElem?_eq_some_iff.1 HQ.out).1
      have QN : Hid (∀ j, j < m → (Value.slice (A j) (N j) (C j)).ownBlock ≠ some q) := fun j hj hk => (HO.out j hj).ne_blk hk HQ.out (by decide)
      have hW := F1.out.size
      obtain ⟨i1, hi1, hz1, hs1, hb1⟩ := info_parts Try.info8
      obtain ⟨i2, hi2, hz2, hs2, hb2⟩ := info_parts Try.infoS8
      clear O1 M1 HO HQ
      go_wp2
      go_loopw [5, 6, 7, 8] (fun more i' _ _ wr => ∃ (i : Nat) (L : Nat → Value), i ≤ m ∧ i' = .int .i64 i ∧ Hid (Own wr W.heap.size 23 1 more i ((List.range i).map L))
          ∧ Hid (∀ j, i ≤ j → j < m → Own wr 0 5 1 (.slice (A j) (N j) (C j)) (N j) (mk1 j (N j)))
          ∧ Hid (∀ j, j < m → Rd wr W.heap.size (A j) (mk1 j (N j)))
          ∧ Hid (∀ j, j < i → Own wr 0 5 1 (L j) (N j + 70) (mk1 j (N j) ++ mk2 j))
          ∧ Hid (∀ j, j < i → ∀ j', i ≤ j' → j' < m → ∀ k, (Value.slice (A j') (N j') (C j')).ownBlock = some k → (L j).ownBlock ≠ some k)
          ∧ Hid (Fr (Blocks m A N C) W wr) ∧ Hid (wr.heap[q]? = some (.cells cs 23 (0, 0)))) (fun _ i _ _ _ => m - (intOf i).toNat)
      case atStart =>
        refine ⟨0, fun _ => undef, by omega, rfl, hide (Own.nil _ _ _ _), hide (fun j _ hj => O2.out j hj), hide (fun j hj => ?_), hide (fun j hj => by omega), hide (fun j hj => by omega), F1, Q1⟩
        have h := (O2.out j hj).rd
        intro x u hu
        obtain ⟨ad, e, hb, hc⟩ := h x u hu
        exact ⟨ad, e, LT.out j hj _ (by rw [e]; rfl), hc⟩
      case round =>
        obtain ⟨i, L, hi, rfl, OM, OV, RV, OL, DL, FW, QQ⟩ := hrel
        obtain ⟨wi, rfl⟩ : ∃ wi : World, wi = wr := ⟨_, rfl⟩
        clear hlt
        by_cases hlt : i < m
        · have hNi := HN.out i hlt
          have hci := cell_of_row wi q i cs 23 (0, 0) QQ.out
          rw [HCS.out i hlt] at hci
          have hWi := FW.out.size
          have AI := hide (OV.out i (Nat.le_refl _) hlt).mem
          go_wp2
          go_loopw [7, 8] (fun l k' wr => ∃ (k : Nat), k ≤ 70 ∧ k' = .int .i64 k ∧ Hid (Own wr 0 5 1 l (N i + k) (mk1 i (N i) ++ (mk2 i).take k))
              ∧ Hid (l.ownBlock = (Value.slice (A i) (N i) (C i)).ownBlock ∨ ∀ g, l.ownBlock = some g → wi.heap.size ≤ g)
              ∧ Hid (Rd wr W.heap.size (A i) (mk1 i (N i))) ∧ Hid (Fr (fun k => (Value.slice (A i) (N i) (C i)).ownBlock = some k) wi wr)) (fun _ k' _ => 70 - (intOf k').toNat)
          case atStart => exact ⟨0, by omega, rfl, hide (by simpa using OV.out i (Nat.le_refl _) hlt), hide (.inl rfl), hide (RV.out i hlt), hide (Fr.refl _ _)⟩
          case round =>
            obtain ⟨k, hk, rfl, I1, I2, I3, I4⟩ := hrel
            by_cases hkl : k < 70
            · have HS := hide (Src.one (P := Try.prog) wr (e := 5) Try.underlying23 (.int .u8 ((11 * (i : Int) + (k : Int)) % 256)) rfl)
              have I1' := hide (I1.out.fr0 ((Fr.refl No wr).alloc (.cells #[.int .u8 ((11 * (i : Int) + (k : Int)) % 256)] 5)))
              have b1 : (N i + k + 1) * 1 ≤ 140737488355328 := by omega
              have b2 : N i + k + 1 ≤ maxLen := by unfold maxLen; omega
              go_wp2_with (at_builtin; refine wpList_append_two _ rfl (.tmp 53) (.tmp 59) 23 23 rfl 0 5 i1 (.int .u8 0) 1 1 Try.underlying23 hi1 hz1 hs1 hb1 rfl u7 (N i + k) _ rfl I1'.out _ 1 [.int .u8 ((11 * (i : Int) + (k : Int)) % 256)] rfl HS.out b1 b2 (Nat.zero_le _) ?_; intro v' w' hown hat; have ON := hide hown; have HAT := hide hat; clear hown hat)
              go_roundw
              case rel =>
                have h5 := ON.out
                rw [List.append_assoc, take_snoc_at (mk2_at hkl)] at h5
                have h6 := apart_step hWi (LT.out i hlt) (by
                  rcases AI.out with ⟨h, h0⟩ | h
                  · exact .inl ⟨h, by rw [h0]; rfl⟩
                  · exact .inr h) I2.out I3.out I4.out h5 HAT.out
                exact ⟨k + 1, by omega, by go_num, hide h5, hide h6.1, hide h6.2.1, hide h6.2.2⟩
              case measure => simp [intOf]; omega
            · obtain rfl : k = 70 := by omega
              obtain ⟨Al, cl, rfl, hl1, hl2, _⟩ := I1.out.form
              have HS := hide (Src.one (P := Try.prog) wr (e := 23) Try.underlying37 (.slice Al (N i + 70) cl) rfl)
              have FO : Hid (Fr (fun k => (Value.slice (A i) (N i) (C i)).ownBlock = some k) wi (wr.alloc (.cells #[.slice Al (N i + 70) cl] 23))) := I4.out.alloc _
              have OM' : Hid (Own (wr.alloc (.cells #[.slice Al (N i + 70) cl] 23)) W.heap.size 23 1 u5 i ((List.range i).map L)) := OM.out.fr FO.out (fun g hg hk => by
                have := (OM.out.lt g hg).1
                have := LT.out i hlt g hk
                omega)
              have b1 : (i + 1) * 24 ≤ 140737488355328 := by omega
              have b2 : i + 1 ≤ maxLen := by unfold maxLen; omega
              have b3 : W.heap.size ≤ (wr.alloc (.cells #[.slice Al (N i + 70) cl] 23)).heap.size := Nat.le_trans hWi FO.out.size
              go_wp2_with (at_builtin; refine wpList_append_gen _ rfl (.tmp 61) (.tmp 63) 37 37 rfl W.heap.size 23 i2 (.slice none 0 0) 1 24 Try.underlying37 hi2 hz2 hs2 hb2 rfl u5 i _ rfl OM'.out _ 1 [.slice Al (N i + 70) cl] rfl HS.out b1 b2 b3 ?_; intro v' w' hown hfr hat; have ON := hide hown; have FN := hide hfr; clear hown hfr hat)
              go_roundw
              case rel =>
                have hmw : ∀ g, u5.ownBlock = some g → W.heap.size ≤ g := fun g hg => (OM'.out.lt g hg).1
                have hl : Own (wr.alloc (.cells #[.slice Al (N i + 70) cl] 23)) 0 5 1 (.slice Al (N i + 70) cl) (N i + 70) (mk1 i (N i) ++ mk2 i) := by
                  have h := I1.out
                  rw [List.take_of_length_le (by rw [mk2_len]; omega)] at h
                  exact h.fr0 ((Fr.refl No wr).alloc _)
                refine ⟨i + 1, updV L i (.slice Al (N i + 70) cl), by omega, by go_num, hide (by rw [← map_snoc]; exact ON.out), hide ?_, hide ?_, hide ?_, hide ?_, hide ?_, hide ?_⟩
                · intro j hij hj
                  refine ((OV.out j (by omega) hj).fr FO.out ?_).fr FN.out ?_
                  · intro g hg hk
                    exact HA.out.dis i j hlt hj (by omega) g hk hg
                  · intro g hg hk
                    have := LT.out j hj g hg
                    have := hmw g hk
                    omega
                · intro j hj
                  have h1 : Rd (wr.alloc (.cells #[.slice Al (N i + 70) cl] 23)) W.heap.size (A j) (mk1 j (N j)) := by
                    by_cases hji : j = i
                    · subst hji
                      exact I3.out.fr0 ((Fr.refl No wr).alloc _)
                    · refine (RV.out j hj).fr2 FO.out ?_
                      intro ad had hk
                      exact HA.out.dis i j hlt hj (fun e => hji e.symm) _ hk (by rw [had]; rfl)
                  refine h1.fr2 FN.out ?_
                  intro ad had hk
                  have := LT.out j hj ad.block (by rw [had]; rfl)
                  have := hmw _ hk
                  omega
                · intro j hj
                  by_cases hji : j = i
                  · subst hji
                    rw [updV_same]
                    exact hl.fr FN.out (fun g hg hk => hl.ne_own OM'.out (by decide) hk hg)
                  · rw [updV_other _ _ hji]
                    have h1 := (OL.out j (by omega)).fr FO.out (fun g hg hk => DL.out j (by omega) i (Nat.le_refl _) hlt g hk hg)
                    exact h1.fr FN.out (fun g hg hk => h1.ne_own OM'.out (by decide) hk hg)
                · intro j hj j' hij hj' k hk
                  by_cases hji : j = i
                  · subst hji
                    rw [updV_same]
                    rcases I2.out with h2 | h2
                    · rw [h2]
                      exact fun h => HA.out.dis j j' hlt hj' (by omega) k h hk
                    · intro h
                      have := h2 k h
                      have := LT.out j' hj' k hk
                      omega
                  · rw [updV_other _ _ hji]
                    exact DL.out j (by omega) j' (by omega) hj' k hk
                · refine (FW.out.trans FO.out (fun k _ hk => ⟨i, hlt, hk⟩)).trans FN.out ?_
                  intro k hk h
                  have := hmw k h
                  omega
                · refine FN.out.blk (FO.out.blk QQ.out (QN.out i hlt)) ?_
                  intro h
                  have := hmw q h
                  have := QW.out
                  omega
              case measure => simp [intOf]; omega
        · obtain rfl : m = i := by omega
          clear DL OV hW LT QW QN
          obtain ⟨AM, cM, rfl, hM1, hM2, _, hMR, _⟩ := OM.out.form
          unfold maxLen at hM2
          have MR := hide hMR
          clear hMR OM
          go_wp2
          go_loop [9, 10, 11, 12] (fun i' _ _ _ => ∃ i : Nat, i ≤ m ∧ i' = .int .i64 i) (fun i' _ _ _ => m - (intOf i').toNat)
          case atStart => exact ⟨0, by omega, rfl⟩
          case round =>
            obtain ⟨i, hi2', rfl⟩ := hrel
            clear hlt
            by_cases hlt : i < m
            · have hNi := HN.out i hlt
              have hci := cell_of_row wi q i cs 23 (0, 0) QQ.out
              rw [HCS.out i hlt] at hci
              obtain ⟨Al, cl, hLi, hl1, hl2, _, hLR, _⟩ := (OL.out i hlt).form
              unfold maxLen at hl2
              obtain ⟨am, rfl, _, hmc⟩ := MR.out i (L i) (by simp [List.getElem?_range hlt])
              rw [hLi] at hmc
              have LR := hide hLR
              clear hLR hLi
              go_wp2
              go_loop [11] (fun k' => ∃ k : Nat, k ≤ N i ∧ k' = .int .i64 k) (fun k' => N i - (intOf k').toNat)
              case atStart => exact ⟨0, by omega, rfl⟩
              case round =>
                obtain ⟨k, hk, rfl⟩ := hrel
                by_cases hkl : k < N i
                · obtain ⟨ad, hAi, _, hc1⟩ := RV.out i hlt k _ (mk1_at hkl)
                  obtain ⟨bd, rfl, _, hc2⟩ := LR.out k (.int .u8 ((37 * (i : Int) + (k : Int)) % 256)) (by rw [List.getElem?_append_left (by rw [mk1_len]; exact hkl)]; exact mk1_at hkl)
                  rw [hAi] at hci
                  have hb : ((37 * (i : Int) + (k : Int)) % 256 != (37 * (i : Int) + (k : Int)) % 256) = false := by simp
                  clear hAi
                  go_wp2
                  go_round
                  case rel => exact ⟨k + 1, by omega, by go_num⟩
                  case measure => simp [intOf]; omega
                · go_wp2
                  go_loop [12] (fun k' => ∃ k : Nat, k ≤ 70 ∧ k' = .int .i64 k) (fun k' => 70 - (intOf k').toNat)
                  case atStart => exact ⟨0, by omega, rfl⟩
                  case round =>
                    clear hkl hk
                    obtain ⟨k, hk, rfl⟩ := hrel
                    by_cases hkl : k < 70
                    · obtain ⟨bd, rfl, _, hc2⟩ := LR.out (N i + k) (.int .u8 ((11 * (i : Int) + (k : Int)) % 256)) (by
                        rw [List.getElem?_append_right (by rw [mk1_len]; omega), mk1_len, Nat.add_sub_cancel_left]
                        exact mk2_at hkl)
                      have hb : ((11 * (i : Int) + (k : Int)) % 256 != (11 * (i : Int) + (k : Int)) % 256) = false := by simp
                      have t1 : ((N i : Int) + (k : Int)).toNat = N i + k := by omega
                      go_wp2
                      go_round
                      case rel => exact ⟨k + 1, by omega, by go_num⟩
                      case measure => simp [intOf]; omega
                    · go_wp2
                      go_round
                      case rel => exact ⟨i + 1, by omega, by go_num⟩
                      case measure => simp [intOf]; omega
            · go_wp2
              go_ret
              exact ⟨rfl, FW.out⟩
end
end Go.Proofs.Ytpnhnnhocekchaa
