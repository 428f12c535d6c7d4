/- The walk of FrameBack: it answers true; nothing that was there has changed. -/
import Derived.Test.YtapfbjaopbcgjaaSealsW
namespace Go.Proofs.Ytapfbjaopbcgjaa
set_option linter.unusedVariables false
set_option linter.unusedSimpArgs false
open Go.RowKit

def GivesLE (e : Int) (bss : List (List UInt8)) (w : World) (en : Ending) (w' : World) : Prop := ∃ A c vals, en = .returned (.tuple #[.slice A bss.length c, .int .i64 e]) ∧ Own w' w.heap.size 23 1 (.slice A bss.length c) bss.length vals ∧ Vals w' w.heap.size vals bss ∧ bss.length ≤ c ∧ c ≤ maxLen ∧ BSl w' w'.heap.size A bss ∧ Fr No w w'
theorem GivesOpen.le {kind : UInt8} {d : List UInt8} {w w' : World} {en : Ending} (h : GivesOpen kind d w en w') : GivesLE (openE kind d) (openL kind d) w en w' := by
  obtain ⟨v, vals, rfl, ho, hv, hf⟩ := h
  obtain ⟨A', c', rfl, h1, h2, _, h3, _⟩ := ho.form
  exact ⟨A', c', vals, rfl, ho, hv, h1, h2, hv.bsl h3, hf⟩
theorem openE_nil (kind : UInt8) : openE kind [] = 20 := openE_bad (by simp) (by simp)
theorem openL_len {kind : UInt8} {d : List UInt8} (hd : d.length ≤ 140737488351232) : ∀ b ∈ openL kind d, b.length ≤ 140737488355328 := by
  intro b hb
  by_cases he : openE kind d = 0
  · obtain ⟨h1, h2⟩ := seal_open kind d he
    have := flat_mem hb
    have := (long_no h1).2
    omega
  · rw [openL_bad he] at hb
    cases hb

theorem kblocks_same {f : FuncId} {args : Array Value} {bss : List (List UInt8)} {W : World} (h : Calls Try.prog f args W (RetQ (.bool (decide (bss = bss))) W)) : Calls Try.prog f args W (RetQ (.bool true) W) := by
  have e : decide (bss = bss) = true := decide_eq_true rfl
  rw [e] at h
  exact h

section
variable (kind : UInt8) (A : Option Addr) (n c : Nat) (bss : List (List UInt8)) (A2 : Option Addr) (n2 c2 : Nat) (d : List UInt8) (w : World)

set_option maxRecDepth 100000 in
set_option maxHeartbeats 4000000 in
theorem fback_any (hl : bss.length = n) (hn : n ≤ c) (hc : c ≤ maxLen) (hr : BSl w w.heap.size A bss) (hbs : ∀ b ∈ bss, b.length ≤ 140737488351232)
    (hl2 : d.length = n2) (hn2 : n2 ≤ c2) (hc2 : c2 ≤ maxLen) (hr2 : Rd w w.heap.size A2 (by8 d)) :
    Calls Try.prog 6 #[.int .u8 (kind.toNat : Nat), .slice A n c, .slice A2 n2 c2] w (RetB true w) := by
  have HC := hide hc
  have HC2 := hide hc2
  unfold maxLen at hc hc2
  have HR := hide hr
  have HL := hide hl
  have HBS := hide hbs
  have HR2 := hide hr2
  have HL2 := hide hl2
  clear hr hl hbs hr2 hl2
  go_enter Try.func6, Try.ntmps6
  go_wp2
  go_loop [7, 8] (fun s i => ∃ (k T : Nat), k ≤ n ∧ i = .int .i64 k ∧ s = .int .i64 (T : Nat) ∧ Hid (T = (bss.take k).flatten.length)) (fun _ i => n - (intOf i).toNat)
  case atStart => exact ⟨0, 0, by omega, rfl, rfl, hide rfl⟩
  case round =>
    obtain ⟨k, T, hk, rfl, rfl, HT⟩ := hrel
    by_cases hT : T < 100000
    · have hTd : decide ((T : Int) < 100000) = true := by
        apply decide_eq_true
        omega
      by_cases hlt : k < n
      · obtain ⟨bs, hx⟩ : ∃ bs, bss[k]? = some bs := ⟨_, List.getElem?_eq_getElem (by rw [HL.out]; exact hlt)⟩
        obtain ⟨ad, Aj, cj, rfl, _, hcell, hj1, hj2, _⟩ := HR.out k bs hx
        have hbl := HBS.out bs (List.mem_of_getElem? hx)
        have HN := hide (show T + bs.length = (bss.take (k + 1)).flatten.length by rw [flat_succ hx, List.length_append, ← HT.out])
        generalize bs.length = m at hcell hj1 hbl HN
        have hsum : (T : Int) + (m : Int) ≤ 140737488451232 := by omega
        clear hx hT
        unfold maxLen at hj2
        go_wp2
        go_round
        case rel => exact ⟨k + 1, T + m, by omega, by go_num, by go_num, HN⟩
        case measure => simp [intOf]; omega
      · obtain rfl : n = k := by omega
        have hTg : decide ((100000 : Int) ≤ (T : Int)) = false := by
          apply decide_eq_false
          omega
        have HFl := hide (show bss.flatten.length < 100000 by
          have h := HT.out
          rw [List.take_of_length_le (Nat.le_of_eq HL.out)] at h
          omega)
        clear hT
        by_cases hbig : 100000 < n2
        · have hbd : decide ((100000 : Int) < (n2 : Int)) = true := by
            apply decide_eq_true
            omega
          clear hbig
          go_wp2_with (go_at_call 9; refine (awake04_any _).mono ?_; rintro en w11 ⟨rfl, hfr⟩; have F11 := hide hfr; clear hfr)
          go_ret
          exact ⟨rfl, F11.out⟩
        · have HD2 := hide (show d.length ≤ 100000 by rw [HL2.out]; omega)
          have hbd : decide ((100000 : Int) < (n2 : Int)) = false := by
            apply decide_eq_false
            omega
          clear hbig hlt hk
          have HS := hide (fun W (h : BSl W W.heap.size A bss) => Calls.mono (seal_any kind A n c W.heap.size bss W HL.out hn HC.out (Nat.le_refl _) h (fun b hb => by have := HBS.out b hb; omega)) (fun _ _ h => h.uni))
          have HO2 := hide (fun W (h : Rd W W.heap.size A2 (by8 d)) => Calls.mono (open_any kind A2 n2 c2 W.heap.size d W HL2.out hn2 HC2.out (Nat.le_refl _) h) (fun _ _ h => h.le))
          have HS2 := hide (fun W A' c' (h : BSl W W.heap.size A' (openL kind d)) (h1 : (openL kind d).length ≤ c') (h2 : c' ≤ maxLen) => Calls.mono (seal_any kind A' _ c' W.heap.size (openL kind d) W rfl h1 h2 (Nat.le_refl _) h (openL_len (by have := HD2.out; omega))) (fun _ _ h => h.uni))
          have HO1 := hide (fun W A' c' (h : Rd W W.heap.size A' (by8 (seB kind bss))) (h1 : (seB kind bss).length ≤ c') (h2 : c' ≤ maxLen) => Calls.mono (open_any kind A' _ c' W.heap.size (seB kind bss) W rfl h1 h2 (Nat.le_refl _) h) (fun _ _ h => h.le))
          have HK1 := hide (fun W A' c' b (h : BSl W b A' bss) (h0 : BSl W w.heap.size A bss) (h1 : bss.length ≤ c') (h2 : c' ≤ maxLen) => kblocks_same (kblocks_any A' A _ c' n c b w.heap.size bss bss W rfl HL.out h1 h2 hn HC.out h h0))
          -- what the second sealing says
          have hend : (openE kind d != 0) = true ∨ ((openE kind d != 0) = false ∧ seE kind (openL kind d) = 0 ∧ seB kind (openL kind d) = d) := by
            by_cases he : openE kind d = 0
            · obtain ⟨h1, h2⟩ := seal_open kind d he
              refine .inr ⟨by simp [he], ?_, ?_⟩
              · unfold seE; rw [h1]; rfl
              · unfold seB; rw [h1]; exact h2
            · exact .inl (by simpa using he)
          have hfst : ((seE kind bss == 0) = false) ∨ ((seE kind bss == 0) = true ∧ openE kind (seB kind bss) = 0 ∧ openL kind (seB kind bss) = bss) := by
            cases hlg : longB kind bss with
            | true => left; unfold seE; rw [hlg]; rfl
            | false =>
              right
              obtain ⟨h1, h2⟩ := open_seal kind bss hlg
              unfold seE seB
              rw [hlg]
              exact ⟨rfl, h1, h2⟩
          have HFst := hide hfst
          clear hfst
          generalize seE kind bss = e1 at HS HFst
          generalize seB kind bss = s1 at HS HO1 HFst
          generalize openE kind d = e2 at HO2 hend
          generalize openL kind d = l2 at HO2 HS2 hend
          generalize seE kind l2 = e3 at HS2 hend
          generalize seB kind l2 = s2 at HS2 hend
          obtain ⟨f1, hf1⟩ : ∃ f1, f1 = openE kind s1 := ⟨_, rfl⟩
          obtain ⟨l1, hl1⟩ : ∃ l1, l1 = openL kind s1 := ⟨_, rfl⟩
          rw [← hf1, ← hl1] at HO1 HFst
          clear hf1 hl1
          have hfst := HFst.out
          clear HFst
          rcases hfst with he1 | ⟨he1, rfl, rfl⟩
          all_goals
            rcases hend with he2 | ⟨he2, rfl, rfl⟩
            all_goals
              go_wp2_with (first
                | (go_at_call 9; refine (awake04_any _).mono ?_; rintro en w1 ⟨rfl, hfr⟩; have F1 := hide hfr; clear hfr)
                | (go_at_call 10; have mk := F3; clear mk; refine (HS2.out w4 A4 c4 B4.out P4.out P5.out).mono ?_; rintro en w5 ⟨A5, c5, rfl, hown, hq1, hq2, hfr⟩; have R5 := hide hown.rd; have F5 := hide (F4.out.tr hfr); have P6 := hide hq1; have P7 := hide hq2; clear hown hfr hq1 hq2)
                | (go_at_call 10; refine (HS.out w1 ((HR.out.fr0 F1.out).more F1.out.size)).mono ?_; rintro en w2 ⟨Ab, cb, rfl, hown, hq1, hq2, hfr⟩; have R2 := hide hown.rd; have F2 := hide (F1.out.tr hfr); have Q1 := hide hq1; have Q2 := hide hq2; clear hown hfr hq1 hq2)
                | (go_at_call 17; have mk := F3; clear mk; refine (HO2.out _ ((HR2.out.fr0 (F3.out.tr G3.out)).more (F3.out.tr G3.out).size)).mono ?_; rintro en w4 ⟨A4, c4, vals4, rfl, hown, hvals, hq1, hq2, hbl, hfr⟩; have B4 := hide hbl; have F4 := hide ((F3.out.tr G3.out).tr hfr); have P4 := hide hq1; have P5 := hide hq2; clear hown hvals hq1 hq2 hbl hfr)
                | (go_at_call 17; refine (HO1.out w2 Ab cb R2.out Q1.out Q2.out).mono ?_; rintro en w3 ⟨A3, c3, vals3, rfl, hown, hvals, hq1, hq2, hbl, hfr⟩; have B3 := hide hbl; have F3 := hide (F2.out.tr hfr); have Q3 := hide hq1; have Q4 := hide hq2; have G3 := hide (Fr.refl No w3); clear hown hvals hq1 hq2 hbl hfr)
                | (go_at_call 21; refine (HK1.out w3 A3 c3 _ B3.out (HR.out.fr0 F3.out) Q3.out Q4.out).mono ?_; clear G3; rintro en w6 ⟨rfl, nq6, rfl⟩; have G3 := hide ((Fr.refl No w3).drewN nq6); generalize w3.drewN nq6 = w6 at G3 ⊢)
                | (go_at_call 12; refine (kbytes_any A5 A2 _ c5 n2 c2 _ _ s2 s2 _ rfl HL2.out P6.out P7.out hn2 HC2.out R5.out ((HR2.out.fr0 F5.out).more F5.out.size)).mono ?_; rw [decide_eq_true rfl]; rintro en w7 ⟨rfl, nq7, rfl⟩; have F7 := hide (F5.out.drewN nq7)))
          all_goals
            go_ret
            first | exact ⟨rfl, F7.out⟩ | exact ⟨rfl, F5.out⟩
    · have hTd : decide ((T : Int) < 100000) = false := by
        apply decide_eq_false
        omega
      have hTg : decide ((100000 : Int) ≤ (T : Int)) = true := by
        apply decide_eq_true
        omega
      clear hT
      by_cases hlt : k < n
      all_goals
        go_wp2_with (go_at_call 9; refine (awake04_any _).mono ?_; rintro en w11 ⟨rfl, hfr⟩; have F11 := hide hfr; clear hfr)
        go_ret
        exact ⟨rfl, F11.out⟩
end
end Go.Proofs.Ytapfbjaopbcgjaa
