/- Are a directory's files these? -/
import Derived.Test.YthbgcmffpnmbeaaVfZ
import Derived.Test.YthbgcmffpnmbeaaKitS
import Derived.Test.YthbgcmffpnmbeaaKit8
namespace Go.Proofs.Ythbgcmffpnmbeaa
set_option linter.unusedVariables false
set_option linter.unusedSimpArgs false
open Go.RowKit Go.Maps

def heldB (S : Di) (names : List Tx) (bss : List (List UInt8)) : Prop :=
  (if S.off = true then names = [] else KeysL S.now names) ∧ bss.length = names.length ∧ ∀ i, i < names.length → reaS S (names.getD i []) = (bss.getD i [], 0)
theorem keys_eq {S : Di} {l l' : List Tx} (h : if S.off = true then l = [] else KeysL S.now l) (h' : if S.off = true then l' = [] else KeysL S.now l') : l = l' := by
  cases ho : S.off with
  | true => rw [ho] at h h'; rw [if_pos rfl] at h h'; rw [h, h']
  | false => rw [ho] at h h'; rw [if_neg (by simp)] at h h'; exact h.uniq h'
def RetH (w : World) (P : Prop) (en : Ending) (w' : World) : Prop := ∃ b : Bool, en = .returned (.bool b) ∧ (b = true ↔ P) ∧ Fr No w w'
set_option maxRecDepth 100000 in
set_option maxHeartbeats 1600000 in
theorem held_any (w : World) (Z : Nat → Prop) (d N : Nat) (S : Di) (p : Ph) (A B : Option Addr) (n c m cb B0 B1 : Nat) (names : List Tx) (bss : List (List UInt8)) (h : DirP w Z d S N p) (hN : N ≤ 1099511627776)
    (hl : names.length = n) (hn : n ≤ c) (hc : c ≤ maxLen) (hr : Rd w B0 A (svs names)) (ht : ∀ t ∈ names, t.length ≤ maxLen) (hlb : bss.length = m) (hm : m ≤ cb) (hcb : cb ≤ maxLen) (hb : BSl w B1 B bss) :
    Calls Try.prog 16 #[.pointer (some ⟨d, 0, none⟩), .slice A n c, .slice B m cb] w (RetH w (heldB S names bss)) := by
  have HL := hide (list_any w Z d N S p h hN)
  have HX := hide hl
  have HY := hide hlb
  have HR := hide hr
  have HB := hide hb
  have HT := hide ht
  have HP := hide h
  unfold maxLen at hc hcb
  have HS := hide (fun (W : World) (f : Fr No w W) (A1 : Option Addr) (c1 : Nat) (ks : List Tx) (o : Own W w.heap.size 9 1 (.slice A1 ks.length c1) ks.length (svs ks)) =>
    sameS_any A1 A ks.length c1 n c _ B0 ks names W rfl hl o.le.2.1 o.le.2.2 hn (by unfold maxLen; exact hc) o.rd (hr.fr0 f))
  clear h hr hb ht
  go_enter Try.func16, Try.ntmps16
  go_wp2_with (go_at_call 11; refine HL.out.mono ?_; rintro e w1 ⟨A1, c1, ks, rfl, hk, hkl, ho, hf⟩; have HO := hide ho; have HF := hide hf; have HK := hide hk; clear ho hf hk hkl)
  have HC := HS.out w1 HF.out A1 c1 ks HO.out
  by_cases he : ks = names
  · rw [decide_eq_true he] at HC
    subst he
    by_cases hmn : m = n
    · subst hmn
      have hb0 : ((m : Int) != (m : Int)) = false := by simp
      refine HC.mono ?_
      rintro e w2 ⟨rfl, q, rfl⟩
      have HFq := hide (HF.out.drewN q)
      go_wp2
      go_loopw [7] (fun i wr => ∃ k : Nat, k ≤ m ∧ i = .int .i64 k ∧ Hid (Fr No w wr) ∧ Hid (∀ j, j < k → reaS S (ks.getD j []) = (bss.getD j [], 0))) (fun i _ => m - (intOf i).toNat)
      case atStart => exact ⟨0, by omega, rfl, HFq, hide (fun j hj => by omega)⟩
      case round =>
        obtain ⟨k, hk, rfl, HW, HQ⟩ := hrel
        by_cases hlt : k < m
        · have h1 : k < ks.length := by rw [HX.out]; exact hlt
          have h2 : k < bss.length := by rw [HY.out]; exact hlt
          obtain ⟨ad, X, rfl, _, hcell, hX, _, _⟩ := cellStr (HR.out.fr0 HW.out) h1
          have ev : Value.string X = sv (ks.getD k []) := by unfold sv; rw [← hX]
          obtain ⟨bd, Ab, cb', rfl, _, hcb2, hb1, hb2, hbr⟩ := (HB.out.fr0 HW.out) k (bss.getD k []) (by rw [List.getD, List.getElem?_eq_getElem h2]; rfl)
          have HRd := hide (read_any wr Z d N S p (ks.getD k []) (HP.out.fr0 HW.out) (HT.out _ (getD_mem h1)))
          rw [← ev] at HRd
          have HBr := hide hbr
          have hcW := hide hcb2
          clear ev hX hbr h1 h2 hcb2
          obtain ⟨rb, re, hre⟩ : ∃ rb re, reaS S (ks.getD k []) = (rb, re) := ⟨_, _, rfl⟩
          rw [hre] at HRd
          have HE := hide hre
          have HKy := hide (show k < ks.length by rw [HX.out]; exact hlt)
          obtain ⟨tb, htb⟩ : ∃ tb, tb = bss.getD k [] := ⟨_, rfl⟩
          rw [← htb] at hcW hb1 HBr
          have HTb := hide htb
          clear htb hre
          unfold RetR at HRd
          simp only at HRd
          by_cases hz : re = 0
          · subst hz
            by_cases hbq : rb = tb
            · have HQ2 := hide (fun j (hj : j < k + 1) => show reaS S (ks.getD j []) = (bss.getD j [], 0) by
                by_cases e : j = k
                · subst e; rw [HE.out, hbq, HTb.out]
                · exact HQ.out j (by omega))
              have hd9 : decide (rb = tb) = true := decide_eq_true hbq
              clear hbq
              go_wp2_with (first | (go_at_call 15; refine HRd.out.mono ?_; rintro e w3 ⟨v, rfl, ho3, hf3⟩; obtain ⟨A3, c3, rfl, hl3, hm3, -⟩ := ho3.form; have HO3 := hide ho3; have HF3 := hide hf3; have hcW3 := hf3.cell hcW (fun h => h); clear ho3 hf3) | (go_at_call 18; refine (kbytes_any A3 Ab _ c3 _ cb' _ B1 rb tb w3 rfl rfl hl3 hm3 hb1 hb2 HO3.out.rd (HBr.out.fr0 HF3.out)).mono ?_; rintro e w4 ⟨rfl, q4, rfl⟩))
              go_round
              case rel => exact ⟨k + 1, by omega, by go_num, hide ((HW.out.tr HF3.out).drewN _), HQ2⟩
              case measure => simp [intOf]; omega
            · have hd9 : decide (rb = tb) = false := decide_eq_false hbq
              have HNo : Hid (¬ heldB S ks bss) := hide fun hh => hbq (by
                have := hh.2.2 k HKy.out
                rw [HE.out] at this
                rw [HTb.out]
                exact congrArg Prod.fst this)
              clear hbq
              go_wp2_with (first | (go_at_call 15; refine HRd.out.mono ?_; rintro e w3 ⟨v, rfl, ho3, hf3⟩; obtain ⟨A3, c3, rfl, hl3, hm3, -⟩ := ho3.form; have HO3 := hide ho3; have HF3 := hide hf3; have hcW3 := hf3.cell hcW (fun h => h); clear ho3 hf3) | (go_at_call 18; refine (kbytes_any A3 Ab _ c3 _ cb' _ B1 rb tb w3 rfl rfl hl3 hm3 hb1 hb2 HO3.out.rd (HBr.out.fr0 HF3.out)).mono ?_; rintro e w4 ⟨rfl, q4, rfl⟩))
              go_ret
              exact ⟨false, rfl, by simp; exact HNo.out, (HW.out.tr HF3.out).drewN _⟩
          · have hz' : (re != 0) = true := by simp [hz]
            have HNo : Hid (¬ heldB S ks bss) := hide fun hh => hz (by
              have := hh.2.2 k HKy.out
              rw [HE.out] at this
              exact congrArg Prod.snd this)
            clear hz
            go_wp2_with ((go_at_call 15; refine HRd.out.mono ?_; rintro e w3 ⟨v, rfl, ho3, hf3⟩; obtain ⟨A3, c3, rfl, hl3, hm3, -⟩ := ho3.form; have HO3 := hide ho3; have HF3 := hide hf3; have hcW3 := hf3.cell hcW (fun h => h); clear ho3 hf3))
            go_ret
            exact ⟨false, rfl, by simp; exact HNo.out, HW.out.tr HF3.out⟩
        · have HYes : Hid (heldB S ks bss) := hide ⟨HK.out, by rw [HX.out, HY.out], fun j hj => HQ.out j (by rw [HX.out] at hj; omega)⟩
          go_wp2
          go_ret
          exact ⟨true, rfl, by simp; exact HYes.out, HW.out⟩
    · have hb0 : ((m : Int) != (n : Int)) = true := by simp; omega
      refine HC.mono ?_
      rintro e w2 ⟨rfl, q, rfl⟩
      go_wp2
      go_ret
      exact ⟨false, rfl, by simp; intro hh; exact hmn (by have := hh.2.1; rw [HX.out, HY.out] at this; exact this), HF.out.drewN q⟩
  · rw [decide_eq_false he] at HC
    refine HC.mono ?_
    rintro e w2 ⟨rfl, q, rfl⟩
    go_wp2
    go_ret
    exact ⟨false, rfl, by simp; exact fun hh => he (keys_eq HK.out hh.1), HF.out.drewN q⟩
end Go.Proofs.Ythbgcmffpnmbeaa
