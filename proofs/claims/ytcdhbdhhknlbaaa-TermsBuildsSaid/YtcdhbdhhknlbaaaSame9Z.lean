/- same: a dictionary and the document's tell the same. -/
import Derived.Test.YtcdhbdhhknlbaaaK12
import Derived.Test.YtcdhbdhhknlbaaaTFindWZ
namespace Go.Proofs.Ytcdhbdhhknlbaaa
set_option linter.unusedVariables false
set_option linter.unusedSimpArgs false
open Go.RowKit

theorem rfindV_eq {l : List Tx} (ha : Asc l) (s : Tx) : rfindV l s = findV l s := by
  unfold rfindV
  cases hf : l.findIdx? (fun t => decide (t = s)) with
  | none =>
    rw [List.findIdx?_eq_none_iff] at hf
    dsimp only
    unfold findV
    rw [if_neg]
    rintro ⟨h1, h2⟩
    have := hf _ (getD_mem h1)
    rw [h2] at this
    simp at this
  | some i =>
    rw [List.findIdx?_eq_some_iff_getElem] at hf
    obtain ⟨hi, h1, _⟩ := hf
    have h2 : l.getD i [] = s := by
      have := of_decide_eq_true h1
      rw [List.getD, List.getElem?_eq_getElem hi]
      exact this
    dsimp only
    rw [← h2, find_at ha hi]
/-- the document's dictionary, or none. -/
structure RefP (w : World) (B : Nat) (p : Option Addr) (l : List Tx) (at_ : List Nat) : Prop where
  ex : (p = none ∧ l = [] ∧ at_ = []) ∨ ∃ g, p = some ⟨g, 0, none⟩ ∧ RefD w B g l at_
theorem RefP.fr0 {w w' : World} {B : Nat} {p : Option Addr} {l : List Tx} {at_ : List Nat} (h : RefP w B p l at_) (f : Fr No w w') : RefP w' B p l at_ := by
  rcases h.ex with h | ⟨g, h1, h2⟩
  · exact ⟨.inl h⟩
  · exact ⟨.inr ⟨g, h1, h2.fr0 f⟩⟩
theorem RefP.above {S : Nat → Prop} {w w' : World} {B : Nat} {p : Option Addr} {l : List Tx} {at_ : List Nat} (h : RefP w B p l at_) (f : Fr S w w') (hS : ∀ k, S k → k < B) : RefP w' B p l at_ := by
  rcases h.ex with h | ⟨g, h1, h2⟩
  · exact ⟨.inl h⟩
  · exact ⟨.inr ⟨g, h1, h2.above f hS⟩⟩
section
variable {B : Nat} {p : Option Addr} {l : List Tx} {at_ : List Nat} {w : World}
theorem qlen_any (h : RefP w B p l at_) (hn : l.length ≤ 1048576) : Calls Try.prog 57 #[.pointer p] w (Ret (.int .i64 l.length) w) := by
  rcases h.ex with ⟨rfl, rfl, _⟩ | ⟨g, rfl, h2⟩
  · exact rlen_nil w
  · exact rlen_any g B l at_ w h2 hn
theorem qterm_any (h : RefP w B p l at_) (hn : l.length ≤ 1048576) (o : Int) : Calls Try.prog 58 #[.pointer p, .int .i64 o] w (Ret (sv (termAt l o)) w) := by
  rcases h.ex with ⟨rfl, rfl, _⟩ | ⟨g, rfl, h2⟩
  · rw [termAt_nil]; exact rterm_nil o w
  · exact rterm_any g B l at_ w o h2 hn
theorem qval_any (h : RefP w B p l at_) (hn : l.length ≤ 1048576) (ha : l.length = at_.length) (o : Int) : Calls Try.prog 59 #[.pointer p, .int .i64 o] w (Ret (.int .u64 (valAt at_ o : Nat)) w) := by
  rcases h.ex with ⟨rfl, rfl, rfl⟩ | ⟨g, rfl, h2⟩
  · rw [valAt_nil]; exact rval_nil o w
  · exact rval_any g B l at_ w o h2 hn ha
theorem qfind_any (h : RefP w B p l at_) (hn : l.length ≤ 1048576) (ha : Asc l) (s : Tx) : Calls Try.prog 60 #[.pointer p, .string ⟨s.toArray⟩] w (Ret (findV l s) w) := by
  rw [← rfindV_eq ha]
  rcases h.ex with ⟨rfl, rfl, rfl⟩ | ⟨g, rfl, h2⟩
  · exact rfind_nil _ w
  · exact rfind_any g B l at_ s w h2 hn
theorem qrange_any (h : RefP w B p l at_) (hn : l.length ≤ 1048576) (ha : Asc l) (r s : Tx) : Calls Try.prog 62 #[.pointer p, .string ⟨r.toArray⟩, .string ⟨s.toArray⟩] w (Ret (.tuple #[.int .i64 (lowT l r : Nat), .int .i64 (max (lowT l r) (topT l s) : Nat)]) w) := by
  rcases h.ex with ⟨rfl, rfl, rfl⟩ | ⟨g, rfl, h2⟩
  · rw [lowT_nil, topT_nil]; exact rrange_nil _ _ w
  · exact rrange_any g B l at_ r s w h2 hn ha
theorem qprefix_any (h : RefP w B p l at_) (hn : l.length ≤ 1048576) (ha : Asc l) (hl : ∀ t ∈ l, t.length ≤ 4096) (s : Tx) (hs : s.length ≤ maxLen) : Calls Try.prog 61 #[.pointer p, .string ⟨s.toArray⟩] w (Ret (.tuple #[.int .i64 (lowT l s : Nat), .int .i64 (preT l s : Nat)]) w) := by
  rcases h.ex with ⟨rfl, rfl, rfl⟩ | ⟨g, rfl, h2⟩
  · rw [lowT_nil, preT_nil]; exact rprefix_nil _ w
  · exact rprefix_any g B l at_ s w h2 hn ha hl hs
end
theorem findV_form (l : List Tx) (s : Tx) : ∃ (x : Int) (b : Bool), findV l s = .tuple #[.int .i64 x, .bool b] := by
  unfold findV
  split <;> exact ⟨_, _, rfl⟩

set_option maxRecDepth 100000 in
set_option maxHeartbeats 4000000 in
theorem same9_any (B C : Nat) (p q : Option Addr) (l : List Tx) (at_ : List Nat) (X Y : ByteArray) (w : World) (hd : DictP w B p l at_) (hr : RefP w C q l at_) (hal : l.length = at_.length) (hX : X.size ≤ maxLen) (hY : Y.size ≤ maxLen) :
    Calls Try.prog 28 #[.pointer p, .pointer q, .string X, .string Y] w (RetB true w) := by
  have hn := hd.n_le
  have hasc := hd.asc
  have hle := hd.le
  have HD := hide hd
  have HR := hide hr
  have HLe := hide (fun W (hW : Fr No w W) => plen_any B p l at_ W (hd.fr0 hW))
  have HQLe := hide (qlen_any hr hn)
  have HTe := hide (fun W (hW : Fr No w W) (o : Int) => pterm_any B p l at_ W o (hd.fr0 hW))
  have HQTe := hide (fun W (hW : Fr No w W) (o : Int) => qterm_any (hr.fr0 hW) hn o)
  have HAt := hide (fun W (hW : Fr No w W) (o : Int) => pat_any B p l at_ W o (hd.fr0 hW))
  have HQVa := hide (fun W (hW : Fr No w W) (o : Int) => qval_any (hr.fr0 hW) hn hal o)
  have HFi := hide (fun W (hW : Fr No w W) => pfind_any B p l at_ X.data.toList W (hd.fr0 hW))
  have HQFi := hide (fun W (hW : Fr No w W) => qfind_any (hr.fr0 hW) hn hasc X.data.toList)
  have HPr := hide (fun W (hW : Fr No w W) => pprefix_any B p l at_ X.data.toList W (hd.fr0 hW) (by rw [Array.length_toList]; exact hX))
  have HQPr := hide (fun W (hW : Fr No w W) => qprefix_any (hr.fr0 hW) hn hasc hle X.data.toList (by rw [Array.length_toList]; exact hX))
  have HRg := hide (fun W (hW : Fr No w W) => prange_any B p l at_ X.data.toList Y.data.toList W (hd.fr0 hW))
  have HQRg := hide (fun W (hW : Fr No w W) => qrange_any (hr.fr0 hW) hn hasc X.data.toList Y.data.toList)
  unfold PrePost at HPr
  rw [ba_eta] at HFi HQFi HPr HQPr HRg HQRg
  rw [ba_eta] at HRg HQRg
  obtain ⟨n, hN⟩ : ∃ n, l.length = n := ⟨_, rfl⟩
  rw [hN] at HLe HQLe hn
  obtain ⟨fx, fb, hff⟩ := findV_form l X.data.toList
  rw [hff] at HFi HQFi
  generalize lowT l X.data.toList = x1 at HPr HQPr HRg HQRg
  generalize preT l X.data.toList = x2 at HPr HQPr
  generalize max x1 (topT l Y.data.toList) = x3 at HRg HQRg
  have HF0 := hide (Fr.refl No w)
  clear hd hr hal hX hY hff hasc hle hN
  go_enter Try.func28, Try.ntmps28
  have e0 : ((n : Int) != (n : Int)) = false := by simp
  go_wp2_with (first
    | (go_at_call 57; refine HQLe.out.mono ?_; rintro en w1 ⟨rfl, rfl⟩)
    | (go_at_call 14; refine (HLe.out _ HF0.out).mono ?_; rintro en w1 ⟨rfl, rfl⟩)
    | fail)
  go_loopw [10] (fun ix wr => ∃ (k : Nat) (i : Int), k ≤ n + 2 ∧ Hid (i = (k : Int) - 1) ∧ ix = .int .i64 i ∧ Hid (Fr No w wr)) (fun ix _ => n + 2 - (intOf ix + 1).toNat)
  case atStart => exact ⟨0, -1, by omega, hide (by omega), rfl, HF0⟩
  case round =>
    obtain ⟨wo, rfl⟩ : ∃ wo : World, wo = wr := ⟨_, rfl⟩
    obtain ⟨k, i, hk, HI, rfl, HFo⟩ := hrel
    have hib : -1 ≤ i := by have := HI.out; omega
    have hib2 : i ≤ 1048580 := by have := HI.out; omega
    by_cases hlt : i ≤ (n : Int)
    · have d1 : decide (i ≤ (n : Int)) = true := decide_eq_true hlt
      obtain ⟨T, hT⟩ : ∃ T : ByteArray, sv (termAt l i) = .string T := ⟨_, rfl⟩
      obtain ⟨v, hv⟩ : ∃ v : Nat, valAt at_ i = v := ⟨_, rfl⟩
      have HTe2 := hide (fun W hW => HTe.out W hW i)
      have HQTe2 := hide (fun W hW => HQTe.out W hW i)
      have HAt2 := hide (fun W hW => HAt.out W hW i)
      have HQVa2 := hide (fun W hW => HQVa.out W hW i)
      rw [hT] at HTe2 HQTe2
      rw [hv] at HAt2 HQVa2
      have e1 : (T.toList != T.toList) = false := by simp
      have e1b : (T.toList == T.toList) = true := by simp
      have e2 : ((v : Int) != (v : Int)) = false := by simp
      clear hT hv
      go_wp2_with (fail)
      refine (HTe2.out _ HFo.out).mono ?_
      rintro en w1 ⟨rfl, hfr⟩
      have HF1 : Hid (Fr No w w1) := hide (HFo.out.tr hfr)
      clear hfr
      go_wp2_with (fail)
      refine (HQTe2.out _ HF1.out).mono ?_
      rintro en w2 ⟨rfl, rfl⟩
      go_wp2_with (fail)
      refine (HAt2.out _ HF1.out).mono ?_
      rintro en w3 ⟨rfl, hfr⟩
      have HF3 : Hid (Fr No w w3) := hide (HF1.out.tr hfr)
      clear hfr
      go_wp2_with (fail)
      refine (HQVa2.out _ HF3.out).mono ?_
      rintro en w4 ⟨rfl, rfl⟩
      go_wp2_with (fail)
      go_roundw
      case rel => exact ⟨k + 1, i + 1, by have := HI.out; omega, hide (by have := HI.out; omega), by go_num, HF3⟩
      case measure => simp [intOf]; have := HI.out; omega
    · have d1 : decide (i ≤ (n : Int)) = false := decide_eq_false hlt
      have e3 : (fx == fx) = true := by simp
      have e4 : (fb == fb) = true := by simp
      have e5 : ((x1 : Int) == (x1 : Int)) = true := by simp
      have e6 : ((x2 : Int) == (x2 : Int)) = true := by simp
      have e7 : ((x3 : Int) == (x3 : Int)) = true := by simp
      go_wp2_with (first
        | (go_at_call 30; refine (HFi.out _ HFo.out).mono ?_; rintro en w1 ⟨rfl, hfr⟩; have HF1 : Hid (Fr No w w1) := hide (HFo.out.tr hfr); clear hfr)
        | (go_at_call 60; refine (HQFi.out _ HF1.out).mono ?_; rintro en w2 ⟨rfl, rfl⟩)
        | (go_at_call 35; refine (HPr.out _ HF1.out).mono ?_; rintro en w3 ⟨rfl, hfr⟩; have HF3 : Hid (Fr No w w3) := hide (HF1.out.tr hfr); clear hfr)
        | (go_at_call 61; refine (HQPr.out _ HF3.out).mono ?_; rintro en w4 ⟨rfl, rfl⟩)
        | (go_at_call 31; refine (HRg.out _ HF3.out).mono ?_; rintro en w5 ⟨rfl, hfr⟩; have HF5 : Hid (Fr No w w5) := hide (HF3.out.tr hfr); clear hfr)
        | (go_at_call 62; refine (HQRg.out _ HF5.out).mono ?_; rintro en w6 ⟨rfl, rfl⟩)
        | fail)
      go_ret
      exact ⟨by simp, HF5.out⟩
end Go.Proofs.Ytcdhbdhhknlbaaa
