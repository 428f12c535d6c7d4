/- For the chapter's examples on terms: bytes that are no form; bad, between. -/
import Derived.Test.YtcdhbdhhknlbaaaK9
namespace Go.Proofs.Ytcdhbdhhknlbaaa
set_option linter.unusedVariables false
set_option linter.unusedSimpArgs false
open Go.RowKit

def NoForm (bs : List UInt8) : Prop := ∀ l at_, ¬ Form9 bs l at_
theorem form9_a : Form9 [1, 1, 97, 1] [[97]] [1] := ⟨⟨by decide, by decide, by decide, trivial⟩, by (intro v hv; rw [List.mem_singleton.1 hv]; decide), by decide⟩
theorem form9_0 : Form9 [0] [] [] := ⟨⟨by decide, rfl, (fun t ht => nomatch ht), trivial⟩, (fun t ht => nomatch ht), by decide⟩
theorem nf_1 : NoForm [1, 1, 97] := form9_less form9_a
theorem nf_00 : NoForm [0, 0] := form9_more form9_0 0
theorem nf_nil : NoForm [] := fun l at_ h => by
  have h1 := congrArg List.length h.2.2
  rw [dictB, List.length_append, List.length_nil] at h1
  have := (enc_len l.length).1
  omega
theorem nf_ba : NoForm [2, 1, 98, 0, 1, 97, 1, 1] :=
  (OpA.start (bs := [2, 1, 98, 0, 1, 97, 1, 1]) (n := 2) (a := 1) (by decide)).bad (by omega) (.inl (by decide +kernel))
theorem nf_aab : NoForm [2, 1, 97, 0, 2, 97, 98, 1, 1] :=
  (OpA.start (bs := [2, 1, 97, 0, 2, 97, 98, 1, 1]) (n := 2) (a := 1) (by decide)).bad (by omega) (.inl (by decide +kernel))

set_option maxRecDepth 100000 in
set_option maxHeartbeats 400000 in
theorem bad_any (A : Option Addr) (n c B : Nat) (bs : List UInt8) (w : World) (hl : bs.length = n) (hn : n ≤ c) (hc : c ≤ maxLen) (hb : n ≤ 1000) (hB : B ≤ w.heap.size) (hr : Rd w B A (by8 bs)) (hno : NoForm bs) :
    Calls Try.prog 34 #[.slice A n c] w (RetB true w) := by
  have HO := hide (topen_any A n c B bs w hl hn hc (by omega) hB hr)
  have HNo := hide hno
  clear hl hr hno
  go_enter Try.func34, Try.ntmps34
  go_wp2_with (fail)
  refine HO.out.mono ?_
  rintro en w2 ⟨hfr, (⟨_, L, AT, hf, _, _⟩ | ⟨_, rfl⟩)⟩
  · exact absurd hf (HNo.out L AT)
  have HF := hide hfr
  clear hfr
  go_wp2_with (fail)
  go_ret
  exact ⟨rfl, HF.out⟩

set_option maxRecDepth 100000 in
set_option maxHeartbeats 400000 in
theorem between_any (r s : Tx) (f t : Int) (w : World) (h1 : (((lowT litL r : Nat) : Int) == f) = true) (h2 : (((max (lowT litL r) (topT litL s) : Nat) : Int) == t) = true) :
    Calls Try.prog 33 #[.string ⟨r.toArray⟩, .string ⟨s.toArray⟩, .int .i64 f, .int .i64 t] w (RetB true w) := by
  have HP := hide (fun W G (hD : DictP W w.heap.size (some ⟨G, 0, none⟩) litL litV) => prange_any w.heap.size _ litL litV r s W hD)
  generalize max (lowT litL r) (topT litL s) = y at HP h2
  generalize lowT litL r = x at HP h1
  generalize (⟨r.toArray⟩ : ByteArray) = R at HP ⊢
  generalize (⟨s.toArray⟩ : ByteArray) = S at HP ⊢
  go_enter Try.func33, Try.ntmps33
  go_wp2_with (fail)
  refine (given_any w).mono ?_
  rintro en w1 ⟨G, rfl, hD, hfr⟩
  have HPG := hide (HP.out w1 G hD)
  have HF := hide hfr
  clear hD hfr
  go_wp2_with (fail)
  refine HPG.out.mono ?_
  rintro en w2 ⟨rfl, hfr⟩
  have HF2 := hide (HF.out.tr hfr)
  clear hfr
  go_wp2_with (fail)
  go_ret
  exact ⟨rfl, HF2.out⟩
end Go.Proofs.Ytcdhbdhhknlbaaa
