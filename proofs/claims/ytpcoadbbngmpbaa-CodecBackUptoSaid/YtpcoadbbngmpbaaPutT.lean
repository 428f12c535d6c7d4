/- PutText. -/
import Derived.Test.YtpcoadbbngmpbaaPutU
namespace Go.Proofs.Ytpcoadbbngmpbaa
set_option linter.unusedVariables false
set_option linter.unusedSimpArgs false
open Go.RowKit

set_option maxRecDepth 100000 in
set_option maxHeartbeats 800000 in
theorem putText_any (A : Option Addr) (n c B : Nat) (bs : List UInt8) (s : ByteArray) (w : World) (hl : bs.length = n) (hn : n ≤ c) (hc : c ≤ maxLen) (hb : n + s.size ≤ 140737488350000) (hB : B ≤ w.heap.size) (hr : Rd w B A (by8 bs)) :
    Calls Try.prog 18 #[.slice A n c, .string s] w (GivesB w (bs ++ enc s.size ++ s.data.toList)) := by
  have H := hide (putU_any A n c B bs s.size w hl hn hc (by omega) hB hr (by omega))
  obtain ⟨i0, hi, hz, hsz, hby⟩ := info_parts Try.info5
  have hlen : (bs ++ enc s.size).length ≤ n + 10 := by
    have := (encF_len 9 s.size).2
    rw [List.length_append, hl]
    unfold enc
    omega
  generalize bs ++ enc s.size = xs at H hlen
  have hs : s.size ≤ 9223372036854775807 := by omega
  clear hr hl hn hc
  generalize hm : s.size = m at *
  have HS := fun W => Src.ofString (P := Try.prog) (w := W) Try.underlying9 s
  rw [hm, byteCells_by8] at HS
  have HS' := hide HS
  have hsl : s.data.toList.length = m := by rw [← hm, Array.length_toList]; rfl
  generalize s.data.toList = t at HS' hsl
  have b1 : (xs.length + m) * 1 ≤ 140737488355328 := by omega
  have b2 : xs.length + m ≤ maxLen := by unfold maxLen; omega
  clear HS
  go_enter Try.func18, Try.ntmps18
  go_wp2_with (first | (go_at_call 15; refine H.out.mono ?_; rintro en w1 ⟨v1, rfl, hown, hfr⟩; have HO := hide hown; have HF := hide hfr; have b3 := hfr.size; clear hown hfr) | (at_builtin; refine wpList_append_gen _ rfl (.tmp 9) (.tmp 10) 22 9 rfl w.heap.size 5 i0 (.int .u8 0) 1 1 Try.underlying22 hi hz hsz hby rfl v1 xs.length (by8 xs) rfl HO.out _ m (by8 t) rfl (HS'.out w1) b1 b2 b3 ?_; intro v' w' hown hfr hat; obtain ⟨A1, c1, rfl, hc1, hc2, _⟩ := hown.form; have HOn := hide hown; have HFn := hide hfr; clear hown hfr hat) | (go_at_call 42; refine (clip_any _ _ _ _ hc1 hc2).mono ?_; rintro en w2 ⟨rfl, rfl⟩))
  go_ret
  refine ⟨_, rfl, ?_, HF.out.own HFn.out (fun g hg => .inl (HO.out.lt g hg).1)⟩
  rw [by8_append, List.length_append, hsl]
  exact HOn.out.clip

end Go.Proofs.Ytpcoadbbngmpbaa
