/- frame.Seal: the sealed bytes, or that they are too long. Condition: each section has at most 2^47 bytes. -/
import Derived.Test.YtapfbjaopbcgjaaConcat
import Derived.Test.YtapfbjaopbcgjaaFour
import Derived.Test.YtapfbjaopbcgjaaPutU
namespace Go.Proofs.Ytapfbjaopbcgjaa
set_option linter.unusedVariables false
set_option linter.unusedSimpArgs false
open Go.RowKit

theorem magic_rd (w : World) (x : Obj) (e : TypeId) : Rd ((w.alloc (.cells #[.int .u8 76, .int .u8 84, .int .u8 1] e (3, 4))).alloc x) (w.heap.size + 1) (some ⟨w.heap.size, 0, none⟩) (by8 [76, 84, 1]) :=
  Rd.block (cs := #[.int .u8 76, .int .u8 84, .int .u8 1]) ((Below.heap_alloc (w.alloc (.cells #[.int .u8 76, .int .u8 84, .int .u8 1] e (3, 4))) x w.heap.size (by simp)).trans (heap_alloc_new w _))
theorem magic_src (w : World) (o : Obj) (v : Value) (h1 : v.oneCell' = true) : Src Try.prog 1 23 (.slice (some ⟨w.heap.size + 1, 0, none⟩) 1 1) 1 [v] ((w.alloc o).alloc (.cells #[v] 5)) := by
  have h := Src.one (P := Try.prog) (w.alloc o) (e := 5) Try.underlying23 v h1
  simpa using h

def GivesSeal (kind : UInt8) (bss : List (List UInt8)) (w : World) (en : Ending) (w' : World) : Prop :=
  (longB kind bss = true ∧ en = .returned (.tuple #[.slice none 0 0, .int .i64 3]) ∧ Fr No w w') ∨
  (longB kind bss = false ∧ ∃ v, en = .returned (.tuple #[v, .int .i64 0]) ∧ Own w' w.heap.size 5 1 v (sealB kind bss).length (by8 (sealB kind bss)) ∧ Fr No w w')

set_option maxRecDepth 100000 in
set_option maxHeartbeats 1600000 in
theorem seal_any (kind : UInt8) (A : Option Addr) (n c B : Nat) (bss : List (List UInt8)) (w : World) (hl : bss.length = n) (hn : n ≤ c) (hc : c ≤ maxLen) (hB : B ≤ w.heap.size) (hr : BSl w B A bss) (hbs : ∀ b ∈ bss, b.length ≤ 140737488355328) :
    Calls Try.prog 10 #[.int .u8 (kind.toNat : Nat), .slice A n c] w (GivesSeal kind bss w) := by
  unfold maxLen at hc
  have HR := hide hr
  have HL := hide hl
  have HBS := hide hbs
  clear hr hl hbs
  by_cases hmany : 1024 < n
  · have HX := hide (show longB kind bss = true from decide_eq_true (.inl (by rw [HL.out]; exact hmany)))
    go_enter Try.func10, Try.ntmps10
    go_wp2
    go_ret2
    exact .inl ⟨HX.out, rfl, Fr.refl _ _⟩
  · obtain ⟨i0, hi, hz, hsz, hby⟩ := info_parts Try.info5
    have kc := fun (w : World) (C : Array Value) (n c : Nat) => Lib.run_convert_bytes_const (P := Try.prog) w 23 5 C n c Try.underlying23 Try.underlying5
    go_enter Try.func10, Try.ntmps10
    go_wp2_with (first
      | (at_builtin; refine wpList_append_full _ rfl (.tmp 14) (.tmp 16) 23 23 rfl w.heap.size 5 i0 (.int .u8 0) 1 1 Try.underlying23 hi hz hsz hby rfl _ 3 3 _ (by8 [76, 84, 1]) rfl rfl (by omega) (magic_rd w _ _) _ 1 [.int .u8 (kind.toNat : Nat)] rfl (magic_src w _ _ rfl) (by omega) (by omega) (by unfold maxLen; omega) (by simp; omega) ?_; intro v1 w1 hown hfr; have O1 := hide hown; have F1 : Hid (Fr No w w1) := hide ((((Fr.refl No w).alloc _).alloc _).tr hfr); clear hown hfr; obtain ⟨A1, c1, rfl, hq1, hq2, _, hq3, _⟩ := O1.out.form; have HQ := hide hq3; have HQ2 := hide hq2; clear hq3 hq2; have hq1' : 4 ≤ c1 := hq1)
      | (go_at_call 24; refine (putU_any A1 4 c1 _ [76, 84, 1, kind] n w1 rfl hq1' HQ2.out (by omega) (Nat.le_refl _) HQ.out (by omega)).mono ?_; rintro en w2 ⟨v2, rfl, hown, hfr⟩; have O2 := hide (hown.lower F1.out.size); have F2 := hide (F1.out.tr hfr); clear hown hfr))
    have hn1024 : n ≤ 1024 := by omega
    obtain ⟨hd, HHd⟩ : ∃ hd, Hid (hd = [76, 84, 1, kind] ++ enc n) := ⟨_, hide rfl⟩
    rw [← HHd.out] at O2
    have hhd : hd.length ≤ 14 := by
      have := (enc_len n).2
      rw [HHd.out, List.length_append]
      simp
      omega
    have HLe := hide (flat_le bss)
    clear hmany O1 HQ HQ2 F1
    go_loopw [6, 7, 24] (fun v s i wr => ∃ (k T : Nat) (dn : List UInt8), k ≤ n ∧ i = .int .i64 k ∧ s = .int .i64 (T : Nat) ∧ T ≤ 16777216 ∧ Hid (T = 4 + (bss.take k).flatten.length) ∧ Hid (dn = hd ++ lensB (bss.take k)) ∧ Hid (Own wr w.heap.size 5 1 v dn.length (by8 dn)) ∧ Hid (Fr No w wr)) (fun _ _ i _ => n - (intOf i).toNat)
    case atStart => exact ⟨0, 4, hd, by omega, rfl, rfl, by omega, hide rfl, hide (by simp [lensB]), O2, F2⟩
    case round =>
      clear O2 F2
      obtain ⟨k, T, dn, hk, rfl, rfl, hT, HT, HD, OW, FW⟩ := hrel
      have hdn : dn.length ≤ 10254 := by
        have := lens_take_len bss k (by omega)
        rw [HD.out, List.length_append]
        omega
      obtain ⟨Av, cv, rfl, hv1, hv2, _, hvr, _⟩ := OW.out.form
      have QV := hide hvr
      have HV2 := hide hv2
      clear hvr hv2
      by_cases hlt : k < n
      · obtain ⟨bs, hx⟩ : ∃ bs, bss[k]? = some bs := ⟨_, List.getElem?_eq_getElem (by rw [HL.out]; exact hlt)⟩
        obtain ⟨ad, Aj, cj, rfl, _, hcell, hj1, hj2, _⟩ := (HR.out.fr0 FW.out) k bs hx
        have HN := hide (flat_succ hx)
        have HM := hide (lens_succ hx)
        have hbl := HBS.out bs (List.mem_of_getElem? hx)
        obtain ⟨m, hm⟩ : ∃ m, m = bs.length := ⟨_, rfl⟩
        rw [← hm] at hcell hj1 HM hbl
        have HTn := hide (show T + m = 4 + (bss.take (k + 1)).flatten.length by rw [HN.out, List.length_append, HT.out, ← hm]; omega)
        clear hx hm
        have HP := hide (putU_any Av _ cv _ dn m wr rfl hv1 HV2.out (by omega) (Nat.le_refl _) QV.out (by omega))
        obtain ⟨nx, HNX⟩ : ∃ nx, Hid (nx = dn ++ enc m) := ⟨_, hide rfl⟩
        rw [← HNX.out] at HP
        have HNE := hide (show nx = hd ++ lensB (bss.take (k + 1)) by rw [HNX.out, HD.out, HM.out, List.append_assoc])
        have hW := FW.out.size
        unfold maxLen at hj2
        by_cases hbig : 16777216 < T + m
        · have HX := hide (show longB kind bss = true from decide_eq_true (.inr (by
            have h1 := HTn.out
            have h2 := HLe.out (k + 1)
            omega)))
          go_wp2_with (go_at_call 24; refine HP.out.mono ?_; rintro en w2 ⟨v2, rfl, hown, hfr⟩; have O2 := hide (hown.lower hW); have F2 := hide (FW.out.tr hfr); clear hown hfr)
          go_ret2
          exact .inl ⟨HX.out, rfl, F2.out⟩
        · have hle : T + m ≤ 16777216 := by omega
          go_wp2_with (go_at_call 24; refine HP.out.mono ?_; rintro en w2 ⟨v2, rfl, hown, hfr⟩; have O2 := hide (hown.lower hW); have F2 := hide (FW.out.tr hfr); clear hown hfr)
          go_roundw
          case rel => exact ⟨k + 1, T + m, nx, by omega, by go_num, by go_num, hle, HTn, HNE, O2, F2⟩
          case measure => simp [intOf]; omega
      · obtain rfl : n = k := by omega
        have hall : bss.take n = bss := List.take_of_length_le (Nat.le_of_eq HL.out)
        rw [hall] at HT HD
        have HE := hide (show dn = headB kind bss by
          rw [HD.out, HHd.out]
          unfold headB
          rw [HL.out])
        clear hlt hk hall
        by_cases hbig : 16777216 < dn.length + T
        · have HX := hide (show longB kind bss = true from decide_eq_true (.inr (by rw [← HE.out]; have := HT.out; omega)))
          generalize dn.length = d at *
          go_wp2
          go_ret2
          exact .inl ⟨HX.out, rfl, FW.out⟩
        · have HX := hide (show longB kind bss = false from decide_eq_false (by rw [← HE.out, HL.out]; have := HT.out; omega))
          obtain ⟨bd, HB⟩ : ∃ bd, Hid (bd = dn ++ bss.flatten) := ⟨_, hide rfl⟩
          have HBD := hide (show bd = bodyB kind bss by rw [HB.out, HE.out]; rfl)
          obtain ⟨t, ht⟩ : ∃ t, t = bss.flatten.length := ⟨_, rfl⟩
          have hTt : T = 4 + t := by rw [ht]; exact HT.out
          subst hTt
          have HCo := hide (fun (W : World) (h1 : BSl W W.heap.size A bss) => concat_any A n c W.heap.size bss W HL.out hn (by unfold maxLen; omega) (Nat.le_refl _) h1 (by rw [← ht]; omega))
          obtain ⟨d, hd'⟩ : ∃ d, d = dn.length := ⟨_, rfl⟩
          have HBl := hide (show bd.length = d + t by rw [HB.out, List.length_append, ← hd', ← ht])
          have HB8 := hide (show by8 dn ++ by8 bss.flatten = by8 bd by rw [HB.out, by8_append])
          have HS1 := hide (fun (W : World) (A3 : Option Addr) (c3 : Nat) (h : Rd W W.heap.size A3 (by8 bss.flatten)) => Src.ofRd (P := Try.prog) (size := 1) W Try.underlying23 A3 t c3 (by8 bss.flatten) (by rw [by8_length, ← ht]; omega) (by omega) h (by8_one _))
          have HG := hide (fun (W W' : World) (en : Ending) (h : GivesB W bss.flatten en W') => give_slice ht.symm h)
          rw [← hd'] at OW hbig hv1 hdn ⊢
          clear hd' ht
          have b1 : (d + t) * 1 ≤ 140737488355328 := by omega
          have b2 : d + t ≤ maxLen := by unfold maxLen; omega
          have b4 : (d + t + 4) * 1 ≤ 140737488355328 := by omega
          have b5 : d + t + 4 ≤ maxLen := by unfold maxLen; omega
          have HCB := hide (show [bd].flatten = bd by simp)
          have HW := FW.out.size
          have hcr := crcOf_lt bd
          obtain ⟨cr, HCR⟩ : ∃ cr, Hid (cr = crcOf bd) := ⟨_, hide rfl⟩
          rw [← HCR.out] at hcr
          have hv2 := HV2.out
          unfold maxLen at hv2
          go_wp2_with (first
            | (go_at_call 25; refine (HCo.out _ ((HR.out.fr0 FW.out).more (by omega))).mono ?_; intro en w3 hg3; obtain ⟨A3, c3, rfl, hq1, hq2, hq3, hfr⟩ := HG.out _ _ _ hg3; have HS3 := hide (HS1.out _ A3 c3 hq3); have O3 := hide (OW.out.fr0 hfr); have F3 := hide (FW.out.tr hfr); have hw3 := F3.out.size; clear hg3 hq3 hfr)
            | (at_builtin; refine wpList_append_gen _ rfl (.tmp 45) (.tmp 47) 23 23 rfl w.heap.size 5 i0 (.int .u8 0) 1 1 Try.underlying23 hi hz hsz hby rfl _ d (by8 dn) rfl O3.out _ t (by8 bss.flatten) rfl HS3.out b1 b2 hw3 ?_; intro v4 w4 hown hfr hat; obtain ⟨A4, c4, rfl, hy1, hy2, _, hy3, _⟩ := hown.form; have O4 := hide hown; have F4 : Hid (Fr No w w4) := hide (F3.out.own hfr (fun g hg => .inl (O3.out.lt g hg).1)); have Q4 := hide hy3; have Y2 := hide hy2; clear hown hfr hat hy3 hy2)
            | (go_at_call 13; refine (sum_any _ 1 1 (w4.heap.size + 1) [bd] _ rfl (Nat.le_refl _) (by unfold maxLen; omega) (by simp) (BSl.single HBl.out hy1 Y2.out (by rw [← HB8.out]; exact Q4.out) (Nat.le_refl _))).mono ?_; rintro en w6 ⟨rfl, hfr⟩; have f6 : Hid (Fr No w4 w6) := hide (((Fr.refl No w4).alloc _).tr hfr); have O6 := hide (O4.out.fr0 f6.out); have F6 := hide (F4.out.tr f6.out); rw [HCB.out, ← HCR.out]; clear hfr)
            | (go_at_call 27; refine (four_any cr _ hcr).mono ?_; intro en w7 hg7; obtain ⟨A7, c7, rfl, hx1, hx2, hx3, hfr⟩ := give_slice (k := 4) rfl hg7; have HS7 := hide (Src.ofRd (P := Try.prog) (size := 1) w7 Try.underlying23 A7 4 c7 (by8 (fourB cr)) rfl (by omega) hx3 (by8_one _)); have O7 := hide (O6.out.fr0 hfr); have F7 := hide (F6.out.tr hfr); have hw7 := F7.out.size; clear hg7 hx3 hfr)
            | (at_builtin; refine wpList_append_gen _ rfl (.tmp 49) (.tmp 53) 23 23 rfl w.heap.size 5 i0 (.int .u8 0) 1 1 Try.underlying23 hi hz hsz hby rfl _ (d + t) _ rfl O7.out _ 4 (by8 (fourB cr)) rfl HS7.out b4 b5 hw7 ?_; intro v8 w8 hown hfr hat; obtain ⟨A8, c8, rfl, hz1, hz2, _⟩ := hown.form; have O8 := hide hown; have F8 : Hid (Fr No w w8) := hide (F7.out.own hfr (fun g hg => .inl (O7.out.lt g hg).1)); clear hown hfr hat)
            | (go_at_call 26; refine (clip_any _ _ _ _ hz1 hz2).mono ?_; rintro en w9 ⟨rfl, rfl⟩))
          go_ret2
          refine .inr ⟨HX.out, _, rfl, ?_, F8.out⟩
          have e : sealB kind bss = bd ++ fourB cr := by
            unfold sealB
            rw [← HBD.out, HCR.out]
          have h8 := O8.out.clip
          rw [HB8.out] at h8
          rw [e, by8_append, List.length_append, HBl.out]
          exact h8
end Go.Proofs.Ytapfbjaopbcgjaa
