/- one call of both readers: Bytes; readers that are none. -/
import Derived.Test.YtpcoadbbngmpbaaOne
namespace Go.Proofs.Ytpcoadbbngmpbaa
open Go.RowKit

theorem drop_set_gt (zs : List Value) (k : Nat) (v : Value) : (zs.set k v).drop (k + 1) = zs.drop (k + 1) := by
  rw [List.drop_set_of_lt (by omega)]
theorem at_drop {zs : List Value} {bs : List UInt8} {k : Nat} (h : zs.drop k = (by8 bs).drop k) (hk : k < bs.length) : zs[k]? = some (.int .u8 ((bs.getD k 0).toNat : Nat)) := by
  have h1 : (zs.drop k)[0]? = ((by8 bs).drop k)[0]? := by rw [h]
  rw [List.getElem?_drop, List.getElem?_drop, Nat.add_zero, by8_get bs k hk] at h1
  exact h1

set_option maxRecDepth 100000 in
set_option maxHeartbeats 1600000 in
theorem one4 (w : World) (B g h : Nat) (bs : List UInt8) (a : Nat) (e : Int) (n : Int) (p : Pair w B g h bs a e) :
    Calls Try.prog 26 #[.pointer (some ⟨g, 0, none⟩), .pointer (some ⟨h, 0, none⟩), .agg #[.int .i64 4, .int .i64 n]] w (OneRet w B g h bs e) := by
  obtain ⟨W, HW⟩ : ∃ W : TypeId → World, Hid (∀ t, w.alloc (.cells #[.int .i64 4, .int .i64 n] t) = W t) := ⟨_, fun _ => rfl⟩
  have P0 : Hid (∀ t, Pair (w.alloc (.cells #[.int .i64 4, .int .i64 n] t)) B g h bs a e) := fun t => p.fr0 ((Fr.refl _ _).alloc _)
  have HO := hide (bytesS_off bs a e n)
  have HU := hide (fun W => bytes_anyC g bs a e n W)
  have HV := hide (fun W => refB_any B h bs a e n W)
  have hgl := p.rd.lt
  have hhl := p.rs.lt
  have hne := p.ne
  have HBh : Hid (B ≤ h) := by obtain ⟨_, _, _, _, _, _, _, _, q⟩ := p.rs; exact q
  clear p HW W
  generalize bytesS bs a e n = x at HO HU HV
  obtain ⟨t, at', er⟩ := x
  simp only at HO HU HV
  go_enter Try.func26, Try.ntmps26
  go_wp2_with (first
    | (go_at_call 32; refine (HU.out _ (P0.out _).rd).mono ?_; rintro en w1 ⟨⟨v1, rfl, hown, hrd, hfr⟩, h0⟩; obtain ⟨A1, c1, rfl, hq1, hq2, _, _, _⟩ := hown.form; have O1 := hide hown; have R1 := hide hrd; have F1 := hide hfr; have S1 := hide h0; clear hown hrd hfr h0; have hbx := box_kept F1.out hgl)
    | (go_at_call 49; refine (HV.out _ ((P0.out _).first F1.out)).mono ?_; rintro en w2 ⟨v2, rfl, hown, hrs, hfr⟩; obtain ⟨A2, c2, rfl, hr1, hr2, _, hr3, _⟩ := hown.form; have Q2 := hide hr3; have S2 := hide hrs; have F2 := hide hfr; have O2 : Hid (Own w2 _ 5 1 (.slice A1 t.length c1) t.length (by8 t)) := hide (O1.out.fr hfr (fun q hq e => by
          obtain ⟨_, _, hh, _⟩ := (P0.out _).first F1.out
          obtain rfl : q = h := e
          exact O1.out.ne_blk hq hh (by decide))); clear hown hrs hfr hr3)
    | (go_at_call 14; refine (kbytes_any A1 A2 t.length c1 t.length c2 _ _ t t w2 rfl rfl hq1 hq2 hr1 hr2 O2.out.rd Q2.out).mono ?_; rw [decide_eq_true rfl]; rintro en w3 ⟨rfl, nq, rfl⟩))
  unfold maxLen at hq2 hr2
  go_loopw [9] (fun i wr => ∃ (k : Nat) (zs : List Value), k ≤ t.length ∧ i = .int .i64 k ∧ Hid (Own wr (w.heap.size + 1) 5 1 (.slice A1 t.length c1) t.length zs) ∧ Hid (zs.drop k = (by8 t).drop k) ∧ Hid (Fr (fun q => (Value.slice A1 t.length c1).ownBlock = some q) w2 wr)) (fun i _ => t.length - (intOf i).toNat)
  case atStart => exact ⟨0, by8 t, by omega, rfl, hide ((O2.out.lower (by simp)).fr0 ((Fr.refl No w2).drewN nq)), hide rfl, hide ((Fr.refl _ _).drewN nq)⟩
  case round =>
    obtain ⟨k, zs, hk, rfl, OW, HD, FW⟩ := hrel
    by_cases hlt : k < t.length
    · obtain ⟨q, rfl, hqb, hql, hcell, hfz, hset⟩ := OW.out.set hlt
      rw [at_drop HD.out hlt] at hcell
      have HSET := hide hset
      have HD' := hide (fun v => (drop_set_gt zs k v).trans (by rw [← List.drop_drop, HD.out, List.drop_drop]))
      clear hset
      generalize t.getD k 0 = b at hcell
      go_wp2
      go_roundw
      case rel => exact ⟨k + 1, _, by omega, by go_num, hide (HSET.out _), hide (HD'.out _), hide (FW.out.setCell (p := ⟨q, k, none⟩) (fun _ => rfl) _)⟩
      case measure => simp [intOf]; omega
    · go_wp2
      go_ret
      have hM : ∀ q, (Value.slice A1 t.length c1).ownBlock = some q → w.heap.size + 1 ≤ q := fun q hq => (OW.out.lt q hq).1
      have hP := P0.out 55
      have q := hP.next R1.out F1.out S2.out F2.out
      have hat := ((At0.of hP.rd).same S1.out)
      have hat2 : At0 w2 g _ := hat.same (by
        obtain ⟨_, _, ⟨z, _⟩, _⟩ := R1.out.parts
        exact (F2.out.cell (p := ⟨g, 0, none⟩) z hne).trans z.symm)
      refine ⟨rfl, at', er, ⟨⟨q.1.rd.above hat2 (by simp; omega) FW.out ?_, q.1.rs.fr FW.out ?_ ?_, q.1.hg⟩, ?_⟩, HO.out⟩
      · intro k hk hq
        have := hM k hq
        simp at hk
        omega
      · intro hq
        have := hM h hq
        omega
      · intro k hk hq
        have := hM k hq
        have := HBh.out
        omega
      · refine (((Fr.refl (Two g h) w).alloc _).ts q.2).trans FW.out ?_
        intro i hi hq
        have := hM i hq
        omega
end Go.Proofs.Ytpcoadbbngmpbaa
