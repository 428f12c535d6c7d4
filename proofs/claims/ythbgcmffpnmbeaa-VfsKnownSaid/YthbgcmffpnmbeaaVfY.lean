/- A directory's names, in order. -/
import Derived.Test.YthbgcmffpnmbeaaVfX
import Derived.Shelf.SlIter.Nil
import Derived.Shelf.SortM.Plain
import Derived.Shelf.SortM.SortNone
import Derived.Ground.GgzProg
import Derived.Ground.SlgmProg
namespace Go.Proofs
open Go.RowKit Go.Maps Go.Sort Go.Shelf
shelf_lay_g SlLaysZ.n7 Ggz 7 at Try 42 as Try.mkeys
shelf_lay_g SlLaysZ.n6 Ggz 6 at Try 41 as Try.msorted
shelf_lay_g SlLaysM.n6 Slgm 6 at Try 72 as Try.msort
theorem Try.msorts (m : Nat) : AnyZ.SortsIn Try.prog Try.msorted_ren Fence.wide m :=
  ⟨fun blk off cap ss W hH hblk hsz => callsIn_wide.2 (AnyM.slices_Sort_string Try.msort blk off cap ss W hH hblk hsz),
   fun p cap W => callsIn_wide.2 (AnyM.slices_Sort_string_none Try.msort p cap W)⟩
end Go.Proofs
namespace Go.Proofs.Ythbgcmffpnmbeaa
set_option linter.unusedVariables false
set_option linter.unusedSimpArgs false
open Go.RowKit Go.Maps Go.Sort

theorem own_of_row {w : World} {base e size n : Nat} {v : Value} {xs : List Value} (h : w.ownsRow base e size v n xs) : Own w base e size v n xs := by
  obtain ⟨hl, h | ⟨g, cap, cur, rfl, hb, hg, h1, h2, h3, h4⟩⟩ := h
  · obtain ⟨rfl, rfl⟩ := h
    exact ⟨hl, none, 0, rfl, Nat.le_refl _, Nat.zero_le _, .inl ⟨rfl, rfl⟩⟩
  · exact ⟨hl, _, cap, rfl, h1, h2, .inr ⟨g, cur, rfl, hb, hg, by rw [h3]; exact Nat.le_refl _, h4⟩⟩
theorem mkeys_any (b : Nat) (W : World) : Calls Try.prog 42 #[.map (some b)] W
    (fun e w' => e = .returned (.func (.func 73) #[] #[.pointer (some ⟨W.heap.size, 0, none⟩)]) ∧ w' = W.alloc (.cells #[.map (some b)] 68)) :=
  (callsIn_wide (n := 5)).1 (AnyZ.keys_in Try.mkeys Fence.wide 5 trivial rfl (some b) W)
/-- Names in order, in memory of the call's own. -/
def GivesK (w : World) (m : Ents) (en : Ending) (w' : World) : Prop := ∃ A c ks, en = .returned (.slice A ks.length c) ∧ KeysL m ks ∧ (∀ k ∈ ks, k.length ≤ maxLen) ∧ Own w' w.heap.size 9 1 (.slice A ks.length c) ks.length (svs ks) ∧ Fr No w w'
theorem msorted_any (w : World) (b n : Nat) (m : Ents) (D : DataW Empty) (h : MapM w b n m D) (hn : n ≤ 1099511627776) :
    Calls Try.prog 41 #[.func (.func 73) #[] #[.pointer (some ⟨w.heap.size, 0, none⟩)]] (w.alloc (.cells #[.map (some b)] 68))
      (GivesK (w.alloc (.cells #[.map (some b)] 68)) m) := by
  have hbl := h.lt
  have hsl := h.own.size_le
  have hmax : Maps.size D ≤ maxLen := by unfold maxLen; omega
  have hbytes : Maps.size D * 16 ≤ 140737488355328 := by omega
  have hown := h.own
  have hseq : SeqGives Fence.wide 2 Try.prog 73 #[.pointer (some ⟨w.heap.size, 0, none⟩)] encStr (fun ss => ss.Perm (strKeys D)) (Maps.size D) (w.alloc (.cells #[.map (some b)] 68)) :=
    AnyZ.keys_gives (ρ := Try.mkeys_ren) { Try.mkeys with } Fence.wide _ trivial rfl (by omega) w.heap.size b n D _ (by simp) (by simp) (by
      obtain ⟨es, clock, hb, Ft, hs, hD⟩ := hown
      exact ⟨es, clock, (Below.heap_alloc _ _ b hbl).trans hb, Ft, hs, hD⟩)
  have cS := AnyZ.sorted_in Try.msorted Fence.wide 5 trivial trivial trivial trivial rfl (by omega) (Try.msorts _) (enters_of Try.func72 (by kernel_rfl) rfl) 73 #[.pointer (some ⟨w.heap.size, 0, none⟩)] trivial (enters_of Try.func73 (by kernel_rfl) rfl) _ _ hmax hbytes _ hseq
  change CallsIn _ _ Try.prog 41 _ _ _ at cS
  refine (callsIn_wide.1 cS).mono fun en w' ⟨v, ss, he, hp, hrow, hnil, hb⟩ => ?_
  subst he
  have hs : ss.mergeSort (fun x y => decide (x ≤ y)) = (strKeys D).mergeSort leB := mergeSort_of_perm hp
  have ho := own_of_row hrow
  have hlen : ss.length = ((strKeys D).mergeSort leB).length := by rw [List.length_mergeSort]; exact hp.length_eq
  rw [hs, hlen] at ho
  obtain ⟨A, c, rfl, _⟩ := ho.form
  refine ⟨A, c, (strKeys D).mergeSort leB, rfl, h.sorted, fun k hk => h.keys.2.2.2 k ((List.mergeSort_perm _ _).mem_iff.1 hk), ?_, Fr.of_below hb⟩
  exact ho
set_option maxRecDepth 100000 in
theorem clipS_any (A : Option Addr) (n c : Nat) (w : World) (hn : n ≤ c) (hc : c ≤ maxLen) :
    Calls Try.prog 40 #[.slice A n c] w (Ret (.slice A n n) w) := by
  unfold maxLen at hc
  go_enter Try.func40, Try.ntmps40
  go_wp2
  go_ret
  exact ⟨by simp, rfl⟩
/-- What List answers. -/
def GivesN (w : World) (S : Di) (en : Ending) (w' : World) : Prop := ∃ A c ks, en = .returned (.slice A ks.length c) ∧ (if S.off = true then ks = [] else KeysL S.now ks) ∧ (∀ k ∈ ks, k.length ≤ maxLen) ∧ Own w' w.heap.size 9 1 (.slice A ks.length c) ks.length (svs ks) ∧ Fr No w w'
set_option maxRecDepth 100000 in
set_option maxHeartbeats 1600000 in
theorem list_any (w : World) (Z : Nat → Prop) (d N : Nat) (S : Di) (p : Ph) (h : DirP w Z d S N p) (hN : N ≤ 1099511627776) :
    Calls Try.prog 11 #[.pointer (some ⟨d, 0, none⟩)] w (GivesN w S) := by
  have HO := hide (off_any h)
  unfold GivesN
  cases ho : S.off with
  | true =>
    rw [ho] at HO
    go_enter Try.func11, Try.ntmps11
    go_wp2_with (go_at_call 39; refine HO.out.mono ?_; rintro e w2 ⟨rfl, q, rfl⟩)
    go_ret
    exact ⟨none, 0, [], rfl, by simp, by simp, Own.nil _ _ _ _, (Fr.refl _ _).drewN _⟩
  | false =>
    rw [ho] at HO
    obtain ⟨n1, D1, a1, m1⟩ := h.now
    have HK := hide (fun W => mkeys_any p.nb W)
    have HS := hide (fun q => msorted_any (w.drewN q) p.nb n1 S.now D1 (m1.fr0 ((Fr.refl _ _).drewN q)) (by omega))
    have k0 : w.cell? ⟨d, 0, none⟩ = some (.map (some p.nb)) := h.cell rfl
    clear h m1
    go_enter Try.func11, Try.ntmps11
    go_wp2_with (first
      | (go_at_call 39; refine HO.out.mono ?_; rintro e w2 ⟨rfl, q, rfl⟩)
      | (go_at_call 42; refine (HK.out _).mono ?_; rintro e w2 ⟨rfl, rfl⟩)
      | (go_at_call 41; refine (HS.out q).mono ?_; rintro e w3 ⟨A, c, ks, rfl, hks, hkl, ho3, hf3⟩; have HO3 := hide ho3; have HF3 := hide hf3; have HKs := hide hks; have HKl := hide hkl; have hle := ho3.le.2.1; have hm := ho3.le.2.2; clear ho3 hf3 hks hkl)
      | (go_at_call 40; refine (clipS_any A _ c _ hle hm).mono ?_; rintro e w5 ⟨rfl, rfl⟩))
    go_ret
    have hfr : Fr No w w3 := (((Fr.refl No w).drewN q).alloc _).tr HF3.out
    exact ⟨A, _, ks, rfl, by simpa using HKs.out, HKl.out, HO3.out.clip.lower (by simp), hfr⟩
end Go.Proofs.Ythbgcmffpnmbeaa
