/- Several texts in one: StoCt0. -/
import Derived.Test.YtpnhnnhocekchaaK16
namespace Go.Proofs.Ytpnhnnhocekchaa
set_option linter.unusedVariables false
set_option linter.unusedSimpArgs false
open Go.RowKit

/-- what is read of bytes that begin with a form. -/
theorem build_read {ds : List (List EntV)} {bs : List UInt8} (hm : mayB ds) (hi : DocsI ds) (hp : buildB ds <+: bs) (hl : bs.length < 18446744073709551616) : ∃ a1 a2 a3 C ks cs, sizeS bs 0 0 16384 = (ds.length, a1, 0) ∧ sizeS bs a1 0 (ds.length : Nat) = (C, a2, 0) ∧
    hdrS bs bs.length ds.length C a2 = some (ks, a3, ds.length) ∧ bodS bs ks ks.length a3 = some (cs, (buildB ds).length) := by
  obtain ⟨gf, gn⟩ := groups_flat ds
  have hgl := flat_len_le gn
  rw [gf] at hgl
  have hN := hm.1
  obtain ⟨B, hB⟩ : ∃ B, B = buildB ds := ⟨_, rfl⟩
  rw [← hB] at hp ⊢
  have hb' := hB
  unfold buildB at hb'
  rw [if_pos hm, groups_cuts, List.length_map, ← headK_groups, ← bodyC_groups] at hb'
  generalize hcs : (groups ds).map kG = cs at *
  have hck : ∀ c ∈ cs, chunkOk c.1 c.2.length c.2 := by
    intro c hc
    rw [← hcs] at hc
    obtain ⟨g, hg, rfl⟩ := List.mem_map.1 hc
    have hsub : ∀ d ∈ g, d ∈ ds := fun d hd => by rw [← gf]; exact List.mem_flatten.2 ⟨g, hg, hd⟩
    exact chunk_has (fun d hd => hm.2 d (hsub d hd)) (fun d hd => hi d (hsub d hd))
  have hp : (enc ds.length ++ enc (groups ds).length ++ headK (cs.map kC) ++ bodyC cs) <+: bs.drop 0 := by rw [← hb']; simpa using hp
  rw [pre_app, pre_app, pre_app] at hp
  obtain ⟨⟨⟨p1, p2⟩, p3⟩, p4⟩ := hp
  have e1 := size_has (most := 16384) (by omega) (by omega) p1
  have e2 := size_has (most := (ds.length : Int)) (by omega) (by omega) p2
  have hkk : ∀ k ∈ cs.map kC, 0 < k.1 ∧ k.1 ≤ 16384 ∧ k.2 ≤ bs.length := by
    intro k hk
    obtain ⟨c, hc, rfl⟩ := List.mem_map.1 hk
    have hbl : (bodyC cs).length ≤ bs.length := by have := pre_le p4; omega
    have hcl := body_mem_le hc
    rw [← hcs] at hc
    obtain ⟨g, hg, rfl⟩ := List.mem_map.1 hc
    have h1 := flat_mem_le hg
    rw [gf] at h1
    have h2 : 0 < g.length := List.length_pos_iff.2 (gn g hg)
    exact ⟨h2, by show g.length ≤ 16384; omega, by show (kG g).1.length ≤ _; omega⟩
  have hsum : sumK (cs.map kC) = ds.length := by rw [← hcs, sumK_groups, gf]
  have hcl : (cs.map kC).length = (groups ds).length := by rw [List.length_map, ← hcs, List.length_map]
  rw [List.length_append] at p3
  have e3 := hdr_has (L := bs.length) (N := ds.length) hl hkk (by omega) (a := 0 + (enc ds.length).length + (enc (groups ds).length).length) (by rw [Nat.add_assoc]; exact p3) _ (Nat.le_refl _)
  rw [List.take_length, hsum, hcl] at e3
  have e4 := bod_has hck p4 cs.length (Nat.le_refl _)
  rw [List.take_length] at e4
  refine ⟨_, _, _, _, _, cs, e1, e2, e3, ?_⟩
  rw [List.length_map]
  refine Eq.trans ?_ (e4.trans ?_)
  · congr 1
    simp only [List.length_append, Nat.add_assoc, Nat.zero_add]
  · congr 2
    rw [hb']
    simp only [List.length_append, Nat.add_assoc, Nat.zero_add]
/-- two forms that one row begins with are of one length. -/
theorem build_one {d1 d2 : List (List EntV)} {bs : List UInt8} (m1 : mayB d1) (i1 : DocsI d1) (p1 : buildB d1 <+: bs) (m2 : mayB d2) (i2 : DocsI d2) (p2 : buildB d2 <+: bs) (hl : bs.length < 18446744073709551616) : (buildB d1).length = (buildB d2).length := by
  obtain ⟨a1, a2, a3, C, ks, cs, h1, h2, h3, h4⟩ := build_read m1 i1 p1 hl
  obtain ⟨b1, b2, b3, D, ls, es, g1, g2, g3, g4⟩ := build_read m2 i2 p2 hl
  rw [h1] at g1
  injection g1 with x1 x2
  injection x2 with x2 _
  subst x2
  rw [← x1] at g2 g3
  rw [h2] at g2
  injection g2 with y1 y2
  injection y2 with y2 _
  subst y1 y2
  rw [h3] at g3
  injection g3 with z
  injection z with z1 z2
  injection z2 with z2 _
  subst z1 z2
  rw [h4] at g4
  injection g4 with u
  injection u
theorem cut_bad {ds : List (List EntV)} {k : Nat} (hm : mayB ds) (hi : DocsI ds) (hk : k < (buildB ds).length) (ks : List (Nat × Nat)) (cs : List ChV) : ¬ OpenOk ((buildB ds).take k) ks cs := by
  intro h
  obtain ⟨m2, i2⟩ := h.may
  have hl : (buildB ds).length < 18446744073709551616 := by have := buildB_le ds; omega
  have := build_one hm hi (List.prefix_refl _) m2 i2 (by rw [h.form]; exact List.take_prefix _ _) hl
  rw [h.form, List.length_take] at this
  omega
theorem more_bad {ds : List (List EntV)} {x : UInt8} (hm : mayB ds) (hi : DocsI ds) (ks : List (Nat × Nat)) (cs : List ChV) : ¬ OpenOk (buildB ds ++ [x]) ks cs := by
  intro h
  obtain ⟨m2, i2⟩ := h.may
  have hl : (buildB ds ++ [x]).length < 18446744073709551616 := by have := buildB_le ds; simp; omega
  have := build_one hm hi (List.prefix_append _ _) m2 i2 (by rw [h.form]; exact List.prefix_refl _) hl
  rw [h.form, List.length_append] at this
  simp at this
theorem buildB_pos {ds : List (List EntV)} (h : mayB ds) : 1 ≤ (buildB ds).length := by
  unfold buildB
  rw [if_pos h]
  have := (enc_len ds.length).1
  simp only [List.length_append]
  omega
end Go.Proofs.Ytpnhnnhocekchaa
