/- Directories of the call's own; the chapter's first calls. -/
import Derived.Test.YthbgcmffpnmbeaaVfFp
import Derived.Test.YthbgcmffpnmbeaaVfSu
namespace Go.Proofs.Ythbgcmffpnmbeaa
set_option linter.unusedVariables false
set_option linter.unusedSimpArgs false
open Go.RowKit Go.Maps

/-- a directory that was laid since w0. -/
def Fsh (w0 w : World) (d : Nat) (S : Di) (N : Nat) : Prop := ∃ Z, DirM w Z d S N ∧ (∀ k, Z k → w0.heap.size ≤ k) ∧ Fr No w0 w
section
variable {w0 w w' : World} {Z : Nat → Prop} {d N N' : Nat} {S : Di}
theorem Fsh.step (hZ : ∀ k, Z k → w0.heap.size ≤ k) (hf : Fr No w0 w) (h : Step w w' Z d S N) : Fsh w0 w' d S N := by
  obtain ⟨Z', hd, f, z1, z2⟩ := h
  exact ⟨Z', hd, fun k hk => (z2 k hk).elim (hZ k) (fun h => Nat.le_trans hf.size h), hf.trans f (fun i hi hz => by have := hZ i hz; omega)⟩
theorem Fsh.fr0 (h : Fsh w0 w d S N) (f : Fr No w w') : Fsh w0 w' d S N := by
  obtain ⟨Z, hd, hz, hf⟩ := h
  exact ⟨Z, hd.fr0 f, hz, hf.tr f⟩
theorem Fsh.frame (h : Fsh w0 w d S N) : Fr No w0 w := by obtain ⟨Z, hd, hz, hf⟩ := h; exact hf
theorem Fsh.mono (h : Fsh w0 w d S N) (hN : N ≤ N') : Fsh w0 w d S N' := by
  obtain ⟨Z, ⟨p, hd⟩, hz, hf⟩ := h
  exact ⟨Z, ⟨p, hd.mono hN⟩, hz, hf⟩
theorem Fsh.of_new (hf : Fr No w w') (h : DirM w' (Nw w w') d S N) : Fsh w w' d S N := ⟨_, h, fun k hk => hk.1, hf⟩
theorem fcreate {t : Tx} (h : Fsh w0 w d S N) (hN : N < 1099511627000) (ht : t.length ≤ maxLen) :
    Calls Try.prog 35 #[.pointer (some ⟨d, 0, none⟩), sv t] w (fun en w' => ∃ f c, SizeM S.now c ∧ S.fs f = none ∧ en = .returned (.int .i64 (creS S t f c).1) ∧ Fsh w0 w' d (creS S t f c).2 (N + 3)) := by
  obtain ⟨Z, ⟨p, hd⟩, hz, hf⟩ := h
  refine (create_any w Z d N S p t hd hN ht).mono fun en w' hq => ?_
  obtain ⟨f, c, h1, h2, h3, h4⟩ := hq
  exact ⟨f, c, h1, h2, h3, Fsh.step hz hf h4⟩
/-- bytes that were laid behind the directory. -/
theorem fappend {t : Tx} {bs : List UInt8} {n : Nat} (h : Fsh w0 w d S N) (hN : N < 1099511627000) (ht : t.length ≤ maxLen) (hp : S.part ≤ 9223372036854775807) (hb : bs.length = n) (hn : n ≤ 1000) :
    Calls Try.prog 37 #[.pointer (some ⟨d, 0, none⟩), sv t, .slice (some ⟨w.heap.size, 0, none⟩) n n] (w.alloc (.cells ⟨by8 bs⟩ 5)) (fun en w' => en = .returned (.int .i64 (appS S t bs).1) ∧ Fsh w0 w' d (appS S t bs).2 (N + 3)) := by
  obtain ⟨Z, ⟨p, hd⟩, hz, hf⟩ := h
  have hr : Rd (w.alloc (.cells ⟨by8 bs⟩ 5)) (w.heap.size + 1) (some ⟨w.heap.size, 0, none⟩) (by8 bs) := by
    have h1 := Rd.block (heap_alloc_new w (.cells ⟨by8 bs⟩ 5))
    simpa using h1
  refine (append_any (w.alloc (.cells ⟨by8 bs⟩ 5)) Z d N S p t (some ⟨w.heap.size, 0, none⟩) n n _ bs (hd.fr0 ((Fr.refl No w).alloc _)) hN ht hb (Nat.le_refl _) (by unfold maxLen; omega) hr (fun ad e => .inr fun hz' => ?_) hp).mono fun en w' hq => ⟨hq.1, Fsh.step hz (hf.tr ((Fr.refl No w).alloc _)) hq.2⟩
  obtain rfl := Option.some.inj e
  have h9 : w.heap.size < w.heap.size := hd.lt _ hz'
  omega
theorem fsync {t : Tx} (h : Fsh w0 w d S N) (hN : N < 1099511627000) (ht : t.length ≤ maxLen) :
    Calls Try.prog 12 #[.pointer (some ⟨d, 0, none⟩), sv t] w (fun en w' => en = .returned (.int .i64 (synS S t).1) ∧ Fsh w0 w' d (synS S t).2 (N + 3)) := by
  obtain ⟨Z, ⟨p, hd⟩, hz, hf⟩ := h
  exact (sync_any w Z d N S p t hd (by omega) ht).mono fun en w' hq => ⟨hq.1, Fsh.step hz hf hq.2⟩
theorem fsyncdir (h : Fsh w0 w d S N) (hN : N < 1099511627000) :
    Calls Try.prog 13 #[.pointer (some ⟨d, 0, none⟩)] w (fun en w' => en = .returned (.int .i64 (sydS S).1) ∧ Fsh w0 w' d (sydS S).2 (N + 3)) := by
  obtain ⟨Z, ⟨p, hd⟩, hz, hf⟩ := h
  exact (syncdir_any w Z d N S p hd hN).mono fun en w' hq => ⟨hq.1, Fsh.step hz hf hq.2⟩
theorem frename {s t : Tx} (h : Fsh w0 w d S N) (hN : N < 1099511627000) (ht : s.length ≤ maxLen) (ht2 : t.length ≤ maxLen) :
    Calls Try.prog 36 #[.pointer (some ⟨d, 0, none⟩), sv s, sv t] w (fun en w' => en = .returned (.int .i64 (renS S s t).1) ∧ Fsh w0 w' d (renS S s t).2 (N + 3)) := by
  obtain ⟨Z, ⟨p, hd⟩, hz, hf⟩ := h
  exact (rename_any w Z d N S p s t hd hN ht ht2).mono fun en w' hq => ⟨hq.1, Fsh.step hz hf hq.2⟩
theorem fdelete {t : Tx} (h : Fsh w0 w d S N) (hN : N < 1099511627000) (ht : t.length ≤ maxLen) :
    Calls Try.prog 38 #[.pointer (some ⟨d, 0, none⟩), sv t] w (fun en w' => en = .returned (.int .i64 (delS S t).1) ∧ Fsh w0 w' d (delS S t).2 (N + 3)) := by
  obtain ⟨Z, ⟨p, hd⟩, hz, hf⟩ := h
  exact (delete_any w Z d N S p t hd hN ht).mono fun en w' hq => ⟨hq.1, Fsh.step hz hf hq.2⟩
theorem ffail {n e part : Int} (h : Fsh w0 w d S N) (hN : N < 1099511627000) :
    Calls Try.prog 20 #[.pointer (some ⟨d, 0, none⟩), .int .i64 n, .int .i64 e, .int .i64 part] w (fun en w' => en = .returned (.tuple #[]) ∧ Fsh w0 w' d (faiS S n e part) N) := by
  obtain ⟨Z, ⟨p, hd⟩, hz, hf⟩ := h
  exact (fail_any w Z d N S p n e part hd hN).mono fun en w' hq => ⟨hq.1, Fsh.step hz hf hq.2⟩
theorem fsure {A : Option Addr} {n c B : Nat} {l : List StpV} (h : Fsh w0 w d S N) (hN : N + 3 * l.length < 1099511627000)
    (hl : l.length = n) (hn : n ≤ c) (hc : c ≤ maxLen) (hr : StR w0 B A l) (hB : B ≤ w0.heap.size) (hp : S.part ≤ 9223372036854775807) :
    Calls Try.prog 10 #[.pointer (some ⟨d, 0, none⟩), .slice A n c] w (fun en w' => en = .returned (.tuple #[]) ∧ ∃ S', SuR S (l.map (·.s)) S' ∧ Fsh w0 w' d S' (N + 3 * l.length)) := by
  obtain ⟨Z, hd, hz, hf⟩ := h
  refine (sure_any w Z d N S A n c B l hd hN hl hn hc (hr.fr hf (fun _ _ h => h)) (Nat.le_trans hB hf.size) (fun k hk => Nat.le_trans hB (hz k hk)) hp).mono fun en w' hq => ?_
  obtain ⟨h1, S', h2, h3⟩ := hq
  refine ⟨h1, S', h2, ?_⟩
  rw [List.length_map] at h3
  exact Fsh.step hz hf h3
theorem fcrash {A : Option Addr} {n c B : Nat} {l : List Int} (h : Fsh w0 w d S N) (hN : N ≤ 1099511627000)
    (hl : l.length = n) (hn : n ≤ c) (hc : c ≤ maxLen) (hr : Rd w B A (iz .i64 l)) (hB : B ≤ w.heap.size) (hw : ∀ z ∈ l, -9223372036854775808 ≤ z ∧ z ≤ 9223372036854775807) :
    Calls Try.prog 14 #[.pointer (some ⟨d, 0, none⟩), .slice A n c] w (fun en w' => ∃ ks C x, CrashR S l ks C ∧ en = .returned (.pointer (some ⟨x, 0, none⟩)) ∧ Fsh w w' x C N ∧ Fsh w0 w' d S N) := by
  obtain ⟨Z, ⟨p, hd⟩, hz, hf⟩ := h
  refine (crash_any w Z d N S p A n c B l hd hN hl hn hc hr hB hw).mono fun en w' hq => ?_
  obtain ⟨ks, C, Z', x, h1, h2, h3, h4, h5⟩ := hq
  exact ⟨ks, C, x, h1, h4, ⟨Z', h2, h3, h5⟩, ⟨Z, ⟨p, hd.fr0 h5⟩, hz, hf.tr h5⟩⟩
theorem fread {t : Tx} (h : Fsh w0 w d S N) (ht : t.length ≤ maxLen) : Calls Try.prog 15 #[.pointer (some ⟨d, 0, none⟩), sv t] w (RetR w (reaS S t).1 (reaS S t).2) := by
  obtain ⟨Z, ⟨p, hd⟩, hz, hf⟩ := h
  exact read_any w Z d N S p t hd ht
theorem flist (h : Fsh w0 w d S N) (hN : N ≤ 1099511627776) : Calls Try.prog 11 #[.pointer (some ⟨d, 0, none⟩)] w (GivesN w S) := by
  obtain ⟨Z, ⟨p, hd⟩, hz, hf⟩ := h
  exact list_any w Z d N S p hd hN
theorem Fsh.le (h : Fsh w0 w d S N) : ∀ f x, S.fs f = some x → x.s ≤ x.b.length ∧ x.b.length ≤ 16777216 := fun f x hx => by
  obtain ⟨Z, ⟨p, hd⟩, hz, hf⟩ := h
  exact ⟨(hd.files f x hx).1.le, (hd.files f x hx).1.most⟩
theorem Fsh.lower {w1 : World} (h : Fsh w1 w d S N) (f : Fr No w0 w1) : Fsh w0 w d S N := by
  obtain ⟨Z, hd, hz, hf⟩ := h
  exact ⟨Z, hd, fun k hk => Nat.le_trans f.size (hz k hk), f.tr hf⟩
end
end Go.Proofs.Ythbgcmffpnmbeaa
