/- Growing trees: New, Len, Peaks, Root. -/
import Derived.Test.YtgkjpemgfbkejaaGrowS2
import Derived.Test.YtgkjpemgfbkejaaMerkRoot
import Derived.Test.YtgkjpemgfbkejaaTexts
import Derived.Test.YtgkjpemgfbkejaaAppL
namespace Go.Proofs.Ytgkjpemgfbkejaa
open Go.RowKit
set_option linter.unusedVariables false
set_option linter.unusedSimpArgs false

/-- Block g is a tree of width d, of n leaves, with these peaks. -/
def TR (w : World) (g d n : Nat) (ps : List ByteArray) : Prop :=
  ∃ A c, Blk w g 62 #[.int .i64 (d : Nat), .int .i64 (n : Nat), .slice A ps.length c] ∧ ps.length ≤ c ∧ Strs w A ps
theorem TR.lt {w : World} {g d n : Nat} {ps : List ByteArray} (h : TR w g d n ps) : g < w.heap.size := by
  obtain ⟨A, c, h1, _⟩ := h
  exact h1.lt
theorem TR.fresh {w w' : World} {g d n : Nat} {ps : List ByteArray} (h : TR w g d n ps) (hb : Below w.heap.size w w') : TR w' g d n ps := by
  obtain ⟨A, c, h1, h2, h3⟩ := h
  exact ⟨A, c, h1.below hb h1.lt, h2, h3.fresh hb⟩
/-- Texts do not lie in a tree. -/
theorem Strs.far {w w' : World} {A B : Option Addr} {ss : List ByteArray} {g n c : Nat} {t : TypeId} {a b : Int} (h : Strs w A ss) (hg : Blk w g t #[.int .i64 a, .int .i64 b, .slice B n c]) (ho : Only (fun k => k = g) w w') : Strs w' A ss := fun hl => by
  obtain ⟨g1, o, e, hlt, hc⟩ := h hl
  have hne : g1 ≠ g := by
    intro e1
    subst e1
    have c0 := hc 0 hl
    rw [hg.cell] at c0
    match o, c0 with
    | 0, c0 => simp at c0
    | 1, c0 => simp at c0
    | 2, c0 => simp at c0
    | k + 3, c0 => simp at c0
  have hk := ho.block g1 hlt hne
  have := ho.size
  exact ⟨g1, o, e, by omega, fun j hj => (World.cell?_of_block (a := ⟨g1, o + j, none⟩) hk).trans (hc j hj)⟩
theorem TR.strs {w w' : World} {g d n : Nat} {ps : List ByteArray} {A : Option Addr} {ss : List ByteArray} (h : TR w g d n ps) (hs : Strs w A ss) (ho : Only (fun k => k = g) w w') : Strs w' A ss := by
  obtain ⟨B, c, h1, h2, h3⟩ := h
  exact hs.far h1 ho
theorem TR.other {w w' : World} {g d n g' d' n' : Nat} {ps ps' : List ByteArray} (h : TR w g d n ps) (h' : TR w g' d' n' ps') (hne : g' ≠ g) (ho : Only (fun k => k = g) w w') : TR w' g' d' n' ps' := by
  obtain ⟨B, c, h1, h2, h3⟩ := h'
  exact ⟨B, c, ho.blk h1 hne, h2, h.strs h3 ho⟩

theorem cTNew (w : Int) (W : World) : Calls Try.prog 21 #[.int .i64 w] W fun e W' => ∃ g, e = .returned (.pointer (some ⟨g, 0, none⟩)) ∧ W.heap.size ≤ g ∧ TR W' g (wd w) 0 [] ∧ Below W.heap.size W W' := by
  have h1 := fun W => cWidth w W
  obtain ⟨d, HD⟩ : ∃ X, Hid (wd w = X) := ⟨_, Lib.hid rfl⟩
  simp only [HD.out] at h1
  rw [HD.out]
  have H1 := Lib.hid h1
  clear h1
  go_enter Try.func21, Try.ntmps21
  go_wp2_with fail
  (with_reducible refine (H1.out _).mono ?_); rintro e w1 ⟨rfl, rfl⟩
  go_wp2_with fail
  go_ret
  exact ⟨W.heap.size, rfl, Nat.le_refl _, ⟨none, 0, Blk.new _ _ _, Nat.le_refl _, Strs.nil _ _⟩, (Below.refl _ _).alloc (Nat.le_refl _) _⟩
theorem cTLen (W : World) (g d n : Nat) (ps : List ByteArray) (h : TR W g d n ps) : Calls Try.prog 22 #[.pointer (some ⟨g, 0, none⟩)] W fun e W' => e = .returned (.int .i64 (n : Int)) ∧ W = W' := by
  obtain ⟨A, c, h1, h2, h3⟩ := h
  have c1 : W.cell? ⟨g, 1, none⟩ = some (.int .i64 (n : Int)) := (h1.cell 1).trans rfl
  clear h1 h3
  go_enter Try.func22, Try.ntmps22
  go_wp2_with fail
  go_ret
  exact ⟨rfl, rfl⟩
theorem cTLen_nil (W : World) : Calls Try.prog 22 #[.pointer none] W fun e W' => e = .returned (.int .i64 0) ∧ W = W' := by
  go_enter Try.func22, Try.ntmps22
  go_wp2_with fail
  go_ret
  exact ⟨rfl, rfl⟩
theorem cTPeaks (W : World) (g d n : Nat) (ps : List ByteArray) (h : TR W g d n ps) (hl : ps.length ≤ 1000000) : Calls Try.prog 25 #[.pointer (some ⟨g, 0, none⟩)] W fun e W' => ∃ A c, e = .returned (.slice A ps.length c) ∧ ps.length ≤ c ∧ Strs W' A ps ∧ Below W.heap.size W W' := by
  obtain ⟨A, c, h1, h2, h3⟩ := h
  have c1 : W.cell? ⟨g, 2, none⟩ = some (.slice A ps.length c) := (h1.cell 2).trans rfl
  obtain ⟨n, HN⟩ : ∃ n, Hid (ps.length = n) := ⟨_, Lib.hid rfl⟩
  have H3 := Lib.hid h3
  rw [HN.out] at c1 hl
  rw [HN.out]
  clear h1 h3
  go_enter Try.func25, Try.ntmps25
  go_wp2_with (refine wpList_appL str_elem Try.underlying24 rfl (.const (.slice none 0 0)) (.tmp 8) rfl W.heap.size none 0 0 [] rfl rfl (SL.nil _ _ _) A n c ps HN.out rfl H3.out (by omega) (by decide) (Nat.le_refl _) ?_; intro A3 c3 w3 hS3 hc3 hb3; dsimp only [Act.put]; rw [List.nil_append] at hS3; simp only [Nat.zero_add] at hS3 hc3 ⊢)
  go_ret
  exact ⟨A3, c3, rfl, hc3, Strs.of_sl hS3, hb3⟩
theorem cTPeaks_nil (W : World) : Calls Try.prog 25 #[.pointer none] W fun e W' => e = .returned (.slice none 0 0) ∧ W = W' := by
  go_enter Try.func25, Try.ntmps25
  go_wp2_with fail
  go_ret
  exact ⟨rfl, rfl⟩
theorem cTRoot_nil (W : World) : Calls Try.prog 23 #[.pointer none] W fun e W' => e = .returned (.string ⟨#[]⟩) ∧ W = W' := by
  go_enter Try.func23, Try.ntmps23
  go_wp2_with fail
  go_ret
  exact ⟨rfl, rfl⟩
theorem cTAdd_nil (s : ByteArray) (W : World) : Calls Try.prog 27 #[.pointer none, .string s] W fun e W' => e = .returned (.int .i64 8) ∧ W = W' := by
  go_enter Try.func27, Try.ntmps27
  go_wp2_with fail
  go_ret
  exact ⟨rfl, rfl⟩
theorem cTAdd_form (W : World) (g d n : Nat) (ps : List ByteArray) (h : TR W g d n ps) (s : ByteArray) (hs : ¬ s.size = d) : Calls Try.prog 27 #[.pointer (some ⟨g, 0, none⟩), .string s] W fun e W' => e = .returned (.int .i64 2) ∧ W = W' := by
  obtain ⟨A, c, h1, h2, h3⟩ := h
  have c1 : W.cell? ⟨g, 0, none⟩ = some (.int .i64 (d : Int)) := (h1.cell 0).trans rfl
  have hsI : ((s.size : Int) != (d : Int)) = true := by simp; omega
  clear h1 h3
  go_enter Try.func27, Try.ntmps27
  go_wp2_with fail
  go_ret
  exact ⟨rfl, rfl⟩
end Go.Proofs.Ytgkjpemgfbkejaa
