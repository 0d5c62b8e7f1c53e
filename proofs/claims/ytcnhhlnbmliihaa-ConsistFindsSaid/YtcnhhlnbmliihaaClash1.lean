/- Clashes: Valid, of both; the reference's top, Root. -/
import Derived.Test.YtcnhhlnbmliihaaClashS
import Derived.Test.YtcnhhlnbmliihaaRefMerk
import Derived.Test.YtcnhhlnbmliihaaTexts
import Derived.Test.YtcnhhlnbmliihaaOrd
namespace Go.Proofs.Ytcnhhlnbmliihaa
open Go.RowKit
set_option linter.unusedVariables false
set_option linter.unusedSimpArgs false

def validC (d : Nat) (a b : ByteArray) : Bool := decide (a ≠ b ∧ msum d a = msum d b)
theorem validC_same (d : Nat) (a b : ByteArray) (h : a = b) : validC d a b = false := decide_eq_false fun g => g.1 h
theorem validC_yes (d : Nat) (a b : ByteArray) (h : ¬ a = b) (h2 : msum d a = msum d b) : validC d a b = true := decide_eq_true ⟨h, h2⟩
theorem validC_no (d : Nat) (a b : ByteArray) (h2 : ¬ msum d a = msum d b) : validC d a b = false := decide_eq_false fun g => h2 g.2
theorem beq_same (x : ByteArray) : (x.toList == x.toList) = true := beq_self_eq_true _
attribute [irreducible] validC
theorem crValid (w : Int) (a b : ByteArray) (W : World) (ha : a.size ≤ 900000000) (hb : b.size ≤ 900000000) :
    Calls Try.prog 33 #[.int .i64 w, .string a, .string b] W fun e W' => e = .returned (.bool (validC (wd w) a b)) ∧ Below W.heap.size W W' := by
  have h1 := fun W => crMSum w a W (by omega)
  have h2 := fun W => crMSum w b W (by omega)
  have v1 := validC_same (wd w) a b
  have v2 := validC_yes (wd w) a b
  have v3 := validC_no (wd w) a b
  obtain ⟨X, HX⟩ : ∃ x, Hid (msum (wd w) a = x) := ⟨_, Lib.hid rfl⟩
  obtain ⟨Y, HY⟩ : ∃ x, Hid (msum (wd w) b = x) := ⟨_, Lib.hid rfl⟩
  obtain ⟨V, HV⟩ : ∃ x, Hid (validC (wd w) a b = x) := ⟨_, Lib.hid rfl⟩
  simp only [HX.out, HY.out, HV.out] at h1 h2 v1 v2 v3
  rw [HV.out]
  have H1 := Lib.hid h1
  have H2 := Lib.hid h2
  have V1 := Lib.hid v1
  have V2 := Lib.hid v2
  have V3 := Lib.hid v3
  clear h1 h2 v1 v2 v3
  by_cases hab : a = b
  · have hv := V1.out hab
    have hbe : (a.toList == b.toList) = true := by rw [hab]; exact beq_same _
    subst hv
    have HAB := Lib.hid hab
    clear hab
    go_enter Try.func33, Try.ntmps33
    go_wp2_with fail
    go_ret
    exact ⟨rfl, Below.refl _ _⟩
  · have hbe := beq_text_ne hab
    by_cases hxy : X = Y
    · have hv := V2.out hab hxy
      have hxe : (X.toList == Y.toList) = true := by rw [hxy]; exact beq_same _
      subst hv
      have HXY := Lib.hid hxy
      clear hxy hab
      go_enter Try.func33, Try.ntmps33
      go_wp2_with fail
      (with_reducible refine (H1.out _).mono ?_); rintro e w1 ⟨rfl, hb1⟩
      go_wp2_with fail
      (with_reducible refine (H2.out _).mono ?_); rintro e w2 ⟨rfl, hb2⟩
      go_wp2_with fail
      go_ret
      exact ⟨rfl, hb1.trans (hb2.mono hb1.size)⟩
    · have hv := V3.out hxy
      have hxe := beq_text_ne hxy
      subst hv
      clear hxy hab
      go_enter Try.func33, Try.ntmps33
      go_wp2_with fail
      (with_reducible refine (H1.out _).mono ?_); rintro e w1 ⟨rfl, hb1⟩
      go_wp2_with fail
      (with_reducible refine (H2.out _).mono ?_); rintro e w2 ⟨rfl, hb2⟩
      go_wp2_with fail
      go_ret
      exact ⟨rfl, hb1.trans (hb2.mono hb1.size)⟩
theorem mem_take_s {b k : Nat} {l : List ByteArray} (h : ∀ s ∈ l, s.size ≤ b) : ∀ s ∈ l.take k, s.size ≤ b := fun s hs => h s (List.mem_of_mem_take hs)
theorem mem_drop_s {b k : Nat} {l : List ByteArray} (h : ∀ s ∈ l, s.size ≤ b) : ∀ s ∈ l.drop k, s.size ≤ b := fun s hs => h s (List.mem_of_mem_drop hs)
theorem top_le (w : Nat) (hw : w ≤ 32) (l : List ByteArray) (h : ∀ s ∈ l, s.size ≤ 200000) : (top w l).size ≤ 200001 := top_size w hw l 200001 (by omega) (fun s hs => by have := h s hs; omega)
end Go.Proofs.Ytcnhhlnbmliihaa
