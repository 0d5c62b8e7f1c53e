/- Chapter 15's examples; a slice of texts cut to a few. -/
import Derived.Test.YtcnhhlnbmliihaaMerkProof
import Derived.Test.YtcnhhlnbmliihaaTexts
import Derived.Test.YtcnhhlnbmliihaaOpenStrs
namespace Go.Proofs.Ytcnhhlnbmliihaa
open Go.RowKit
set_option linter.unusedVariables false
set_option linter.unusedSimpArgs false

theorem cut_three : cut 3 = 2 := (pow_cut 3 1 (.inl (by decide)) (by decide)).symm
theorem cut_two : cut 2 = 1 := (pow_cut 2 0 (.inr rfl) (by decide)).symm
theorem cut_five : cut 5 = 4 := (pow_cut 5 2 (.inl (by decide)) (by decide)).symm
theorem root_two (d : Nat) (a b : ByteArray) : root d [a, b] = mnode d a b := by
  rw [root_cut _ _ (by simp)]
  have e : cut [a, b].length = 1 := cut_two
  rw [e]
  show mnode d (root d [a]) (root d [b]) = _
  rw [root_one _ _ rfl, root_one _ _ rfl]; rfl
theorem root_three (d : Nat) (a b c : ByteArray) : root d [a, b, c] = mnode d (mnode d a b) c := by
  rw [root_cut _ _ (by simp)]
  have e : cut [a, b, c].length = 2 := cut_three
  rw [e]
  show mnode d (root d [a, b]) (root d [c]) = _
  rw [root_one _ [c] rfl, root_two]; rfl
theorem proof_three (d : Nat) (a b c : ByteArray) : proof d 2 [a, b, c] = [mnode d a b] := by
  have e : cut [a, b, c].length = 2 := cut_three
  rw [proof_right _ _ _ (by simp) (by rw [e]; omega), e]
  show proof d 0 [c] ++ [root d [a, b]] = _
  rw [proof_one _ _ _ (by simp), root_two]; rfl
theorem wd_32 : wd 32 = 32 := by decide

/-- A few of the texts that came in. -/
theorem cFewV {v : Value} {ss : List ByteArray} {w : World} (hv : StrsIn w v ss) :
    Calls Try.prog 12 #[v] w fun e w' => ∃ A m c l, e = .returned (.slice A m c) ∧ l.length = m ∧ Strs w A l ∧ m ≤ c ∧ m ≤ 70 ∧ (∀ s ∈ l, s.size ≤ 20000) ∧ w = w' := by
  obtain ⟨⟨A, c, rfl, hc, hs⟩, hl, hsm⟩ := hv
  refine (cFew A ss.length c ss w rfl hs hl hc hsm).mono ?_
  rintro e w' ⟨m, h1, h2, rfl, h3, rfl⟩
  refine ⟨A, m, c, ss.take m, rfl, by rw [List.length_take]; omega, hs.take m, by omega, h2, fun s hs => ?_, rfl⟩
  have := mem_joinL_le hs
  omega
end Go.Proofs.Ytcnhhlnbmliihaa
