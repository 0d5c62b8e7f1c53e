/- sha.Sum of one text, of two, of three. -/
import Derived.Test.YtcnhhlnbmliihaaShaTop
namespace Go.Proofs.Ytcnhhlnbmliihaa
open Go.RowKit
set_option linter.unusedVariables false
set_option linter.unusedSimpArgs false

/-- The sum of one text, of a slice made just ahead. -/
theorem cSum1 (s : ByteArray) (W : World) (h : s.size ≤ 1000000000) : Calls Try.prog 74 #[.slice (some ⟨W.heap.size, 0, none⟩) 1 1] (W.alloc (.cells #[.string s] 9)) fun e w' => e = .returned (.string (str (sha s.data.toList))) ∧ Below W.heap.size W w' := by
  refine (cSumL (some ⟨W.heap.size, 0, none⟩) 1 1 [s] (W.alloc (.cells #[.string s] 9)) rfl (Strs.one _ _ _) (by rw [joinL_one, data_length]; exact h) (by omega)).mono ?_
  rintro e w' ⟨rfl, hb⟩
  exact ⟨by rw [joinL_one], ((Below.refl _ _).alloc (Nat.le_refl _) _).trans (hb.mono (by simp))⟩
theorem cSum2 (s u : ByteArray) (W : World) (h : s.size + u.size ≤ 1000000000) : Calls Try.prog 74 #[.slice (some ⟨W.heap.size, 0, none⟩) 2 2] (W.alloc (.cells #[.string s, .string u] 9)) fun e w' => e = .returned (.string (str (sha (s ++ u).data.toList))) ∧ Below W.heap.size W w' := by
  refine (cSumL (some ⟨W.heap.size, 0, none⟩) 2 2 [s, u] (W.alloc (.cells #[.string s, .string u] 9)) rfl (Strs.two _ _ _ _) (by rw [joinL_two, data_length, ByteArray.size_append]; exact h) (by omega)).mono ?_
  rintro e w' ⟨rfl, hb⟩
  exact ⟨by rw [joinL_two], ((Below.refl _ _).alloc (Nat.le_refl _) _).trans (hb.mono (by simp))⟩
theorem cSum3 (s u v : ByteArray) (W : World) (h : s.size + u.size + v.size ≤ 1000000000) : Calls Try.prog 74 #[.slice (some ⟨W.heap.size, 0, none⟩) 3 3] (W.alloc (.cells #[.string s, .string u, .string v] 9)) fun e w' => e = .returned (.string (str (sha (s ++ u ++ v).data.toList))) ∧ Below W.heap.size W w' := by
  refine (cSumL (some ⟨W.heap.size, 0, none⟩) 3 3 [s, u, v] (W.alloc (.cells #[.string s, .string u, .string v] 9)) rfl (Strs.three _ _ _ _ _) (by rw [joinL_three, data_length, ByteArray.size_append, ByteArray.size_append]; exact h) (by omega)).mono ?_
  rintro e w' ⟨rfl, hb⟩
  exact ⟨by rw [joinL_three], ((Below.refl _ _).alloc (Nat.le_refl _) _).trans (hb.mono (by simp))⟩
end Go.Proofs.Ytcnhhlnbmliihaa
