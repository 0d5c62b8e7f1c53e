/- mac.Tag of one text, of two, of three; a law's cut. -/
import Derived.Test.YtbofmfocnbennaaMac3
namespace Go.Proofs.Ytbofmfocnbennaa
open Go.RowKit
set_option linter.unusedVariables false
set_option linter.unusedSimpArgs false

theorem cTag1 (key s : ByteArray) (W : World) (hk : key.size ≤ 1000000000) (h : s.size ≤ 900000000) : Calls Try.prog 43 #[.string key, .slice (some ⟨W.heap.size, 0, none⟩) 1 1] (W.alloc (.cells #[.string s] 9)) fun e w' => e = .returned (.string (str (tagL key.data.toList s.data.toList))) ∧ Below W.heap.size W w' := by
  refine (cTagL key (some ⟨W.heap.size, 0, none⟩) 1 1 [s] (W.alloc (.cells #[.string s] 9)) rfl (Strs.one _ _ _) hk (by rw [joinL_one, data_length]; exact h) (by omega)).mono ?_
  rintro e w' ⟨rfl, hb⟩
  exact ⟨by rw [joinL_one], ((Below.refl _ _).alloc (Nat.le_refl _) _).trans (hb.mono (by simp))⟩
theorem cTag2 (key s u : ByteArray) (W : World) (hk : key.size ≤ 1000000000) (h : s.size + u.size ≤ 900000000) : Calls Try.prog 43 #[.string key, .slice (some ⟨W.heap.size, 0, none⟩) 2 2] (W.alloc (.cells #[.string s, .string u] 9)) fun e w' => e = .returned (.string (str (tagL key.data.toList (s ++ u).data.toList))) ∧ Below W.heap.size W w' := by
  refine (cTagL key (some ⟨W.heap.size, 0, none⟩) 2 2 [s, u] (W.alloc (.cells #[.string s, .string u] 9)) rfl (Strs.two _ _ _ _) hk (by rw [joinL_two, data_length, ByteArray.size_append]; exact h) (by omega)).mono ?_
  rintro e w' ⟨rfl, hb⟩
  exact ⟨by rw [joinL_two], ((Below.refl _ _).alloc (Nat.le_refl _) _).trans (hb.mono (by simp))⟩
theorem cTag3 (key s u v : ByteArray) (W : World) (hk : key.size ≤ 1000000000) (h : s.size + u.size + v.size ≤ 900000000) : Calls Try.prog 43 #[.string key, .slice (some ⟨W.heap.size, 0, none⟩) 3 3] (W.alloc (.cells #[.string s, .string u, .string v] 9)) fun e w' => e = .returned (.string (str (tagL key.data.toList (s ++ u ++ v).data.toList))) ∧ Below W.heap.size W w' := by
  refine (cTagL key (some ⟨W.heap.size, 0, none⟩) 3 3 [s, u, v] (W.alloc (.cells #[.string s, .string u, .string v] 9)) rfl (Strs.three _ _ _ _ _) hk (by rw [joinL_three, data_length, ByteArray.size_append, ByteArray.size_append]; exact h) (by omega)).mono ?_
  rintro e w' ⟨rfl, hb⟩
  exact ⟨by rw [joinL_three], ((Below.refl _ _).alloc (Nat.le_refl _) _).trans (hb.mono (by simp))⟩

theorem reach_le {n : Nat} (h : n ≤ reachBytes) : n ≤ 140737488355328 := by unfold reachBytes at h; omega
/-- A text cut to at most so many bytes. -/
def cutB (s : ByteArray) (m : Nat) : ByteArray := if s.size ≤ m then s else s.extract 0 m
theorem cutB_size (s : ByteArray) (m : Nat) : (cutB s m).size ≤ m := by
  unfold cutB; split
  · assumption
  · simp; omega
theorem cutB_le (s : ByteArray) (m : Nat) : (cutB s m).size ≤ s.size := by
  unfold cutB; split
  · exact Nat.le_refl _
  · simp; omega
theorem cutB_yes (s : ByteArray) (m : Nat) (h : s.size ≤ m) : cutB s m = s := by unfold cutB; rw [if_pos h]
theorem cutB_no (s : ByteArray) (m : Nat) (h : ¬ s.size ≤ m) : cutB s m = s.extract 0 m := by unfold cutB; rw [if_neg h]
attribute [irreducible] cutB
end Go.Proofs.Ytbofmfocnbennaa
