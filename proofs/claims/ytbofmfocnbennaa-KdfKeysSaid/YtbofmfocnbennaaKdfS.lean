/- Bytes made of a key, as plain functions on lists of bytes. No function of the program stands here. -/
import Derived.Test.YtbofmfocnbennaaMacS
namespace Go.Proofs.Ytbofmfocnbennaa
open Go.RowKit
set_option linter.unusedVariables false
set_option linter.unusedSimpArgs false

/-- The i-th part. -/
def tK (key info : List UInt8) : Nat → List UInt8
  | 0 => []
  | i + 1 => tagL key (tK key info i ++ info ++ be ((i + 1 : Nat) : Int) 1)
theorem tK_zero (key info : List UInt8) : tK key info 0 = [] := rfl
theorem tK_succ (key info : List UInt8) (i : Nat) : tK key info (i + 1) = tagL key (tK key info i ++ info ++ be ((i + 1 : Nat) : Int) 1) := rfl
theorem tK_length (key info : List UInt8) (i : Nat) : (tK key info (i + 1)).length = 32 := tagL_length _ _
theorem tK_le (key info : List UInt8) (i : Nat) : (tK key info i).length ≤ 32 := by
  cases i with
  | zero => rw [tK_zero]; simp
  | succ i => rw [tK_length]; omega
/-- The first parts, one behind the other. -/
def okm (key info : List UInt8) : Nat → List UInt8
  | 0 => []
  | i + 1 => okm key info i ++ tK key info (i + 1)
theorem okm_zero (key info : List UInt8) : okm key info 0 = [] := rfl
theorem okm_succ (key info : List UInt8) (i : Nat) : okm key info (i + 1) = okm key info i ++ tK key info (i + 1) := rfl
theorem okm_length (key info : List UInt8) (i : Nat) : (okm key info i).length = 32 * i := by
  induction i with
  | zero => rfl
  | succ i ih => rw [okm_succ, List.length_append, ih, tK_length]; omega
theorem okm_take (key info : List UInt8) (j k n : Nat) (h : j ≤ k) (hn : n ≤ 32 * j) : (okm key info k).take n = (okm key info j).take n := by
  induction k with
  | zero => have : j = 0 := by omega
            subst this; rfl
  | succ k ih =>
    by_cases e : j = k + 1
    · subst e; rfl
    · rw [okm_succ, List.take_append_of_le_length (by rw [okm_length]; omega)]
      exact ih (by omega)
/-- So many bytes. -/
def expL (key info : List UInt8) (n : Nat) : List UInt8 := (okm key info n).take n
theorem expL_of (key info : List UInt8) (k n : Nat) (h : n ≤ 32 * k) : (okm key info k).take n = expL key info n := by
  unfold expL
  rcases Nat.le_total k n with hkn | hkn
  · rw [okm_take key info k n n hkn h]
  · rw [okm_take key info n k n hkn (by omega)]
theorem expL_length (key info : List UInt8) (n : Nat) : (expL key info n).length = n := by
  unfold expL; rw [List.length_take, okm_length]; omega
theorem expL_take (key info : List UInt8) (m n : Nat) (h : m ≤ n) : (expL key info n).take m = expL key info m := by
  rw [← expL_of key info n n (by omega), List.take_take, Nat.min_eq_left h, expL_of key info n m (by omega)]
theorem expL_zero (key info : List UInt8) : expL key info 0 = [] := by unfold expL; simp
/-- A part of many bytes. -/
theorem expL_part (key info : List UInt8) (i n : Nat) (h : 32 * (i + 1) ≤ n) : ((expL key info n).drop (32 * i)).take 32 = tK key info (i + 1) := by
  have e : (expL key info n).take (32 * (i + 1)) = okm key info (i + 1) := by
    rw [expL_take key info _ _ h, ← expL_of key info (i + 1) _ (Nat.le_refl _), List.take_of_length_le (by rw [okm_length]; omega)]
  have e2 : ((expL key info n).take (32 * (i + 1))).drop (32 * i) = ((expL key info n).drop (32 * i)).take 32 := by
    rw [List.drop_take]; congr 1; omega
  rw [← e2, e, okm_succ, List.drop_append_of_le_length (by rw [okm_length]; omega), List.drop_of_length_le (by rw [okm_length]; omega), List.nil_append]
attribute [irreducible] tK okm expL
end Go.Proofs.Ytbofmfocnbennaa
