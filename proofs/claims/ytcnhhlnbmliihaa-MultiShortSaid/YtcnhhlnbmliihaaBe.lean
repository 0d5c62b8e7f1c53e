/- The lowest bytes of a number, the highest first. -/
import Derived.Test.YtcnhhlnbmliihaaMem
namespace Go.Proofs.Ytcnhhlnbmliihaa
open Go.RowKit
set_option linter.unusedVariables false
set_option linter.unusedSimpArgs false

def nb (n : Int) (i : Nat) : UInt8 := UInt8.ofNat (n / 256 ^ i % 256).toNat
theorem nb_val (n : Int) (i : Nat) : (((nb n i).toNat : Nat) : Int) = n / 256 ^ i % 256 := by
  unfold nb
  have h1 := Int.emod_nonneg (n / 256 ^ i) (show (256 : Int) ≠ 0 by decide)
  have h2 := Int.emod_lt_of_pos (n / 256 ^ i) (show (0 : Int) < 256 by decide)
  generalize n / 256 ^ i % 256 = m at *
  simp
  omega
theorem nb_next (n : Int) (i : Nat) : n / 256 ^ i / 256 = n / 256 ^ (i + 1) := by
  rw [Int.pow_succ, Int.ediv_ediv_of_nonneg (Int.pow_nonneg (by decide))]
/-- The lowest k bytes, the highest first. -/
def be (n : Int) : Nat → List UInt8
  | 0 => []
  | k + 1 => nb n k :: be n k
theorem be_length (n : Int) (k : Nat) : (be n k).length = k := by
  induction k with
  | zero => rfl
  | succ k ih => simp [be, ih]
theorem nb_shr (n : Int) (i : Nat) : n / 2 ^ (8 * i) % 256 = (((nb n i).toNat : Nat) : Int) := by
  rw [nb_val, Int.pow_mul]; rfl
theorem be_zero (n : Int) : be n 0 = [] := rfl
theorem be_succ (n : Int) (k : Nat) : be n (k + 1) = nb n k :: be n k := rfl
theorem be_drop (n : Int) (k : Nat) (h : k ≤ 8) : (be n 8).drop (8 - k) = be n k := by
  have : ∀ m, k ≤ m → (be n m).drop (m - k) = be n k := by
    intro m
    induction m with
    | zero => intro h; have : k = 0 := by omega
              subst this; rfl
    | succ m ih =>
      intro h
      by_cases e : k = m + 1
      · subst e; simp
      · have e2 : m + 1 - k = (m - k) + 1 := by omega
        rw [e2]
        show List.drop (m - k) (be n m) = _
        exact ih (by omega)
  exact this 8 h
attribute [irreducible] be nb
end Go.Proofs.Ytcnhhlnbmliihaa
