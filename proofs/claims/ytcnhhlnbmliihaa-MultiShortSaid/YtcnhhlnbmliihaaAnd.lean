/- 'and' with the lowest bits. -/
import Derived.Test.YtcnhhlnbmliihaaWords
namespace Go.Proofs.Ytcnhhlnbmliihaa
open Go.RowKit
set_option linter.unusedVariables false
set_option linter.unusedSimpArgs false

theorem bits_and_mask (k : Nat) (hk : k < 63) (n M : Int) (hM : M = ((2 ^ k - 1 : Nat) : Int)) : bits .and .i64 n M = n % ((2 ^ k : Nat) : Int) := by
  subst hM
  have hp := Nat.one_le_two_pow (n := k)
  have hp63 : 2 ^ k ≤ 2 ^ 62 := Nat.pow_le_pow_right (by decide) (by omega)
  have h62 : (2 : Nat) ^ 62 = 4611686018427387904 := by decide
  obtain ⟨q, hq⟩ : ∃ q, 2 ^ k = q := ⟨_, rfl⟩
  have h1 := Int.emod_nonneg n (show ((q : Nat) : Int) ≠ 0 by omega)
  have h2 := Int.emod_lt_of_pos n (show (0 : Int) < ((q : Nat) : Int) by omega)
  have e : (BitVec.ofInt 64 n &&& BitVec.ofInt 64 ((2 ^ k - 1 : Nat) : Int)).toNat = (n % ((2 ^ k : Nat) : Int)).toNat := by
    rw [BitVec.toNat_and, BitVec.toNat_ofInt]
    have e2 : (BitVec.ofInt 64 ((2 ^ k - 1 : Nat) : Int)).toNat = 2 ^ k - 1 := by
      rw [BitVec.toNat_ofInt]; omega
    rw [e2, Nat.and_two_pow_sub_one_eq_mod]
    have hd : ((2 ^ k : Nat) : Int) ∣ ((2 ^ 64 : Nat) : Int) := by
      rw [Int.natCast_dvd_natCast]; exact Nat.pow_dvd_pow 2 (by omega)
    have e3 : (((n % ((2 ^ 64 : Nat) : Int)).toNat : Nat) : Int) = n % ((2 ^ 64 : Nat) : Int) := Int.toNat_of_nonneg (Int.emod_nonneg _ (by decide))
    have e4 : (((n % ((2 ^ 64 : Nat) : Int)).toNat % 2 ^ k : Nat) : Int) = n % ((2 ^ k : Nat) : Int) := by
      rw [Int.natCast_emod, e3, Int.emod_emod_of_dvd _ hd]
    omega
  rw [bits_and64, e]
  rw [hq]
  rw [hq] at hp63
  have e3 : (((n % ((q : Nat) : Int)).toNat : Nat) : Int) = n % ((q : Nat) : Int) := by omega
  rw [e3]
  generalize n % ((q : Nat) : Int) = m at *
  unfold wrap64
  omega
theorem and_1023 (n : Int) : bits .and .i64 n 1023 = n % 1024 := bits_and_mask 10 (by decide) n 1023 (by decide)
theorem and_4095 (n : Int) : bits .and .i64 n 4095 = n % 4096 := bits_and_mask 12 (by decide) n 4095 (by decide)
theorem and_1 (n : Int) : bits .and .i64 n 1 = n % 2 := bits_and_mask 1 (by decide) n 1 (by decide)
theorem and_1odd (q : Nat) (h : q % 2 = 1) : bits .and .i64 (q : Int) 1 = 1 := by rw [and_1]; omega
theorem and_1even (q : Nat) (h : q % 2 = 0) : bits .and .i64 (q : Int) 1 = 0 := by rw [and_1]; omega
theorem turn_mod (i : Int) (q : Nat) (hq : 0 < q) (hs : q ≤ 1000000) : ∃ j : Nat, j < q ∧ (wrap64 (i.tmod q + q)).tmod q = (j : Int) := by
  have h1 : (i.tmod q).natAbs < q := by
    rw [Int.natAbs_tmod, Int.natAbs_natCast]
    exact Nat.mod_lt _ hq
  have e : wrap64 (i.tmod q + q) = i.tmod q + q := by unfold wrap64; omega
  rw [e]
  obtain ⟨x, hx⟩ : ∃ x : Nat, i.tmod q + q = (x : Int) := ⟨(i.tmod q + q).toNat, by omega⟩
  rw [hx]
  exact ⟨x % q, Nat.mod_lt _ hq, by rw [Int.ofNat_tmod]⟩
end Go.Proofs.Ytcnhhlnbmliihaa
