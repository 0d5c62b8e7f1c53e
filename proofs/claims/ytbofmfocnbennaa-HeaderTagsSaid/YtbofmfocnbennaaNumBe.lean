/- Numbers and their bytes, there and back; texts cut and joined. No function of the program stands here. -/
import Derived.Test.YtbofmfocnbennaaTake
import Derived.Test.YtbofmfocnbennaaBa
namespace Go.Proofs.Ytbofmfocnbennaa
open Go.RowKit
set_option linter.unusedVariables false
set_option linter.unusedSimpArgs false

theorem byteAt_list (s : ByteArray) (i : Nat) : byteAt s i = s.data.toList.getD i 0 := rfl
theorem num_front (a b : ByteArray) : ∀ k, k ≤ a.size → num (a ++ b) k = num a k
  | 0, _ => by rw [num_zero, num_zero]
  | k + 1, h => by
    rw [num_succ, num_succ, num_front a b k (by omega), byteAt_list, byteAt_list, ba_list]
    have := ba_len a
    simp only [List.getD_eq_getElem?_getD]
    rw [List.getElem?_append_left (by omega)]
theorem be_get (n : Int) : ∀ (k j : Nat), j < k → (be n k).getD j 0 = nb n (k - 1 - j)
  | k + 1, 0, _ => by rw [be_succ]; rfl
  | k + 1, j + 1, h => by
    rw [be_succ]
    have := be_get n k j (by omega)
    have e : k + 1 - 1 - (j + 1) = k - 1 - j := by omega
    rw [e, ← this]
    rfl
theorem num_be_step (n : Int) (k : Nat) (h0 : 0 ≤ n) (h1 : n < 256 ^ k) : ∀ j, j ≤ k → ((num (str (be n k)) j : Nat) : Int) = n / 256 ^ (k - j)
  | 0, _ => by rw [num_zero, Nat.sub_zero, Int.ediv_eq_zero_of_lt h0 h1]; rfl
  | j + 1, h => by
    rw [num_int, num_be_step n k h0 h1 j (by omega), byteAt_str, be_get n k j (by omega), nb_val]
    have e : k - j = (k - (j + 1)) + 1 := by omega
    have e2 : k - 1 - j = k - (j + 1) := by omega
    rw [e, e2, ← nb_next]
    generalize n / 256 ^ (k - (j + 1)) = m at *
    omega
theorem num_be (n : Int) (k : Nat) (h0 : 0 ≤ n) (h1 : n < 256 ^ k) : ((num (str (be n k)) k : Nat) : Int) = n := by
  rw [num_be_step n k h0 h1 k (Nat.le_refl _), Nat.sub_self, Int.pow_zero, Int.ediv_one]
theorem num_high (s : ByteArray) (i : Nat) : ∀ d, num s (i + d) / 256 ^ d = num s i
  | 0 => by simp
  | d + 1 => by
    have e : i + (d + 1) = (i + d) + 1 := by omega
    have hb := (byteAt s (i + d)).toNat_lt
    have e2 : (num s (i + d) * 256 + (byteAt s (i + d)).toNat) / 256 = num s (i + d) := by omega
    rw [e, num_succ, Nat.pow_succ, Nat.mul_comm (256 ^ d) 256, ← Nat.div_div_eq_div_mul, e2, num_high s i d]
theorem nb_num (s : ByteArray) (k j : Nat) (h : j < k) : nb (num s k : Int) (k - 1 - j) = byteAt s j := by
  apply UInt8.toNat_inj.1
  have h1 := nb_val (num s k : Int) (k - 1 - j)
  have h2 := num_high s (j + 1) (k - 1 - j)
  have e : j + 1 + (k - 1 - j) = k := by omega
  rw [e] at h2
  have h3 : ((num s k : Nat) : Int) / 256 ^ (k - 1 - j) = ((num s (j + 1) : Nat) : Int) := by
    rw [← h2, Int.natCast_ediv, Int.natCast_pow]; rfl
  rw [h3, num_int] at h1
  have hb := (byteAt s j).toNat_lt
  omega
theorem be_num (s : ByteArray) (k : Nat) (h : k ≤ s.size) : str (be (num s k : Int) k) = s.extract 0 k := by
  apply ba_ext
  have h2 := ba_len s
  rw [bytes_str, ba_cut, List.drop_zero]
  apply List.ext_getElem
  · rw [be_length, List.length_take]; omega
  · intro j hj hj2
    rw [be_length] at hj
    have h3 := be_get (num s k : Int) k j hj
    rw [nb_num s k j hj, byteAt_list] at h3
    rw [List.getD_eq_getElem?_getD, List.getElem?_eq_getElem (by rw [be_length]; exact hj), List.getD_eq_getElem?_getD, List.getElem?_eq_getElem (by omega)] at h3
    rw [List.getElem_take]
    exact h3
end Go.Proofs.Ytbofmfocnbennaa
