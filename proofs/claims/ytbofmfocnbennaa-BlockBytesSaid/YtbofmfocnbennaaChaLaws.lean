/- The walks of ChachaTwice and ChachaSeeks. -/
import Derived.Test.YtbofmfocnbennaaChaXor
import Derived.Test.YtbofmfocnbennaaSized
namespace Go.Proofs.Ytbofmfocnbennaa
open Go.RowKit
set_option linter.unusedVariables false
set_option linter.unusedSimpArgs false

theorem xorS_size (key nonce : ByteArray) (c : Int) (s : ByteArray) : (xorS key nonce c s).size = s.size := by
  unfold xorS; rw [str_size, xorN_length, data_length]
theorem xorS_bytes (key nonce : ByteArray) (c : Int) (s : ByteArray) : (xorS key nonce c s).data.toList = xorN key nonce c s.data.toList s.size := by
  unfold xorS; rw [bytes_str]
theorem ba_ext {s t : ByteArray} (h : s.data.toList = t.data.toList) : s = t := by
  rw [← str_bytes s, ← str_bytes t, h]
theorem xorS_xorS (key nonce : ByteArray) (c : Int) (s : ByteArray) : xorS key nonce c (xorS key nonce c s) = s := by
  apply ba_ext
  rw [xorS_bytes, xorS_bytes, xorS_size]
  apply list_ext_getD (by rw [xorN_length, xorN_length])
  intro i hi
  rw [xorN_length, xorN_length, data_length] at hi
  rw [xorN_getD _ _ _ _ _ _ (by rw [xorN_length, data_length]; exact hi), if_pos hi, xorN_getD _ _ _ _ _ _ (by rw [data_length]; exact hi), if_pos hi]
  rw [UInt8.xor_assoc, UInt8.xor_self, UInt8.xor_zero]
theorem extract_getD (s : ByteArray) (a b i : Nat) (hb : b ≤ s.size) (hi : i < b - a) : (s.extract a b).data.toList.getD i 0 = s.data.toList.getD (a + i) 0 := by
  have hsz : s.data.size = s.size := rfl
  rw [ByteArray.data_extract, List.getD_eq_getElem?_getD, List.getD_eq_getElem?_getD]
  have hm : min b s.data.size = b := by omega
  simp [Array.getElem?_extract, hm, hi]
theorem xorS_seek (key nonce : ByteArray) (c : Int) (s : ByteArray) (j : Nat) (h : 64 * j < s.size) : (xorS key nonce c s).extract (64 * j) s.size = xorS key nonce (c + (j : Int)) (s.extract (64 * j) s.size) := by
  apply ba_ext
  rw [xorS_bytes]
  have hz : (s.extract (64 * j) s.size).size = s.size - 64 * j := by simp
  apply list_ext_getD (by rw [data_length, xorN_length, data_length, hz]; simp [xorS_size])
  intro i hi
  rw [data_length] at hi
  have hi' : i < s.size - 64 * j := by simpa [xorS_size] using hi
  rw [extract_getD _ _ _ _ (by rw [xorS_size]; exact Nat.le_refl _) hi', xorS_bytes, xorN_getD _ _ _ _ _ _ (by rw [data_length]; omega), if_pos (by omega)]
  rw [xorN_getD _ _ _ _ _ _ (by rw [data_length, hz]; exact hi'), if_pos (by rw [hz]; exact hi'), extract_getD _ _ _ _ (Nat.le_refl _) hi']
  congr 1
  rw [ksb_eq, ksb_eq]
  have e1 : (64 * j + i) / 64 = j + i / 64 := by omega
  have e2 : (64 * j + i) % 64 = i % 64 := by omega
  rw [e1, e2]
  congr 3
  push_cast
  omega

theorem skip15 (n : Int) : ∃ j : Nat, j < 16 ∧ bits .and .i64 n 15 = (j : Int) := by
  have h := b_mask64 n
  refine ⟨(BitVec.ofInt 64 n &&& 15#64).toNat, ?_, ?_⟩
  · rw [BitVec.toNat_and]
    have := Nat.and_le_right (n := (BitVec.ofInt 64 n).toNat) (m := (15#64).toNat)
    have e : (15#64).toNat = 15 := rfl
    omega
  · rw [bits_and64]
    have e : BitVec.ofInt 64 15 = 15#64 := rfl
    rw [e, ← IntWalk.i64_left]
    have hb : (BitVec.ofInt 64 n &&& 15#64).toNat < 16 := by
      rw [BitVec.toNat_and]
      have := Nat.and_le_right (n := (BitVec.ofInt 64 n).toNat) (m := (15#64).toNat)
      have e : (15#64).toNat = 15 := rfl
      omega
    generalize (BitVec.ofInt 64 n &&& 15#64).toNat = m at *
    have hv := wrap64_V (BitVec.ofNat 32 m)
    unfold V at hv
    have e : (BitVec.ofNat 32 m).toNat = m := by simp; omega
    rw [e] at hv
    exact hv

end Go.Proofs.Ytbofmfocnbennaa
