/- Texts cut and joined. No function of the program stands here. -/
import Derived.Test.YtcnhhlnbmliihaaText
namespace Go.Proofs.Ytcnhhlnbmliihaa
open Go.RowKit
set_option linter.unusedVariables false
set_option linter.unusedSimpArgs false

theorem ba_ext {a b : ByteArray} (h : a.data.toList = b.data.toList) : a = b := by
  cases a; cases b; simpa using h
theorem ba_list (a b : ByteArray) : (a ++ b).data.toList = a.data.toList ++ b.data.toList := by simp
theorem ba_cut (s : ByteArray) (i j : Nat) : (s.extract i j).data.toList = (s.data.toList.take j).drop i := by
  rw [ByteArray.data_extract, Array.toList_extract, List.extract_eq_drop_take']
theorem ba_len (s : ByteArray) : s.data.toList.length = s.size := data_length s
theorem front_append (a b : ByteArray) (k : Nat) (h : a.size = k) : (a ++ b).extract 0 k = a := by
  apply ba_ext
  have := ba_len a
  rw [ba_cut, ba_list, List.drop_zero, List.take_append_of_le_length (by omega), List.take_of_length_le (by omega)]
theorem back_append (a b : ByteArray) (k : Nat) (h : a.size = k) : (a ++ b).extract k (a ++ b).size = b := by
  apply ba_ext
  have := ba_len a
  have h2 := ba_len (a ++ b)
  rw [ba_cut, ← h2, List.take_length, ba_list, List.drop_append_of_le_length (by omega), List.drop_of_length_le (by omega)]
  rfl
theorem split_text (s : ByteArray) (k : Nat) (_ : k ≤ s.size) : s.extract 0 k ++ s.extract k s.size = s := by
  apply ba_ext
  have h2 := ba_len s
  rw [ba_list, ba_cut, ba_cut, List.drop_zero, ← h2, List.take_length, List.take_append_drop]
theorem str_app (l : List UInt8) (s : ByteArray) : str l ++ s = str (l ++ s.data.toList) := by
  apply ba_ext; rw [ba_list, bytes_str, bytes_str]
theorem str_str (l m : List UInt8) : str l ++ str m = str (l ++ m) := by rw [str_app, bytes_str]
theorem str_take (l : List UInt8) (k : Nat) : (str l).extract 0 k = str (l.take k) := by
  apply ba_ext; rw [ba_cut, bytes_str, bytes_str, List.drop_zero]
theorem str_inj {a b : List UInt8} : str a = str b ↔ a = b := ⟨fun h => by rw [← bytes_str a, h, bytes_str], fun h => by rw [h]⟩
end Go.Proofs.Ytcnhhlnbmliihaa
