/- Tags as plain functions on lists of bytes. No function of the program stands here. -/
import Derived.Test.YtbofmfocnbennaaSha
namespace Go.Proofs.Ytbofmfocnbennaa
open Go.RowKit
set_option linter.unusedVariables false
set_option linter.unusedSimpArgs false

/-- The key's bytes, or those of its sum. -/
def keyL (k : List UInt8) : List UInt8 := if 64 < k.length then sha k else k
theorem keyL_length (k : List UInt8) : (keyL k).length ≤ 64 := by
  unfold keyL; split
  · rw [sha_length]; omega
  · omega
def key64 (k : List UInt8) : List UInt8 := keyL k ++ List.replicate (64 - (keyL k).length) 0
theorem key64_length (k : List UInt8) : (key64 k).length = 64 := by
  have := keyL_length k
  unfold key64; rw [List.length_append, List.length_replicate]; omega
/-- A key of 64 bytes, each turned by a mark. -/
def padK (k : List UInt8) (m : UInt8) : List UInt8 := (key64 k).map (· ^^^ m)
theorem padK_length (k : List UInt8) (m : UInt8) : (padK k m).length = 64 := by unfold padK; rw [List.length_map, key64_length]
/-- The tag of a text by a key. -/
def tagL (k t : List UInt8) : List UInt8 := sha (padK k 92 ++ sha (padK k 54 ++ t))
theorem tagL_length (k t : List UInt8) : (tagL k t).length = 32 := sha_length _
theorem keyL_short (k : List UInt8) (h : k.length ≤ 64) : keyL k = k := by unfold keyL; rw [if_neg (by omega)]
theorem keyL_long (k : List UInt8) (h : 64 < k.length) : keyL k = sha k := by unfold keyL; rw [if_pos h]
theorem tagL_long (k t : List UInt8) (h : 64 < k.length) : tagL (sha k) t = tagL k t := by
  have e : key64 (sha k) = key64 k := by
    unfold key64; rw [keyL_long k h, keyL_short (sha k) (by rw [sha_length]; omega)]
  unfold tagL padK; rw [e]
theorem tagL_zero (k t : List UInt8) (h : k.length < 64) : tagL (k ++ [0]) t = tagL k t := by
  have e : key64 (k ++ [0]) = key64 k := by
    unfold key64
    rw [keyL_short k (by omega), keyL_short (k ++ [0]) (by rw [List.length_append]; simp; omega), List.length_append, List.append_assoc]
    have e2 : 64 - k.length = (64 - (k.length + 1)) + 1 := by omega
    rw [e2, List.replicate_succ]
    rfl
  unfold tagL padK; rw [e]
attribute [irreducible] keyL key64 padK tagL
end Go.Proofs.Ytbofmfocnbennaa
