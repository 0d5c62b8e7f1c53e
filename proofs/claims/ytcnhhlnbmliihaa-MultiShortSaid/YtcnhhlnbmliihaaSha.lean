/- SHA-256 as plain functions on lists of bytes. No function of the program stands here. -/
import Derived.Test.YtcnhhlnbmliihaaBe
namespace Go.Proofs.Ytcnhhlnbmliihaa
open Go.RowKit
set_option linter.unusedVariables false
set_option linter.unusedSimpArgs false

/-- A word turned to the right. -/
def rotr (x : BitVec 32) (n : Nat) : BitVec 32 := x >>> n ||| x <<< (32 - n)
def sgA (x : BitVec 32) : BitVec 32 := rotr x 7 ^^^ rotr x 18 ^^^ x >>> 3
def sgB (x : BitVec 32) : BitVec 32 := rotr x 17 ^^^ rotr x 19 ^^^ x >>> 10
def sgE (x : BitVec 32) : BitVec 32 := rotr x 6 ^^^ rotr x 11 ^^^ rotr x 25
def sgF (x : BitVec 32) : BitVec 32 := rotr x 2 ^^^ rotr x 13 ^^^ rotr x 22

/-- The state: eight words. -/
structure H8 where
  a : BitVec 32
  b : BitVec 32
  c : BitVec 32
  d : BitVec 32
  e : BitVec 32
  f : BitVec 32
  g : BitVec 32
  h : BitVec 32
def H8.list (s : H8) : List (BitVec 32) := [s.a, s.b, s.c, s.d, s.e, s.f, s.g, s.h]
def H8.add (s t : H8) : H8 := ⟨s.a + t.a, s.b + t.b, s.c + t.c, s.d + t.d, s.e + t.e, s.f + t.f, s.g + t.g, s.h + t.h⟩
def one (s : H8) (k w : BitVec 32) : BitVec 32 := s.h + sgE s.e + (s.e &&& s.f ^^^ ~~~ s.e &&& s.g) + k + w
def two (s : H8) : BitVec 32 := sgF s.a + (s.a &&& s.b ^^^ s.a &&& s.c ^^^ s.b &&& s.c)
/-- A round. -/
def H8.step (s : H8) (k w : BitVec 32) : H8 := ⟨one s k w + two s, s.a, s.b, s.c, s.d + one s k w, s.e, s.f, s.g⟩

/-- The numbers of the rounds. -/
def kList : List (BitVec 32) := [0x428a2f98, 0x71374491, 0xb5c0fbcf, 0xe9b5dba5, 0x3956c25b, 0x59f111f1, 0x923f82a4, 0xab1c5ed5, 0xd807aa98, 0x12835b01, 0x243185be, 0x550c7dc3, 0x72be5d74, 0x80deb1fe, 0x9bdc06a7, 0xc19bf174,
  0xe49b69c1, 0xefbe4786, 0x0fc19dc6, 0x240ca1cc, 0x2de92c6f, 0x4a7484aa, 0x5cb0a9dc, 0x76f988da, 0x983e5152, 0xa831c66d, 0xb00327c8, 0xbf597fc7, 0xc6e00bf3, 0xd5a79147, 0x06ca6351, 0x14292967,
  0x27b70a85, 0x2e1b2138, 0x4d2c6dfc, 0x53380d13, 0x650a7354, 0x766a0abb, 0x81c2c92e, 0x92722c85, 0xa2bfe8a1, 0xa81a664b, 0xc24b8b70, 0xc76c51a3, 0xd192e819, 0xd6990624, 0xf40e3585, 0x106aa070,
  0x19a4c116, 0x1e376c08, 0x2748774c, 0x34b0bcb5, 0x391c0cb3, 0x4ed8aa4a, 0x5b9cca4f, 0x682e6ff3, 0x748f82ee, 0x78a5636f, 0x84c87814, 0x8cc70208, 0x90befffa, 0xa4506ceb, 0xbef9a3f7, 0xc67178f2]
theorem kList_length : kList.length = 64 := rfl
def kAt (i : Nat) : BitVec 32 := kList.getD i 0
def hStart : H8 := ⟨0x6a09e667, 0xbb67ae85, 0x3c6ef372, 0xa54ff53a, 0x510e527f, 0x9b05688c, 0x1f83d9ab, 0x5be0cd19⟩

/-- The i-th word of 64 bytes. -/
def wAt (b : List UInt8) (i : Nat) : BitVec 32 := bw (b.getD (4 * i) 0) <<< 24 ||| bw (b.getD (4 * i + 1) 0) <<< 16 ||| bw (b.getD (4 * i + 2) 0) <<< 8 ||| bw (b.getD (4 * i + 3) 0)
def wNext (b : List UInt8) (l : List (BitVec 32)) (t : Nat) : BitVec 32 :=
  if t < 16 then wAt b t else l.getD (t - 16) 0 + sgA (l.getD (t - 15) 0) + l.getD (t - 7) 0 + sgB (l.getD (t - 2) 0)
/-- The words of the first rounds. -/
def sch (b : List UInt8) : Nat → List (BitVec 32)
  | 0 => []
  | t + 1 => sch b t ++ [wNext b (sch b t) t]
theorem sch_zero (b : List UInt8) : sch b 0 = [] := rfl
theorem sch_succ (b : List UInt8) (t : Nat) : sch b (t + 1) = sch b t ++ [wNext b (sch b t) t] := rfl
theorem sch_length (b : List UInt8) (t : Nat) : (sch b t).length = t := by
  induction t with
  | zero => rfl
  | succ t ih => rw [sch_succ, List.length_append, ih]; rfl
def rnds (s : H8) (W : List (BitVec 32)) : Nat → H8
  | 0 => s
  | t + 1 => (rnds s W t).step (kAt t) (W.getD t 0)
theorem rnds_zero (s : H8) (W : List (BitVec 32)) : rnds s W 0 = s := rfl
theorem rnds_succ (s : H8) (W : List (BitVec 32)) (t : Nat) : rnds s W (t + 1) = (rnds s W t).step (kAt t) (W.getD t 0) := rfl
/-- 64 bytes turned into a state. -/
def mixH (s : H8) (b : List UInt8) : H8 := s.add (rnds s (sch b 64) 64)
def blocks (s : H8) (l : List UInt8) : Nat → H8
  | 0 => s
  | k + 1 => mixH (blocks s l k) ((l.drop (64 * k)).take 64)
theorem blocks_zero (s : H8) (l : List UInt8) : blocks s l 0 = s := rfl
theorem blocks_succ (s : H8) (l : List UInt8) (k : Nat) : blocks s l (k + 1) = mixH (blocks s l k) ((l.drop (64 * k)).take 64) := rfl
theorem blocks_add (s : H8) (l : List UInt8) (j : Nat) : ∀ k, blocks s l (j + k) = blocks (blocks s l j) (l.drop (64 * j)) k
  | 0 => rfl
  | k + 1 => by
    have e : j + (k + 1) = (j + k) + 1 := by omega
    have e2 : 64 * (j + k) = 64 * j + 64 * k := by omega
    rw [e, blocks_succ, blocks_succ, blocks_add s l j k, List.drop_drop, e2]
theorem blocks_front (s : H8) (l m : List UInt8) : ∀ k, 64 * k ≤ l.length → blocks s (l ++ m) k = blocks s l k
  | 0, _ => rfl
  | k + 1, h => by
    rw [blocks_succ, blocks_succ, blocks_front s l m k (by omega), List.drop_append_of_le_length (by omega), List.take_append_of_le_length (by rw [List.length_drop]; omega)]
theorem blocks_one (s : H8) (l : List UInt8) : blocks s l 1 = mixH s (l.take 64) := by
  rw [blocks_succ, blocks_zero]; rfl
/-- A word's bytes. -/
def wby (x : BitVec 32) : List UInt8 := [lob (x >>> 24), lob (x >>> 16), lob (x >>> 8), lob x]
def H8.bytes (s : H8) : List UInt8 := wby s.a ++ wby s.b ++ wby s.c ++ wby s.d ++ wby s.e ++ wby s.f ++ wby s.g ++ wby s.h
theorem H8.bytes_length (s : H8) : s.bytes.length = 32 := rfl
/-- How many zeros stand behind. -/
def zpad (n : Nat) : Nat := (119 - n % 64) % 64
def padded (t : List UInt8) : List UInt8 := t ++ [0x80] ++ List.replicate (zpad t.length) 0 ++ be (8 * (t.length : Int)) 8
theorem padded_length (t : List UInt8) : (padded t).length = t.length + zpad t.length + 9 := by
  unfold padded
  simp only [List.length_append, List.length_cons, List.length_nil, List.length_replicate, be_length]
  omega
theorem padded_mod (t : List UInt8) : (padded t).length % 64 = 0 := by
  rw [padded_length]; unfold zpad; omega
/-- The sum of a text. -/
def sha (t : List UInt8) : List UInt8 := (blocks hStart (padded t) ((padded t).length / 64)).bytes
theorem sha_length (t : List UInt8) : (sha t).length = 32 := rfl

/-- What a text leaves behind its whole blocks. -/
def rest (t : List UInt8) : List UInt8 := t.drop (64 * (t.length / 64))
def done (t : List UInt8) : H8 := blocks hStart t (t.length / 64)
theorem rest_length (t : List UInt8) : (rest t).length = t.length % 64 := by unfold rest; rw [List.length_drop]; omega
/-- What is pending, and what comes, is that of the whole. -/
theorem done_append (t s : List UInt8) : done (t ++ s) = blocks (done t) (rest t ++ s) ((rest t ++ s).length / 64) := by
  have h1 : (t ++ s).length / 64 = t.length / 64 + (rest t ++ s).length / 64 := by
    rw [List.length_append, List.length_append, rest_length]; omega
  unfold done
  rw [h1, blocks_add, blocks_front _ _ _ _ (by omega), List.drop_append_of_le_length (by omega)]
  rfl
theorem rest_append (t s : List UInt8) : rest (t ++ s) = (rest t ++ s).drop (64 * ((rest t ++ s).length / 64)) := by
  have h1 : (t ++ s).length / 64 = t.length / 64 + (rest t ++ s).length / 64 := by
    rw [List.length_append, List.length_append, rest_length]; omega
  have h2 : rest t ++ s = (t ++ s).drop (64 * (t.length / 64)) := by
    unfold rest; rw [List.drop_append_of_le_length (by omega)]
  unfold rest
  rw [h1]
  have e : (List.drop (64 * (t.length / 64)) t ++ s) = (t ++ s).drop (64 * (t.length / 64)) := by rw [List.drop_append_of_le_length (by omega)]
  rw [e, List.drop_drop]
  congr 1
  rw [← e]
  have : (List.drop (64 * (t.length / 64)) t ++ s).length = (rest t ++ s).length := rfl
  rw [this]; omega
/-- The tail that is summed at the end. -/
def tailP (t : List UInt8) : List UInt8 := rest t ++ [0x80] ++ List.replicate (zpad t.length) 0 ++ be (8 * (t.length : Int)) 8
theorem padded_drop (t : List UInt8) : (padded t).drop (64 * (t.length / 64)) = tailP t := by
  unfold padded tailP rest
  rw [List.append_assoc, List.append_assoc, List.append_assoc, List.append_assoc, List.drop_append_of_le_length (by omega)]
theorem tailP_length (t : List UInt8) : (tailP t).length = t.length % 64 + zpad t.length + 9 := by
  unfold tailP
  simp only [List.length_append, List.length_cons, List.length_nil, List.length_replicate, be_length, rest_length]
  omega
theorem tailP_mod (t : List UInt8) : (tailP t).length % 64 = 0 := by
  rw [tailP_length]; unfold zpad; omega
theorem sha_tail (t : List UInt8) : sha t = (blocks (done t) (tailP t) ((tailP t).length / 64)).bytes := by
  unfold sha
  have h1 : (padded t).length / 64 = t.length / 64 + (tailP t).length / 64 := by
    rw [padded_length, tailP_length]; unfold zpad; omega
  rw [h1, blocks_add, padded_drop]
  congr 2
  unfold done padded
  rw [List.append_assoc, List.append_assoc, blocks_front _ _ _ _ (by omega)]
theorem zpad_stop (n z : Nat) (hz : z ≤ zpad n) : ((n % 64 + 1 + z) % 64 = 56) ↔ z = zpad n := by
  unfold zpad at *; omega
theorem zpad_lt (n : Nat) : zpad n < 64 := by unfold zpad; omega
attribute [irreducible] sch rnds blocks mixH rotr sgA sgB sgE sgF padded tailP zpad kAt one two wAt wNext
end Go.Proofs.Ytcnhhlnbmliihaa
