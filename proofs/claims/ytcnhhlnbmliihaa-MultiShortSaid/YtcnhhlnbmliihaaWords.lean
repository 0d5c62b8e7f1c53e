/- Words of 32 bits behind one name, and what the operations of the program do to them. No function of the program stands here. -/
import Derived.WalkKit
import Derived.Deep.QuietTactic
import Derived.BigQuiet
import Derived.Lib.Hide
import Derived.Outline
import Derived.OpenShut
import Derived.ProofKit
namespace Go.Proofs.Ytcnhhlnbmliihaa
open Go.RowKit
set_option linter.unusedVariables false
set_option linter.unusedSimpArgs false

/-- A word as the number that a slot holds. -/
def V (x : BitVec 32) : Int := (x.toNat : Int)
theorem V_lo (x : BitVec 32) : 0 ≤ V x := by unfold V; omega
theorem V_hi (x : BitVec 32) : V x < 4294967296 := by unfold V; have := x.isLt; omega
theorem V_ofInt (x : BitVec 32) : BitVec.ofInt 32 (V x) = x := by
  unfold V; rw [BitVec.ofInt_natCast]; simp
theorem V_mod (n : Int) : V (BitVec.ofInt 32 n) = n % 4294967296 := by
  unfold V; rw [BitVec.toNat_ofInt]; have : ((2 ^ 32 : Nat) : Int) = 4294967296 := by decide
  rw [this]; omega
theorem V_inj {x y : BitVec 32} (h : V x = V y) : x = y := by
  unfold V at h; exact BitVec.eq_of_toNat_eq (by omega)
theorem V_add (x y : BitVec 32) : (V x + V y) % 4294967296 = V (x + y) := by
  unfold V; rw [BitVec.toNat_add]; omega
theorem V_sub (x y : BitVec 32) : (V x - V y) % 4294967296 = V (x - y) := by
  unfold V; rw [BitVec.toNat_sub]; have := x.isLt; have := y.isLt; omega

theorem wrap32_V (n : Int) : IntKind.u32.wrap n = V (BitVec.ofInt 32 n) := by
  rw [IntKind.wrap_u32, V_mod]
theorem wrap64_V (x : BitVec 32) : IntKind.i64.wrap (V x) = V x := by
  have := V_lo x; have := V_hi x; rw [IntKind.wrap_i64]; omega
theorem V_beq (x y : BitVec 32) : (V x == V y) = (x == y) := by
  by_cases h : x = y
  · subst h; rw [beq_self_eq_true, beq_self_eq_true]
  · have : V x ≠ V y := fun e => h (V_inj e)
    rw [beq_eq_false_iff_ne.2 this, beq_eq_false_iff_ne.2 h]

/-! ### uint32 -/
theorem wrap_bv (x : BitVec 32) : IntKind.u32.wrap ((x.toNat : Nat) : Int) = V x := by
  rw [IntKind.wrap_u32]; unfold V; have := x.isLt; omega
theorem V_shl (x : BitVec 32) (n : Nat) : (V x * 2 ^ n) % 4294967296 = V (x <<< n) := by
  unfold V
  rw [BitVec.toNat_shiftLeft, Nat.shiftLeft_eq]
  have : ((x.toNat * 2 ^ n : Nat) : Int) = (x.toNat : Int) * 2 ^ n := by push_cast; rfl
  rw [← this]; omega
theorem V_shr (x : BitVec 32) (n : Nat) : V x / 2 ^ n = V (x >>> n) := by
  unfold V
  rw [BitVec.toNat_ushiftRight, Nat.shiftRight_eq_div_pow]
  have : ((2 ^ n : Nat) : Int) = (2 : Int) ^ n := by push_cast; rfl
  rw [← this]; omega
/-! ### words kept in an int: masked by 4294967295 -/
theorem ofInt64_mask (n : Int) : (BitVec.ofInt 64 n &&& BitVec.ofInt 64 4294967295).toNat = (BitVec.ofInt 32 n).toNat := by
  rw [BitVec.toNat_and, BitVec.toNat_ofInt, BitVec.toNat_ofInt, BitVec.toNat_ofInt]
  have e : ((4294967295 : Int) % ((2 ^ 64 : Nat) : Int)).toNat = 2 ^ 32 - 1 := by decide
  rw [e, Nat.and_two_pow_sub_one_eq_mod]
  have e1 : ((2 ^ 64 : Nat) : Int) = 18446744073709551616 := by decide
  have e2 : ((2 ^ 32 : Nat) : Int) = 4294967296 := by decide
  rw [e1, e2]
  omega
theorem V_of64 (x : BitVec 32) : BitVec.ofInt 64 (V x) = x.setWidth 64 := by
  unfold V; rw [BitVec.ofInt_natCast]; apply BitVec.eq_of_toNat_eq; simp [BitVec.toNat_setWidth]
theorem wrap64_sw (x : BitVec 32) : IntKind.i64.wrap (((x.setWidth 64).toNat : Nat) : Int) = V x := by
  have e : ((x.setWidth 64).toNat : Nat) = x.toNat := by simp [BitVec.toNat_setWidth]; have := x.isLt; omega
  rw [e]; exact wrap64_V x
theorem ofInt_addV (x y : BitVec 32) : BitVec.ofInt 32 (V x + V y) = x + y := by
  apply V_inj; rw [V_mod, V_add]
theorem ofInt_addVr (n : Int) (y : BitVec 32) : BitVec.ofInt 32 (n + V y) = BitVec.ofInt 32 n + y := by
  apply V_inj; rw [V_mod, ← V_add, V_mod]; omega
theorem ofInt_addVl (n : Int) (y : BitVec 32) : BitVec.ofInt 32 (V y + n) = y + BitVec.ofInt 32 n := by
  apply V_inj; rw [V_mod, ← V_add, V_mod]; omega

/-! ### the lowest 32 bits of what an int makes -/
theorem ofInt32_mod (n : Int) : BitVec.ofInt 32 (n % 18446744073709551616) = BitVec.ofInt 32 n := by
  apply V_inj; rw [V_mod, V_mod]; omega
theorem ofInt32_wrap64 (n : Int) : BitVec.ofInt 32 (wrap64 n) = BitVec.ofInt 32 n := by
  apply V_inj; rw [V_mod, V_mod]; unfold wrap64; omega
theorem ofInt32_toNat (y : BitVec 64) : BitVec.ofInt 32 ((y.toNat : Nat) : Int) = y.setWidth 32 := by
  rw [BitVec.ofInt_natCast]; apply BitVec.eq_of_toNat_eq; simp [BitVec.toNat_setWidth]
theorem sw_ofInt (n : Int) : (BitVec.ofInt 64 n).setWidth 32 = BitVec.ofInt 32 n := by
  rw [← ofInt32_toNat, BitVec.toNat_ofInt]
  have e1 : ((2 ^ 64 : Nat) : Int) = 18446744073709551616 := by decide
  have e2 : (((n % ((2 ^ 64 : Nat) : Int)).toNat : Nat) : Int) = n % 18446744073709551616 := by rw [e1]; omega
  rw [e2, ofInt32_mod]
theorem bits_or64 (a b : Int) : bits .or .i64 a b = wrap64 ((BitVec.ofInt 64 a ||| BitVec.ofInt 64 b).toNat : Nat) := by
  have h : bits .or .i64 a b = IntKind.i64.wrap ((BitVec.ofInt 64 a ||| BitVec.ofInt 64 b).toNat : Nat) := rfl
  rw [h, IntWalk.i64_left]
theorem bits_and64 (a b : Int) : bits .and .i64 a b = wrap64 ((BitVec.ofInt 64 a &&& BitVec.ofInt 64 b).toNat : Nat) := by
  have h : bits .and .i64 a b = IntKind.i64.wrap ((BitVec.ofInt 64 a &&& BitVec.ofInt 64 b).toNat : Nat) := rfl
  rw [h, IntWalk.i64_left]
theorem bits_xor64 (a b : Int) : bits .xor .i64 a b = wrap64 ((BitVec.ofInt 64 a ^^^ BitVec.ofInt 64 b).toNat : Nat) := by
  have h : bits .xor .i64 a b = IntKind.i64.wrap ((BitVec.ofInt 64 a ^^^ BitVec.ofInt 64 b).toNat : Nat) := rfl
  rw [h, IntWalk.i64_left]
theorem ofInt32_or (a b : Int) : BitVec.ofInt 32 (bits .or .i64 a b) = BitVec.ofInt 32 a ||| BitVec.ofInt 32 b := by
  rw [bits_or64, ofInt32_wrap64, ofInt32_toNat, BitVec.setWidth_or, sw_ofInt, sw_ofInt]
theorem ofInt32_and (a b : Int) : BitVec.ofInt 32 (bits .and .i64 a b) = BitVec.ofInt 32 a &&& BitVec.ofInt 32 b := by
  rw [bits_and64, ofInt32_wrap64, ofInt32_toNat, BitVec.setWidth_and, sw_ofInt, sw_ofInt]
theorem ofInt32_xor (a b : Int) : BitVec.ofInt 32 (bits .xor .i64 a b) = BitVec.ofInt 32 a ^^^ BitVec.ofInt 32 b := by
  rw [bits_xor64, ofInt32_wrap64, ofInt32_toNat, BitVec.setWidth_xor, sw_ofInt, sw_ofInt]
theorem ofInt32_mul (x : BitVec 32) (k : Nat) : BitVec.ofInt 32 (V x * 2 ^ k) = x <<< k := by
  apply V_inj; rw [V_mod, V_shl]
theorem ofInt32_div (x : BitVec 32) (k : Nat) : BitVec.ofInt 32 (V x / 2 ^ k) = x >>> k := by
  rw [V_shr, V_ofInt]

/-! ### the rules of the walk: each turns what the walk itself leaves of an operation on words into a word -/
theorem ofInt_subV (x y : BitVec 32) : BitVec.ofInt 32 (V x - V y) = x - y := by
  apply V_inj; rw [V_mod, V_sub]
theorem b_xor32 (x y : BitVec 32) : bits .xor .u32 (V x) (V y) = V (x ^^^ y) := by
  have h : bits .xor .u32 (V x) (V y) = IntKind.u32.wrap ((BitVec.ofInt 32 (V x) ^^^ BitVec.ofInt 32 (V y)).toNat : Nat) := rfl
  rw [h, V_ofInt, V_ofInt, wrap_bv]
theorem b_or32 (x y : BitVec 32) : bits .or .u32 (V x) (V y) = V (x ||| y) := by
  have h : bits .or .u32 (V x) (V y) = IntKind.u32.wrap ((BitVec.ofInt 32 (V x) ||| BitVec.ofInt 32 (V y)).toNat : Nat) := rfl
  rw [h, V_ofInt, V_ofInt, wrap_bv]
theorem b_and32 (x y : BitVec 32) : bits .and .u32 (V x) (V y) = V (x &&& y) := by
  have h : bits .and .u32 (V x) (V y) = IntKind.u32.wrap ((BitVec.ofInt 32 (V x) &&& BitVec.ofInt 32 (V y)).toNat : Nat) := rfl
  rw [h, V_ofInt, V_ofInt, wrap_bv]
theorem b_xor64 (x y : BitVec 32) : bits .xor .i64 (V x) (V y) = V (x ^^^ y) := by
  rw [bits_xor64, V_of64, V_of64, ← BitVec.setWidth_xor, ← IntWalk.i64_left, wrap64_sw]
theorem b_or64 (x y : BitVec 32) : bits .or .i64 (V x) (V y) = V (x ||| y) := by
  rw [bits_or64, V_of64, V_of64, ← BitVec.setWidth_or, ← IntWalk.i64_left, wrap64_sw]
theorem b_and64 (x y : BitVec 32) : bits .and .i64 (V x) (V y) = V (x &&& y) := by
  rw [bits_and64, V_of64, V_of64, ← BitVec.setWidth_and, ← IntWalk.i64_left, wrap64_sw]
theorem b_mask64 (n : Int) : bits .and .i64 n 4294967295 = V (BitVec.ofInt 32 n) := by
  rw [bits_and64, ofInt64_mask, ← IntWalk.i64_left]; exact wrap64_V _
theorem ofInt32_mul8 (x : BitVec 32) : BitVec.ofInt 32 (V x * (256 : Int)) = x <<< 8 := ofInt32_mul x 8
theorem ofInt32_mul16 (x : BitVec 32) : BitVec.ofInt 32 (V x * (65536 : Int)) = x <<< 16 := ofInt32_mul x 16
theorem ofInt32_mul24 (x : BitVec 32) : BitVec.ofInt 32 (V x * (16777216 : Int)) = x <<< 24 := ofInt32_mul x 24
theorem V_shr3 (x : BitVec 32) : V x / (8 : Int) = V (x >>> 3) := V_shr x 3
theorem V_shr8 (x : BitVec 32) : V x / (256 : Int) = V (x >>> 8) := V_shr x 8
theorem V_shr10 (x : BitVec 32) : V x / (1024 : Int) = V (x >>> 10) := V_shr x 10
theorem V_shr16 (x : BitVec 32) : V x / (65536 : Int) = V (x >>> 16) := V_shr x 16
theorem V_shr24 (x : BitVec 32) : V x / (16777216 : Int) = V (x >>> 24) := V_shr x 24
/-- A byte as a word. -/
def bw (b : UInt8) : BitVec 32 := BitVec.ofNat 32 b.toNat
theorem ofNat_byte (b : UInt8) : BitVec.ofNat 32 b.toNat = bw b := rfl
/-- The lowest byte of a word. -/
def lob (x : BitVec 32) : UInt8 := UInt8.ofNat x.toNat
theorem wrap8_V (x : BitVec 32) : IntKind.u8.wrap (V x) = (((lob x).toNat : Nat) : Int) := by
  rw [IntKind.wrap_u8]; unfold V lob; rw [UInt8.toNat_ofNat']; omega
/-- The byte at a place of a text; 0 behind its end. -/
def byteAt (s : ByteArray) (i : Nat) : UInt8 := s.data.toList.getD i 0
theorem byteAt_eq (s : ByteArray) (i : Nat) (h : i < s.size) : s[i] = byteAt s i := by
  unfold byteAt
  rw [List.getD_eq_getElem?_getD, List.getElem?_eq_getElem (by simpa using h)]
  rfl
attribute [go_sem] byteAt_eq ofInt32_mul8 ofInt32_mul16 ofInt32_mul24 V_shr3 V_shr8 V_shr10 V_shr16 V_shr24 ofNat_byte wrap8_V wrap32_V wrap64_V V_ofInt ofInt32_wrap64 ofInt_addV ofInt_subV ofInt32_mul V_shr b_xor32 b_or32 b_and32 b_xor64 b_or64 b_and64 b_mask64
end Go.Proofs.Ytcnhhlnbmliihaa
