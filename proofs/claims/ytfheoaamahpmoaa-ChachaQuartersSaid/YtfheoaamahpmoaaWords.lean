/- Words of 32 bits behind one name, and what the operations of the program do to them. No function of the program stands here. -/
import Derived.WalkKit
import Derived.Deep.QuietTactic
import Derived.BigQuiet
import Derived.Lib.Hide
import Derived.Outline
import Derived.OpenShut
import Derived.ProofKit
namespace Go.Proofs.Ytfheoaamahpmoaa
open Go.RowKit

/-- A word as the number that a slot holds. -/
def V (x : BitVec 32) : Int := (x.toNat : Int)
theorem V_lo (x : BitVec 32) : 0 ≤ V x := by unfold V; omega
theorem V_hi (x : BitVec 32) : V x < 4294967296 := by unfold V; have := x.isLt; omega
theorem V_ofInt (x : BitVec 32) : BitVec.ofInt 32 (V x) = x := by
  unfold V; rw [BitVec.ofInt_natCast]; simp
theorem V_mod (n : Int) : V (BitVec.ofInt 32 n) = n % 4294967296 := by
  unfold V; rw [BitVec.toNat_ofInt]; have : ((2 ^ 32 : Nat) : Int) = 4294967296 := by decide
  rw [this]; omega
theorem V_inj {x y : BitVec 32} (h : V x = V y) : x = y := by
  unfold V at h; exact BitVec.eq_of_toNat_eq (by omega)
theorem V_add (x y : BitVec 32) : (V x + V y) % 4294967296 = V (x + y) := by
  unfold V; rw [BitVec.toNat_add]; omega
theorem V_sub (x y : BitVec 32) : (V x - V y) % 4294967296 = V (x - y) := by
  unfold V; rw [BitVec.toNat_sub]; have := x.isLt; have := y.isLt; omega

theorem wrap32_V (n : Int) : IntKind.u32.wrap n = V (BitVec.ofInt 32 n) := by
  rw [IntKind.wrap_u32, V_mod]
theorem wrap64_V (x : BitVec 32) : IntKind.i64.wrap (V x) = V x := by
  have := V_lo x; have := V_hi x; rw [IntKind.wrap_i64]; omega
theorem V_beq (x y : BitVec 32) : (V x == V y) = (x == y) := by
  by_cases h : x = y
  · subst h; rw [beq_self_eq_true, beq_self_eq_true]
  · have : V x ≠ V y := fun e => h (V_inj e)
    rw [beq_eq_false_iff_ne.2 this, beq_eq_false_iff_ne.2 h]

/-! ### uint32 -/
theorem u32_add (t : TypeId) (x y : BitVec 32) : binOp .add t (.int .u32 (V x)) (.int .u32 (V y)) = pure (.int .u32 (V (x + y))) := by
  have h : binOp .add t (.int .u32 (V x)) (.int .u32 (V y)) = pure (.int .u32 (IntKind.u32.wrap (V x + V y))) := rfl
  rw [h, IntKind.wrap_u32, V_add]
theorem u32_sub (t : TypeId) (x y : BitVec 32) : binOp .sub t (.int .u32 (V x)) (.int .u32 (V y)) = pure (.int .u32 (V (x - y))) := by
  have h : binOp .sub t (.int .u32 (V x)) (.int .u32 (V y)) = pure (.int .u32 (IntKind.u32.wrap (V x - V y))) := rfl
  rw [h, IntKind.wrap_u32, V_sub]
theorem wrap_bv (x : BitVec 32) : IntKind.u32.wrap ((x.toNat : Nat) : Int) = V x := by
  rw [IntKind.wrap_u32]; unfold V; have := x.isLt; omega
theorem u32_xor (t : TypeId) (x y : BitVec 32) : binOp .xor t (.int .u32 (V x)) (.int .u32 (V y)) = pure (.int .u32 (V (x ^^^ y))) := by
  have h : binOp .xor t (.int .u32 (V x)) (.int .u32 (V y)) = pure (.int .u32 (IntKind.u32.wrap ((BitVec.ofInt 32 (V x) ^^^ BitVec.ofInt 32 (V y)).toNat : Nat))) := by
    rfl
  rw [h, V_ofInt, V_ofInt, wrap_bv]
theorem u32_or (t : TypeId) (x y : BitVec 32) : binOp .or t (.int .u32 (V x)) (.int .u32 (V y)) = pure (.int .u32 (V (x ||| y))) := by
  have h : binOp .or t (.int .u32 (V x)) (.int .u32 (V y)) = pure (.int .u32 (IntKind.u32.wrap ((BitVec.ofInt 32 (V x) ||| BitVec.ofInt 32 (V y)).toNat : Nat))) := by
    rfl
  rw [h, V_ofInt, V_ofInt, wrap_bv]
theorem u32_and (t : TypeId) (x y : BitVec 32) : binOp .and t (.int .u32 (V x)) (.int .u32 (V y)) = pure (.int .u32 (V (x &&& y))) := by
  have h : binOp .and t (.int .u32 (V x)) (.int .u32 (V y)) = pure (.int .u32 (IntKind.u32.wrap ((BitVec.ofInt 32 (V x) &&& BitVec.ofInt 32 (V y)).toNat : Nat))) := by
    rfl
  rw [h, V_ofInt, V_ofInt, wrap_bv]
theorem V_shl (x : BitVec 32) (n : Nat) : (V x * 2 ^ n) % 4294967296 = V (x <<< n) := by
  unfold V
  rw [BitVec.toNat_shiftLeft, Nat.shiftLeft_eq]
  have : ((x.toNat * 2 ^ n : Nat) : Int) = (x.toNat : Int) * 2 ^ n := by push_cast; rfl
  rw [← this]; omega
theorem V_shr (x : BitVec 32) (n : Nat) : V x / 2 ^ n = V (x >>> n) := by
  unfold V
  rw [BitVec.toNat_ushiftRight, Nat.shiftRight_eq_div_pow]
  have : ((2 ^ n : Nat) : Int) = (2 : Int) ^ n := by push_cast; rfl
  rw [← this]; omega
theorem u32_shl (t : TypeId) (x : BitVec 32) (k : IntKind) (n : Int) (h0 : 0 ≤ n) (h1 : n ≤ 32) : binOp .shl t (.int .u32 (V x)) (.int k n) = pure (.int .u32 (V (x <<< n.toNat))) := by
  have e : min n.toNat 32 = n.toNat := by omega
  have h : binOp .shl t (.int .u32 (V x)) (.int k n) = Op.shift .shl .u32 (V x) k n := rfl
  have b : IntKind.u32.bits = 32 := rfl
  rw [h, shift_shl_any _ _ _ _ h0, b, e, IntKind.wrap_u32, V_shl]
theorem u32_shr (t : TypeId) (x : BitVec 32) (k : IntKind) (n : Int) (h0 : 0 ≤ n) (h1 : n ≤ 32) : binOp .shr t (.int .u32 (V x)) (.int k n) = pure (.int .u32 (V (x >>> n.toNat))) := by
  have e : min n.toNat 32 = n.toNat := by omega
  have h : binOp .shr t (.int .u32 (V x)) (.int k n) = Op.shift .shr .u32 (V x) k n := rfl
  have b : IntKind.u32.bits = 32 := rfl
  rw [h, shift_shr_any _ _ _ _ h0, b, e, V_shr]
theorem conv_u32 (n : Int) : Conv.intToInt .u32 n = pure (.int .u32 (V (BitVec.ofInt 32 n))) := by
  simp [Conv.intToInt, wrap32_V]
theorem conv_u32_V (x : BitVec 32) : Conv.intToInt .u32 (V x) = pure (.int .u32 (V x)) := by
  rw [conv_u32, V_ofInt]
theorem conv_i64_V (x : BitVec 32) : Conv.intToInt .i64 (V x) = pure (.int .i64 (V x)) := by
  simp [Conv.intToInt, wrap64_V]

/-! ### words kept in an int: masked by 4294967295 -/
theorem ofInt64_mask (n : Int) : (BitVec.ofInt 64 n &&& BitVec.ofInt 64 4294967295).toNat = (BitVec.ofInt 32 n).toNat := by
  rw [BitVec.toNat_and, BitVec.toNat_ofInt, BitVec.toNat_ofInt, BitVec.toNat_ofInt]
  have e : ((4294967295 : Int) % ((2 ^ 64 : Nat) : Int)).toNat = 2 ^ 32 - 1 := by decide
  rw [e, Nat.and_two_pow_sub_one_eq_mod]
  have e1 : ((2 ^ 64 : Nat) : Int) = 18446744073709551616 := by decide
  have e2 : ((2 ^ 32 : Nat) : Int) = 4294967296 := by decide
  rw [e1, e2]
  omega
theorem i64_mask (t : TypeId) (n : Int) : binOp .and t (.int .i64 n) (.int .i64 4294967295) = pure (.int .i64 (V (BitVec.ofInt 32 n))) := by
  have h : binOp .and t (.int .i64 n) (.int .i64 4294967295) = pure (.int .i64 (IntKind.i64.wrap ((BitVec.ofInt 64 n &&& BitVec.ofInt 64 4294967295).toNat : Nat))) := by
    rfl
  rw [h, ofInt64_mask]
  exact congrArg _ (congrArg _ (wrap64_V _))
theorem V_of64 (x : BitVec 32) : BitVec.ofInt 64 (V x) = x.setWidth 64 := by
  unfold V; rw [BitVec.ofInt_natCast]; apply BitVec.eq_of_toNat_eq; simp [BitVec.toNat_setWidth]
theorem wrap64_sw (x : BitVec 32) : IntKind.i64.wrap (((x.setWidth 64).toNat : Nat) : Int) = V x := by
  have e : ((x.setWidth 64).toNat : Nat) = x.toNat := by simp [BitVec.toNat_setWidth]; have := x.isLt; omega
  rw [e]; exact wrap64_V x
theorem i64_xor (t : TypeId) (x y : BitVec 32) : binOp .xor t (.int .i64 (V x)) (.int .i64 (V y)) = pure (.int .i64 (V (x ^^^ y))) := by
  have h : binOp .xor t (.int .i64 (V x)) (.int .i64 (V y)) = pure (.int .i64 (IntKind.i64.wrap ((BitVec.ofInt 64 (V x) ^^^ BitVec.ofInt 64 (V y)).toNat : Nat))) := by
    rfl
  rw [h, V_of64, V_of64, ← BitVec.setWidth_xor, wrap64_sw]
theorem i64_or (t : TypeId) (x y : BitVec 32) : binOp .or t (.int .i64 (V x)) (.int .i64 (V y)) = pure (.int .i64 (V (x ||| y))) := by
  have h : binOp .or t (.int .i64 (V x)) (.int .i64 (V y)) = pure (.int .i64 (IntKind.i64.wrap ((BitVec.ofInt 64 (V x) ||| BitVec.ofInt 64 (V y)).toNat : Nat))) := by
    rfl
  rw [h, V_of64, V_of64, ← BitVec.setWidth_or, wrap64_sw]
theorem i64_and (t : TypeId) (x y : BitVec 32) : binOp .and t (.int .i64 (V x)) (.int .i64 (V y)) = pure (.int .i64 (V (x &&& y))) := by
  have h : binOp .and t (.int .i64 (V x)) (.int .i64 (V y)) = pure (.int .i64 (IntKind.i64.wrap ((BitVec.ofInt 64 (V x) &&& BitVec.ofInt 64 (V y)).toNat : Nat))) := by
    rfl
  rw [h, V_of64, V_of64, ← BitVec.setWidth_and, wrap64_sw]
theorem ofInt_addV (x y : BitVec 32) : BitVec.ofInt 32 (V x + V y) = x + y := by
  apply V_inj; rw [V_mod, V_add]
theorem ofInt_addVr (n : Int) (y : BitVec 32) : BitVec.ofInt 32 (n + V y) = BitVec.ofInt 32 n + y := by
  apply V_inj; rw [V_mod, ← V_add, V_mod]; omega
theorem ofInt_addVl (n : Int) (y : BitVec 32) : BitVec.ofInt 32 (V y + n) = y + BitVec.ofInt 32 n := by
  apply V_inj; rw [V_mod, ← V_add, V_mod]; omega

/-! ### the lowest 32 bits of what an int makes -/
theorem ofInt32_mod (n : Int) : BitVec.ofInt 32 (n % 18446744073709551616) = BitVec.ofInt 32 n := by
  apply V_inj; rw [V_mod, V_mod]; omega
theorem ofInt32_wrap64 (n : Int) : BitVec.ofInt 32 (wrap64 n) = BitVec.ofInt 32 n := by
  apply V_inj; rw [V_mod, V_mod]; unfold wrap64; omega
theorem ofInt32_toNat (y : BitVec 64) : BitVec.ofInt 32 ((y.toNat : Nat) : Int) = y.setWidth 32 := by
  rw [BitVec.ofInt_natCast]; apply BitVec.eq_of_toNat_eq; simp [BitVec.toNat_setWidth]
theorem sw_ofInt (n : Int) : (BitVec.ofInt 64 n).setWidth 32 = BitVec.ofInt 32 n := by
  rw [← ofInt32_toNat, BitVec.toNat_ofInt]
  have e1 : ((2 ^ 64 : Nat) : Int) = 18446744073709551616 := by decide
  have e2 : (((n % ((2 ^ 64 : Nat) : Int)).toNat : Nat) : Int) = n % 18446744073709551616 := by rw [e1]; omega
  rw [e2, ofInt32_mod]
theorem bits_or64 (a b : Int) : bits .or .i64 a b = wrap64 ((BitVec.ofInt 64 a ||| BitVec.ofInt 64 b).toNat : Nat) := by
  have h : bits .or .i64 a b = IntKind.i64.wrap ((BitVec.ofInt 64 a ||| BitVec.ofInt 64 b).toNat : Nat) := rfl
  rw [h, IntWalk.i64_left]
theorem bits_and64 (a b : Int) : bits .and .i64 a b = wrap64 ((BitVec.ofInt 64 a &&& BitVec.ofInt 64 b).toNat : Nat) := by
  have h : bits .and .i64 a b = IntKind.i64.wrap ((BitVec.ofInt 64 a &&& BitVec.ofInt 64 b).toNat : Nat) := rfl
  rw [h, IntWalk.i64_left]
theorem bits_xor64 (a b : Int) : bits .xor .i64 a b = wrap64 ((BitVec.ofInt 64 a ^^^ BitVec.ofInt 64 b).toNat : Nat) := by
  have h : bits .xor .i64 a b = IntKind.i64.wrap ((BitVec.ofInt 64 a ^^^ BitVec.ofInt 64 b).toNat : Nat) := rfl
  rw [h, IntWalk.i64_left]
theorem ofInt32_or (a b : Int) : BitVec.ofInt 32 (bits .or .i64 a b) = BitVec.ofInt 32 a ||| BitVec.ofInt 32 b := by
  rw [bits_or64, ofInt32_wrap64, ofInt32_toNat, BitVec.setWidth_or, sw_ofInt, sw_ofInt]
theorem ofInt32_and (a b : Int) : BitVec.ofInt 32 (bits .and .i64 a b) = BitVec.ofInt 32 a &&& BitVec.ofInt 32 b := by
  rw [bits_and64, ofInt32_wrap64, ofInt32_toNat, BitVec.setWidth_and, sw_ofInt, sw_ofInt]
theorem ofInt32_xor (a b : Int) : BitVec.ofInt 32 (bits .xor .i64 a b) = BitVec.ofInt 32 a ^^^ BitVec.ofInt 32 b := by
  rw [bits_xor64, ofInt32_wrap64, ofInt32_toNat, BitVec.setWidth_xor, sw_ofInt, sw_ofInt]
theorem ofInt32_mul (x : BitVec 32) (k : Nat) : BitVec.ofInt 32 (V x * 2 ^ k) = x <<< k := by
  apply V_inj; rw [V_mod, V_shl]
theorem ofInt32_div (x : BitVec 32) (k : Nat) : BitVec.ofInt 32 (V x / 2 ^ k) = x >>> k := by
  rw [V_shr, V_ofInt]
attribute [go_sem high] u32_add u32_sub u32_xor u32_or u32_and u32_shl u32_shr i64_mask i64_xor i64_or i64_and ofInt_addV wrap32_V wrap64_V V_ofInt ofInt32_wrap64
end Go.Proofs.Ytfheoaamahpmoaa
