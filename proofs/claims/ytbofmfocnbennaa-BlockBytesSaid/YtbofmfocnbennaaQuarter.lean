/- What chacha.Quarter, chacha.Back and their parts compute, and the same of the reference. -/
import Derived.Test.YtbofmfocnbennaaWords
import Derived.Test.YtbofmfocnbennaaRows
namespace Go.Proofs.Ytbofmfocnbennaa
open Go.RowKit
set_option maxRecDepth 100000
set_option linter.unusedVariables false
set_option linter.unusedSimpArgs false



theorem results_tmp4 {fn : Func} {t u v x : Tmp} (h : fn.results = #[.tmp t, .tmp u, .tmp v, .tmp x]) (tmps : Array Value) (P : Program) (w : World) :
    (results fn tmps).run P w = .ok (.tuple #[tmps.getD t undef, tmps.getD u undef, tmps.getD v undef, tmps.getD x undef]) w := by
  simp [results, h]

def rotl (x : BitVec 32) (n : Nat) : BitVec 32 := x <<< n ||| x >>> (32 - n)

theorem cturn (x : BitVec 32) (n : Int) (w : World) (h0 : 0 ≤ n) (h1 : n ≤ 32) :
    Calls Try.prog 83 #[.int .u32 (V x), .int .i64 n] w fun e w' =>
      e = .returned (.int .u32 (V (rotl x n.toNat))) ∧ ∃ m, w' = w.drewN m := by
  have h2 : 32 - n ≤ 32 := by omega
  have e : (32 - n).toNat = 32 - n.toNat := by omega
  have E := Lib.hid e
  clear e
  go_enter Try.func83, Try.ntmps83
  go_wp2_with fail
  go_quiet (fail)
  go_wp2
  go_ret
  exact ⟨by rw [rotl, ← E.out]; rfl, nq, rfl⟩

/-- The quarter round. -/
def qr (a b c d : BitVec 32) : BitVec 32 × BitVec 32 × BitVec 32 × BitVec 32 :=
  let a := a + b
  let d := rotl (d ^^^ a) 16
  let c := c + d
  let b := rotl (b ^^^ c) 12
  let a := a + b
  let d := rotl (d ^^^ a) 8
  let c := c + d
  let b := rotl (b ^^^ c) 7
  (a, b, c, d)

theorem cquarter (a b c d : BitVec 32) (w : World) :
    Calls Try.prog 81 #[.int .u32 (V a), .int .u32 (V b), .int .u32 (V c), .int .u32 (V d)] w fun e w' =>
      e = .returned (.tuple #[.int .u32 (V (qr a b c d).1), .int .u32 (V (qr a b c d).2.1), .int .u32 (V (qr a b c d).2.2.1), .int .u32 (V (qr a b c d).2.2.2)]) ∧ ∃ m, w' = w.drewN m := by
  go_enter Try.func81, Try.ntmps81
  go_wp2_with (go_at_call 83; ((with_reducible refine (cturn _ _ _ (by decide) (by decide)).mono ?_); rintro e w' ⟨rfl, m, rfl⟩))
  refine bodyPost_ret (results_tmp4 rfl _ _ _) rfl ⟨rfl, ?_⟩
  exact ⟨_, rfl⟩

/-- The quarter round backwards. -/
def rq (w x y z : BitVec 32) : BitVec 32 × BitVec 32 × BitVec 32 × BitVec 32 :=
  let x := rotl x 25 ^^^ y
  let y := y - z
  let z := rotl z 24 ^^^ w
  let w := w - x
  let x := rotl x 20 ^^^ y
  let y := y - z
  let z := rotl z 16 ^^^ w
  let w := w - x
  (w, x, y, z)

theorem crotl (x : BitVec 32) (n : Int) (w : World) (h0 : 0 ≤ n) (h1 : n ≤ 32) :
    Calls Try.prog 82 #[.int .i64 (V x), .int .i64 n] w fun e w' =>
      e = .returned (.int .i64 (V (rotl x n.toNat))) ∧ ∃ m, w' = w.drewN m := by
  have h2 : 32 - n ≤ 64 := by omega
  have h3 : n ≤ 64 := by omega
  have e : (32 - n).toNat = 32 - n.toNat := by omega
  have E := Lib.hid e
  clear e
  go_enter Try.func82, Try.ntmps82
  go_wp2_with fail
  go_quiet (fail)
  go_wp2
  go_ret
  refine ⟨?_, nq, rfl⟩
  show Ending.returned (Value.int IntKind.i64 (V (BitVec.ofInt 32 (bits BinOp.or IntKind.i64 (wrap64 (V x * 2 ^ n.toNat)) (V (x >>> (32 - n).toNat)))))) = _
  rw [ofInt32_or, ofInt32_wrap64, ofInt32_mul, V_ofInt, E.out]
  rfl

theorem cRefQuarter (a b c d : Int) (w : World) :
    Calls Try.prog 76 #[.int .i64 a, .int .i64 b, .int .i64 c, .int .i64 d] w fun e w' =>
      e = .returned (.tuple #[.int .i64 (V (qr (.ofInt 32 a) (.ofInt 32 b) (.ofInt 32 c) (.ofInt 32 d)).1), .int .i64 (V (qr (.ofInt 32 a) (.ofInt 32 b) (.ofInt 32 c) (.ofInt 32 d)).2.1),
        .int .i64 (V (qr (.ofInt 32 a) (.ofInt 32 b) (.ofInt 32 c) (.ofInt 32 d)).2.2.1), .int .i64 (V (qr (.ofInt 32 a) (.ofInt 32 b) (.ofInt 32 c) (.ofInt 32 d)).2.2.2)]) ∧ ∃ m, w' = w.drewN m := by
  go_enter Try.func76, Try.ntmps76
  go_wp2_with (go_at_call 82; ((with_reducible refine (crotl _ _ _ (by decide) (by decide)).mono ?_); rintro e w' ⟨rfl, m, rfl⟩))
  refine bodyPost_ret (results_tmp4 rfl _ _ _) rfl ⟨rfl, ?_⟩
  exact ⟨_, rfl⟩

/-! ### the laws -/
theorem awake_qr : qr (BitVec.ofInt 32 286331153) (BitVec.ofInt 32 16909060) (BitVec.ofInt 32 2609737539) (BitVec.ofInt 32 19088743) =
    (BitVec.ofInt 32 3928658676, BitVec.ofInt 32 3407673550, BitVec.ofInt 32 1166100270, BitVec.ofInt 32 1484899515) := by decide +kernel

theorem below_drewN' (w : World) (m : Nat) : Below w.heap.size w (w.drewN m) := by
  exact ⟨rfl, rfl, rfl, Nat.le_refl _, fun _ _ => rfl⟩

theorem rotl_bit (x : BitVec 32) (n i : Nat) (hn : n ≤ 32) (hi : i < 32) : (rotl x n).getLsbD i = if i < n then x.getLsbD (32 - n + i) else x.getLsbD (i - n) := by
  unfold rotl
  rw [BitVec.getLsbD_or, BitVec.getLsbD_shiftLeft, BitVec.getLsbD_ushiftRight]
  by_cases h : i < n
  · simp [h]
  · have e : x.getLsbD (32 - n + i) = false := BitVec.getLsbD_of_ge _ _ (by omega)
    simp [h, hi, e]
theorem rotl_rotl (x : BitVec 32) (n m : Nat) (h : n + m = 32) : rotl (rotl x n) m = x := by
  apply BitVec.eq_of_getLsbD_eq
  intro i hi
  rw [rotl_bit _ _ _ (by omega) hi]
  by_cases hm : i < m
  · rw [if_pos hm, rotl_bit _ _ _ (by omega) (by omega), if_neg (by omega)]
    congr 1; omega
  · rw [if_neg hm, rotl_bit _ _ _ (by omega) (by omega), if_pos (by omega)]
    congr 1; omega
theorem xor_back (x y : BitVec 32) : (x ^^^ y) ^^^ y = x := by rw [BitVec.xor_assoc, BitVec.xor_self, BitVec.xor_zero]
theorem rq_qr (a b c d : BitVec 32) : rq (qr a b c d).1 (qr a b c d).2.1 (qr a b c d).2.2.1 (qr a b c d).2.2.2 = (a, b, c, d) := by
  simp only [qr, rq, rotl_rotl _ 7 25 rfl, rotl_rotl _ 8 24 rfl, rotl_rotl _ 12 20 rfl, rotl_rotl _ 16 16 rfl, xor_back, BitVec.add_sub_cancel]
theorem qr_rq (a b c d : BitVec 32) : qr (rq a b c d).1 (rq a b c d).2.1 (rq a b c d).2.2.1 (rq a b c d).2.2.2 = (a, b, c, d) := by
  simp only [qr, rq, BitVec.sub_add_cancel, xor_back, rotl_rotl _ 25 7 rfl, rotl_rotl _ 24 8 rfl, rotl_rotl _ 20 12 rfl, rotl_rotl _ 16 16 rfl]

end Go.Proofs.Ytbofmfocnbennaa
