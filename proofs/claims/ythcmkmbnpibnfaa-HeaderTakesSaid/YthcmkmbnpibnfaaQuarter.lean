/- What chacha.Quarter, chacha.Back and their parts compute, and the same of the reference. -/
import Derived.Test.YthcmkmbnpibnfaaWords
import Derived.Test.YthcmkmbnpibnfaaRows
namespace Go.Proofs.Ythcmkmbnpibnfaa
open Go.RowKit



theorem results_tmp4 {fn : Func} {t u v x : Tmp} (h : fn.results = #[.tmp t, .tmp u, .tmp v, .tmp x]) (tmps : Array Value) (P : Program) (w : World) :
    (results fn tmps).run P w = .ok (.tuple #[tmps.getD t undef, tmps.getD u undef, tmps.getD v undef, tmps.getD x undef]) w := by
  simp [results, h]

def rotl (x : BitVec 32) (n : Nat) : BitVec 32 := x <<< n ||| x >>> (32 - n)

theorem cturn (x : BitVec 32) (n : Int) (w : World) (h0 : 0 ≤ n) (h1 : n ≤ 32) :
    Calls Try.prog 34 #[.int .u32 (V x), .int .i64 n] w fun e w' =>
      e = .returned (.int .u32 (V (rotl x n.toNat))) ∧ ∃ m, w' = w.drewN m := by
  have h2 : 32 - n ≤ 32 := by omega
  have e : (32 - n).toNat = 32 - n.toNat := by omega
  have E := Lib.hid e
  clear e
  go_enter Try.func34, Try.ntmps34
  go_wp2_with fail
  go_quiet (fail)
  go_wp2
  go_ret
  exact ⟨by rw [rotl, ← E.out]; rfl, nq, rfl⟩

/-- The quarter round. -/
def qr (a b c d : BitVec 32) : BitVec 32 × BitVec 32 × BitVec 32 × BitVec 32 :=
  let a := a + b
  let d := rotl (d ^^^ a) 16
  let c := c + d
  let b := rotl (b ^^^ c) 12
  let a := a + b
  let d := rotl (d ^^^ a) 8
  let c := c + d
  let b := rotl (b ^^^ c) 7
  (a, b, c, d)

theorem cquarter (a b c d : BitVec 32) (w : World) :
    Calls Try.prog 28 #[.int .u32 (V a), .int .u32 (V b), .int .u32 (V c), .int .u32 (V d)] w fun e w' =>
      e = .returned (.tuple #[.int .u32 (V (qr a b c d).1), .int .u32 (V (qr a b c d).2.1), .int .u32 (V (qr a b c d).2.2.1), .int .u32 (V (qr a b c d).2.2.2)]) ∧ ∃ m, w' = w.drewN m := by
  go_enter Try.func28, Try.ntmps28
  go_wp2_with (go_at_call 34; ((with_reducible refine (cturn _ _ _ (by decide) (by decide)).mono ?_); rintro e w' ⟨rfl, m, rfl⟩))
  refine bodyPost_ret (results_tmp4 rfl _ _ _) rfl ⟨rfl, ?_⟩
  exact ⟨_, rfl⟩

theorem cQuarter (a b c d : Int) (w : World) :
    Calls Try.prog 12 #[.int .i64 a, .int .i64 b, .int .i64 c, .int .i64 d] w fun e w' =>
      e = .returned (.tuple #[.int .i64 (V (qr (.ofInt 32 a) (.ofInt 32 b) (.ofInt 32 c) (.ofInt 32 d)).1), .int .i64 (V (qr (.ofInt 32 a) (.ofInt 32 b) (.ofInt 32 c) (.ofInt 32 d)).2.1),
        .int .i64 (V (qr (.ofInt 32 a) (.ofInt 32 b) (.ofInt 32 c) (.ofInt 32 d)).2.2.1), .int .i64 (V (qr (.ofInt 32 a) (.ofInt 32 b) (.ofInt 32 c) (.ofInt 32 d)).2.2.2)]) ∧ ∃ m, w' = w.drewN m := by
  go_enter Try.func12, Try.ntmps12
  go_wp2_with (go_at_call 28; ((with_reducible refine (cquarter _ _ _ _ _).mono ?_); rintro e w' ⟨rfl, m, rfl⟩))
  exact bodyPost_ret (results_tmp4 rfl _ _ _) rfl ⟨rfl, _, rfl⟩

/-- The quarter round backwards. -/
def rq (w x y z : BitVec 32) : BitVec 32 × BitVec 32 × BitVec 32 × BitVec 32 :=
  let x := rotl x 25 ^^^ y
  let y := y - z
  let z := rotl z 24 ^^^ w
  let w := w - x
  let x := rotl x 20 ^^^ y
  let y := y - z
  let z := rotl z 16 ^^^ w
  let w := w - x
  (w, x, y, z)

set_option maxHeartbeats 400000 in
theorem cBack (a b c d : Int) (w : World) :
    Calls Try.prog 20 #[.int .i64 a, .int .i64 b, .int .i64 c, .int .i64 d] w fun e w' =>
      e = .returned (.tuple #[.int .i64 (V (rq (.ofInt 32 a) (.ofInt 32 b) (.ofInt 32 c) (.ofInt 32 d)).1), .int .i64 (V (rq (.ofInt 32 a) (.ofInt 32 b) (.ofInt 32 c) (.ofInt 32 d)).2.1),
        .int .i64 (V (rq (.ofInt 32 a) (.ofInt 32 b) (.ofInt 32 c) (.ofInt 32 d)).2.2.1), .int .i64 (V (rq (.ofInt 32 a) (.ofInt 32 b) (.ofInt 32 c) (.ofInt 32 d)).2.2.2)]) ∧ ∃ m, w' = w.drewN m := by
  go_enter Try.func20, Try.ntmps20
  go_wp2_with (go_at_call 34; ((with_reducible refine (cturn _ _ _ (by decide) (by decide)).mono ?_); rintro e w' ⟨rfl, m, rfl⟩))
  refine bodyPost_ret (results_tmp4 rfl _ _ _) rfl ⟨rfl, ?_⟩
  exact ⟨_, rfl⟩

/-! ### the reference -/
theorem crotl (x : BitVec 32) (n : Int) (w : World) (h0 : 0 ≤ n) (h1 : n ≤ 32) :
    Calls Try.prog 29 #[.int .i64 (V x), .int .i64 n] w fun e w' =>
      e = .returned (.int .i64 (V (rotl x n.toNat))) ∧ ∃ m, w' = w.drewN m := by
  have h2 : 32 - n ≤ 64 := by omega
  have h3 : n ≤ 64 := by omega
  have e : (32 - n).toNat = 32 - n.toNat := by omega
  have E := Lib.hid e
  clear e
  go_enter Try.func29, Try.ntmps29
  go_wp2_with fail
  go_quiet (fail)
  go_wp2
  go_ret
  refine ⟨?_, nq, rfl⟩
  show Ending.returned (Value.int IntKind.i64 (V (BitVec.ofInt 32 (bits BinOp.or IntKind.i64 (wrap64 (V x * 2 ^ n.toNat)) (V (x >>> (32 - n).toNat)))))) = _
  rw [ofInt32_or, ofInt32_wrap64, ofInt32_mul, V_ofInt, E.out]
  rfl

theorem cRefQuarter (a b c d : Int) (w : World) :
    Calls Try.prog 13 #[.int .i64 a, .int .i64 b, .int .i64 c, .int .i64 d] w fun e w' =>
      e = .returned (.tuple #[.int .i64 (V (qr (.ofInt 32 a) (.ofInt 32 b) (.ofInt 32 c) (.ofInt 32 d)).1), .int .i64 (V (qr (.ofInt 32 a) (.ofInt 32 b) (.ofInt 32 c) (.ofInt 32 d)).2.1),
        .int .i64 (V (qr (.ofInt 32 a) (.ofInt 32 b) (.ofInt 32 c) (.ofInt 32 d)).2.2.1), .int .i64 (V (qr (.ofInt 32 a) (.ofInt 32 b) (.ofInt 32 c) (.ofInt 32 d)).2.2.2)]) ∧ ∃ m, w' = w.drewN m := by
  go_enter Try.func13, Try.ntmps13
  go_wp2_with (go_at_call 29; ((with_reducible refine (crotl _ _ _ (by decide) (by decide)).mono ?_); rintro e w' ⟨rfl, m, rfl⟩))
  refine bodyPost_ret (results_tmp4 rfl _ _ _) rfl ⟨rfl, ?_⟩
  exact ⟨_, rfl⟩

/-! ### the laws -/
theorem awake_qr : qr (BitVec.ofInt 32 286331153) (BitVec.ofInt 32 16909060) (BitVec.ofInt 32 2609737539) (BitVec.ofInt 32 19088743) =
    (BitVec.ofInt 32 3928658676, BitVec.ofInt 32 3407673550, BitVec.ofInt 32 1166100270, BitVec.ofInt 32 1484899515) := by decide +kernel

theorem cAwake04 (w : World) : Calls Try.prog 14 #[] w fun e w' => e = .returned (.bool true) ∧ ∃ m, w' = w.drewN m := by
  have e1 : V (qr (BitVec.ofInt 32 286331153) (BitVec.ofInt 32 16909060) (BitVec.ofInt 32 2609737539) (BitVec.ofInt 32 19088743)).1 = 3928658676 := by rw [awake_qr]; decide
  have e2 : V (qr (BitVec.ofInt 32 286331153) (BitVec.ofInt 32 16909060) (BitVec.ofInt 32 2609737539) (BitVec.ofInt 32 19088743)).2.1 = 3407673550 := by rw [awake_qr]; decide
  have e3 : V (qr (BitVec.ofInt 32 286331153) (BitVec.ofInt 32 16909060) (BitVec.ofInt 32 2609737539) (BitVec.ofInt 32 19088743)).2.2.1 = 1166100270 := by rw [awake_qr]; decide
  have e4 : V (qr (BitVec.ofInt 32 286331153) (BitVec.ofInt 32 16909060) (BitVec.ofInt 32 2609737539) (BitVec.ofInt 32 19088743)).2.2.2 = 1484899515 := by rw [awake_qr]; decide
  have E1 := Lib.hid e1
  have E2 := Lib.hid e2
  have E3 := Lib.hid e3
  have E4 := Lib.hid e4
  clear e1 e2 e3 e4
  go_enter Try.func14, Try.ntmps14
  go_wp2_with (go_at_call 12; ((with_reducible refine (cQuarter _ _ _ _ _).mono ?_); rw [E1.out, E2.out, E3.out, E4.out]; rintro e w' ⟨rfl, m, rfl⟩))
  go_ret
  exact ⟨rfl, _, rfl⟩

theorem below_drewN' (w : World) (m : Nat) : Below w.heap.size w (w.drewN m) := by
  exact ⟨rfl, rfl, rfl, Nat.le_refl _, fun _ _ => rfl⟩

theorem rotl_bit (x : BitVec 32) (n i : Nat) (hn : n ≤ 32) (hi : i < 32) : (rotl x n).getLsbD i = if i < n then x.getLsbD (32 - n + i) else x.getLsbD (i - n) := by
  unfold rotl
  rw [BitVec.getLsbD_or, BitVec.getLsbD_shiftLeft, BitVec.getLsbD_ushiftRight]
  by_cases h : i < n
  · simp [h]
  · have e : x.getLsbD (32 - n + i) = false := BitVec.getLsbD_of_ge _ _ (by omega)
    simp [h, hi, e]
theorem rotl_rotl (x : BitVec 32) (n m : Nat) (h : n + m = 32) : rotl (rotl x n) m = x := by
  apply BitVec.eq_of_getLsbD_eq
  intro i hi
  rw [rotl_bit _ _ _ (by omega) hi]
  by_cases hm : i < m
  · rw [if_pos hm, rotl_bit _ _ _ (by omega) (by omega), if_neg (by omega)]
    congr 1; omega
  · rw [if_neg hm, rotl_bit _ _ _ (by omega) (by omega), if_pos (by omega)]
    congr 1; omega
theorem xor_back (x y : BitVec 32) : (x ^^^ y) ^^^ y = x := by rw [BitVec.xor_assoc, BitVec.xor_self, BitVec.xor_zero]
theorem rq_qr (a b c d : BitVec 32) : rq (qr a b c d).1 (qr a b c d).2.1 (qr a b c d).2.2.1 (qr a b c d).2.2.2 = (a, b, c, d) := by
  simp only [qr, rq, rotl_rotl _ 7 25 rfl, rotl_rotl _ 8 24 rfl, rotl_rotl _ 12 20 rfl, rotl_rotl _ 16 16 rfl, xor_back, BitVec.add_sub_cancel]
theorem qr_rq (a b c d : BitVec 32) : qr (rq a b c d).1 (rq a b c d).2.1 (rq a b c d).2.2.1 (rq a b c d).2.2.2 = (a, b, c, d) := by
  simp only [qr, rq, BitVec.sub_add_cancel, xor_back, rotl_rotl _ 25 7 rfl, rotl_rotl _ 24 8 rfl, rotl_rotl _ 20 12 rfl, rotl_rotl _ 16 16 rfl]

theorem chachaQuarters_walk (a : Int) (_ : (Lit.int .i64 a).wf = true) (b : Int) (_ : (Lit.int .i64 b).wf = true) (c : Int) (_ : (Lit.int .i64 c).wf = true) (d : Int) (_ : (Lit.int .i64 d).wf = true) (w : World) :
    Calls Try.prog 3 #[.int .i64 a, .int .i64 b, .int .i64 c, .int .i64 d] w fun e w' => e = .returned (.bool true) ∧ Below w.heap.size w w' := by
  generalize hx : qr (BitVec.ofInt 32 a) (BitVec.ofInt 32 b) (BitVec.ofInt 32 c) (BitVec.ofInt 32 d) = x
  have HX := Lib.hid hx
  clear hx
  go_enter Try.func3, Try.ntmps3
  go_wp2_with (first
    | (go_at_call 12; ((with_reducible refine (cQuarter _ _ _ _ _).mono ?_); rw [HX.out]; rintro e w' ⟨rfl, m, rfl⟩))
    | (go_at_call 13; ((with_reducible refine (cRefQuarter _ _ _ _ _).mono ?_); rw [HX.out]; rintro e w' ⟨rfl, m, rfl⟩))
    | (go_at_call 14; ((with_reducible refine (cAwake04 _).mono ?_); rintro e w' ⟨rfl, m, rfl⟩)))
  go_ret
  exact ⟨rfl, below_drewN' _ _⟩

theorem chachaBack_walk (a : Int) (_ : (Lit.int .i64 a).wf = true) (b : Int) (_ : (Lit.int .i64 b).wf = true) (c : Int) (_ : (Lit.int .i64 c).wf = true) (d : Int) (_ : (Lit.int .i64 d).wf = true) (w : World) :
    Calls Try.prog 5 #[.int .i64 a, .int .i64 b, .int .i64 c, .int .i64 d] w fun e w' => e = .returned (.bool true) ∧ Below w.heap.size w w' := by
  have h1 := rq_qr (BitVec.ofInt 32 a) (BitVec.ofInt 32 b) (BitVec.ofInt 32 c) (BitVec.ofInt 32 d)
  have h2 := qr_rq (BitVec.ofInt 32 a) (BitVec.ofInt 32 b) (BitVec.ofInt 32 c) (BitVec.ofInt 32 d)
  generalize hx : qr (BitVec.ofInt 32 a) (BitVec.ofInt 32 b) (BitVec.ofInt 32 c) (BitVec.ofInt 32 d) = x at *
  generalize hy : rq (BitVec.ofInt 32 a) (BitVec.ofInt 32 b) (BitVec.ofInt 32 c) (BitVec.ofInt 32 d) = y at *
  have H1 := Lib.hid h1
  have H2 := Lib.hid h2
  have HX := Lib.hid hx
  have HY := Lib.hid hy
  clear h1 h2 hx hy
  go_enter Try.func5, Try.ntmps5
  go_wp2_with fail
  (with_reducible refine (cQuarter _ _ _ _ _).mono ?_); rw [HX.out]; rintro e w' ⟨rfl, m1, rfl⟩
  go_wp2_with fail
  (with_reducible refine (cBack _ _ _ _ _).mono ?_); rw [V_ofInt, V_ofInt, V_ofInt, V_ofInt, H1.out]; rintro e w' ⟨rfl, m2, rfl⟩
  go_wp2_with fail
  (with_reducible refine (cBack _ _ _ _ _).mono ?_); rw [HY.out]; rintro e w' ⟨rfl, m3, rfl⟩
  go_wp2_with fail
  (with_reducible refine (cQuarter _ _ _ _ _).mono ?_); rw [V_ofInt, V_ofInt, V_ofInt, V_ofInt, H2.out]; rintro e w' ⟨rfl, m4, rfl⟩
  go_wp2_with (go_at_call 14; ((with_reducible refine (cAwake04 _).mono ?_); rintro e w' ⟨rfl, m, rfl⟩))
  go_ret
  exact ⟨rfl, below_drewN' _ _⟩
end Go.Proofs.Ythcmkmbnpibnfaa
