/- 'Up' and 'Check' of any numbers. -/
import Derived.Test.YtkggpimminnniaaRefUp
namespace Go.Proofs.Ytkggpimminnniaa
open Go.RowKit
set_option linter.unusedVariables false
set_option linter.unusedSimpArgs false

def upI (d : Nat) (i n : Int) (leaf : ByteArray) (p : List ByteArray) : ByteArray × Nat := if n < 1 ∨ i < 0 ∨ n ≤ i then (ByteArray.empty, 1) else upR d i.toNat n.toNat leaf p
theorem cUpI (w i n : Int) (leaf : ByteArray) (A : Option Addr) (m c : Nat) (p : List ByteArray) (W : World) (hm : p.length = m) (hs : Strs W A p) (hn : n ≤ 2305843009213693952) (hm6 : m ≤ 140737488355328) :
    Calls Try.prog 41 #[.int .i64 w, .int .i64 i, .int .i64 n, .string leaf, .slice A m c] W fun e W' => e = .returned (.tuple #[.string (upI (wd w) i n leaf p).1, .int .i64 ((upI (wd w) i n leaf p).2 : Nat)]) ∧ Below W.heap.size W W' := by
  unfold upI
  by_cases h : n < 1 ∨ i < 0 ∨ n ≤ i
  · rw [if_pos h]
    refine (cUp_arg w i n leaf A m c W h).mono ?_
    rintro e w' ⟨rfl, rfl⟩
    exact ⟨rfl, Below.refl _ _⟩
  · rw [if_neg h]
    obtain ⟨j, rfl⟩ : ∃ j : Nat, i = (j : Int) := ⟨i.toNat, by omega⟩
    obtain ⟨q, rfl⟩ : ∃ m : Nat, n = (m : Int) := ⟨n.toNat, by omega⟩
    rw [Int.toNat_natCast, Int.toNat_natCast]
    exact cUp w j q leaf A m c p W hm hs (by omega) (by omega) hm6
theorem crUpI (w i n : Int) (leaf : ByteArray) (A : Option Addr) (m c : Nat) (p : List ByteArray) (W : World) (hm : p.length = m) (hs : Strs W A p) (hmc : m ≤ c) (hn : n ≤ 2305843009213693952) (hm6 : m ≤ 140737488355328) :
    Calls Try.prog 42 #[.int .i64 w, .int .i64 i, .int .i64 n, .string leaf, .slice A m c] W fun e W' => e = .returned (.tuple #[.string (upI (wd w) i n leaf p).1, .int .i64 ((upI (wd w) i n leaf p).2 : Nat)]) ∧ Below W.heap.size W W' := by
  unfold upI
  by_cases h : n < 1 ∨ i < 0 ∨ n ≤ i
  · rw [if_pos h]
    refine (crUp_arg w i n leaf A m c W h).mono ?_
    rintro e w' ⟨rfl, rfl⟩
    exact ⟨rfl, Below.refl _ _⟩
  · rw [if_neg h]
    obtain ⟨j, rfl⟩ : ∃ j : Nat, i = (j : Int) := ⟨i.toNat, by omega⟩
    obtain ⟨q, rfl⟩ : ∃ m : Nat, n = (m : Int) := ⟨n.toNat, by omega⟩
    rw [Int.toNat_natCast, Int.toNat_natCast]
    exact crUp w j q leaf A m c p W hm hs hmc (by omega) (by omega) hm6
theorem cCheckI (w i n : Int) (root leaf : ByteArray) (A : Option Addr) (m c : Nat) (p : List ByteArray) (W : World) (hm : p.length = m) (hs : Strs W A p) (hn : n ≤ 2305843009213693952) (hm6 : m ≤ 140737488355328) :
    Calls Try.prog 43 #[.int .i64 w, .string root, .int .i64 i, .int .i64 n, .string leaf, .slice A m c] W fun e W' =>
      e = .returned (.int .i64 ((if (upI (wd w) i n leaf p).2 = 0 ∧ ¬ (upI (wd w) i n leaf p).1 = root then 11 else (upI (wd w) i n leaf p).2 : Nat) : Int)) ∧ Below W.heap.size W W' := by
  unfold upI
  by_cases h : n < 1 ∨ i < 0 ∨ n ≤ i
  · rw [if_pos h]
    refine (cCheck_arg w i n root leaf A m c W h).mono ?_
    rintro e w' ⟨rfl, rfl⟩
    exact ⟨rfl, Below.refl _ _⟩
  · rw [if_neg h]
    obtain ⟨j, rfl⟩ : ∃ j : Nat, i = (j : Int) := ⟨i.toNat, by omega⟩
    obtain ⟨q, rfl⟩ : ∃ m : Nat, n = (m : Int) := ⟨n.toNat, by omega⟩
    rw [Int.toNat_natCast, Int.toNat_natCast]
    exact cCheck w root j q leaf A m c p W hm hs (by omega) (by omega) hm6
theorem upI_le (d : Nat) (i n : Int) (leaf : ByteArray) (p : List ByteArray) : (upI d i n leaf p).2 ≤ 2 := by
  unfold upI
  split
  · simp
  · unfold upR; split <;> simp
attribute [irreducible] upI
end Go.Proofs.Ytkggpimminnniaa
