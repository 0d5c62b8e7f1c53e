/- 'Up' and 'Check' of any numbers. -/
import Derived.Test.YtgkjpemgfbkejaaRefUp
namespace Go.Proofs.Ytgkjpemgfbkejaa
open Go.RowKit
set_option linter.unusedVariables false
set_option linter.unusedSimpArgs false

theorem proof_sizes (d : Nat) (hd : d ≤ 32) : ∀ (n i : Nat) (l : List ByteArray), l.length = n → (∀ s ∈ l, s.size = d) → allW d (proof d i l) = true := by
  intro n
  induction n using Nat.strongRecOn with
  | _ n ih =>
    intro i l hl hz
    rcases Nat.lt_or_ge n 2 with h2 | h2
    · rw [proof_one _ _ _ (by omega)]; unfold allW; rfl
    · have hcl := cut_lt n h2
      have hcp := cut_pos n
      have ht : (l.take (cut n)).length = cut n := by rw [List.length_take]; omega
      have hdr : (l.drop (cut n)).length = n - cut n := by rw [List.length_drop, hl]
      have hrt : ∀ q : List ByteArray, 1 ≤ q.length → (∀ s ∈ q, s.size = d) → (root d q).size = d := fun q h1 h3 => by
        rcases Nat.lt_or_ge q.length 2 with h4 | h4
        · rw [root_one _ _ (by omega)]; exact h3 _ (getD_mem (by omega))
        · rw [root_cut _ _ h4]; exact mnode_size _ _ _ hd
      have hap : ∀ (a : List ByteArray) (x : ByteArray), allW d a = true → x.size = d → allW d (a ++ [x]) = true := fun a x h1 h3 => by
        unfold allW at h1 ⊢
        rw [List.all_append, h1]; simp [h3]
      by_cases hi : i < cut n
      · rw [proof_left d i l (by omega) (by rw [hl]; exact hi), hl]
        exact hap _ _ (ih (cut n) hcl i _ ht (fun s hs => hz s (List.mem_of_mem_take hs))) (hrt _ (by omega) (fun s hs => hz s (List.mem_of_mem_drop hs)))
      · rw [proof_right d i l (by omega) (by rw [hl]; omega), hl]
        exact hap _ _ (ih (n - cut n) (by omega) (i - cut n) _ hdr (fun s hs => hz s (List.mem_of_mem_drop hs))) (hrt _ (by omega) (fun s hs => hz s (List.mem_of_mem_take hs)))
def upI (d : Nat) (i n : Int) (leaf : ByteArray) (p : List ByteArray) : ByteArray × Nat := if n < 1 ∨ i < 0 ∨ n ≤ i then (ByteArray.empty, 1) else upR d i.toNat n.toNat leaf p
theorem cUpI (w i n : Int) (leaf : ByteArray) (A : Option Addr) (m c : Nat) (p : List ByteArray) (W : World) (hm : p.length = m) (hs : Strs W A p) (hn : n ≤ 2305843009213693952) (hm6 : m ≤ 140737488355328) :
    Calls Try.prog 47 #[.int .i64 w, .int .i64 i, .int .i64 n, .string leaf, .slice A m c] W fun e W' => e = .returned (.tuple #[.string (upI (wd w) i n leaf p).1, .int .i64 ((upI (wd w) i n leaf p).2 : Nat)]) ∧ Below W.heap.size W W' := by
  unfold upI
  by_cases h : n < 1 ∨ i < 0 ∨ n ≤ i
  · rw [if_pos h]
    refine (cUp_arg w i n leaf A m c W h).mono ?_
    rintro e w' ⟨rfl, rfl⟩
    exact ⟨rfl, Below.refl _ _⟩
  · rw [if_neg h]
    obtain ⟨j, rfl⟩ : ∃ j : Nat, i = (j : Int) := ⟨i.toNat, by omega⟩
    obtain ⟨q, rfl⟩ : ∃ m : Nat, n = (m : Int) := ⟨n.toNat, by omega⟩
    rw [Int.toNat_natCast, Int.toNat_natCast]
    exact cUp w j q leaf A m c p W hm hs (by omega) (by omega) hm6
theorem crUpI (w i n : Int) (leaf : ByteArray) (A : Option Addr) (m c : Nat) (p : List ByteArray) (W : World) (hm : p.length = m) (hs : Strs W A p) (hmc : m ≤ c) (hn : n ≤ 2305843009213693952) (hm6 : m ≤ 140737488355328) :
    Calls Try.prog 34 #[.int .i64 w, .int .i64 i, .int .i64 n, .string leaf, .slice A m c] W fun e W' => e = .returned (.tuple #[.string (upI (wd w) i n leaf p).1, .int .i64 ((upI (wd w) i n leaf p).2 : Nat)]) ∧ Below W.heap.size W W' := by
  unfold upI
  by_cases h : n < 1 ∨ i < 0 ∨ n ≤ i
  · rw [if_pos h]
    refine (crUp_arg w i n leaf A m c W h).mono ?_
    rintro e w' ⟨rfl, rfl⟩
    exact ⟨rfl, Below.refl _ _⟩
  · rw [if_neg h]
    obtain ⟨j, rfl⟩ : ∃ j : Nat, i = (j : Int) := ⟨i.toNat, by omega⟩
    obtain ⟨q, rfl⟩ : ∃ m : Nat, n = (m : Int) := ⟨n.toNat, by omega⟩
    rw [Int.toNat_natCast, Int.toNat_natCast]
    exact crUp w j q leaf A m c p W hm hs hmc (by omega) (by omega) hm6
theorem upI_le (d : Nat) (i n : Int) (leaf : ByteArray) (p : List ByteArray) : (upI d i n leaf p).2 ≤ 2 := by
  unfold upI
  split
  · simp
  · unfold upR; split <;> simp
attribute [irreducible] upI
end Go.Proofs.Ytgkjpemgfbkejaa
