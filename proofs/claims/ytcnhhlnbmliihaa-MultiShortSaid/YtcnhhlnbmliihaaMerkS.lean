/- Trees of sums as plain functions on texts. No function of the program stands here. -/
import Derived.Test.YtcnhhlnbmliihaaSha
namespace Go.Proofs.Ytcnhhlnbmliihaa
open Go.RowKit
set_option linter.unusedVariables false
set_option linter.unusedSimpArgs false

/-- The sum of a text, as a text. -/
def shaB (s : ByteArray) : ByteArray := str (sha s.data.toList)
theorem shaB_size (s : ByteArray) : (shaB s).size = 32 := by rw [shaB, str_size, sha_length]
/-- Texts, one behind the other. -/
def joinS (l : List ByteArray) : ByteArray := l.foldl (· ++ ·) ByteArray.empty
/-- A width that may be. -/
def wd (w : Int) : Nat := if w < 1 then 1 else if 32 < w then 32 else w.toNat
theorem wd_lo (w : Int) : 1 ≤ wd w := by unfold wd; split; omega; split <;> omega
theorem wd_hi (w : Int) : wd w ≤ 32 := by unfold wd; split; omega; split <;> omega
theorem wd_int (w : Int) : ((wd w : Nat) : Int) = min (max w 1) 32 := by unfold wd; split; omega; split <;> omega
theorem wd_wd (w : Int) : wd (wd w : Nat) = wd w := by
  have h1 := wd_lo w
  have h2 := wd_hi w
  generalize wd w = n at *
  unfold wd; split; omega; split <;> omega
def msum (w : Nat) (s : ByteArray) : ByteArray := (shaB s).extract 0 w
theorem msum_size (w : Nat) (s : ByteArray) (h : w ≤ 32) : (msum w s).size = w := by
  unfold msum
  have := shaB_size s
  simp
  omega
def mleaf (w : Nat) (s : ByteArray) : ByteArray := msum w (⟨#[0]⟩ ++ s)
def mnode (w : Nat) (a b : ByteArray) : ByteArray := msum w (⟨#[1]⟩ ++ a ++ b)
theorem mnode_size (w : Nat) (a b : ByteArray) (h : w ≤ 32) : (mnode w a b).size = w := msum_size w _ h
theorem mleaf_size (w : Nat) (a : ByteArray) (h : w ≤ 32) : (mleaf w a).size = w := msum_size w _ h

/-- How many stand on the left: the greatest power of two that is below. -/
def cut (n : Nat) : Nat := 2 ^ Nat.log2 (n - 1)
theorem cut_pos (n : Nat) : 1 ≤ cut n := Nat.one_le_two_pow
theorem cut_lt (n : Nat) (h : 2 ≤ n) : cut n < n := by
  have := Nat.log2_self_le (n := n - 1) (by omega)
  unfold cut; omega
theorem cut_half (n : Nat) : n ≤ 2 * cut n := by
  rcases Nat.lt_or_ge n 2 with h | h
  · have := cut_pos n; omega
  · have := Nat.lt_log2_self (n := n - 1)
    unfold cut
    rw [Nat.pow_succ] at this
    omega
theorem cut_one : cut 1 = 1 := rfl
theorem cut_zero : cut 0 = 1 := rfl
theorem cut_pow (n : Nat) : ∃ j, cut n = 2 ^ j := ⟨_, rfl⟩
/-- A power of two from which on there is no greater one below is that. -/
theorem pow_cut (n j : Nat) (h1 : 2 ^ j < n ∨ j = 0) (h2 : n ≤ 2 * 2 ^ j) : 2 ^ j = cut n := by
  have hsm : n < 2 → cut n = 1 := fun h => by
    have e : n - 1 = 0 := by omega
    unfold cut; rw [e]; rfl
  obtain ⟨i, hi⟩ := cut_pow n
  have hc := cut_half n
  have hp := cut_pos n
  rw [hi] at hc hp hsm ⊢
  have hlt : 2 ≤ n → 2 ^ i < n := fun h => by have := cut_lt n h; rw [hi] at this; exact this
  have e : j = i := by
    rcases Nat.lt_trichotomy j i with h | h | h
    · have : 2 ^ (j + 1) ≤ 2 ^ i := Nat.pow_le_pow_right (by decide) h
      rw [Nat.pow_succ] at this
      have hj := Nat.one_le_two_pow (n := j)
      rcases Nat.lt_or_ge n 2 with h2 | h2
      · have := hsm h2; omega
      · have := hlt h2; omega
    · exact h
    · have : 2 ^ (i + 1) ≤ 2 ^ j := Nat.pow_le_pow_right (by decide) h
      rw [Nat.pow_succ] at this
      rcases h1 with h1 | h1
      · omega
      · omega
  rw [e]
attribute [irreducible] cut

/-- The root of leaves' sums. -/
def rootF (w : Nat) : Nat → List ByteArray → ByteArray
  | 0, _ => msum w ByteArray.empty
  | f + 1, l => if l.length = 0 then msum w ByteArray.empty else if l.length = 1 then l.getD 0 ByteArray.empty else mnode w (rootF w f (l.take (cut l.length))) (rootF w f (l.drop (cut l.length)))
def root (w : Nat) (l : List ByteArray) : ByteArray := rootF w l.length l
theorem rootF_more (w : Nat) : ∀ (f : Nat) (l : List ByteArray), l.length ≤ f → rootF w f l = rootF w l.length l := by
  intro f
  induction f using Nat.strongRecOn with
  | _ f ih =>
    intro l hl
    match f, hl with
    | 0, hl => rw [Nat.le_zero.1 hl]
    | f + 1, hl =>
      by_cases h0 : l.length = 0
      · rw [h0]; show (if _ then _ else _) = _; rw [if_pos h0]; rfl
      · obtain ⟨m, hm⟩ : ∃ m, l.length = m + 1 := ⟨l.length - 1, by omega⟩
        have e1 : rootF w (f + 1) l = if l.length = 0 then msum w ByteArray.empty else if l.length = 1 then l.getD 0 ByteArray.empty else mnode w (rootF w f (l.take (cut l.length))) (rootF w f (l.drop (cut l.length))) := rfl
        have e2 : rootF w (m + 1) l = if l.length = 0 then msum w ByteArray.empty else if l.length = 1 then l.getD 0 ByteArray.empty else mnode w (rootF w m (l.take (cut l.length))) (rootF w m (l.drop (cut l.length))) := rfl
        conv => rhs; rw [hm, e2]
        rw [e1]
        by_cases h1 : l.length = 1
        · rw [if_neg h0, if_neg h0, if_pos h1, if_pos h1]
        · rw [if_neg h0, if_neg h0, if_neg h1, if_neg h1]
          have hc := cut_lt l.length (by omega)
          have hp := cut_pos l.length
          have ht : (l.take (cut l.length)).length = cut l.length := by rw [List.length_take]; omega
          have hd : (l.drop (cut l.length)).length = l.length - cut l.length := by rw [List.length_drop]
          rw [ih f (by omega) _ (by omega), ih f (by omega) _ (by omega), ih m (by omega) (l.take (cut l.length)) (by omega), ih m (by omega) (l.drop (cut l.length)) (by omega)]
theorem root_nil (w : Nat) (l : List ByteArray) (h : l.length = 0) : root w l = msum w ByteArray.empty := by unfold root; rw [h]; rfl
theorem root_one (w : Nat) (l : List ByteArray) (h : l.length = 1) : root w l = l.getD 0 ByteArray.empty := by
  unfold root; rw [h]; show (if _ then _ else _) = _; rw [if_neg (by omega), if_pos h]
theorem root_cut (w : Nat) (l : List ByteArray) (h : 2 ≤ l.length) : root w l = mnode w (root w (l.take (cut l.length))) (root w (l.drop (cut l.length))) := by
  have hc := cut_lt l.length h
  have hp := cut_pos l.length
  obtain ⟨m, hm⟩ : ∃ m, l.length = m + 1 := ⟨l.length - 1, by omega⟩
  have ht : (l.take (cut l.length)).length = cut l.length := by rw [List.length_take]; omega
  have hd : (l.drop (cut l.length)).length = l.length - cut l.length := by rw [List.length_drop]
  unfold root
  rw [← rootF_more w m (l.take (cut l.length)) (by omega), ← rootF_more w m (l.drop (cut l.length)) (by omega)]
  conv => lhs; rw [hm]
  show (if _ then _ else _) = _
  rw [if_neg (by omega), if_neg (by omega)]
attribute [irreducible] root rootF
end Go.Proofs.Ytcnhhlnbmliihaa
