/- Trees of sums that grow, as plain functions. No function of the program stands here. -/
import Derived.Test.YtgkjpemgfbkejaaMerkP
namespace Go.Proofs.Ytgkjpemgfbkejaa
open Go.RowKit
set_option linter.unusedVariables false
set_option linter.unusedSimpArgs false

/-- Two whole parts beside one another. -/
theorem root_half (w j : Nat) (a b : List ByteArray) (ha : a.length = 2 ^ j) (h1 : 1 ≤ b.length) (h2 : b.length ≤ 2 ^ j) : root w (a ++ b) = mnode w (root w a) (root w b) := by
  have hp := Nat.one_le_two_pow (n := j)
  have hl : (a ++ b).length = 2 ^ j + b.length := by rw [List.length_append, ha]
  have hc : 2 ^ j = cut (a ++ b).length := pow_cut _ _ (.inl (by omega)) (by omega)
  rw [root_cut w _ (by omega), ← hc, ← ha, List.take_left, List.drop_left]

/-- The greatest power of two that is not above. -/
def topn (n : Nat) : Nat := 2 ^ Nat.log2 n
theorem topn_pos (n : Nat) : 1 ≤ topn n := Nat.one_le_two_pow
theorem topn_le (n : Nat) (h : 1 ≤ n) : topn n ≤ n := Nat.log2_self_le (by omega)
theorem topn_lt (n : Nat) : n < 2 * topn n := by
  have := Nat.lt_log2_self (n := n)
  unfold topn
  rw [Nat.pow_succ] at this
  omega
theorem topn_pow (n : Nat) : ∃ j, topn n = 2 ^ j := ⟨_, rfl⟩
theorem pow_uniq (i j n : Nat) (h1 : 2 ^ i ≤ n) (h2 : n < 2 * 2 ^ i) (h3 : 2 ^ j ≤ n) (h4 : n < 2 * 2 ^ j) : i = j := by
  rcases Nat.lt_trichotomy i j with h | h | h
  · have := Nat.pow_le_pow_right (n := 2) (by decide) (show i + 1 ≤ j by omega)
    rw [Nat.pow_succ] at this; omega
  · exact h
  · have := Nat.pow_le_pow_right (n := 2) (by decide) (show j + 1 ≤ i by omega)
    rw [Nat.pow_succ] at this; omega
theorem topn_eq (n j : Nat) (h1 : 2 ^ j ≤ n) (h2 : n < 2 * 2 ^ j) : topn n = 2 ^ j := by
  have hp := Nat.one_le_two_pow (n := j)
  have a := topn_le n (by omega)
  have b := topn_lt n
  obtain ⟨i, hi⟩ := topn_pow n
  rw [hi] at a b ⊢
  rw [pow_uniq i j n a b h1 h2]
attribute [irreducible] topn

/-- The roots of the whole parts. -/
def peaksF (w : Nat) : Nat → List ByteArray → List ByteArray
  | 0, _ => []
  | f + 1, l => if l.length = 0 then [] else root w (l.take (topn l.length)) :: peaksF w f (l.drop (topn l.length))
def peaks (w : Nat) (l : List ByteArray) : List ByteArray := peaksF w l.length l
theorem peaksF_succ (w f : Nat) (l : List ByteArray) : peaksF w (f + 1) l = if l.length = 0 then [] else root w (l.take (topn l.length)) :: peaksF w f (l.drop (topn l.length)) := rfl
theorem peaksF_more (w : Nat) : ∀ (f : Nat) (l : List ByteArray), l.length ≤ f → peaksF w f l = peaksF w l.length l := by
  intro f
  induction f using Nat.strongRecOn with
  | _ f ih =>
    intro l hl
    match f, hl with
    | 0, hl => rw [Nat.le_zero.1 hl]
    | f + 1, hl =>
      by_cases h0 : l.length = 0
      · rw [h0, peaksF_succ, if_pos h0]; rfl
      · obtain ⟨m, hm⟩ : ∃ m, l.length = m + 1 := ⟨l.length - 1, by omega⟩
        conv => rhs; rw [hm, peaksF_succ]
        rw [peaksF_succ, if_neg h0, if_neg h0]
        have hp := topn_pos l.length
        have hd : (l.drop (topn l.length)).length = l.length - topn l.length := by rw [List.length_drop]
        rw [ih f (by omega) (l.drop (topn l.length)) (by omega), ih m (by omega) (l.drop (topn l.length)) (by omega)]
theorem peaks_nil (w : Nat) (l : List ByteArray) (h : l.length = 0) : peaks w l = [] := by unfold peaks; rw [h]; rfl
theorem peaks_cons (w : Nat) (l : List ByteArray) (h : 1 ≤ l.length) : peaks w l = root w (l.take (topn l.length)) :: peaks w (l.drop (topn l.length)) := by
  have hp := topn_pos l.length
  obtain ⟨m, hm⟩ : ∃ m, l.length = m + 1 := ⟨l.length - 1, by omega⟩
  have hd : (l.drop (topn l.length)).length = l.length - topn l.length := by rw [List.length_drop]
  unfold peaks
  rw [← peaksF_more w m (l.drop (topn l.length)) (by omega)]
  conv => lhs; rw [hm]
  rw [peaksF_succ, if_neg (by omega)]
theorem peaks_pow (w j : Nat) (m : List ByteArray) (h : m.length = 2 ^ j) : peaks w m = [root w m] := by
  have hp := Nat.one_le_two_pow (n := j)
  rw [peaks_cons w m (by omega), h, topn_eq (2 ^ j) j (by omega) (by omega), List.take_of_length_le (by omega), peaks_nil w _ (by rw [List.length_drop]; omega)]
/-- A whole part behind greater ones. -/
theorem peaks_snoc (w j : Nat) (m : List ByteArray) (hm : m.length = 2 ^ j) : ∀ (q : Nat) (l : List ByteArray), l.length = 2 ^ (j + 1) * q → peaks w (l ++ m) = peaks w l ++ [root w m] := by
  intro q
  induction q using Nat.strongRecOn with
  | _ q ih =>
    intro l hl
    by_cases h0 : q = 0
    · subst h0
      have e : l = [] := List.eq_nil_of_length_eq_zero (by simpa using hl)
      subst e
      rw [List.nil_append, peaks_pow w j m hm, peaks_nil w [] rfl]; rfl
    · have hpj := Nat.one_le_two_pow (n := j)
      have hsj : 2 ^ (j + 1) = 2 * 2 ^ j := by rw [Nat.pow_succ]; omega
      have hge : 2 ^ (j + 1) ≤ l.length := by rw [hl]; exact Nat.le_mul_of_pos_right _ (by omega)
      have a := topn_le l.length (by omega)
      have b := topn_lt l.length
      obtain ⟨t, ht⟩ := topn_pow l.length
      rw [ht] at a b
      have htj : j + 1 ≤ t := by
        rcases Nat.lt_or_ge t (j + 1) with h | h
        · have := Nat.pow_le_pow_right (n := 2) (by decide) (show t + 1 ≤ j + 1 by omega)
          rw [Nat.pow_succ] at this; omega
        · exact h
      obtain ⟨d, rfl⟩ : ∃ d, t = (j + 1) + d := ⟨t - (j + 1), by omega⟩
      rw [Nat.pow_add] at a b ht
      rw [hl] at a b
      have b2 : 2 ^ (j + 1) * q < 2 ^ (j + 1) * (2 * 2 ^ d) := by
        have : 2 * (2 ^ (j + 1) * 2 ^ d) = 2 ^ (j + 1) * (2 * 2 ^ d) := by rw [← Nat.mul_assoc, Nat.mul_comm 2, Nat.mul_assoc]
        omega
      have hq2 : q < 2 * 2 ^ d := Nat.lt_of_mul_lt_mul_left b2
      have hq1 : 2 ^ d ≤ q := Nat.le_of_mul_le_mul_left a (by omega)
      have hlt : 2 ^ (j + 1) * q + 2 ^ j < 2 * (2 ^ (j + 1) * 2 ^ d) := by
        have : 2 ^ (j + 1) * (q + 1) ≤ 2 ^ (j + 1) * (2 * 2 ^ d) := Nat.mul_le_mul_left _ (by omega)
        have e : 2 * (2 ^ (j + 1) * 2 ^ d) = 2 ^ (j + 1) * (2 * 2 ^ d) := by rw [← Nat.mul_assoc, Nat.mul_comm 2, Nat.mul_assoc]
        rw [Nat.mul_add, Nat.mul_one] at this
        omega
      have hl2 : (l ++ m).length = 2 ^ (j + 1) * q + 2 ^ j := by rw [List.length_append, hl, hm]
      have ht2 : topn (l ++ m).length = 2 ^ (j + 1) * 2 ^ d := by
        have e3 : 2 ^ (j + 1) * 2 ^ d = 2 ^ (j + 1 + d) := (Nat.pow_add _ _ _).symm
        rw [hl2]
        rw [e3] at hlt a ⊢
        exact topn_eq _ _ (by omega) hlt
      have hle : 2 ^ (j + 1) * 2 ^ d ≤ l.length := by rw [hl]; exact a
      rw [peaks_cons w (l ++ m) (by omega), peaks_cons w l (by omega), ht2, ht, List.take_append_of_le_length hle, List.drop_append_of_le_length hle]
      rw [ih (q - 2 ^ d) (by have := Nat.one_le_two_pow (n := d); omega) (l.drop (2 ^ (j + 1) * 2 ^ d)) (by rw [List.length_drop, hl, Nat.mul_sub])]
      rfl
/-- The root out of the roots of the whole parts. -/
def upP (w : Nat) : List ByteArray → ByteArray
  | [] => ByteArray.empty
  | [p] => p
  | p :: q :: r => mnode w p (upP w (q :: r))
theorem upP_one (w : Nat) (p : ByteArray) : upP w [p] = p := rfl
theorem upP_cons (w : Nat) (p : ByteArray) (l : List ByteArray) (h : 1 ≤ l.length) : upP w (p :: l) = mnode w p (upP w l) := by
  match l, h with
  | q :: r, _ => rfl
theorem peaks_length_pos (w : Nat) (l : List ByteArray) (h : 1 ≤ l.length) : 1 ≤ (peaks w l).length := by rw [peaks_cons w l h]; simp
theorem upP_peaks (w : Nat) : ∀ (n : Nat) (l : List ByteArray), l.length = n → 1 ≤ n → upP w (peaks w l) = root w l := by
  intro n
  induction n using Nat.strongRecOn with
  | _ n ih =>
    intro l hl hn
    have a := topn_le n hn
    have b := topn_lt n
    have hp := topn_pos n
    obtain ⟨j, hj⟩ := topn_pow n
    by_cases h : n = topn n
    · rw [peaks_pow w j l (by omega)]; rfl
    · have hd : (l.drop (topn n)).length = n - topn n := by rw [List.length_drop, hl]
      have ht : (l.take (topn n)).length = topn n := by rw [List.length_take]; omega
      rw [peaks_cons w l (by omega), hl, upP_cons _ _ _ (peaks_length_pos w _ (by omega)), ih (n - topn n) (by omega) _ hd (by omega)]
      conv => rhs; rw [← List.take_append_drop (topn n) l]
      rw [root_half w j (l.take (topn n)) (l.drop (topn n)) (by omega) (by omega) (by omega)]
/-- How many bits are 1. -/
def onesF : Nat → Nat → Nat
  | 0, _ => 0
  | f + 1, n => n % 2 + onesF f (n / 2)
def ones (n : Nat) : Nat := onesF n n
theorem onesF_more : ∀ (f n : Nat), n ≤ f → onesF f n = onesF n n := by
  intro f
  induction f using Nat.strongRecOn with
  | _ f ih =>
    intro n hn
    match f, hn with
    | 0, hn => rw [Nat.le_zero.1 hn]
    | f + 1, hn =>
      match n, hn with
      | 0, _ =>
        show 0 % 2 + onesF f (0 / 2) = 0
        have := ih f (by omega) 0 (by omega)
        simpa [onesF] using this
      | m + 1, hn =>
        show (m + 1) % 2 + onesF f ((m + 1) / 2) = (m + 1) % 2 + onesF m ((m + 1) / 2)
        rw [ih f (by omega) ((m + 1) / 2) (by omega), ih m (by omega) ((m + 1) / 2) (by omega)]
theorem ones_zero : ones 0 = 0 := rfl
theorem ones_step (n : Nat) : ones n = n % 2 + ones (n / 2) := by
  match n with
  | 0 => rfl
  | m + 1 =>
    show (m + 1) % 2 + onesF m ((m + 1) / 2) = _
    rw [onesF_more m ((m + 1) / 2) (by omega)]; rfl
theorem ones_pow : ∀ (t r : Nat), r < 2 ^ t → ones (2 ^ t + r) = 1 + ones r
  | 0, r, h => by
    have : r = 0 := by simp at h; omega
    subst this; rfl
  | t + 1, r, h => by
    rw [Nat.pow_succ] at h
    have e1 : (2 ^ (t + 1) + r) % 2 = r % 2 := by rw [Nat.pow_succ]; omega
    have e2 : (2 ^ (t + 1) + r) / 2 = 2 ^ t + r / 2 := by rw [Nat.pow_succ]; omega
    rw [ones_step (2 ^ (t + 1) + r), e1, e2, ones_pow t (r / 2) (by omega), ones_step r]; omega
theorem peaks_length (w : Nat) : ∀ (n : Nat) (l : List ByteArray), l.length = n → (peaks w l).length = ones n := by
  intro n
  induction n using Nat.strongRecOn with
  | _ n ih =>
    intro l hl
    by_cases h : n = 0
    · subst h; rw [peaks_nil w l hl]; rfl
    · have a := topn_le n (by omega)
      have b := topn_lt n
      have hp := topn_pos n
      rw [peaks_cons w l (by omega), List.length_cons, hl, ih (n - topn n) (by omega) _ (by rw [List.length_drop, hl])]
      obtain ⟨j, hj⟩ := topn_pow n
      have e : n = 2 ^ j + (n - 2 ^ j) := by omega
      conv => rhs; rw [e]
      rw [ones_pow j _ (by omega), hj]; omega
theorem ones_le : ∀ (t n : Nat), n < 2 ^ t → ones n ≤ t
  | 0, n, h => by
    have : n = 0 := by simp at h; omega
    subst this; rw [ones_zero]; exact Nat.le_refl _
  | t + 1, n, h => by
    rw [Nat.pow_succ] at h
    rw [ones_step]
    have := ones_le t (n / 2) (by omega)
    omega
attribute [irreducible] peaks peaksF ones onesF upP
end Go.Proofs.Ytgkjpemgfbkejaa
