/- How many bits of a number are 1, as the library counts: plain. No function of the program stands here. -/
import Derived.Test.YtgkjpemgfbkejaaGrowS
namespace Go.Proofs.Ytgkjpemgfbkejaa
open Go.RowKit
set_option linter.unusedVariables false
set_option linter.unusedSimpArgs false

/-! ### How many bits are 1 -/
def valB : List Nat → Nat
  | [] => 0
  | b :: bs => b + 256 * valB bs
def maskB (m : Nat) : Nat → Nat
  | 0 => 0
  | k + 1 => m + 256 * maskB m k
theorem and_byte (u m v M : Nat) (hu : u < 256) (hm : m < 256) : (u + 256 * v) &&& (m + 256 * M) = (u &&& m) + 256 * (v &&& M) := by
  have h1 : ((u + 256 * v) &&& (m + 256 * M)) % 2 ^ 8 = u &&& m := by
    rw [Nat.and_mod_two_pow]
    have e1 : (u + 256 * v) % 2 ^ 8 = u := by omega
    have e2 : (m + 256 * M) % 2 ^ 8 = m := by omega
    rw [e1, e2]
  have h2 : ((u + 256 * v) &&& (m + 256 * M)) / 2 ^ 8 = v &&& M := by
    rw [Nat.and_div_two_pow]
    have e1 : (u + 256 * v) / 2 ^ 8 = v := by omega
    have e2 : (m + 256 * M) / 2 ^ 8 = M := by omega
    rw [e1, e2]
  omega
def f1 (b : Nat) : Nat := (b / 2 &&& 85) + (b &&& 85)
def f2 (b : Nat) : Nat := (b / 4 &&& 51) + (b &&& 51)
def f3 (b : Nat) : Nat := b % 16 + b / 16
def p8 (b : Nat) : Nat := b % 2 + b / 2 % 2 + b / 4 % 2 + b / 8 % 2 + b / 16 % 2 + b / 32 % 2 + b / 64 % 2 + b / 128 % 2
theorem low85 : ∀ u, u < 256 → u &&& 85 = u % 128 &&& 85 := by decide +kernel
theorem low51 : ∀ u, u < 256 → u &&& 51 = u % 64 &&& 51 := by decide +kernel
theorem low15 : ∀ u, u < 256 → u &&& 15 = u % 16 := by decide +kernel
theorem f1_lt : ∀ b, b < 256 → f1 b < 256 := by decide +kernel
theorem f12_ok : ∀ b, b < 256 → f2 (f1 b) % 16 ≤ 4 ∧ f2 (f1 b) / 16 ≤ 4 := by decide +kernel
theorem f_all : ∀ b, b < 256 → f3 (f2 (f1 b)) = p8 b := by decide +kernel
theorem val_f1 : ∀ (bs : List Nat), (∀ b ∈ bs, b < 256) → (valB bs / 2 &&& maskB 85 bs.length) + (valB bs &&& maskB 85 bs.length) = valB (bs.map f1)
  | [], _ => rfl
  | b :: bs, h => by
    have ih := val_f1 bs (fun x hx => h x (by simp [hx]))
    have hb := h b (by simp)
    rw [List.length_cons, List.map_cons]
    unfold valB maskB
    have e1 : (b + 256 * valB bs) / 2 = (b / 2 + 128 * (valB bs % 2)) + 256 * (valB bs / 2) := by omega
    rw [e1, and_byte _ _ _ _ (by omega) (by omega), and_byte _ _ _ _ hb (by omega), low85 _ (by omega)]
    have e2 : (b / 2 + 128 * (valB bs % 2)) % 128 = b / 2 := by omega
    rw [e2]
    have ef : f1 b = (b / 2 &&& 85) + (b &&& 85) := rfl
    show _ = f1 b + 256 * valB (bs.map f1)
    rw [ef]
    omega
theorem val_f2 : ∀ (bs : List Nat), (∀ b ∈ bs, b < 256) → (valB bs / 4 &&& maskB 51 bs.length) + (valB bs &&& maskB 51 bs.length) = valB (bs.map f2)
  | [], _ => rfl
  | b :: bs, h => by
    have ih := val_f2 bs (fun x hx => h x (by simp [hx]))
    have hb := h b (by simp)
    rw [List.length_cons, List.map_cons]
    unfold valB maskB
    have e1 : (b + 256 * valB bs) / 4 = (b / 4 + 64 * (valB bs % 4)) + 256 * (valB bs / 4) := by omega
    rw [e1, and_byte _ _ _ _ (by omega) (by omega), and_byte _ _ _ _ hb (by omega), low51 _ (by omega)]
    have e2 : (b / 4 + 64 * (valB bs % 4)) % 64 = b / 4 := by omega
    rw [e2]
    have ef : f2 b = (b / 4 &&& 51) + (b &&& 51) := rfl
    show _ = f2 b + 256 * valB (bs.map f2)
    rw [ef]
    omega
theorem val_low (bs : List Nat) (h : ∀ b ∈ bs, b % 16 ≤ 4 ∧ b / 16 ≤ 4) : valB bs % 16 ≤ 4 := by
  match bs, h with
  | [], _ => simp [valB]
  | b :: bs, h =>
    have := (h b (by simp)).1
    unfold valB
    omega
theorem val_f3 : ∀ (bs : List Nat), (∀ b ∈ bs, b % 16 ≤ 4 ∧ b / 16 ≤ 4) → (valB bs / 16 + valB bs) &&& maskB 15 bs.length = valB (bs.map f3)
  | [], _ => rfl
  | b :: bs, h => by
    have ih := val_f3 bs (fun x hx => h x (by simp [hx]))
    have hb := h b (by simp)
    have hl := val_low bs (fun x hx => h x (by simp [hx]))
    rw [List.length_cons, List.map_cons]
    unfold valB maskB
    have e1 : (b + 256 * valB bs) / 16 + (b + 256 * valB bs) = (b / 16 + b + 16 * (valB bs % 16)) + 256 * (valB bs / 16 + valB bs) := by omega
    rw [e1, and_byte _ _ _ _ (by omega) (by omega), low15 _ (by omega), ih]
    have ef : f3 b = b % 16 + b / 16 := rfl
    show _ = f3 b + 256 * valB (bs.map f3)
    rw [ef]
    omega
theorem ones_byte (b r : Nat) (hb : b < 256) : ones (b + 256 * r) = p8 b + ones r := by
  rw [ones_step, ones_step ((b + 256 * r) / 2), ones_step ((b + 256 * r) / 2 / 2), ones_step ((b + 256 * r) / 2 / 2 / 2), ones_step ((b + 256 * r) / 2 / 2 / 2 / 2), ones_step ((b + 256 * r) / 2 / 2 / 2 / 2 / 2), ones_step ((b + 256 * r) / 2 / 2 / 2 / 2 / 2 / 2), ones_step ((b + 256 * r) / 2 / 2 / 2 / 2 / 2 / 2 / 2)]
  have e : (b + 256 * r) / 2 / 2 / 2 / 2 / 2 / 2 / 2 / 2 = r := by omega
  rw [e]
  unfold p8
  omega
theorem ones_val : ∀ (bs : List Nat), (∀ b ∈ bs, b < 256) → ones (valB bs) = (bs.map p8).sum
  | [], _ => by show ones 0 = 0; exact ones_zero
  | b :: bs, h => by
    unfold valB
    rw [ones_byte b _ (h b (by simp)), ones_val bs (fun x hx => h x (by simp [hx])), List.map_cons, List.sum_cons]
/-- The eight bytes of a number. -/
def bytes8 (n : Nat) : List Nat := [n % 256, n / 256 % 256, n / 65536 % 256, n / 16777216 % 256, n / 4294967296 % 256, n / 1099511627776 % 256, n / 281474976710656 % 256, n / 72057594037927936 % 256]
theorem val_bytes8 (n : Nat) (h : n < 18446744073709551616) : valB (bytes8 n) = n := by
  unfold bytes8 valB valB valB valB valB valB valB valB valB
  omega
theorem bytes8_lt (n : Nat) : ∀ b ∈ bytes8 n, b < 256 := by
  intro b hb
  unfold bytes8 at hb
  simp only [List.mem_cons, List.not_mem_nil, or_false] at hb
  rcases hb with h | h | h | h | h | h | h | h <;> omega
def m85 : Nat := 6148914691236517205
def m51 : Nat := 3689348814741910323
def m15 : Nat := 1085102592571150095
def c1 (n : Nat) : Nat := (n / 2 &&& m85) + (n &&& m85)
def c2 (n : Nat) : Nat := (n / 4 &&& m51) + (n &&& m51)
def c3 (n : Nat) : Nat := (n / 16 + n) &&& m15
theorem c3_val (n : Nat) (h : n < 18446744073709551616) : ∃ es : List Nat, es.length = 8 ∧ (∀ e ∈ es, e ≤ 8) ∧ c3 (c2 (c1 n)) = valB es ∧ ones n = es.sum := by
  have hb := bytes8_lt n
  have hv := val_bytes8 n h
  have hl : (bytes8 n).length = 8 := rfl
  have e1 : maskB 85 8 = m85 := by decide
  have e2 : maskB 51 8 = m51 := by decide
  have e3 : maskB 15 8 = m15 := by decide
  have s1 := val_f1 (bytes8 n) hb
  rw [hl, hv, e1] at s1
  have hb1 : ∀ b ∈ (bytes8 n).map f1, b < 256 := by
    intro b hb1
    obtain ⟨a, ha, rfl⟩ := List.mem_map.1 hb1
    exact f1_lt a (hb a ha)
  have s2 := val_f2 _ hb1
  rw [List.length_map, hl, e2] at s2
  have hb2 : ∀ b ∈ ((bytes8 n).map f1).map f2, b % 16 ≤ 4 ∧ b / 16 ≤ 4 := by
    intro b hb2
    obtain ⟨a, ha, rfl⟩ := List.mem_map.1 hb2
    obtain ⟨c, hc, rfl⟩ := List.mem_map.1 ha
    exact f12_ok c (hb c hc)
  have s3 := val_f3 _ hb2
  rw [List.length_map, List.length_map, hl, e3] at s3
  refine ⟨(((bytes8 n).map f1).map f2).map f3, by simp [hl], ?_, ?_, ?_⟩
  · intro e he
    obtain ⟨a, ha, rfl⟩ := List.mem_map.1 he
    have := hb2 a ha
    unfold f3
    omega
  · unfold c3 c2 c1
    rw [s1, s2, s3]
  · have ho := ones_val (bytes8 n) hb
    rw [hv] at ho
    rw [ho, List.map_map, List.map_map]
    congr 1
    apply List.map_congr_left
    intro b hb4
    exact (f_all b (hb b hb4)).symm
theorem sum_q1 (a0 a1 a2 a3 a4 a5 a6 a7 : Nat) (b0 : a0 ≤ 8) : (a0 + 256 * a1 + 65536 * a2 + 16777216 * a3 + 4294967296 * a4 + 1099511627776 * a5 + 281474976710656 * a6 + 72057594037927936 * a7) / 256 = a1 + 256 * a2 + 65536 * a3 + 16777216 * a4 + 4294967296 * a5 + 1099511627776 * a6 + 281474976710656 * a7 := by omega
theorem sum_q2 (x r : Nat) (h : x < 65536) : (x + 65536 * r) / 65536 = r := by omega
theorem sum_q3 (x r : Nat) (h : x < 4294967296) : (x + 4294967296 * r) / 4294967296 = r := by omega
theorem sum_mod (x r : Nat) (h : x < 128) : (x + 128 * r) % 128 = x := by omega
theorem c3_le (n : Nat) (h : n < 18446744073709551616) : c1 n < 18446744073709551616 ∧ c2 (c1 n) < 18446744073709551616 ∧ c2 (c1 n) / 16 + c2 (c1 n) < 18446744073709551616 := by
  have g1 : c1 n ≤ 2 * m85 := by
    unfold c1
    have := Nat.and_le_right (n := n / 2) (m := m85)
    have := Nat.and_le_right (n := n) (m := m85)
    omega
  have g2 : c2 (c1 n) ≤ 2 * m51 := by
    unfold c2
    have := Nat.and_le_right (n := c1 n / 4) (m := m51)
    have := Nat.and_le_right (n := c1 n) (m := m51)
    omega
  unfold m85 at g1
  unfold m51 at g2
  exact ⟨by omega, by omega, by omega⟩
theorem c3_sum (n : Nat) (h : n < 18446744073709551616) : ∃ t0 t1 t2 : Nat, c3 (c2 (c1 n)) = t0 ∧ t0 / 256 = t1 ∧ (t0 + t1) / 65536 = t2 ∧ t0 ≤ 600000000000000000 ∧ t1 ≤ 600000000000000000 ∧ t2 ≤ 600000000000000000 ∧
    (t0 + t1 + t2 + (t0 + t1 + t2) / 4294967296) % 128 = ones n := by
  obtain ⟨es, h1, h2, h3, h4⟩ := c3_val n h
  rw [h3, h4]
  match es, h1, h2 with
  | [a0, a1, a2, a3, a4, a5, a6, a7], _, h2 =>
    have b0 := h2 a0 (by simp)
    have b1 := h2 a1 (by simp)
    have b2 := h2 a2 (by simp)
    have b3 := h2 a3 (by simp)
    have b4 := h2 a4 (by simp)
    have b5 := h2 a5 (by simp)
    have b6 := h2 a6 (by simp)
    have b7 := h2 a7 (by simp)
    have e : valB [a0, a1, a2, a3, a4, a5, a6, a7] = a0 + 256 * a1 + 65536 * a2 + 16777216 * a3 + 4294967296 * a4 + 1099511627776 * a5 + 281474976710656 * a6 + 72057594037927936 * a7 := by
      show a0 + 256 * (a1 + 256 * (a2 + 256 * (a3 + 256 * (a4 + 256 * (a5 + 256 * (a6 + 256 * (a7 + 256 * 0))))))) = _
      omega
    rw [e]
    clear e h2 h3 h4
    refine ⟨a0 + 256 * a1 + 65536 * a2 + 16777216 * a3 + 4294967296 * a4 + 1099511627776 * a5 + 281474976710656 * a6 + 72057594037927936 * a7, a1 + 256 * a2 + 65536 * a3 + 16777216 * a4 + 4294967296 * a5 + 1099511627776 * a6 + 281474976710656 * a7, (a2 + a3) + 256 * (a3 + a4) + 65536 * (a4 + a5) + 16777216 * (a5 + a6) + 4294967296 * (a6 + a7) + 1099511627776 * a7, rfl, sum_q1 _ _ _ _ _ _ _ _ b0, ?_, by omega, by omega, by omega, ?_⟩
    · have e : (a0 + 256 * a1 + 65536 * a2 + 16777216 * a3 + 4294967296 * a4 + 1099511627776 * a5 + 281474976710656 * a6 + 72057594037927936 * a7) + (a1 + 256 * a2 + 65536 * a3 + 16777216 * a4 + 4294967296 * a5 + 1099511627776 * a6 + 281474976710656 * a7) = (a0 + a1 + 256 * (a1 + a2)) + 65536 * ((a2 + a3) + 256 * (a3 + a4) + 65536 * (a4 + a5) + 16777216 * (a5 + a6) + 4294967296 * (a6 + a7) + 1099511627776 * a7) := by omega
      rw [e, sum_q2 _ _ (by omega)]
    · have e : (a0 + 256 * a1 + 65536 * a2 + 16777216 * a3 + 4294967296 * a4 + 1099511627776 * a5 + 281474976710656 * a6 + 72057594037927936 * a7) + (a1 + 256 * a2 + 65536 * a3 + 16777216 * a4 + 4294967296 * a5 + 1099511627776 * a6 + 281474976710656 * a7) + ((a2 + a3) + 256 * (a3 + a4) + 65536 * (a4 + a5) + 16777216 * (a5 + a6) + 4294967296 * (a6 + a7) + 1099511627776 * a7) = (a0 + a1 + a2 + a3 + 256 * (a1 + a2 + a3 + a4) + 65536 * (a2 + a3 + a4 + a5) + 16777216 * (a3 + a4 + a5 + a6)) + 4294967296 * ((a4 + a5 + a6 + a7) + 256 * (a5 + a6 + a7) + 65536 * (a6 + a7) + 16777216 * a7) := by omega
      rw [e, sum_q3 _ _ (by omega)]
      have e2 : (a0 + a1 + a2 + a3 + 256 * (a1 + a2 + a3 + a4) + 65536 * (a2 + a3 + a4 + a5) + 16777216 * (a3 + a4 + a5 + a6)) + 4294967296 * ((a4 + a5 + a6 + a7) + 256 * (a5 + a6 + a7) + 65536 * (a6 + a7) + 16777216 * a7) + ((a4 + a5 + a6 + a7) + 256 * (a5 + a6 + a7) + 65536 * (a6 + a7) + 16777216 * a7) = (a0 + a1 + a2 + a3 + a4 + a5 + a6 + a7) + 128 * (2 * (a1 + a2 + a3 + a4) + 512 * (a2 + a3 + a4 + a5) + 131072 * (a3 + a4 + a5 + a6) + 33554432 * ((a4 + a5 + a6 + a7) + 256 * (a5 + a6 + a7) + 65536 * (a6 + a7) + 16777216 * a7) + 2 * (a5 + a6 + a7) + 512 * (a6 + a7) + 131072 * a7) := by omega
      rw [e2, sum_mod _ _ (by omega)]
      simp only [List.sum_cons, List.sum_nil]
      omega
attribute [irreducible] c1 c2 c3 valB maskB f1 f2 f3 p8
end Go.Proofs.Ytgkjpemgfbkejaa
