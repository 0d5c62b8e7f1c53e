/- A tree grows by one leaf; how many bits of a number are 1: as plain functions. No function of the program stands here. -/
import Derived.Test.YtgkjpemgfbkejaaGrowS
namespace Go.Proofs.Ytgkjpemgfbkejaa
open Go.RowKit
set_option linter.unusedVariables false
set_option linter.unusedSimpArgs false

/-- Behind j steps of adding a leaf's sum. -/
structure GInv (d : Nat) (l : List ByteArray) (x : ByteArray) (j q : Nat) (L : List ByteArray) (leaf : ByteArray) : Prop where
  len : l.length + 1 = (q + 1) * 2 ^ j
  left : L = peaks d (l.take (q * 2 ^ j))
  sum : leaf = root d (l.drop (q * 2 ^ j) ++ [x])
theorem GInv.start (d : Nat) (l : List ByteArray) (x : ByteArray) : GInv d l x 0 l.length (peaks d l) x := by
  refine ⟨by simp, by simp, ?_⟩
  rw [Nat.pow_zero, Nat.mul_one, List.drop_length, List.nil_append, root_one d [x] rfl]; rfl
theorem GInv.odd {d : Nat} {l : List ByteArray} {x : ByteArray} {j q : Nat} {L : List ByteArray} {leaf : ByteArray} (h : GInv d l x j q L leaf) (ho : q % 2 = 1) :
    ∃ L' t, L = L' ++ [t] ∧ GInv d l x (j + 1) (q / 2) L' (mnode d t leaf) := by
  obtain ⟨h1, h2, h3⟩ := h
  have hp := Nat.one_le_two_pow (n := j)
  have hs : 2 ^ (j + 1) = 2 ^ j * 2 := Nat.pow_succ 2 j
  obtain ⟨p, rfl⟩ : ∃ p, q = 2 * p + 1 := ⟨q / 2, by omega⟩
  have hq : (2 * p + 1) / 2 = p := by omega
  rw [hq]
  have e1 : p * 2 ^ (j + 1) = 2 * p * 2 ^ j := by rw [hs]; rw [Nat.mul_comm (2 ^ j) 2, ← Nat.mul_assoc, Nat.mul_comm p 2]
  have e2 : (2 * p + 1) * 2 ^ j = 2 * p * 2 ^ j + 2 ^ j := by rw [Nat.add_mul, Nat.one_mul]
  have e3 : (2 * p + 1 + 1) * 2 ^ j = 2 * p * 2 ^ j + 2 ^ j + 2 ^ j := by rw [Nat.add_mul, Nat.add_mul, Nat.one_mul]
  rw [e2] at h2 h3
  rw [e3] at h1
  have hl : l.length + 1 = (p + 1) * 2 ^ (j + 1) := by rw [Nat.add_mul, Nat.one_mul, e1, hs]; omega
  obtain ⟨Q, hQ⟩ : ∃ Q, 2 * p * 2 ^ j = Q := ⟨_, rfl⟩
  rw [hQ] at h1 h2 h3 e1
  have hb : l.take (Q + 2 ^ j) = l.take Q ++ (l.drop Q).take (2 ^ j) := List.take_add
  have hbl : ((l.drop Q).take (2 ^ j)).length = 2 ^ j := by rw [List.length_take, List.length_drop]; omega
  have hps := peaks_snoc d j ((l.drop Q).take (2 ^ j)) hbl p (l.take Q) (by rw [List.length_take, ← e1, Nat.mul_comm]; rw [Nat.mul_comm, e1]; omega)
  refine ⟨peaks d (l.take Q), root d ((l.drop Q).take (2 ^ j)), by rw [h2, hb, hps], hl, by rw [e1], ?_⟩
  have hd : l.drop Q ++ [x] = (l.drop Q).take (2 ^ j) ++ (l.drop (Q + 2 ^ j) ++ [x]) := by
    rw [← List.append_assoc, ← List.drop_drop, List.take_append_drop]
  rw [e1, hd, h3, root_half d j _ _ hbl (by simp) (by rw [List.length_append, List.length_drop]; simp; omega)]
theorem GInv.even {d : Nat} {l : List ByteArray} {x : ByteArray} {j q : Nat} {L : List ByteArray} {leaf : ByteArray} (h : GInv d l x j q L leaf) (ho : q % 2 = 0) :
    peaks d (l ++ [x]) = L ++ [leaf] := by
  obtain ⟨h1, h2, h3⟩ := h
  have hp := Nat.one_le_two_pow (n := j)
  obtain ⟨p, rfl⟩ : ∃ p, q = 2 * p := ⟨q / 2, by omega⟩
  have hs : 2 ^ (j + 1) = 2 ^ j * 2 := Nat.pow_succ 2 j
  have e1 : 2 * p * 2 ^ j = 2 ^ (j + 1) * p := by rw [hs, Nat.mul_comm (2 ^ j * 2) p, Nat.mul_comm (2 ^ j) 2, ← Nat.mul_assoc, Nat.mul_comm p 2]
  rw [Nat.add_mul, Nat.one_mul] at h1
  have hps := peaks_snoc d j (l.drop (2 * p * 2 ^ j) ++ [x]) (by rw [List.length_append, List.length_drop]; simp; omega) p (l.take (2 * p * 2 ^ j)) (by rw [List.length_take, ← e1]; omega)
  rw [← List.append_assoc, List.take_append_drop] at hps
  rw [hps, h2, h3]
theorem peaks_size (d : Nat) (hd : d ≤ 32) : ∀ (n : Nat) (l : List ByteArray), l.length = n → (∀ s ∈ l, s.size = d) → ∀ s ∈ peaks d l, s.size = d := by
  intro n
  induction n using Nat.strongRecOn with
  | _ n ih =>
    intro l hl hz s hs
    rcases Nat.lt_or_ge n 1 with h | h
    · rw [peaks_nil d l (by omega)] at hs; cases hs
    · have hp := topn_pos n
      have hle := topn_le n h
      rw [peaks_cons d l (by omega), hl] at hs
      rcases List.mem_cons.1 hs with rfl | hs
      · have hlt : (l.take (topn n)).length = topn n := by rw [List.length_take]; omega
        rcases Nat.lt_or_ge (topn n) 2 with h4 | h4
        · rw [root_one _ _ (by omega)]
          exact hz _ (List.mem_of_mem_take (i := topn n) (by rw [List.getD_eq_getElem?_getD, List.getElem?_eq_getElem (by omega)]; exact List.getElem_mem _))
        · rw [root_cut _ _ (by omega)]; exact mnode_size _ _ _ hd
      · exact ih (n - topn n) (by omega) _ (by rw [List.length_drop, hl]) (fun s hs => hz s (List.mem_of_mem_drop hs)) s hs
theorem peaks_pos (d : Nat) (l : List ByteArray) (h : 1 ≤ l.length) : peaks d l ≠ [] := by
  have := peaks_length_pos d l h
  intro e; rw [e] at this; simp at this
/-- The root from the last peak on down. -/
theorem upP_snoc (w : Nat) : ∀ (l : List ByteArray) (p q : ByteArray), upP w (l ++ [p, q]) = upP w (l ++ [mnode w p q])
  | [], p, q => by
    rw [List.nil_append, List.nil_append, upP_cons _ _ _ (by simp), upP_one, upP_one]
  | x :: l, p, q => by
    rw [List.cons_append, List.cons_append, upP_cons _ _ _ (by simp), upP_cons _ _ _ (by simp), upP_snoc w l p q]

end Go.Proofs.Ytgkjpemgfbkejaa
