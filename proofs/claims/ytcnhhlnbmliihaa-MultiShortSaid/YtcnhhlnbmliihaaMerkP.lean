/- Ways and proofs in trees of sums, as plain functions. No function of the program stands here. -/
import Derived.Test.YtcnhhlnbmliihaaMerkS
namespace Go.Proofs.Ytcnhhlnbmliihaa
open Go.RowKit
set_option linter.unusedVariables false
set_option linter.unusedSimpArgs false

/-- From the leaf up: does it stand on the right? -/
def wayF : Nat → Nat → Nat → List Bool
  | 0, _, _ => []
  | f + 1, i, n => if n < 2 then [] else if i < cut n then wayF f i (cut n) ++ [false] else wayF f (i - cut n) (n - cut n) ++ [true]
def way (i n : Nat) : List Bool := wayF n i n
theorem wayF_more : ∀ (f i n : Nat), n ≤ f → wayF f i n = wayF n i n := by
  intro f
  induction f using Nat.strongRecOn with
  | _ f ih =>
    intro i n hn
    match f, hn with
    | 0, hn => rw [Nat.le_zero.1 hn]
    | f + 1, hn =>
      match n, hn with
      | 0, _ => rfl
      | m + 1, hn =>
        show (if _ then _ else _) = (if _ then _ else _)
        by_cases h : m + 1 < 2
        · rw [if_pos h, if_pos h]
        · rw [if_neg h, if_neg h]
          have hc := cut_lt (m + 1) (by omega)
          have hp := cut_pos (m + 1)
          rw [ih f (by omega) i (cut (m + 1)) (by omega), ih f (by omega) (i - cut (m + 1)) (m + 1 - cut (m + 1)) (by omega), ih m (by omega) i (cut (m + 1)) (by omega), ih m (by omega) (i - cut (m + 1)) (m + 1 - cut (m + 1)) (by omega)]
theorem way_one (i n : Nat) (h : n < 2) : way i n = [] := by
  unfold way
  match n with
  | 0 => rfl
  | n + 1 => show (if _ then _ else _) = _; rw [if_pos h]
theorem way_cut (i n : Nat) (h : 2 ≤ n) : way i n = if i < cut n then way i (cut n) ++ [false] else way (i - cut n) (n - cut n) ++ [true] := by
  have hc := cut_lt n h
  have hp := cut_pos n
  obtain ⟨m, rfl⟩ : ∃ m, n = m + 1 := ⟨n - 1, by omega⟩
  unfold way
  rw [← wayF_more m i (cut (m + 1)) (by omega), ← wayF_more m (i - cut (m + 1)) (m + 1 - cut (m + 1)) (by omega)]
  show (if _ then _ else _) = _
  rw [if_neg (by omega)]
theorem way_left (i n : Nat) (h : 2 ≤ n) (hi : i < cut n) : way i n = way i (cut n) ++ [false] := by rw [way_cut i n h, if_pos hi]
theorem way_right (i n : Nat) (h : 2 ≤ n) (hi : cut n ≤ i) : way i n = way (i - cut n) (n - cut n) ++ [true] := by rw [way_cut i n h, if_neg (by omega)]

/-- The sums beside the way. -/
def proofF (w : Nat) : Nat → Nat → List ByteArray → List ByteArray
  | 0, _, _ => []
  | f + 1, i, l => if l.length < 2 then [] else if i < cut l.length then proofF w f i (l.take (cut l.length)) ++ [root w (l.drop (cut l.length))] else proofF w f (i - cut l.length) (l.drop (cut l.length)) ++ [root w (l.take (cut l.length))]
def proof (w i : Nat) (l : List ByteArray) : List ByteArray := proofF w l.length i l
theorem proofF_succ (w f i : Nat) (l : List ByteArray) : proofF w (f + 1) i l = if l.length < 2 then [] else if i < cut l.length then proofF w f i (l.take (cut l.length)) ++ [root w (l.drop (cut l.length))] else proofF w f (i - cut l.length) (l.drop (cut l.length)) ++ [root w (l.take (cut l.length))] := rfl
theorem proofF_more (w : Nat) : ∀ (f i : Nat) (l : List ByteArray), l.length ≤ f → proofF w f i l = proofF w l.length i l := by
  intro f
  induction f using Nat.strongRecOn with
  | _ f ih =>
    intro i l hl
    match f, hl with
    | 0, hl => rw [Nat.le_zero.1 hl]
    | f + 1, hl =>
      by_cases h0 : l.length = 0
      · rw [h0, proofF_succ, if_pos (by omega)]; rfl
      · obtain ⟨m, hm⟩ : ∃ m, l.length = m + 1 := ⟨l.length - 1, by omega⟩
        conv => rhs; rw [hm, proofF_succ]
        rw [proofF_succ]
        by_cases h1 : l.length < 2
        · rw [if_pos h1, if_pos h1]
        · rw [if_neg h1, if_neg h1]
          have hc := cut_lt l.length (by omega)
          have hp := cut_pos l.length
          have ht : (l.take (cut l.length)).length = cut l.length := by rw [List.length_take]; omega
          have hd : (l.drop (cut l.length)).length = l.length - cut l.length := by rw [List.length_drop]
          rw [ih f (by omega) i (l.take (cut l.length)) (by omega), ih f (by omega) (i - cut l.length) (l.drop (cut l.length)) (by omega), ih m (by omega) i (l.take (cut l.length)) (by omega), ih m (by omega) (i - cut l.length) (l.drop (cut l.length)) (by omega)]
theorem proof_one (w i : Nat) (l : List ByteArray) (h : l.length < 2) : proof w i l = [] := by
  unfold proof
  match hl : l.length with
  | 0 => rfl
  | n + 1 => rw [proofF_succ, if_pos h]
theorem proof_cut (w i : Nat) (l : List ByteArray) (h : 2 ≤ l.length) : proof w i l = if i < cut l.length then proof w i (l.take (cut l.length)) ++ [root w (l.drop (cut l.length))] else proof w (i - cut l.length) (l.drop (cut l.length)) ++ [root w (l.take (cut l.length))] := by
  have hc := cut_lt l.length h
  have hp := cut_pos l.length
  obtain ⟨m, hm⟩ : ∃ m, l.length = m + 1 := ⟨l.length - 1, by omega⟩
  have ht : (l.take (cut l.length)).length = cut l.length := by rw [List.length_take]; omega
  have hd : (l.drop (cut l.length)).length = l.length - cut l.length := by rw [List.length_drop]
  unfold proof
  rw [← proofF_more w m i (l.take (cut l.length)) (by omega), ← proofF_more w m (i - cut l.length) (l.drop (cut l.length)) (by omega)]
  conv => lhs; rw [hm]
  rw [proofF_succ, if_neg (by omega)]
theorem proof_left (w i : Nat) (l : List ByteArray) (h : 2 ≤ l.length) (hi : i < cut l.length) : proof w i l = proof w i (l.take (cut l.length)) ++ [root w (l.drop (cut l.length))] := by rw [proof_cut w i l h, if_pos hi]
theorem proof_right (w i : Nat) (l : List ByteArray) (h : 2 ≤ l.length) (hi : cut l.length ≤ i) : proof w i l = proof w (i - cut l.length) (l.drop (cut l.length)) ++ [root w (l.take (cut l.length))] := by rw [proof_cut w i l h, if_neg (by omega)]

/-- From a leaf's sum up. -/
def climb (w : Nat) (x : ByteArray) : List Bool → List ByteArray → ByteArray
  | b :: bs, s :: ss => climb w (if b then mnode w s x else mnode w x s) bs ss
  | _, _ => x
theorem climb_snoc (w : Nat) (b : Bool) (s : ByteArray) : ∀ (bs : List Bool) (ss : List ByteArray) (x : ByteArray), bs.length = ss.length → climb w x (bs ++ [b]) (ss ++ [s]) = if b then mnode w s (climb w x bs ss) else mnode w (climb w x bs ss) s
  | [], [], _, _ => rfl
  | _ :: bs, _ :: ss, _, h => climb_snoc w b s bs ss _ (by simpa using h)
  | [], _ :: _, _, h => by simp at h
  | _ :: _, [], _, h => by simp at h
theorem way_proof (w : Nat) : ∀ (n i : Nat) (l : List ByteArray), l.length = n → i < n → (way i n).length = (proof w i l).length ∧ climb w (l.getD i ByteArray.empty) (way i n) (proof w i l) = root w l := by
  intro n
  induction n using Nat.strongRecOn with
  | _ n ih =>
    intro i l hl hi
    by_cases h : n < 2
    · rw [way_one i n h, proof_one w i l (by omega)]
      have e : i = 0 := by omega
      subst e
      exact ⟨rfl, (root_one w l (by omega)).symm⟩
    · have hc := cut_lt n (by omega)
      have hp := cut_pos n
      rw [root_cut w l (by omega)]
      by_cases hic : i < cut n
      · rw [way_left i n (by omega) hic, proof_left w i l (by omega) (by rw [hl]; exact hic), hl]
        have ht : (l.take (cut n)).length = cut n := by rw [List.length_take]; omega
        obtain ⟨h1, h2⟩ := ih (cut n) hc i (l.take (cut n)) ht hic
        refine ⟨by rw [List.length_append, List.length_append, h1]; rfl, ?_⟩
        rw [climb_snoc _ _ _ _ _ _ h1]
        have e : (l.take (cut n)).getD i ByteArray.empty = l.getD i ByteArray.empty := by
          rw [List.getD_eq_getElem?_getD, List.getD_eq_getElem?_getD, List.getElem?_take_of_lt hic]
        rw [e] at h2
        rw [h2]; rfl
      · rw [way_right i n (by omega) (by omega), proof_right w i l (by omega) (by rw [hl]; omega), hl]
        have hd : (l.drop (cut n)).length = n - cut n := by rw [List.length_drop, hl]
        obtain ⟨h1, h2⟩ := ih (n - cut n) (by omega) (i - cut n) (l.drop (cut n)) hd (by omega)
        refine ⟨by rw [List.length_append, List.length_append, h1]; rfl, ?_⟩
        rw [climb_snoc _ _ _ _ _ _ h1]
        have e : (l.drop (cut n)).getD (i - cut n) ByteArray.empty = l.getD i ByteArray.empty := by
          rw [List.getD_eq_getElem?_getD, List.getD_eq_getElem?_getD, List.getElem?_drop]
          congr 2; omega
        rw [e] at h2
        rw [h2]; rfl
theorem way_bits : ∀ (b i n : Nat), n ≤ 2 ^ b → (way i n).length ≤ b := by
  intro b
  induction b with
  | zero => intro i n h; rw [way_one i n (by simp at h; omega)]; simp
  | succ b ih =>
    intro i n h
    by_cases h2 : n < 2
    · rw [way_one i n h2]; simp
    · have hc := cut_lt n (by omega)
      have hp := cut_pos n
      obtain ⟨j, hj⟩ := cut_pow n
      have hle : cut n ≤ 2 ^ b := by
        rw [hj] at hc ⊢
        rcases Nat.lt_or_ge b j with hbj | hbj
        · have := Nat.pow_le_pow_right (n := 2) (by decide) (show b + 1 ≤ j by omega); omega
        · exact Nat.pow_le_pow_right (by decide) hbj
      have hh := cut_half n
      by_cases hic : i < cut n
      · rw [way_left i n (by omega) hic, List.length_append]; have := ih i (cut n) hle; simp; omega
      · rw [way_right i n (by omega) (by omega), List.length_append]; have := ih (i - cut n) (n - cut n) (by omega); simp; omega
theorem climb_size (w : Nat) (hw : w ≤ 32) : ∀ (bs : List Bool) (ss : List ByteArray) (x : ByteArray), x.size = w → (climb w x bs ss).size = w
  | b :: bs, s :: ss, x, _ => climb_size w hw bs ss _ (by split <;> exact mnode_size w _ _ hw)
  | [], _, _, h => by simpa [climb] using h
  | _ :: _, [], _, h => by simpa [climb] using h
attribute [irreducible] way proof wayF proofF
end Go.Proofs.Ytcnhhlnbmliihaa
