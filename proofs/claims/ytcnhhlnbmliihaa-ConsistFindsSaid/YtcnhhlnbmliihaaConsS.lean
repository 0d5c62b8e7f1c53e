/- Proofs that a tree is the beginning of a greater one, as plain functions. No function of the program stands here. -/
import Derived.Test.YtcnhhlnbmliihaaClashS
namespace Go.Proofs.Ytcnhhlnbmliihaa
open Go.RowKit
set_option linter.unusedVariables false
set_option linter.unusedSimpArgs false

/-- The proof for the first m. -/
def subF (w : Nat) : Nat → Nat → List ByteArray → Bool → List ByteArray
  | 0, _, _, _ => []
  | f + 1, m, l, wh => if m = l.length then (if wh then [] else [root w l]) else if m ≤ cut l.length then subF w f m (l.take (cut l.length)) wh ++ [root w (l.drop (cut l.length))] else subF w f (m - cut l.length) (l.drop (cut l.length)) false ++ [root w (l.take (cut l.length))]
theorem subF_succ (w f m : Nat) (l : List ByteArray) (wh : Bool) : subF w (f + 1) m l wh = if m = l.length then (if wh then [] else [root w l]) else if m ≤ cut l.length then subF w f m (l.take (cut l.length)) wh ++ [root w (l.drop (cut l.length))] else subF w f (m - cut l.length) (l.drop (cut l.length)) false ++ [root w (l.take (cut l.length))] := rfl
theorem subF_more (w : Nat) : ∀ (f m : Nat) (l : List ByteArray) (wh : Bool), 1 ≤ m → m ≤ l.length → l.length ≤ f → subF w f m l wh = subF w l.length m l wh := by
  intro f
  induction f using Nat.strongRecOn with
  | _ f ih =>
    intro m l wh h1 hm hl
    obtain ⟨f, rfl⟩ : ∃ g, f = g + 1 := ⟨f - 1, by omega⟩
    obtain ⟨k, hk⟩ : ∃ m, l.length = m + 1 := ⟨l.length - 1, by omega⟩
    conv => rhs; rw [hk, subF_succ]
    rw [subF_succ]
    by_cases e : m = l.length
    · rw [if_pos e, if_pos e]
    · rw [if_neg e, if_neg e]
      have hc := cut_lt l.length (by omega)
      have hp := cut_pos l.length
      have ht : (l.take (cut l.length)).length = cut l.length := by rw [List.length_take]; omega
      have hd : (l.drop (cut l.length)).length = l.length - cut l.length := by rw [List.length_drop]
      by_cases hmc : m ≤ cut l.length
      · rw [if_pos hmc, if_pos hmc, ih f (by omega) m _ wh h1 (by omega) (by omega), ih k (by omega) m _ wh h1 (by omega) (by omega)]
      · rw [if_neg hmc, if_neg hmc, ih f (by omega) (m - cut l.length) (l.drop (cut l.length)) false (by omega) (by omega) (by omega), ih k (by omega) (m - cut l.length) (l.drop (cut l.length)) false (by omega) (by omega) (by omega)]
def sub (w m : Nat) (l : List ByteArray) (wh : Bool) : List ByteArray := subF w l.length m l wh
theorem sub_all (w m : Nat) (l : List ByteArray) (wh : Bool) (h1 : 1 ≤ m) (e : m = l.length) : sub w m l wh = if wh then [] else [root w l] := by
  obtain ⟨k, hk⟩ : ∃ m, l.length = m + 1 := ⟨l.length - 1, by omega⟩
  unfold sub; rw [hk, subF_succ, if_pos e]
theorem sub_left (w m : Nat) (l : List ByteArray) (wh : Bool) (h1 : 1 ≤ m) (hm : m < l.length) (hc : m ≤ cut l.length) : sub w m l wh = sub w m (l.take (cut l.length)) wh ++ [root w (l.drop (cut l.length))] := by
  obtain ⟨k, hk⟩ : ∃ m, l.length = m + 1 := ⟨l.length - 1, by omega⟩
  have hcl := cut_lt l.length (by omega)
  have ht : (l.take (cut l.length)).length = cut l.length := by rw [List.length_take]; omega
  unfold sub
  rw [← subF_more w k m (l.take (cut l.length)) wh h1 (by omega) (by omega)]
  conv => lhs; rw [hk]
  rw [subF_succ, if_neg (by omega), if_pos hc]
theorem sub_right (w m : Nat) (l : List ByteArray) (wh : Bool) (hm : m < l.length) (hc : cut l.length < m) : sub w m l wh = sub w (m - cut l.length) (l.drop (cut l.length)) false ++ [root w (l.take (cut l.length))] := by
  obtain ⟨k, hk⟩ : ∃ m, l.length = m + 1 := ⟨l.length - 1, by omega⟩
  have hp := cut_pos l.length
  have hd : (l.drop (cut l.length)).length = l.length - cut l.length := by rw [List.length_drop]
  unfold sub
  rw [← subF_more w k (m - cut l.length) (l.drop (cut l.length)) false (by omega) (by omega) (by omega)]
  conv => lhs; rw [hk]
  rw [subF_succ, if_neg (by omega), if_neg (by omega)]

/-- How many sums a proof has. -/
def longF : Nat → Nat → Nat → Bool → Nat
  | 0, _, _, _ => 0
  | f + 1, m, n, wh => if m = n then (if wh then 0 else 1) else if m ≤ cut n then longF f m (cut n) wh + 1 else longF f (m - cut n) (n - cut n) false + 1
theorem longF_succ (f m n : Nat) (wh : Bool) : longF (f + 1) m n wh = if m = n then (if wh then 0 else 1) else if m ≤ cut n then longF f m (cut n) wh + 1 else longF f (m - cut n) (n - cut n) false + 1 := rfl
theorem longF_more : ∀ (f m n : Nat) (wh : Bool), 1 ≤ m → m ≤ n → n ≤ f → longF f m n wh = longF n m n wh := by
  intro f
  induction f using Nat.strongRecOn with
  | _ f ih =>
    intro m n wh h1 hm hl
    obtain ⟨f, rfl⟩ : ∃ g, f = g + 1 := ⟨f - 1, by omega⟩
    obtain ⟨k, rfl⟩ : ∃ m, n = m + 1 := ⟨n - 1, by omega⟩
    rw [longF_succ, longF_succ]
    by_cases e : m = k + 1
    · rw [if_pos e, if_pos e]
    · rw [if_neg e, if_neg e]
      have hc := cut_lt (k + 1) (by omega)
      have hp := cut_pos (k + 1)
      by_cases hmc : m ≤ cut (k + 1)
      · rw [if_pos hmc, if_pos hmc, ih f (by omega) m _ wh h1 (by omega) (by omega), ih k (by omega) m _ wh h1 (by omega) (by omega)]
      · rw [if_neg hmc, if_neg hmc, ih f (by omega) (m - cut (k + 1)) _ false (by omega) (by omega) (by omega), ih k (by omega) (m - cut (k + 1)) _ false (by omega) (by omega) (by omega)]
def long (m n : Nat) (wh : Bool) : Nat := longF n m n wh
theorem long_all (m n : Nat) (wh : Bool) (h1 : 1 ≤ m) (e : m = n) : long m n wh = if wh then 0 else 1 := by
  obtain ⟨k, rfl⟩ : ∃ m, n = m + 1 := ⟨n - 1, by omega⟩
  unfold long; rw [longF_succ, if_pos e]
theorem long_left (m n : Nat) (wh : Bool) (h1 : 1 ≤ m) (hm : m < n) (hc : m ≤ cut n) : long m n wh = long m (cut n) wh + 1 := by
  obtain ⟨k, rfl⟩ : ∃ m, n = m + 1 := ⟨n - 1, by omega⟩
  have hcl := cut_lt (k + 1) (by omega)
  unfold long
  rw [← longF_more k m (cut (k + 1)) wh h1 (by omega) (by omega), longF_succ, if_neg (by omega), if_pos hc]
theorem long_right (m n : Nat) (wh : Bool) (hm : m < n) (hc : cut n < m) : long m n wh = long (m - cut n) (n - cut n) false + 1 := by
  obtain ⟨k, rfl⟩ : ∃ m, n = m + 1 := ⟨n - 1, by omega⟩
  have hp := cut_pos (k + 1)
  unfold long
  rw [← longF_more k (m - cut (k + 1)) (k + 1 - cut (k + 1)) false (by omega) (by omega) (by omega), longF_succ, if_neg (by omega), if_neg (by omega)]
theorem sub_length (w : Nat) : ∀ (n m : Nat) (l : List ByteArray) (wh : Bool), l.length = n → 1 ≤ m → m ≤ n → (sub w m l wh).length = long m n wh := by
  intro n
  induction n using Nat.strongRecOn with
  | _ n ih =>
    intro m l wh hl h1 hm
    by_cases e : m = n
    · rw [sub_all w m l wh h1 (by omega), long_all m n wh h1 e]; cases wh <;> rfl
    · have hc := cut_lt n (by omega)
      have hp := cut_pos n
      have ht : (l.take (cut n)).length = cut n := by rw [List.length_take]; omega
      have hd : (l.drop (cut n)).length = n - cut n := by rw [List.length_drop, hl]
      by_cases hmc : m ≤ cut n
      · rw [sub_left w m l wh h1 (by omega) (by rw [hl]; exact hmc), long_left m n wh h1 (by omega) hmc, List.length_append, hl, ih (cut n) hc m _ wh ht h1 hmc]; rfl
      · rw [sub_right w m l wh (by omega) (by rw [hl]; omega), long_right m n wh (by omega) (by omega), List.length_append, hl, ih (n - cut n) (by omega) (m - cut n) _ false hd (by omega) (by omega)]; rfl

/-- The roots that come of a proof: of the first m, of all. -/
def firstF (w : Nat) (kn : ByteArray) : Nat → Nat → Nat → List ByteArray → Bool → ByteArray
  | 0, _, _, _, _ => ByteArray.empty
  | f + 1, m, n, p, wh => if m = n then (if wh then kn else p.getD 0 ByteArray.empty) else if m ≤ cut n then firstF w kn f m (cut n) (p.take (p.length - 1)) wh else mnode w (p.getD (p.length - 1) ByteArray.empty) (firstF w kn f (m - cut n) (n - cut n) (p.take (p.length - 1)) false)
def allF (w : Nat) (kn : ByteArray) : Nat → Nat → Nat → List ByteArray → Bool → ByteArray
  | 0, _, _, _, _ => ByteArray.empty
  | f + 1, m, n, p, wh => if m = n then (if wh then kn else p.getD 0 ByteArray.empty) else if m ≤ cut n then mnode w (allF w kn f m (cut n) (p.take (p.length - 1)) wh) (p.getD (p.length - 1) ByteArray.empty) else mnode w (p.getD (p.length - 1) ByteArray.empty) (allF w kn f (m - cut n) (n - cut n) (p.take (p.length - 1)) false)
theorem firstF_succ (w : Nat) (kn : ByteArray) (f m n : Nat) (p : List ByteArray) (wh : Bool) : firstF w kn (f + 1) m n p wh = if m = n then (if wh then kn else p.getD 0 ByteArray.empty) else if m ≤ cut n then firstF w kn f m (cut n) (p.take (p.length - 1)) wh else mnode w (p.getD (p.length - 1) ByteArray.empty) (firstF w kn f (m - cut n) (n - cut n) (p.take (p.length - 1)) false) := rfl
theorem allF_succ (w : Nat) (kn : ByteArray) (f m n : Nat) (p : List ByteArray) (wh : Bool) : allF w kn (f + 1) m n p wh = if m = n then (if wh then kn else p.getD 0 ByteArray.empty) else if m ≤ cut n then mnode w (allF w kn f m (cut n) (p.take (p.length - 1)) wh) (p.getD (p.length - 1) ByteArray.empty) else mnode w (p.getD (p.length - 1) ByteArray.empty) (allF w kn f (m - cut n) (n - cut n) (p.take (p.length - 1)) false) := rfl
theorem bothF_more (w : Nat) (kn : ByteArray) : ∀ (f m n : Nat) (p : List ByteArray) (wh : Bool), 1 ≤ m → m ≤ n → n ≤ f → firstF w kn f m n p wh = firstF w kn n m n p wh ∧ allF w kn f m n p wh = allF w kn n m n p wh := by
  intro f
  induction f using Nat.strongRecOn with
  | _ f ih =>
    intro m n p wh h1 hm hl
    obtain ⟨f, rfl⟩ : ∃ g, f = g + 1 := ⟨f - 1, by omega⟩
    obtain ⟨k, rfl⟩ : ∃ m, n = m + 1 := ⟨n - 1, by omega⟩
    rw [firstF_succ, firstF_succ, allF_succ, allF_succ]
    by_cases e : m = k + 1
    · simp only [if_pos e, and_self]
    · simp only [if_neg e]
      have hc := cut_lt (k + 1) (by omega)
      have hp := cut_pos (k + 1)
      by_cases hmc : m ≤ cut (k + 1)
      · simp only [if_pos hmc]
        obtain ⟨a1, a2⟩ := ih f (by omega) m (cut (k + 1)) (p.take (p.length - 1)) wh h1 (by omega) (by omega)
        obtain ⟨b1, b2⟩ := ih k (by omega) m (cut (k + 1)) (p.take (p.length - 1)) wh h1 (by omega) (by omega)
        rw [a1, a2, b1, b2]; exact ⟨rfl, rfl⟩
      · simp only [if_neg hmc]
        obtain ⟨a1, a2⟩ := ih f (by omega) (m - cut (k + 1)) (k + 1 - cut (k + 1)) (p.take (p.length - 1)) false (by omega) (by omega) (by omega)
        obtain ⟨b1, b2⟩ := ih k (by omega) (m - cut (k + 1)) (k + 1 - cut (k + 1)) (p.take (p.length - 1)) false (by omega) (by omega) (by omega)
        rw [a1, a2, b1, b2]; exact ⟨rfl, rfl⟩
def firstR (w : Nat) (kn : ByteArray) (m n : Nat) (p : List ByteArray) (wh : Bool) : ByteArray := firstF w kn n m n p wh
def allR (w : Nat) (kn : ByteArray) (m n : Nat) (p : List ByteArray) (wh : Bool) : ByteArray := allF w kn n m n p wh
theorem both_all (w : Nat) (kn : ByteArray) (m n : Nat) (p : List ByteArray) (wh : Bool) (h1 : 1 ≤ m) (e : m = n) :
    firstR w kn m n p wh = (if wh then kn else p.getD 0 ByteArray.empty) ∧ allR w kn m n p wh = (if wh then kn else p.getD 0 ByteArray.empty) := by
  obtain ⟨k, rfl⟩ : ∃ m, n = m + 1 := ⟨n - 1, by omega⟩
  unfold firstR allR; exact ⟨by rw [firstF_succ, if_pos e], by rw [allF_succ, if_pos e]⟩
theorem both_left (w : Nat) (kn : ByteArray) (m n : Nat) (p : List ByteArray) (wh : Bool) (h1 : 1 ≤ m) (hm : m < n) (hc : m ≤ cut n) :
    firstR w kn m n p wh = firstR w kn m (cut n) (p.take (p.length - 1)) wh ∧ allR w kn m n p wh = mnode w (allR w kn m (cut n) (p.take (p.length - 1)) wh) (p.getD (p.length - 1) ByteArray.empty) := by
  obtain ⟨k, rfl⟩ : ∃ m, n = m + 1 := ⟨n - 1, by omega⟩
  have hcl := cut_lt (k + 1) (by omega)
  obtain ⟨b1, b2⟩ := bothF_more w kn k m (cut (k + 1)) (p.take (p.length - 1)) wh h1 hc (by omega)
  unfold firstR allR
  have e : ¬ m = k + 1 := by omega
  rw [← b1, ← b2]
  exact ⟨by rw [firstF_succ, if_neg e, if_pos hc], by rw [allF_succ, if_neg e, if_pos hc]⟩
theorem both_right (w : Nat) (kn : ByteArray) (m n : Nat) (p : List ByteArray) (wh : Bool) (hm : m < n) (hc : cut n < m) :
    firstR w kn m n p wh = mnode w (p.getD (p.length - 1) ByteArray.empty) (firstR w kn (m - cut n) (n - cut n) (p.take (p.length - 1)) false) ∧ allR w kn m n p wh = mnode w (p.getD (p.length - 1) ByteArray.empty) (allR w kn (m - cut n) (n - cut n) (p.take (p.length - 1)) false) := by
  obtain ⟨k, rfl⟩ : ∃ m, n = m + 1 := ⟨n - 1, by omega⟩
  have hp := cut_pos (k + 1)
  obtain ⟨b1, b2⟩ := bothF_more w kn k (m - cut (k + 1)) (k + 1 - cut (k + 1)) (p.take (p.length - 1)) false (by omega) (by omega) (by omega)
  unfold firstR allR
  have e : ¬ m = k + 1 := by omega
  have e2 : ¬ m ≤ cut (k + 1) := by omega
  rw [← b1, ← b2]
  exact ⟨by rw [firstF_succ, if_neg e, if_neg e2], by rw [allF_succ, if_neg e, if_neg e2]⟩
theorem take_snoc_len (p : List ByteArray) (x : ByteArray) : (p ++ [x]).take ((p ++ [x]).length - 1) = p := by
  rw [List.length_append]; simp
theorem getD_snoc_len (p : List ByteArray) (x : ByteArray) : (p ++ [x]).getD ((p ++ [x]).length - 1) ByteArray.empty = x := by
  rw [List.length_append, List.getD_eq_getElem?_getD]; simp
/-- The root of a beginning that is longer than the left part. -/
theorem root_take (w : Nat) (l : List ByteArray) (m : Nat) (hm : m ≤ l.length) (h2 : 2 ≤ l.length) (hc : cut l.length < m) : root w (l.take m) = mnode w (root w (l.take (cut l.length))) (root w ((l.drop (cut l.length)).take (m - cut l.length))) := by
  have hl : (l.take m).length = m := by rw [List.length_take]; omega
  have hh := cut_half l.length
  have hp := cut_pos l.length
  obtain ⟨j, hj⟩ := cut_pow l.length
  have hcm : cut m = cut l.length := by
    rw [hj]; exact (pow_cut m j (.inl (by omega)) (by omega)).symm
  rw [root_cut w (l.take m) (by omega), hl, hcm, List.take_take, Nat.min_eq_left (by omega), List.drop_take]
/-- A proof leads to the roots. -/
theorem both_sub (w : Nat) (kn : ByteArray) : ∀ (n m : Nat) (l : List ByteArray) (wh : Bool), l.length = n → 1 ≤ m → m ≤ n → (wh = true → kn = root w (l.take m)) →
    firstR w kn m n (sub w m l wh) wh = root w (l.take m) ∧ allR w kn m n (sub w m l wh) wh = root w l := by
  intro n
  induction n using Nat.strongRecOn with
  | _ n ih =>
    intro m l wh hl h1 hm hk
    by_cases e : m = n
    · obtain ⟨b1, b2⟩ := both_all w kn m n (sub w m l wh) wh h1 e
      have ht : l.take m = l := List.take_of_length_le (by omega)
      rw [b1, b2, sub_all w m l wh h1 (by omega), ht]
      rw [ht] at hk
      cases wh with
      | true => exact ⟨hk rfl, hk rfl⟩
      | false => exact ⟨rfl, rfl⟩
    · have hc := cut_lt n (by omega)
      have hp := cut_pos n
      have ht : (l.take (cut n)).length = cut n := by rw [List.length_take]; omega
      have hd : (l.drop (cut n)).length = n - cut n := by rw [List.length_drop, hl]
      by_cases hmc : m ≤ cut n
      · obtain ⟨b1, b2⟩ := both_left w kn m n (sub w m l wh) wh h1 (by omega) hmc
        have hs := sub_left w m l wh h1 (by omega) (by rw [hl]; exact hmc)
        rw [hl] at hs
        rw [b1, b2, hs, take_snoc_len, getD_snoc_len]
        have htt : (l.take (cut n)).take m = l.take m := by rw [List.take_take, Nat.min_eq_left hmc]
        obtain ⟨i1, i2⟩ := ih (cut n) hc m (l.take (cut n)) wh ht h1 hmc (by rw [htt]; exact hk)
        rw [i1, i2, htt, root_cut w l (by omega), hl]
        exact ⟨rfl, rfl⟩
      · obtain ⟨b1, b2⟩ := both_right w kn m n (sub w m l wh) wh (by omega) (by omega)
        have hs := sub_right w m l wh (by omega) (by rw [hl]; omega)
        rw [hl] at hs
        rw [b1, b2, hs, take_snoc_len, getD_snoc_len]
        obtain ⟨i1, i2⟩ := ih (n - cut n) (by omega) (m - cut n) (l.drop (cut n)) false hd (by omega) (by omega) (fun h => by cases h)
        rw [i1, i2, root_take w l m (by omega) (by omega) (by rw [hl]; omega), hl, root_cut w l (by omega), hl]
        exact ⟨rfl, rfl⟩
attribute [irreducible] sub long firstR allR

/-- The first node that is made of other sums. -/
def consC (w : Nat) (kn : ByteArray) : Nat → Nat → List ByteArray → List ByteArray → Bool → Option (ByteArray × ByteArray)
  | 0, _, _, _, _ => none
  | f + 1, m, p, l, wh => if m = l.length then none else
    if (if m ≤ cut l.length then allR w kn m (cut l.length) (p.take (p.length - 1)) wh ++ p.getD (p.length - 1) ByteArray.empty else p.getD (p.length - 1) ByteArray.empty ++ allR w kn (m - cut l.length) (l.length - cut l.length) (p.take (p.length - 1)) false) ≠ root w (l.take (cut l.length)) ++ root w (l.drop (cut l.length)) then
      some ((if m ≤ cut l.length then allR w kn m (cut l.length) (p.take (p.length - 1)) wh ++ p.getD (p.length - 1) ByteArray.empty else p.getD (p.length - 1) ByteArray.empty ++ allR w kn (m - cut l.length) (l.length - cut l.length) (p.take (p.length - 1)) false), root w (l.take (cut l.length)) ++ root w (l.drop (cut l.length)))
    else if m ≤ cut l.length then consC w kn f m (p.take (p.length - 1)) (l.take (cut l.length)) wh else consC w kn f (m - cut l.length) (p.take (p.length - 1)) (l.drop (cut l.length)) false
end Go.Proofs.Ytcnhhlnbmliihaa
