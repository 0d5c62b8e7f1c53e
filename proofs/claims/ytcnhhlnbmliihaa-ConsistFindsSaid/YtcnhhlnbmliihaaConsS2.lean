/- Where a proof leads to other roots: as plain functions. No function of the program stands here. -/
import Derived.Test.YtcnhhlnbmliihaaConsS
namespace Go.Proofs.Ytcnhhlnbmliihaa
open Go.RowKit
set_option linter.unusedVariables false
set_option linter.unusedSimpArgs false

def claimedC (w : Nat) (kn : ByteArray) (m : Nat) (p l : List ByteArray) (wh : Bool) : ByteArray :=
  if m ≤ cut l.length then allR w kn m (cut l.length) (p.take (p.length - 1)) wh ++ p.getD (p.length - 1) ByteArray.empty
  else p.getD (p.length - 1) ByteArray.empty ++ allR w kn (m - cut l.length) (l.length - cut l.length) (p.take (p.length - 1)) false
def realC (w : Nat) (l : List ByteArray) : ByteArray := root w (l.take (cut l.length)) ++ root w (l.drop (cut l.length))
/-- The first node that is made of other sums. -/
def consW (w : Nat) (kn : ByteArray) (m : Nat) (p l : List ByteArray) (wh : Bool) : Option (ByteArray × ByteArray) :=
  if m = 0 ∨ l.length ≤ m then none else if claimedC w kn m p l wh ≠ realC w l then some (claimedC w kn m p l wh, realC w l) else
    if m ≤ cut l.length then consW w kn m (p.take (p.length - 1)) (l.take (cut l.length)) wh
    else consW w kn (m - cut l.length) (p.take (p.length - 1)) (l.drop (cut l.length)) false
  termination_by l.length
  decreasing_by
    all_goals
      have h1 := cut_lt l.length (by omega)
      have h2 := cut_pos l.length
      simp only [List.length_take, List.length_drop]
      omega
theorem consW_end (w : Nat) (kn : ByteArray) (m : Nat) (p l : List ByteArray) (wh : Bool) (h : l.length ≤ m) : consW w kn m p l wh = none := by rw [consW, if_pos (.inr h)]
theorem consW_ne (w : Nat) (kn : ByteArray) (m : Nat) (p l : List ByteArray) (wh : Bool) (h1 : 1 ≤ m) (h : m < l.length) (hc : claimedC w kn m p l wh ≠ realC w l) : consW w kn m p l wh = some (claimedC w kn m p l wh, realC w l) := by
  rw [consW, if_neg (by omega), if_pos hc]
theorem consW_left (w : Nat) (kn : ByteArray) (m : Nat) (p l : List ByteArray) (wh : Bool) (h1 : 1 ≤ m) (h : m < l.length) (hc : claimedC w kn m p l wh = realC w l) (hm : m ≤ cut l.length) : consW w kn m p l wh = consW w kn m (p.take (p.length - 1)) (l.take (cut l.length)) wh := by
  rw [consW, if_neg (by omega), if_neg (by simpa using hc), if_pos hm]
theorem consW_right (w : Nat) (kn : ByteArray) (m : Nat) (p l : List ByteArray) (wh : Bool) (h1 : 1 ≤ m) (h : m < l.length) (hc : claimedC w kn m p l wh = realC w l) (hm : cut l.length < m) : consW w kn m p l wh = consW w kn (m - cut l.length) (p.take (p.length - 1)) (l.drop (cut l.length)) false := by
  rw [consW, if_neg (by omega), if_neg (by simpa using hc), if_neg (by omega)]
theorem claimedC_left (w : Nat) (kn : ByteArray) (m : Nat) (p l : List ByteArray) (wh : Bool) (hm : m ≤ cut l.length) : claimedC w kn m p l wh = allR w kn m (cut l.length) (p.take (p.length - 1)) wh ++ p.getD (p.length - 1) ByteArray.empty := if_pos hm
theorem claimedC_right (w : Nat) (kn : ByteArray) (m : Nat) (p l : List ByteArray) (wh : Bool) (hm : cut l.length < m) : claimedC w kn m p l wh = p.getD (p.length - 1) ByteArray.empty ++ allR w kn (m - cut l.length) (l.length - cut l.length) (p.take (p.length - 1)) false := if_neg (by omega)

theorem long_pos (m n : Nat) (wh : Bool) (h1 : 1 ≤ m) (hm : m < n) : 1 ≤ long m n wh := by
  by_cases hc : m ≤ cut n
  · rw [long_left m n wh h1 hm hc]; omega
  · rw [long_right m n wh hm (by omega)]; omega
theorem long_le : ∀ (b n m : Nat) (wh : Bool), n ≤ 2 ^ b → 1 ≤ m → m ≤ n → long m n wh ≤ b + 1 := by
  intro b
  induction b with
  | zero =>
    intro n m wh hn h1 hm
    have e : m = n := by simp at hn; omega
    rw [long_all m n wh h1 e]; cases wh <;> simp
  | succ b ih =>
    intro n m wh hn h1 hm
    by_cases e : m = n
    · rw [long_all m n wh h1 e]; cases wh <;> simp
    · have hc := cut_lt n (by omega)
      have hp := cut_pos n
      have hh := cut_half n
      obtain ⟨j, hj⟩ := cut_pow n
      have hle : cut n ≤ 2 ^ b := by
        rw [hj] at hc ⊢
        rcases Nat.lt_or_ge b j with hbj | hbj
        · have := Nat.pow_le_pow_right (n := 2) (by decide) (show b + 1 ≤ j by omega); omega
        · exact Nat.pow_le_pow_right (by decide) hbj
      by_cases hmc : m ≤ cut n
      · rw [long_left m n wh h1 (by omega) hmc]
        have := ih (cut n) m wh hle h1 hmc
        omega
      · rw [long_right m n wh (by omega) (by omega)]
        have := ih (n - cut n) (m - cut n) false (by omega) (by omega) (by omega)
        omega
theorem take_len_pred (p : List ByteArray) (h : 1 ≤ p.length) : (p.take (p.length - 1)).length = p.length - 1 := by rw [List.length_take]; omega
/-- All sums of a width: so are the roots. -/
theorem both_size (w : Nat) (hw : w ≤ 32) (kn : ByteArray) (hk : kn.size = w) : ∀ (n m : Nat) (p : List ByteArray) (wh : Bool), 1 ≤ m → m ≤ n → p.length = long m n wh → (∀ s ∈ p, s.size = w) →
    (firstR w kn m n p wh).size = w ∧ (allR w kn m n p wh).size = w := by
  intro n
  induction n using Nat.strongRecOn with
  | _ n ih =>
    intro m p wh h1 hm hl hz
    by_cases e : m = n
    · obtain ⟨b1, b2⟩ := both_all w kn m n p wh h1 e
      rw [b1, b2]
      rw [long_all m n wh h1 e] at hl
      cases wh with
      | true => exact ⟨hk, hk⟩
      | false =>
        have := hz (p.getD 0 ByteArray.empty) (by rw [List.getD_eq_getElem?_getD, List.getElem?_eq_getElem (by simp at hl; omega)]; exact List.getElem_mem _)
        exact ⟨this, this⟩
    · have hc := cut_lt n (by omega)
      have hp := cut_pos n
      by_cases hmc : m ≤ cut n
      · obtain ⟨b1, b2⟩ := both_left w kn m n p wh h1 (by omega) hmc
        rw [long_left m n wh h1 (by omega) hmc] at hl
        rw [b1, b2]
        exact ⟨(ih (cut n) hc m (p.take (p.length - 1)) wh h1 hmc (by rw [take_len_pred p (by omega)]; omega) (fun s hs => hz s (List.mem_of_mem_take hs))).1, mnode_size _ _ _ hw⟩
      · obtain ⟨b1, b2⟩ := both_right w kn m n p wh (by omega) (by omega)
        rw [b1, b2]
        exact ⟨mnode_size _ _ _ hw, mnode_size _ _ _ hw⟩
theorem root_width (w : Nat) (hw : w ≤ 32) (l : List ByteArray) (h1 : 1 ≤ l.length) (hz : ∀ s ∈ l, s.size = w) : (root w l).size = w := by
  rcases Nat.lt_or_ge l.length 2 with h2 | h2
  · rw [root_one w l (by omega)]
    exact hz _ (by rw [List.getD_eq_getElem?_getD, List.getElem?_eq_getElem (by omega)]; exact List.getElem_mem _)
  · rw [root_cut w l h2]; exact mnode_size w _ _ hw
theorem mnode_msum (w : Nat) (a b : ByteArray) : mnode w a b = msum w (⟨#[1]⟩ ++ (a ++ b)) := by unfold mnode; rw [ByteArray.append_assoc]
/-- A proof that holds of another root leads to a clash. -/
theorem consW_clash (w : Nat) (hw : w ≤ 32) (kn : ByteArray) (hk : kn.size = w) : ∀ (n m : Nat) (p l : List ByteArray) (wh : Bool), l.length = n → 1 ≤ m → m ≤ n → p.length = long m n wh → (∀ s ∈ p, s.size = w) → (∀ s ∈ l, s.size = w) →
    allR w kn m n p wh = root w l → firstR w kn m n p wh ≠ root w (l.take m) →
    ∃ r, consW w kn m p l wh = some r ∧ r.1 ≠ r.2 ∧ msum w (⟨#[1]⟩ ++ r.1) = msum w (⟨#[1]⟩ ++ r.2) := by
  intro n
  induction n using Nat.strongRecOn with
  | _ n ih =>
    intro m p l wh hl h1 hm hpl hpz hlz hall hfirst
    by_cases e : m = n
    · obtain ⟨b1, b2⟩ := both_all w kn m n p wh h1 e
      have ht : l.take m = l := List.take_of_length_le (by omega)
      rw [b1] at hfirst
      rw [b2] at hall
      rw [ht] at hfirst
      exact absurd hall hfirst
    · have hc := cut_lt n (by omega)
      have hp := cut_pos n
      have ht : (l.take (cut n)).length = cut n := by rw [List.length_take]; omega
      have hd : (l.drop (cut n)).length = n - cut n := by rw [List.length_drop, hl]
      have hl1 := long_pos m n wh h1 (by omega)
      have hlast : (p.getD (p.length - 1) ByteArray.empty).size = w := hpz _ (by rw [List.getD_eq_getElem?_getD, List.getElem?_eq_getElem (by omega)]; exact List.getElem_mem _)
      have hpz' : ∀ s ∈ p.take (p.length - 1), s.size = w := fun s hs => hpz s (List.mem_of_mem_take hs)
      have hzl := root_width w hw (l.take (cut n)) (by omega) (fun s hs => hlz s (List.mem_of_mem_take hs))
      have hpt := take_len_pred p (by omega)
      have hrc := root_cut w l (by omega)
      rw [hl] at hrc
      by_cases hne : claimedC w kn m p l wh = realC w l
      · by_cases hmc : m ≤ cut n
        · obtain ⟨b1, b2⟩ := both_left w kn m n p wh h1 (by omega) hmc
          have hcl := claimedC_left w kn m p l wh (by rw [hl]; exact hmc)
          rw [hl] at hcl
          rw [hcl, realC, hl] at hne
          have hsz := (both_size w hw kn hk (cut n) m (p.take (p.length - 1)) wh h1 hmc (by rw [hpt, hpl, long_left m n wh h1 (by omega) hmc]; omega) hpz').2
          obtain ⟨q1, q2⟩ := app_inj hne (by rw [hsz, hzl])
          have htt : (l.take (cut n)).take m = l.take m := by rw [List.take_take, Nat.min_eq_left hmc]
          have hcw := consW_left w kn m p l wh h1 (by omega) (by rw [hcl, realC, hl]; exact hne) (by rw [hl]; exact hmc)
          rw [hl] at hcw
          rw [hcw]
          exact ih (cut n) hc m (p.take (p.length - 1)) (l.take (cut n)) wh ht h1 hmc (by rw [hpt, hpl, long_left m n wh h1 (by omega) hmc]; omega) hpz' (fun s hs => hlz s (List.mem_of_mem_take hs)) q1 (by rw [htt, ← b1]; exact hfirst)
        · obtain ⟨b1, b2⟩ := both_right w kn m n p wh (by omega) (by omega)
          have hcl := claimedC_right w kn m p l wh (by rw [hl]; omega)
          rw [hl] at hcl
          rw [hcl, realC, hl] at hne
          obtain ⟨q1, q2⟩ := app_inj hne (by rw [hlast, hzl])
          have hcw := consW_right w kn m p l wh h1 (by omega) (by rw [hcl, realC, hl]; exact hne) (by rw [hl]; omega)
          rw [hl] at hcw
          rw [hcw]
          have hrt := root_take w l m (by omega) (by omega) (by rw [hl]; omega)
          rw [hl] at hrt
          refine ih (n - cut n) (by omega) (m - cut n) (p.take (p.length - 1)) (l.drop (cut n)) false hd (by omega) (by omega) (by rw [hpt, hpl, long_right m n wh (by omega) (by omega)]; omega) hpz' (fun s hs => hlz s (List.mem_of_mem_drop hs)) q2 (fun h => hfirst ?_)
          rw [b1, hrt, h, q1]
      · refine ⟨_, consW_ne w kn m p l wh h1 (by omega) hne, hne, ?_⟩
        have hr : msum w (⟨#[1]⟩ ++ realC w l) = root w l := by rw [realC, hl, ← mnode_msum, hrc]
        show msum w (⟨#[1]⟩ ++ claimedC w kn m p l wh) = msum w (⟨#[1]⟩ ++ realC w l)
        rw [hr, ← hall]
        by_cases hmc : m ≤ cut n
        · obtain ⟨b1, b2⟩ := both_left w kn m n p wh h1 (by omega) hmc
          have hcl := claimedC_left w kn m p l wh (by rw [hl]; exact hmc)
          rw [hl] at hcl
          rw [hcl, b2, mnode_msum]
        · obtain ⟨b1, b2⟩ := both_right w kn m n p wh (by omega) (by omega)
          have hcl := claimedC_right w kn m p l wh (by rw [hl]; omega)
          rw [hl] at hcl
          rw [hcl, b2, mnode_msum]
/-- What a proof tells: the roots, or an error. -/
def rootsC (w : Nat) (kn : ByteArray) (m n : Int) (p : List ByteArray) : ByteArray × ByteArray × Nat :=
  if m < 1 ∨ n < m then (ByteArray.empty, ByteArray.empty, 1)
  else if p.length = long m.toNat n.toNat true ∧ kn.size = w ∧ (p.all fun s => s.size == w) = true then (firstR w kn m.toNat n.toNat p true, allR w kn m.toNat n.toNat p true, 0)
  else (ByteArray.empty, ByteArray.empty, 2)
/-- What a clash of a proof is. -/
def clashC (w : Nat) (kn : ByteArray) (m : Int) (p l : List ByteArray) : Option (ByteArray × ByteArray) :=
  if (rootsC w kn m l.length p).2.2 = 0 ∧ (rootsC w kn m l.length p).1 = kn ∧ (rootsC w kn m l.length p).2.1 = root w l ∧ kn ≠ root w (l.take m.toNat) then consW w kn m.toNat p l true else none
theorem rootsC_yes {w : Nat} {kn : ByteArray} {m n : Int} {p : List ByteArray} (h : (rootsC w kn m n p).2.2 = 0) : 1 ≤ m ∧ m ≤ n ∧ p.length = long m.toNat n.toNat true ∧ kn.size = w ∧ (∀ s ∈ p, s.size = w) ∧ rootsC w kn m n p = (firstR w kn m.toNat n.toNat p true, allR w kn m.toNat n.toNat p true, 0) := by
  unfold rootsC at h ⊢
  split at h
  · cases h
  · rename_i h1
    split at h
    · rename_i h2
      obtain ⟨a, b, c⟩ := h2
      rw [List.all_eq_true] at c
      exact ⟨by omega, by omega, a, b, fun s hs => by simpa using c s hs, by rw [if_neg h1, if_pos ⟨a, b, List.all_eq_true.2 c⟩]⟩
    · cases h
/-- Where a proof holds of another root there is a clash. -/
theorem clashC_some (w : Nat) (hw : w ≤ 32) (kn : ByteArray) (m : Int) (p l : List ByteArray) (hlz : ∀ s ∈ l, s.size = w)
    (h : (rootsC w kn m l.length p).2.2 = 0 ∧ (rootsC w kn m l.length p).1 = kn ∧ (rootsC w kn m l.length p).2.1 = root w l ∧ kn ≠ root w (l.take m.toNat)) :
    ∃ r, clashC w kn m p l = some r ∧ r.1 ≠ r.2 ∧ msum w (⟨#[1]⟩ ++ r.1) = msum w (⟨#[1]⟩ ++ r.2) := by
  obtain ⟨g1, g2, g3, g4, g5, g6⟩ := rootsC_yes h.1
  have hc : clashC w kn m p l = consW w kn m.toNat p l true := if_pos h
  obtain ⟨_, h2, h3, h4⟩ := h
  rw [g6] at h2 h3
  dsimp only at h2 h3
  rw [hc]
  have e : (l.length : Int).toNat = l.length := rfl
  exact consW_clash w hw kn g4 l.length m.toNat p l true rfl (by omega) (by omega) g3 g5 hlz h3 (by rw [← e, h2]; exact h4)
end Go.Proofs.Ytcnhhlnbmliihaa
