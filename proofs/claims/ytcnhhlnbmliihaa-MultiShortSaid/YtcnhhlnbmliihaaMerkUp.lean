/- merkle.Up, merkle.Check. -/
import Derived.Test.YtcnhhlnbmliihaaMerkWay
import Derived.Test.YtcnhhlnbmliihaaTexts
namespace Go.Proofs.Ytcnhhlnbmliihaa
open Go.RowKit
set_option linter.unusedVariables false
set_option linter.unusedSimpArgs false

/-- All texts have that size? -/
def allW (d : Nat) (p : List ByteArray) : Bool := p.all fun s => decide (s.size = d)
theorem allW_get {d : Nat} {p : List ByteArray} (h : allW d p = true) {k : Nat} (hk : k < p.length) : (p.getD k ByteArray.empty).size = d := by
  unfold allW at h
  rw [List.all_eq_true] at h
  have := h _ (getD_mem hk)
  simpa using this
theorem allW_not {d : Nat} {p : List ByteArray} {k : Nat} (hk : k < p.length) (h : ¬ (p.getD k ByteArray.empty).size = d) : allW d p = false := by
  cases e : allW d p
  · rfl
  · exact absurd (allW_get e hk) h
theorem allW_all {d : Nat} {p : List ByteArray} (h : ∀ k, k < p.length → (p.getD k ByteArray.empty).size = d) : allW d p = true := by
  unfold allW
  rw [List.all_eq_true]
  intro s hs
  obtain ⟨k, hk, rfl⟩ := List.getElem_of_mem hs
  have := h k hk
  rw [List.getD_eq_getElem?_getD, List.getElem?_eq_getElem hk] at this
  exact decide_eq_true this
theorem allW_mem {d : Nat} {p : List ByteArray} (h : allW d p = true) : ∀ s ∈ p, s.size = d := by
  unfold allW at h
  rw [List.all_eq_true] at h
  intro s hs
  simpa using h s hs
/-- What 'Up' answers. -/
def upR (d i n : Nat) (leaf : ByteArray) (p : List ByteArray) : ByteArray × Nat :=
  if (way i n).length = p.length ∧ leaf.size = d ∧ allW d p = true then (climb d leaf (way i n) p, 0) else (ByteArray.empty, 2)
theorem upR_yes {d i n : Nat} {leaf : ByteArray} {p : List ByteArray} (h1 : (way i n).length = p.length) (h2 : leaf.size = d) (h3 : allW d p = true) : upR d i n leaf p = (climb d leaf (way i n) p, 0) := by
  unfold upR; rw [if_pos ⟨h1, h2, h3⟩]
theorem upR_no {d i n : Nat} {leaf : ByteArray} {p : List ByteArray} (h : ¬ ((way i n).length = p.length ∧ leaf.size = d ∧ allW d p = true)) : upR d i n leaf p = (ByteArray.empty, 2) := by
  unfold upR; rw [if_neg h]
theorem climb_take (d : Nat) (x : ByteArray) (bs : List Bool) (ss : List ByteArray) (k : Nat) (h : bs.length = ss.length) (hk : k < ss.length) :
    climb d x (bs.take (k + 1)) (ss.take (k + 1)) = if bs.getD k false then mnode d (ss.getD k ByteArray.empty) (climb d x (bs.take k) (ss.take k)) else mnode d (climb d x (bs.take k) (ss.take k)) (ss.getD k ByteArray.empty) := by
  rw [List.take_succ_eq_append_getElem (by omega : k < bs.length), List.take_succ_eq_append_getElem hk, climb_snoc _ _ _ _ _ _ (by simp; omega)]
  rw [List.getD_eq_getElem?_getD, List.getElem?_eq_getElem (by omega : k < bs.length), List.getD_eq_getElem?_getD, List.getElem?_eq_getElem hk]
  rfl
theorem climb_le (w : Nat) (hw : w ≤ 32) : ∀ (bs : List Bool) (ss : List ByteArray) (x : ByteArray), x.size ≤ 32 → (climb w x bs ss).size ≤ 32
  | b :: bs, s :: ss, x, _ => climb_le w hw bs ss _ (by split <;> rw [mnode_size w _ _ hw] <;> exact hw)
  | [], _, _, h => by simpa [climb] using h
  | _ :: _, [], _, h => by simpa [climb] using h
theorem climb_zero (d : Nat) (x : ByteArray) (bs : List Bool) (ss : List ByteArray) : x = climb d x (bs.take 0) (ss.take 0) := by rw [List.take_zero, List.take_zero]; rfl
attribute [irreducible] allW upR

theorem Reads.bool_ {w : World} {B n : Nat} {A : Option Addr} {bs : List Bool} (h : Reads w B 1 A n (bs.map Value.bool)) (k : Nat) (hk : k < bs.length) : ∃ ad, A = some ad ∧ w.cell? (ad.add k) = some (.bool (bs.getD k false)) := by
  have hn : n = bs.length := by have := h.1; simp at this; omega
  obtain ⟨ad, u, e1, _, e2, e3⟩ := h.at_ (k := k) (by omega)
  refine ⟨ad, e1, ?_⟩
  rw [e3, ← e2]
  simp [hk]

end Go.Proofs.Ytcnhhlnbmliihaa
