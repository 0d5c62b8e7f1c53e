/- merkle.Proof. -/
import Derived.Test.YtcnhhlnbmliihaaMerkRoot
import Derived.Test.YtcnhhlnbmliihaaOrdT
import Derived.Test.YtcnhhlnbmliihaaWi
namespace Go.Proofs.Ytcnhhlnbmliihaa
open Go.RowKit
set_option linter.unusedVariables false
set_option linter.unusedSimpArgs false

/-- A slice's length. -/
def slen : Value → Nat | .slice _ n _ => n | _ => 0
/-- A row that is turned round in place, so far. -/
def flip1 (L : List ByteArray) (a b : Nat) : List ByteArray := (L.set a (L.getD b ByteArray.empty)).set b (L.getD a ByteArray.empty)
theorem flip1_map (L : List ByteArray) (a b : Nat) : ((L.map Value.string).set a (.string (L.getD b ByteArray.empty))).set b (.string (L.getD a ByteArray.empty)) = (flip1 L a b).map Value.string := by
  simp [flip1, List.map_set]
theorem map_str_get (L : List ByteArray) (a : Nat) (h : a < L.length) : (L.map Value.string)[a]? = some (.string (L.getD a ByteArray.empty)) := by simp [h]
def Flip (ps L : List ByteArray) (a : Nat) : Prop := L.length = ps.length ∧ ∀ j, j < ps.length → L.getD j ByteArray.empty = if j < a ∨ ps.length ≤ j + a then ps.getD (ps.length - 1 - j) ByteArray.empty else ps.getD j ByteArray.empty
theorem Flip.start (ps : List ByteArray) : Flip ps ps 0 := ⟨rfl, fun j hj => by rw [if_neg (by omega)]⟩
theorem Flip.step {ps L : List ByteArray} {a b : Nat} (h : Flip ps L a) (hab : a + b + 1 = ps.length) (hlt : a < b) : Flip ps (flip1 L a b) (a + 1) := by
  obtain ⟨h1, h2⟩ := h
  refine ⟨by simp [flip1, h1], fun j hj => ?_⟩
  have ha := h2 a (by omega)
  have hb := h2 b (by omega)
  have hj2 := h2 j hj
  rw [if_neg (by omega)] at ha hb
  unfold flip1
  rw [List.getD_eq_getElem?_getD, List.getElem?_set]
  by_cases e1 : b = j
  · subst e1
    rw [if_pos rfl, if_pos (by simp; omega), if_pos (by omega), Option.getD_some, ha]
    congr 1; omega
  · rw [if_neg e1, List.getElem?_set]
    by_cases e2 : a = j
    · subst e2
      rw [if_pos rfl, if_pos (by omega), if_pos (by omega), Option.getD_some, hb]
      congr 1; omega
    · rw [if_neg e2, ← List.getD_eq_getElem?_getD, hj2]
      by_cases e3 : j < a ∨ ps.length ≤ j + a
      · rw [if_pos e3, if_pos (by omega)]
      · rw [if_neg e3, if_neg (by omega)]
theorem Flip.done {ps L : List ByteArray} {a : Nat} (h : Flip ps L a) (hlt : ps.length ≤ 2 * a + 1) : L = ps.reverse := by
  obtain ⟨h1, h2⟩ := h
  refine List.ext_getElem? fun j => ?_
  by_cases hj : j < ps.length
  · have h3 := h2 j hj
    rw [List.getElem?_reverse hj]
    rw [List.getD_eq_getElem?_getD, List.getElem?_eq_getElem (by omega)] at h3
    rw [List.getElem?_eq_getElem (by omega), List.getElem?_eq_getElem (by omega)]
    rw [Option.getD_some] at h3
    rw [h3]
    split
    · rw [List.getD_eq_getElem?_getD, List.getElem?_eq_getElem (by omega)]; rfl
    · have e : ps.length - 1 - j = j := by omega
      rw [List.getD_eq_getElem?_getD, List.getElem?_eq_getElem hj, Option.getD_some]
      simp only [e]
  · rw [List.getElem?_eq_none (by omega), List.getElem?_eq_none (by simp; omega)]
theorem Strs.of_rw {w : World} {g : Nat} {t : TypeId} {L : List ByteArray} (h : Rw w g t (L.map Value.string)) : Strs w (some ⟨g, 0, none⟩) L := fun _ => ⟨g, 0, rfl, h.lt, fun j hj => by rw [Nat.zero_add]; exact h.cell j _ (by simp [hj])⟩
attribute [irreducible] flip1
/-- The state of the second loop's row. -/
def FlipRow (w : World) (g0 : Nat) (ps : List ByteArray) (Ap : Option Addr) (a : Nat) : Prop :=
  ∃ L, Flip ps L a ∧ (0 < ps.length → ∃ g, Ap = some ⟨g, 0, none⟩ ∧ g0 + 1 + 1 ≤ g ∧ Rw w g 9 (L.map Value.string))
theorem FlipRow.of_sl {w : World} {g0 : Nat} {ps : List ByteArray} {Ap : Option Addr} {n c : Nat} (h : SL w (g0 + 1 + 1) 9 (.slice Ap n c) (ps.map Value.string)) : FlipRow w g0 ps Ap 0 := by
  refine ⟨ps, Flip.start ps, fun h0 => ?_⟩
  obtain ⟨g, cap, e1, _, h2, h3⟩ := h.rw (by intro e; simp at e; subst e; simp at h0)
  injection e1 with e1 _ _
  exact ⟨g, e1, h2, h3⟩
theorem FlipRow.strs {w : World} {g0 : Nat} {ps : List ByteArray} {Ap : Option Addr} {a : Nat} (h : FlipRow w g0 ps Ap a) (hl : ps.length ≤ 2 * a + 1) : Strs w Ap ps.reverse := by
  obtain ⟨L, h1, h2⟩ := h
  have e := h1.done hl
  subst e
  intro h0
  obtain ⟨g, rfl, _, h3⟩ := h2 (by simpa using h0)
  exact Strs.of_rw h3 h0

end Go.Proofs.Ytcnhhlnbmliihaa
