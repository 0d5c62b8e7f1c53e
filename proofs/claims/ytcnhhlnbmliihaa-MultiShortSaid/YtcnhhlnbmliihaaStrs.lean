/- Slices of strings that lie in memory. -/
import Derived.Test.YtcnhhlnbmliihaaOnly
import Derived.Test.YtcnhhlnbmliihaaBa
namespace Go.Proofs.Ytcnhhlnbmliihaa
open Go.RowKit
set_option linter.unusedVariables false
set_option linter.unusedSimpArgs false

/-- A slice of strings. -/
def Strs (w : World) (A : Option Addr) (ss : List ByteArray) : Prop :=
  0 < ss.length → ∃ g o, A = some ⟨g, o, none⟩ ∧ g < w.heap.size ∧ ∀ j, j < ss.length → w.cell? ⟨g, o + j, none⟩ = some (.string (ss.getD j ByteArray.empty))
section
variable {w w' : World} {A : Option Addr} {ss : List ByteArray}
theorem Strs.keep (h : Strs w A ss) (hsz : w.heap.size ≤ w'.heap.size) (hk : ∀ g o, A = some ⟨g, o, none⟩ → g < w.heap.size → w'.heap[g]? = w.heap[g]?) : Strs w' A ss := fun hl => by
  obtain ⟨g, o, e, hg, hc⟩ := h hl
  exact ⟨g, o, e, by omega, fun j hj => (World.cell?_of_block (a := ⟨g, o + j, none⟩) (hk g o e hg)).trans (hc j hj)⟩
theorem Strs.below {B : Nat} (h : Strs w A ss) (hb : Below B w w') (hB : w.heap.size ≤ B) : Strs w' A ss := h.keep hb.size fun g _ _ hg => hb.block g (by omega)
theorem Strs.fresh (h : Strs w A ss) (hb : Below w.heap.size w w') : Strs w' A ss := h.below hb (Nat.le_refl _)
theorem Strs.alloc (h : Strs w A ss) (x : Obj) : Strs (w.alloc x) A ss := h.keep (by simp) fun g _ _ hg => Below.heap_alloc w x g hg
theorem Strs.drew (h : Strs w A ss) : Strs w.drew A ss := h
theorem Strs.drewN (h : Strs w A ss) (n : Nat) : Strs (w.drewN n) A ss := h
theorem Strs.only {S : Nat → Prop} (h : Strs w A ss) (ho : Only S w w') (hn : ∀ g o, A = some ⟨g, o, none⟩ → ¬ S g) : Strs w' A ss := h.keep ho.size fun g o e hg => ho.block g hg (hn g o e)
theorem Strs.nil (w : World) (A : Option Addr) : Strs w A [] := fun h => absurd h (by simp)
theorem Strs.take (h : Strs w A ss) (k : Nat) : Strs w A (ss.take k) := fun hl => by
  simp only [List.length_take] at hl
  obtain ⟨g, o, e, hg, hc⟩ := h (by omega)
  refine ⟨g, o, e, hg, fun j hj => ?_⟩
  simp only [List.length_take] at hj
  rw [hc j (by omega), List.getD_eq_getElem?_getD, List.getD_eq_getElem?_getD, List.getElem?_take_of_lt (by omega)]
theorem Strs.drop (h : Strs w A ss) (k cap : Nat) (hc : ss.length ≤ cap) : Strs w (if cap = k then A else A.map (·.add k)) (ss.drop k) := fun hl => by
  simp only [List.length_drop] at hl
  obtain ⟨g, o, rfl, hg, hcell⟩ := h (by omega)
  rw [if_neg (by omega)]
  refine ⟨g, o + k, by rw [Option.map_some, addo], hg, fun j hj => ?_⟩
  simp only [List.length_drop] at hj
  have := hcell (k + j) (by omega)
  rw [← Nat.add_assoc] at this
  rw [this, List.getD_eq_getElem?_getD, List.getD_eq_getElem?_getD, List.getElem?_drop]
theorem Strs.of_blk {g : Nat} {t : TypeId} (h : Blk w g t (ss.map Value.string).toArray) : Strs w (some ⟨g, 0, none⟩) ss := fun _ => by
  refine ⟨g, 0, rfl, h.lt, fun j hj => ?_⟩
  rw [Nat.zero_add, h.cell]
  simp [hj]
theorem Strs.one (w : World) (t : TypeId) (s : ByteArray) : Strs (w.alloc (.cells #[.string s] t)) (some ⟨w.heap.size, 0, none⟩) [s] := Strs.of_blk (t := t) (Blk.new w t _)
theorem Strs.two (w : World) (t : TypeId) (s u : ByteArray) : Strs (w.alloc (.cells #[.string s, .string u] t)) (some ⟨w.heap.size, 0, none⟩) [s, u] := Strs.of_blk (t := t) (Blk.new w t _)
theorem Strs.three (w : World) (t : TypeId) (s u v : ByteArray) : Strs (w.alloc (.cells #[.string s, .string u, .string v] t)) (some ⟨w.heap.size, 0, none⟩) [s, u, v] := Strs.of_blk (t := t) (Blk.new w t _)
theorem Strs.of_sl {B : Nat} {e : TypeId} {n c : Nat} (h : SL w B e (.slice A n c) (ss.map Value.string)) : Strs w A ss := fun hl => by
  rcases h.2 with ⟨h1, h2⟩ | ⟨g, cap, cur, h1, h2, h3, h4, h5, h6, h7⟩
  · rw [List.length_map] at h2; omega
  · injection h1 with e1 e2 e3
    refine ⟨g, 0, e1, (h.own_lt g (by rw [e1]; rfl)).1, fun j hj => ?_⟩
    rw [Nat.zero_add, cell_any h3]
    have e2 : (ss.map Value.string)[j]? = some (.string (ss.getD j ByteArray.empty)) := by simp [hj]
    rw [← h7, List.getElem?_take_of_lt (by rw [List.length_map]; omega)] at e2
    simpa using e2
theorem Strs.reads (h : Strs w A ss) : Reads w w.heap.size 1 A ss.length (ss.map Value.string) := by
  refine ⟨by simp, fun hl => ?_⟩
  obtain ⟨g, o, rfl, hg, hc⟩ := h hl
  refine ⟨_, rfl, hg, fun j u hu => ?_⟩
  have hj : j < ss.length := by have := (List.getElem?_eq_some_iff.1 hu).1; simpa using this
  rw [addo, hc j hj, ← hu]
  simp [hj]
theorem one_strs (ss : List ByteArray) : ∀ u ∈ ss.map Value.string, u.oneCell' = true := by
  intro u hu
  obtain ⟨x, _, rfl⟩ := List.mem_map.1 hu
  rfl
end
/-- A slice of strings of the call's own, looked at. -/
theorem SL.sview {w : World} {B : Nat} {v : Value} {e : TypeId} {ss : List ByteArray} (h : SL w B e v (ss.map Value.string)) : ∃ A c, v = .slice A ss.length c ∧ ss.length ≤ c ∧ Strs w A ss := by
  rcases h.2 with ⟨h1, h2⟩ | ⟨g, cap, cur, h1, h2, h3, h4, h5, h6, h7⟩
  · rw [List.length_map] at h2
    exact ⟨none, 0, by rw [h1, h2], by omega, fun h0 => by omega⟩
  · have h' := h
    rw [h1] at h'
    rw [List.length_map] at h1 h4
    exact ⟨_, cap, h1, h4, Strs.of_sl h'⟩
/-- Texts, one behind the other. -/
def joinL (ss : List ByteArray) : List UInt8 := ss.flatMap (·.data.toList)
theorem joinL_nil : joinL [] = [] := rfl
theorem joinL_take (ss : List ByteArray) (i : Nat) (h : i < ss.length) : joinL (ss.take (i + 1)) = joinL (ss.take i) ++ (ss.getD i ByteArray.empty).data.toList := by
  unfold joinL
  rw [List.take_succ_eq_append_getElem h, List.flatMap_append]
  simp [List.getD_eq_getElem?_getD, h]
theorem joinL_one (s : ByteArray) : joinL [s] = s.data.toList := by simp [joinL]
theorem joinL_two (s t : ByteArray) : joinL [s, t] = (s ++ t).data.toList := by simp [joinL]
theorem joinL_three (s t u : ByteArray) : joinL [s, t, u] = (s ++ t ++ u).data.toList := by simp [joinL]
theorem joinL_take_le (ss : List ByteArray) (i : Nat) : (joinL (ss.take i)).length ≤ (joinL ss).length := by
  have h : joinL ss = joinL (ss.take i) ++ joinL (ss.drop i) := by
    unfold joinL; rw [← List.flatMap_append, List.take_append_drop]
  rw [h, List.length_append]; omega
theorem joinL_get_le (ss : List ByteArray) (i : Nat) (h : i < ss.length) : (joinL (ss.take i)).length + (ss.getD i ByteArray.empty).size ≤ (joinL ss).length := by
  have h1 := joinL_take_le ss (i + 1)
  rw [joinL_take ss i h, List.length_append, data_length] at h1
  exact h1
attribute [irreducible] joinL
end Go.Proofs.Ytcnhhlnbmliihaa
