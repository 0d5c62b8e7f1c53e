/- A slice of strings as an argument. -/
import Derived.Test.YtcnhhlnbmliihaaLaw
import Derived.Test.YtcnhhlnbmliihaaStrs
import Derived.SliceStrings
namespace Go.Proofs.Ytcnhhlnbmliihaa
open Go.ChangeShapes Go.WideShapes Go.ChangeAt Go.RowKit
set_option linter.unusedVariables false
set_option linter.unusedSimpArgs false

/-- What a law is told of a slice of strings that came in. -/
structure StrsIn (w : World) (v : Value) (ss : List ByteArray) : Prop where
  ex : ∃ A c, v = .slice A ss.length c ∧ ss.length ≤ c ∧ Strs w A ss
  len : ss.length ≤ 140737488355328
  small : ∀ s ∈ ss, s.size ≤ 140737488355328
section
variable {H : Type} {enc : TypeId × Value → H} {P : Program} {W : World}
theorem weights_strs {e : TypeId} : ∀ (ss : List ByteArray) (s : ByteArray), s ∈ ss → s.size ∈ DataW.weightsAll (H := H) P e (strs ss)
  | [], _, h => by cases h
  | x :: r, s, h => by
    have e1 : DataW.weightsAll (H := H) P e (strs (x :: r)) = [x.data.toList.length] ++ DataW.weightsAll (H := H) P e (strs (H := H) r) := by simp [strs, DataW.weightsAll, DataW.weights]
    rw [e1, List.mem_append]
    rcases List.mem_cons.1 h with rfl | h
    · left; rw [data_length]; exact List.mem_singleton.2 rfl
    · right; exact weights_strs r s h
theorem open_strs {r : Reach} {b0 : Nat} {t e : TypeId} {v : Value} {d : DataW H} {p : List MemPlace} {ts : List TypeId} {ds : List (DataW H)} {j : Nat} (ht : P.underlying t = some (.slice e)) (he : P.underlying e = some .string) (hc : P.cellsOf e = 1) (hb : P.bytesOf e = 16)
    (hv : Value.okWide P W r b0 t v) (h : DataW.Trod enc P W 0 (fun _ => true) true t v d p) (hsz : (DataW.weightsEach P ts ds).all (· ≤ reachBytes) = true) (h1 : ts[j]? = some t) (h2 : ds[j]? = some d) : ∃ ss : List ByteArray, StrsIn W v ss := by
  obtain ⟨a, len, cap, rfl⟩ := okWide_slice ht hv
  obtain ⟨fuel, hf⟩ := h
  have ecs : (Value.slice a len cap).cells.toList = [.slice a len cap] := rfl
  rw [ecs] at hf
  rcases open_strings ht he hc hf with ⟨h3, _⟩ | ⟨a', len', cap', ss, h3, _, hlc, hcm, hl, hx, hcell, hsm⟩
  · injection h3 with h3 _
    injection h3 with e1 e2 e3
    subst e1 e2 e3
    exact ⟨[], ⟨none, 0, rfl, Nat.le_refl _, Strs.nil _ _⟩, by simp, by simp⟩
  · injection h3 with h3 _
    injection h3 with e1 e2 e3
    subst e1 e2 e3
    rw [if_pos rfl] at hl
    injection hx with hd _
    subst hd
    have hlen : (ss.take len).length = len := by rw [List.length_take]; omega
    have hw := sized_slice hsz h1 h2 ht
    rw [hb] at hw
    have hw2 : (strs (H := H) (ss.take len)).length = len := by simp [strs]; omega
    have hmem : ∀ s ∈ ss.take len, s.size ≤ reachBytes := by
      intro s hs
      have hm := weights_strs (H := H) (P := P) (e := e) (ss.take len) s hs
      have := List.all_eq_true.1 hsz _ (DataW.weights_mem_each h1 h2 s.size (by simp only [DataW.weights, ht]; exact List.mem_cons_of_mem _ (List.mem_append_left _ hm)))
      simpa using this
    refine ⟨ss.take len, ⟨some a', cap, by rw [hlen], by omega, fun hpos => ?_⟩, ?_, fun s hs => Nat.le_trans (hmem s hs) (by decide)⟩
    · rw [hlen] at hpos
      obtain ⟨g, o, sp⟩ := a'
      have c0 := hcell 0 (by omega)
      have e0 : (⟨g, o, sp⟩ : Addr).add 0 = ⟨g, o, sp⟩ := by unfold Addr.add; simp
      rw [e0] at c0
      have hsp : sp = none := by
        cases sp with
        | none => rfl
        | some q =>
          unfold World.cell? at c0
          split at c0 <;> simp at c0
      subst hsp
      refine ⟨g, o, rfl, World.block_lt_of_cell? W _ c0, fun j hj => ?_⟩
      rw [hlen] at hj
      have := hcell j (by omega)
      rw [addo] at this
      rw [this, List.getD_eq_getElem?_getD, List.getD_eq_getElem?_getD, List.getElem?_take_of_lt hj]
    · rw [hlen]
      rw [hw2] at hw
      have : reachBytes ≤ 140737488355328 := by decide
      omega
end
end Go.Proofs.Ytcnhhlnbmliihaa
