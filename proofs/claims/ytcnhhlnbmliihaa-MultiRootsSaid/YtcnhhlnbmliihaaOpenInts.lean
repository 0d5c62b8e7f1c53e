/- A slice of ints as an argument. -/
import Derived.Test.YtcnhhlnbmliihaaLaw
import Derived.Test.YtcnhhlnbmliihaaMulti1
import Derived.ChangeSlices
namespace Go.Proofs.Ytcnhhlnbmliihaa
open Go.ChangeShapes Go.WideShapes Go.ChangeAt Go.RowKit
set_option linter.unusedVariables false
set_option linter.unusedSimpArgs false

/-- What a law is told of a slice of ints that came in. -/
structure IntsIn (w : World) (v : Value) (zs : List Int) : Prop where
  ex : ∃ A c, v = .slice A zs.length c ∧ zs.length ≤ c ∧ Ints w A zs
  len : zs.length ≤ 140737488355328
section
variable {H : Type} {enc : TypeId × Value → H} {P : Program} {W : World}
theorem open_ints_arg {r : Reach} {b0 : Nat} {t e : TypeId} {v : Value} {d : DataW H} {p : List MemPlace} {ts : List TypeId} {ds : List (DataW H)} {j : Nat} (ht : P.underlying t = some (.slice e)) (he : P.underlying e = some (.int .i64)) (hc : P.cellsOf e = 1) (hb : P.bytesOf e = 8)
    (hv : Value.okWide P W r b0 t v) (h : DataW.Trod enc P W 0 (fun _ => true) true t v d p) (hsz : (DataW.weightsEach P ts ds).all (· ≤ reachBytes) = true) (h1 : ts[j]? = some t) (h2 : ds[j]? = some d) : ∃ zs : List Int, IntsIn W v zs := by
  obtain ⟨a, len, cap, rfl⟩ := okWide_slice ht hv
  obtain ⟨fuel, hf⟩ := h
  have ecs : (Value.slice a len cap).cells.toList = [.slice a len cap] := rfl
  rw [ecs] at hf
  rcases open_ints ht he hc hf with ⟨h3, _⟩ | ⟨a', len', cap', ss, h3, _, hlc, hcm, hl, hx, hcell, hsm⟩
  · injection h3 with h3 _
    injection h3 with e1 e2 e3
    subst e1 e2 e3
    exact ⟨[], ⟨none, 0, rfl, Nat.le_refl _, Ints.nil _ _⟩, by simp⟩
  · injection h3 with h3 _
    injection h3 with e1 e2 e3
    subst e1 e2 e3
    rw [if_pos rfl] at hl
    injection hx with hd _
    subst hd
    have hlen : (ss.take len).length = len := by rw [List.length_take]; omega
    have hw := sized_slice hsz h1 h2 ht
    rw [hb] at hw
    have hw2 : (lits (H := H) .i64 (ss.take len)).length = len := by simp [lits]; omega
    refine ⟨ss.take len, ⟨some a', cap, by rw [hlen], by omega, fun hpos => ?_⟩, ?_⟩
    · rw [hlen] at hpos
      obtain ⟨g, o, sp⟩ := a'
      have c0 := hcell 0 (by omega)
      have e0 : (⟨g, o, sp⟩ : Addr).add 0 = ⟨g, o, sp⟩ := by unfold Addr.add; simp
      rw [e0] at c0
      have hsp : sp = none := by
        cases sp with
        | none => rfl
        | some q =>
          unfold World.cell? at c0
          split at c0 <;> simp at c0
      subst hsp
      refine ⟨g, o, rfl, World.block_lt_of_cell? W _ c0, fun j hj => ?_⟩
      rw [hlen] at hj
      have := hcell j (by omega)
      rw [addo] at this
      rw [this, List.getD_eq_getElem?_getD, List.getD_eq_getElem?_getD, List.getElem?_take_of_lt hj]
    · rw [hlen]
      rw [hw2] at hw
      have : reachBytes ≤ 140737488355328 := by decide
      omega
end
end Go.Proofs.Ytcnhhlnbmliihaa
