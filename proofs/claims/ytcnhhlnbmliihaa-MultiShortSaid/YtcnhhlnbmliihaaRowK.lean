/- Bytes that stand somewhere in memory. -/
import Derived.Test.YtcnhhlnbmliihaaText
namespace Go.Proofs.Ytcnhhlnbmliihaa
open Go.RowKit
set_option linter.unusedVariables false
set_option linter.unusedSimpArgs false
/-- The bytes l stand from a place of a block on. -/
def Byt (w : World) (g o : Nat) (l : List UInt8) : Prop := g < w.heap.size ∧ ∀ j, j < l.length → w.cell? ⟨g, o + j, none⟩ = some (.int .u8 (((l.getD j 0).toNat : Nat) : Int))
section
variable {w w' : World} {g o : Nat} {l : List UInt8}
theorem Byt.lt (h : Byt w g o l) : g < w.heap.size := h.1
theorem Byt.cell (h : Byt w g o l) (j : Nat) (hj : j < l.length) : w.cell? ⟨g, o + j, none⟩ = some (.int .u8 (((l.getD j 0).toNat : Nat) : Int)) := h.2 j hj
theorem Byt.drewN (h : Byt w g o l) (n : Nat) : Byt (w.drewN n) g o l := h
theorem Byt.drew (h : Byt w g o l) : Byt w.drew g o l := h
theorem Byt.alloc (h : Byt w g o l) (x : Obj) : Byt (w.alloc x) g o l := ⟨by have := h.1; simp; omega, fun j hj => (World.cell?_alloc_lt w x _ (by simpa using h.1)).trans (h.2 j hj)⟩
theorem Byt.far (h : Byt w g o l) {p : Addr} (hp : g ≠ p.block) (u : Value) : Byt (w.setCell p u) g o l :=
  ⟨by have := h.1; simpa using this, fun j hj => (World.cell?_setCell_other w p _ u (fun e => by subst e; exact hp rfl)).trans (h.2 j hj)⟩
theorem Byt.below {B : Nat} (h : Byt w g o l) (hb : Below B w w') (hg : g < B) (hB : B ≤ w'.heap.size) : Byt w' g o l :=
  ⟨by omega, fun j hj => (hb.cell (p := ⟨g, o + j, none⟩) hg).trans (h.2 j hj)⟩
theorem Byt.row_far (h : Byt w g o l) {g' : Nat} (hne : g ≠ g') (cs : Array Value) : Byt (w.setRow g' cs) g o l :=
  ⟨by have := h.1; simpa [World.setRow] using this, fun j hj => (World.cell?_of_block (a := ⟨g, o + j, none⟩) (setRow_other w g' g cs hne)).trans (h.2 j hj)⟩
end

section
variable {P : Program} {ops : Array Oper} {rest : List Oper} {o : Oper} {a : Act} {w : World} {Q : Exit → Act → World → Prop}
/-- An operation that is known to yield a value in this world. -/
theorem wpList_run (hgd : o.guard = none) (v : Value) (hrun : (execOp a.eval o).run P w = .ok (.value v) w) (h : wpList P ops Q rest (a.put o.dst v) w) : wpList P ops Q (o :: rest) a w := by
  refine wpList_plain hgd fun K hK => ?_
  unfold Oper.wp
  rw [hrun]
  exact hK _ _ h
end
end Go.Proofs.Ytcnhhlnbmliihaa
