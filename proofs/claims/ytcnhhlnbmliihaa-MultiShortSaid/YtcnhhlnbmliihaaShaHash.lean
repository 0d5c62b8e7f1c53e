/- sha's Hash: New, Write. -/
import Derived.Test.YtcnhhlnbmliihaaShaMix
import Derived.Test.YtcnhhlnbmliihaaOnly
namespace Go.Proofs.Ytcnhhlnbmliihaa
open Go.RowKit
set_option linter.unusedVariables false
set_option linter.unusedSimpArgs false

/-- A Hash's cells. -/
def hcells (s : H8) (v : Value) (n : Nat) : Array Value :=
  #[.int .u32 (V s.a), .int .u32 (V s.b), .int .u32 (V s.c), .int .u32 (V s.d), .int .u32 (V s.e), .int .u32 (V s.f), .int .u32 (V s.g), .int .u32 (V s.h), v, .int .i64 (n : Int)]
/-- A Hash in which a text has been written so far. -/
def HSv (w : World) (B g : Nat) (v : Value) (t : List UInt8) : Prop :=
  B ≤ g ∧ Blk w g 106 (hcells (done t) v t.length) ∧ SL w B 5 v ((rest t).map bv) ∧ v.ownBlock ≠ some g
theorem u8_elem : ElemI Try.prog 94 5 (.int .u8 0) 1 := elemI Try.underlying94 (by kernel_rfl) rfl
theorem hcells_head (s : H8) (v : Value) (n : Nat) {w : World} {g : Nat} {t : TypeId} (h : Blk w g t (hcells s v n)) : w.rangeAt g 0 s.cells.toList := by
  intro j u hu
  have hj : j < 8 := by have := (List.getElem?_eq_some_iff.1 hu).1; simpa [H8.cells] using this
  rw [Nat.zero_add, h.cell, ← hu]
  match j, hj with
  | 0, _ => rfl
  | 1, _ => rfl
  | 2, _ => rfl
  | 3, _ => rfl
  | 4, _ => rfl
  | 5, _ => rfl
  | 6, _ => rfl
  | 7, _ => rfl
theorem hcells_set (s s' : H8) (v : Value) (n : Nat) : hcells s' v n = ((((((((hcells s v n).setIfInBounds 0 (.int .u32 (V s'.a))).setIfInBounds 1 (.int .u32 (V s'.b))).setIfInBounds 2 (.int .u32 (V s'.c))).setIfInBounds 3 (.int .u32 (V s'.d))).setIfInBounds 4 (.int .u32 (V s'.e))).setIfInBounds 5 (.int .u32 (V s'.f))).setIfInBounds 6 (.int .u32 (V s'.g))).setIfInBounds 7 (.int .u32 (V s'.h)) := by
  simp [hcells]
theorem cells_set (w : World) (g : Nat) (s' : H8) : w.setCells g 0 s'.cells.toList = (((((((w.setCell ⟨g, 0, none⟩ (.int .u32 (V s'.a))).setCell ⟨g, 1, none⟩ (.int .u32 (V s'.b))).setCell ⟨g, 2, none⟩ (.int .u32 (V s'.c))).setCell ⟨g, 3, none⟩ (.int .u32 (V s'.d))).setCell ⟨g, 4, none⟩ (.int .u32 (V s'.e))).setCell ⟨g, 5, none⟩ (.int .u32 (V s'.f))).setCell ⟨g, 6, none⟩ (.int .u32 (V s'.g))).setCell ⟨g, 7, none⟩ (.int .u32 (V s'.h)) := rfl
theorem hcells_store (s s' : H8) (v : Value) (n : Nat) {w : World} {g : Nat} {t : TypeId} (h : Blk w g t (hcells s v n)) : Blk (w.setCells g 0 s'.cells.toList) g t (hcells s' v n) := by
  rw [cells_set, hcells_set s s' v n]
  exact (((((((h.set_ 0 (.int .u32 (V s'.a))).set_ 1 (.int .u32 (V s'.b))).set_ 2 (.int .u32 (V s'.c))).set_ 3 (.int .u32 (V s'.d))).set_ 4 (.int .u32 (V s'.e))).set_ 5 (.int .u32 (V s'.f))).set_ 6 (.int .u32 (V s'.g))).set_ 7 (.int .u32 (V s'.h))
theorem hcells_only (s : H8) {S : Nat → Prop} {w w' : World} {g : Nat} (h : Only S w w') (hg : S g) : Only S w (w'.setCells g 0 s.cells.toList) := by
  have := (((((((h.setCell (p := ⟨g, 0, none⟩) (fun _ => hg) (.int .u32 (V s.a))).setCell (p := ⟨g, 1, none⟩) (fun _ => hg) (.int .u32 (V s.b))).setCell (p := ⟨g, 2, none⟩) (fun _ => hg) (.int .u32 (V s.c))).setCell (p := ⟨g, 3, none⟩) (fun _ => hg) (.int .u32 (V s.d))).setCell (p := ⟨g, 4, none⟩) (fun _ => hg) (.int .u32 (V s.e))).setCell (p := ⟨g, 5, none⟩) (fun _ => hg) (.int .u32 (V s.f))).setCell (p := ⟨g, 6, none⟩) (fun _ => hg) (.int .u32 (V s.g))).setCell (p := ⟨g, 7, none⟩) (fun _ => hg) (.int .u32 (V s.h))
  exact this
/-- The state stored into a Hash. -/
theorem wpList_store_h8 {P : Program} {w : World} {ops : Array Oper} {rest : List Oper} {o : Oper} {a : Act} {Q : Exit → Act → World → Prop} (hgd : o.guard = none) (ty : TypeId) (x y : Operand) (ho : o.op = .store ty x y)
    (g : Nat) (s' : H8) (hx : a.eval x = .pointer (some ⟨g, 0, none⟩)) (hy : a.eval y = .agg s'.cells) (hi : (P.info? ty).map (·.size) = some 8) (s : H8) (v : Value) (n : Nat) (t : TypeId) (hg : Blk w g t (hcells s v n))
    (h : ∀ w', Blk w' g t (hcells s' v n) → Only (· = g) w w' → wpList P ops Q rest (a.put o.dst undef) w') : wpList P ops Q (o :: rest) a w := by
  refine wpList_store_mid hgd ty x y ho g 0 s'.cells hx hy (fun j hj => ⟨?_, hg.frozen _⟩) (by rw [hi]; rfl) (all_oneCell_toArray s'.one_) ?_
  · have hj' : j < 8 := hj
    rw [Nat.zero_add, hg.cell]
    have : j < (hcells s v n).size := by simp [hcells]; omega
    rw [Array.getElem?_eq_getElem this]; rfl
  · exact h _ (hcells_store s s' v n hg) (hcells_only s' (Only.refl _ _) rfl)

theorem hStart_rest : rest [] = [] := rfl
theorem cNew (w : World) : Calls Try.prog 76 #[] w fun e w' => e = .returned (.pointer (some ⟨w.heap.size, 0, none⟩)) ∧ HSv w' w.heap.size w.heap.size (.slice none 0 0) [] ∧ Below w.heap.size w w' := by
  have hd : done [] = hStart := by unfold done; rw [List.length_nil, Nat.zero_div, blocks_zero]
  have hb : Blk (w.alloc (.cells (hcells hStart (.slice none 0 0) 0) 106)) w.heap.size 106 (hcells (done []) (.slice none 0 0) ([] : List UInt8).length) := by rw [hd]; exact Blk.new _ _ _
  have hv : HSv (w.alloc (.cells (hcells hStart (.slice none 0 0) 0) 106)) w.heap.size w.heap.size (.slice none 0 0) [] := ⟨Nat.le_refl _, hb, SL.nil _ _ _, by simp [Value.ownBlock]⟩
  have HV := Lib.hid hv
  have hB : Below w.heap.size w (w.alloc (.cells (hcells hStart (.slice none 0 0) 0) 106)) := (Below.refl _ _).alloc (Nat.le_refl _) _
  clear hd hb hv
  go_enter Try.func76, Try.ntmps76
  go_wp2_with fail
  go_ret
  exact ⟨rfl, HV.out, hB⟩
end Go.Proofs.Ytcnhhlnbmliihaa
