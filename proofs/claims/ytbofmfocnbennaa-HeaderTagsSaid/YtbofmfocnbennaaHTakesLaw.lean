/- The walk of HeaderTakes. -/
import Derived.Test.YtbofmfocnbennaaHeaderTake2
import Derived.Laws.StructEq
namespace Go.Proofs.Ytbofmfocnbennaa
open Go.RowKit
set_option linter.unusedVariables false
set_option linter.unusedSimpArgs false

theorem hdr_guard : Try.prog.eqGuardType Try.prog.depth 23 = false := by kernel_rfl
abbrev tcells (h : Hd) : Array Value := #[.int .i64 h.id, .string h.salt, .int .i64 h.n, .int .i64 h.bytes, .int .i64 h.raw, .string h.root, .string h.tag]
set_option maxRecDepth 100000 in
theorem header_eq (id : Int) (salt : ByteArray) (n bytes raw : Int) (root tag : ByteArray) (W : World) :
    (Op.equalIn 10000 23 (.agg #[.int .i64 id, .string salt, .int .i64 n, .int .i64 bytes, .int .i64 raw, .string root, .string tag]) (.agg #[.int .i64 id, .string salt, .int .i64 n, .int .i64 bytes, .int .i64 raw, .string root, .string tag])).run Try.prog W = .ok true W := by
  obtain ⟨d, hd⟩ : ∃ d, 10000 = d + 1 + 1 := ⟨9998, rfl⟩
  rw [hd, run_equalIn_agg _ _ _ _ _ (by kernel_rfl) (by kernel_rfl)]
  simp only [Program.fieldsOf, Try.underlying23]
  go_simp
theorem wpList_eql_agg {P : Program} {w : World} {ops : Array Oper} {rest : List Oper} {o : Oper} {a : Act} {Q : Exit → Act → World → Prop} (hgd : o.guard = none) (ty rt : TypeId) (x y : Operand) (ho : o.op = .binOp .eql ty x y rt) (xs : Array Value) (hx : a.eval x = .agg xs) (hy : a.eval y = .agg xs)
    (hm : P.eqGuardType P.depth ty = false) (he : ∀ W, (Op.equalIn 10000 ty (.agg xs) (.agg xs)).run P W = .ok true W) (h : wpList P ops Q rest (a.put o.dst (.bool true)) w) : wpList P ops Q (o :: rest) a w := by
  refine wpList_plain hgd fun K hK => ?_
  unfold Oper.wp execOp
  simp only [ho, hx, hy, Sem.run_bind, run_eqGuard_agg w _ _ _ _ _ _ hm, Result.andThen_ok, run_eql_struct, he, Sem.run_pure]
  exact hK _ _ h
end Go.Proofs.Ytbofmfocnbennaa
