/- sledgeref01.SameTexts, sledgelaw15.Few. -/
import Derived.Test.YtbofmfocnbennaaShaTop
namespace Go.Proofs.Ytbofmfocnbennaa
open Go.RowKit
set_option linter.unusedVariables false
set_option linter.unusedSimpArgs false

theorem Strs.cell_ {w : World} {A : Option Addr} {ss : List ByteArray} (h : Strs w A ss) (k : Nat) (hk : k < ss.length) : ∃ g o, A = some ⟨g, o, none⟩ ∧ w.cell? ⟨g, o + k, none⟩ = some (.string (ss.getD k ByteArray.empty)) := by
  obtain ⟨g, o, e, _, hc⟩ := h (by omega)
  exact ⟨g, o, e, hc k hk⟩
theorem getD_mem {ss : List ByteArray} {k : Nat} (hk : k < ss.length) : ss.getD k ByteArray.empty ∈ ss := by
  rw [List.getD_eq_getElem?_getD, List.getElem?_eq_getElem hk]; exact List.getElem_mem hk
theorem beq_text_ne {x y : ByteArray} (h : ¬ x = y) : (x.toList == y.toList) = false := by
  rw [ByteArray.toList_eq, ByteArray.toList_eq]
  exact beq_false_of_ne fun h2 => h (ba_ext h2)

end Go.Proofs.Ytbofmfocnbennaa
