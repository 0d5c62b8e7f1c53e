/- The ways, of the program and of the reference. -/
import Derived.Test.YtcnhhlnbmliihaaMerkRoot
namespace Go.Proofs.Ytcnhhlnbmliihaa
open Go.RowKit
set_option linter.unusedVariables false
set_option linter.unusedSimpArgs false

theorem bool_elem : ElemI Try.prog 57 4 (.bool false) 1 := elemI Try.underlying57 (by kernel_rfl) rfl

end Go.Proofs.Ytcnhhlnbmliihaa
