import Derived.Test.YtbofmfocnbennaaText
import Derived.Test.YtbofmfocnbennaaQuarter
namespace Go.Proofs.Ytbofmfocnbennaa
open Go.RowKit
set_option linter.unusedVariables false
set_option linter.unusedSimpArgs false

theorem byte_elem : ElemI Try.prog 43 5 (.int .u8 0) 1 := elemI Try.underlying43 (by kernel_rfl) rfl

end Go.Proofs.Ytbofmfocnbennaa
