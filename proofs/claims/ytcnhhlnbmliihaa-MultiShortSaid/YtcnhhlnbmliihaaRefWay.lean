/- The ways, of the program and of the reference. -/
import Derived.Test.YtcnhhlnbmliihaaMerkWay
import Derived.Test.YtcnhhlnbmliihaaRefMerk
namespace Go.Proofs.Ytcnhhlnbmliihaa
open Go.RowKit
set_option linter.unusedVariables false
set_option linter.unusedSimpArgs false

end Go.Proofs.Ytcnhhlnbmliihaa
