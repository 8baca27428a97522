/- The contracts of the functions on numbers, part 2. -/
import Derived.Test.YtcjekndobhkmbaaNu
set_option linter.unusedVariables false
set_option linter.unusedSimpArgs false
namespace Go.Proofs.Ytcjekndobhkmbaa
open Go.RowKit

end Go.Proofs.Ytcjekndobhkmbaa

