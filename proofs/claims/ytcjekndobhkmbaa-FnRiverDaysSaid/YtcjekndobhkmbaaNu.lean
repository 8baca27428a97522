/- The contracts of the functions on numbers. -/
import Derived.Test.YtcjekndobhkmbaaEx
import Derived.Test.YtcjekndobhkmbaaMb
import Derived.WalkLawsBesides
import Derived.Laws.BitsAllLaws
set_option linter.unusedVariables false
set_option linter.unusedSimpArgs false
namespace Go.Proofs.Ytcjekndobhkmbaa
open Go.RowKit

end Go.Proofs.Ytcjekndobhkmbaa

