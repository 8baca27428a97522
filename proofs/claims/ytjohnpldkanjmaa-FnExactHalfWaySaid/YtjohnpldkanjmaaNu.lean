/- The contracts of the functions on numbers. -/
import Derived.Test.YtjohnpldkanjmaaEx
import Derived.Test.YtjohnpldkanjmaaMb
import Derived.WalkLawsBesides
import Derived.Laws.BitsAllLaws
set_option linter.unusedVariables false
set_option linter.unusedSimpArgs false
namespace Go.Proofs.Ytjohnpldkanjmaa
open Go.RowKit

end Go.Proofs.Ytjohnpldkanjmaa

