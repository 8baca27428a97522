/- The contracts of the functions on numbers, part 2. -/
import Derived.Test.YtjohnpldkanjmaaNu
set_option linter.unusedVariables false
set_option linter.unusedSimpArgs false
namespace Go.Proofs.Ytjohnpldkanjmaa
open Go.RowKit

end Go.Proofs.Ytjohnpldkanjmaa

