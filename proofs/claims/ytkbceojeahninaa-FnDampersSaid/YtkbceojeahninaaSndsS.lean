/- The pitches that sound at a time: the reference. -/
import Derived.Test.YtkbceojeahninaaSnds
import Derived.Test.YtkbceojeahninaaApp
namespace Go.Proofs.Ytkbceojeahninaa
open Go.ChangeShapes Go.WideShapes Go.ChangeAt Go.RowKit
set_option linter.unusedVariables false
end Go.Proofs.Ytkbceojeahninaa
