/-
  Layer 3: what this seat needs of it.
-/
import Derived.Test.YtfnmidddgjlipaaGreatDoorLx13
set_option linter.unusedVariables false
set_option linter.unusedSimpArgs false
namespace Go.Proofs.YtfnmidddgjlipaaGreatDoor
open Go.RowKit

end Go.Proofs.YtfnmidddgjlipaaGreatDoor
