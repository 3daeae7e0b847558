/-
  The table's code holds no numbers of things.
-/
import Derived.Test.YteoeidhcmcacbaaGreatDoorTable
import Derived.Test.YteoeidhcmcacbaaGreatDoorCut
set_option linter.unusedVariables false
set_option linter.unusedSimpArgs false
set_option maxRecDepth 100000
set_option maxHeartbeats 0
namespace Go.Proofs.YteoeidhcmcacbaaGreatDoor.T
open Go Go.Avm
theorem tab0R : TabR tab0 := tabR_of (by decide +kernel)
theorem tabR : TabR tab := tabR_known tab0R 11
end Go.Proofs.YteoeidhcmcacbaaGreatDoor.T
