/-
  Short words for the commonest operations. Printed by a program of this work.
-/
import Derived.Test.YteoeidhcmcacbaaGreatDoorUse
set_option maxRecDepth 100000
set_option maxHeartbeats 0
set_option linter.unusedVariables false
set_option linter.unusedSimpArgs false
namespace Go.Proofs.YteoeidhcmcacbaaGreatDoor.T
open Go Go.Avm
abbrev m (d s : Nat) : AOper := ⟨some d, .mov (.t s), none, [], []⟩
abbrev o (d : Nat) (p : AOp) : AOper := ⟨some d, p, none, [], []⟩
abbrev l1 (d s : Nat) : AOper := ⟨some d, .load false 1 (.t s), none, [], []⟩
abbrev fl (d k s : Nat) : AOper := ⟨some d, .fla k (.t s), none, [], []⟩
abbrev nc (d s : Nat) : AOper := ⟨some d, .nilchk (.t s), none, [], []⟩
end Go.Proofs.YteoeidhcmcacbaaGreatDoor.T
