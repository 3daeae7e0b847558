/-
  The run of the law MovesNone in the abstract machine: it does not look at its argument.
-/
import Derived.Test.YteoeidhcmcacbaaGreatDoorTable
set_option linter.unusedVariables false
set_option maxRecDepth 100000
set_option maxHeartbeats 0
namespace Go.Proofs.YteoeidhcmcacbaaGreatDoor.movesNone
open Go Go.Avm
theorem run : isTrue (call T.tab 1000 4 [.junk] { h := .e, nx := 0 }) = true := by decide +kernel
theorem fn : ∃ body rs, T.tab 4 = some (.fn body rs) := ⟨_, _, rfl⟩
theorem law (v : Value) (W : World) : Calls Tryz.prog 4 #[v] W (Trues W) := have ⟨_, _, hf⟩ := fn; calls_true T.tabOk hf (Rel.empty W) (.cons (.junk _) .nil) run
end Go.Proofs.YteoeidhcmcacbaaGreatDoor.movesNone
