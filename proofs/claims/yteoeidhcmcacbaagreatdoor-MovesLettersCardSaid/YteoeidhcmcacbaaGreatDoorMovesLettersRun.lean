/-
  The law MovesLetters returns true for every input.
-/
import Derived.Test.YteoeidhcmcacbaaGreatDoorLetB
set_option linter.unusedVariables false
namespace Go.Proofs.YteoeidhcmcacbaaGreatDoor.movesLetters
open Go Go.Avm
set_option maxRecDepth 100000 in
theorem law {H : Type} {enc : TypeId × Value → H} (W : World) (v0 : Value) (t : Int) {d0 : DataW H} {p0 : List MemPlace} {base : Nat} (hok : Value.okWide Tryz.prog W .any base 22 v0) (h0 : DataW.Trod enc Tryz.prog W 0 (fun _ => true) true 22 v0 d0 p0) (hw : (d0.weights Tryz.prog 22).all (· ≤ reachBytes) = true) : Calls Tryz.prog 3 #[v0, .int .i64 t] W (Trues W) := by
  obtain ⟨s, ρ, x, D, aa, hR, hV, hD, hb, hn, ha⟩ := decls_in Tryz.underlying22 Tryz.underlying60 (by kernel_rfl) rfl rfl rfl (by kernel_rfl) (by kernel_rfl) (by kernel_rfl) Tryz.underlying9 Tryz.underlying58 Tryz.underlying25 Tryz.underlying25 (by kernel_rfl) (by kernel_rfl) (by kernel_rfl) hok h0 hw
  obtain ⟨n, h⟩ := run3 (t := t) hb hD hn ha
  have e3 : T.tab 3 = some (.fn b3 [.tmp 4]) := rfl
  exact calls_true T.tabOk e3 (n := n) hR (.cons hV (.cons (.int _ _) .nil)) h
end Go.Proofs.YteoeidhcmcacbaaGreatDoor.movesLetters
