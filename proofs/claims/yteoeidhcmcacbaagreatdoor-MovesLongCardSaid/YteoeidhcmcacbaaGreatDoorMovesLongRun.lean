/-
  The law MovesLong returns true for every input.
-/
import Derived.Test.YteoeidhcmcacbaaGreatDoorLongLaw3
set_option linter.unusedVariables false
namespace Go.Proofs.YteoeidhcmcacbaaGreatDoor.movesLong
open Go Go.Avm
theorem law (a0 a1 a2 : Int) (w0 : (Lit.int .u16 a0).wf = true) (w1 : (Lit.int .u16 a1).wf = true) (w2 : (Lit.int .u8 a2).wf = true) (W : World) : Calls Tryz.prog 7 #[.int .u16 a0, .int .u16 a1, .int .u8 a2] W (Trues W) := by
  have h0 : 0 ≤ a0 ∧ a0 < 65536 := by simp [Lit.wf, IntKind.min, IntKind.max, IntKind.signed, IntKind.bits] at w0; omega
  have h1 : 0 ≤ a1 ∧ a1 < 65536 := by simp [Lit.wf, IntKind.min, IntKind.max, IntKind.signed, IntKind.bits] at w1; omega
  have h2 : 0 ≤ a2 ∧ a2 < 256 := by simp [Lit.wf, IntKind.min, IntKind.max, IntKind.signed, IntKind.bits] at w2; omega
  obtain ⟨n, rfl⟩ : ∃ d : Nat, a0 = Int.ofNat d := ⟨a0.toNat, by simp only [Int.ofNat_eq_natCast]; omega⟩
  obtain ⟨a, rfl⟩ : ∃ d : Nat, a1 = Int.ofNat d := ⟨a1.toNat, by simp only [Int.ofNat_eq_natCast]; omega⟩
  obtain ⟨q, rfl⟩ : ∃ d : Nat, a2 = Int.ofNat d := ⟨a2.toNat, by simp only [Int.ofNat_eq_natCast]; omega⟩
  simp only [Int.ofNat_eq_natCast] at h0 h1
  obtain ⟨m, v, s', h3, h4⟩ := long7 (n := n) (a := a) (q := q) (by omega) (by omega)
  have e7 : T.tab 7 = some (.fn body7 [.tmp 6]) := rfl
  refine calls_true T.tabOk e7 (n := m) (s := mkS []) (args := [.int .u16 (.ofNat n), .int .u16 (.ofNat a), .int .u8 (.ofNat q)]) (Rel.empty W) (.cons (.int _ _) (.cons (.int _ _) (.cons (.int _ _) .nil))) ?_
  rw [h3, h4]
  rfl
end Go.Proofs.YteoeidhcmcacbaaGreatDoor.movesLong
