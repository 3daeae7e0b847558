/-
  The law MovesBorder returns true for every input.
-/
import Derived.Test.YteoeidhcmcacbaaGreatDoorBorderR1
import Derived.Test.YteoeidhcmcacbaaGreatDoorBorderR2
import Derived.Test.YteoeidhcmcacbaaGreatDoorBorderR3
import Derived.Test.YteoeidhcmcacbaaGreatDoorBorderR4
import Derived.Test.YteoeidhcmcacbaaGreatDoorBorderR5
import Derived.Test.YteoeidhcmcacbaaGreatDoorBorderR6
import Derived.Test.YteoeidhcmcacbaaGreatDoorBorderR7
import Derived.Test.YteoeidhcmcacbaaGreatDoorBorderR8
set_option linter.unusedVariables false
set_option linter.unusedSimpArgs false
set_option maxRecDepth 100000
set_option maxHeartbeats 0
namespace Go.Proofs.YteoeidhcmcacbaaGreatDoor.movesBorder
open Go Go.Avm
theorem cases (n f : Nat) (hn : n < 5) (hf : f < n + 2) (t : Bool) (x0 x1 x21 x22 x23 x25 x26 : AVal) : Wp T.tab rest (fr0 x0 x1 x21 x22 x23 x25 x26 t (n + 1) f) s0 (Yes 6) := by
  match n, f, t, hn, hf with
  | 4, 0, true, _, _ => exact r50true x0 x1 x21 x22 x23 x25 x26
  | 4, 0, false, _, _ => exact r50false x0 x1 x21 x22 x23 x25 x26
  | 4, 1, true, _, _ => exact r51true x0 x1 x21 x22 x23 x25 x26
  | 4, 1, false, _, _ => exact r51false x0 x1 x21 x22 x23 x25 x26
  | 4, 2, true, _, _ => exact r52true x0 x1 x21 x22 x23 x25 x26
  | 4, 2, false, _, _ => exact r52false x0 x1 x21 x22 x23 x25 x26
  | 4, 3, true, _, _ => exact r53true x0 x1 x21 x22 x23 x25 x26
  | 4, 3, false, _, _ => exact r53false x0 x1 x21 x22 x23 x25 x26
  | 4, 4, true, _, _ => exact r54true x0 x1 x21 x22 x23 x25 x26
  | 4, 4, false, _, _ => exact r54false x0 x1 x21 x22 x23 x25 x26
  | 4, 5, true, _, _ => exact r55true x0 x1 x21 x22 x23 x25 x26
  | 4, 5, false, _, _ => exact r55false x0 x1 x21 x22 x23 x25 x26
  | 3, 0, true, _, _ => exact r40true x0 x1 x21 x22 x23 x25 x26
  | 3, 0, false, _, _ => exact r40false x0 x1 x21 x22 x23 x25 x26
  | 3, 1, true, _, _ => exact r41true x0 x1 x21 x22 x23 x25 x26
  | 3, 1, false, _, _ => exact r41false x0 x1 x21 x22 x23 x25 x26
  | 3, 2, true, _, _ => exact r42true x0 x1 x21 x22 x23 x25 x26
  | 3, 2, false, _, _ => exact r42false x0 x1 x21 x22 x23 x25 x26
  | 3, 3, true, _, _ => exact r43true x0 x1 x21 x22 x23 x25 x26
  | 3, 3, false, _, _ => exact r43false x0 x1 x21 x22 x23 x25 x26
  | 3, 4, true, _, _ => exact r44true x0 x1 x21 x22 x23 x25 x26
  | 3, 4, false, _, _ => exact r44false x0 x1 x21 x22 x23 x25 x26
  | 2, 0, true, _, _ => exact r30true x0 x1 x21 x22 x23 x25 x26
  | 2, 0, false, _, _ => exact r30false x0 x1 x21 x22 x23 x25 x26
  | 2, 1, true, _, _ => exact r31true x0 x1 x21 x22 x23 x25 x26
  | 2, 1, false, _, _ => exact r31false x0 x1 x21 x22 x23 x25 x26
  | 2, 2, true, _, _ => exact r32true x0 x1 x21 x22 x23 x25 x26
  | 2, 2, false, _, _ => exact r32false x0 x1 x21 x22 x23 x25 x26
  | 2, 3, true, _, _ => exact r33true x0 x1 x21 x22 x23 x25 x26
  | 2, 3, false, _, _ => exact r33false x0 x1 x21 x22 x23 x25 x26
  | 1, 0, true, _, _ => exact r20true x0 x1 x21 x22 x23 x25 x26
  | 1, 0, false, _, _ => exact r20false x0 x1 x21 x22 x23 x25 x26
  | 1, 1, true, _, _ => exact r21true x0 x1 x21 x22 x23 x25 x26
  | 1, 1, false, _, _ => exact r21false x0 x1 x21 x22 x23 x25 x26
  | 1, 2, true, _, _ => exact r22true x0 x1 x21 x22 x23 x25 x26
  | 1, 2, false, _, _ => exact r22false x0 x1 x21 x22 x23 x25 x26
  | 0, 0, true, _, _ => exact r10true x0 x1 x21 x22 x23 x25 x26
  | 0, 0, false, _, _ => exact r10false x0 x1 x21 x22 x23 x25 x26
  | 0, 1, true, _, _ => exact r11true x0 x1 x21 x22 x23 x25 x26
  | 0, 1, false, _, _ => exact r11false x0 x1 x21 x22 x23 x25 x26
theorem law (a0 a1 : Int) (a2 : Bool) (w0 : (Lit.int .u8 a0).wf = true) (w1 : (Lit.int .u8 a1).wf = true) (W : World) : Calls Tryz.prog 5 #[.int .u8 a0, .int .u8 a1, .bool a2] W (Trues W) := by
  have h0 : 0 ≤ a0 ∧ a0 < 256 := by simp [Lit.wf, IntKind.min, IntKind.max, IntKind.signed, IntKind.bits] at w0; omega
  have h1 : 0 ≤ a1 ∧ a1 < 256 := by simp [Lit.wf, IntKind.min, IntKind.max, IntKind.signed, IntKind.bits] at w1; omega
  obtain ⟨d, rfl⟩ : ∃ d : Nat, a0 = Int.ofNat d := ⟨a0.toNat, by simp only [Int.ofNat_eq_natCast]; omega⟩
  obtain ⟨a, rfl⟩ : ∃ a : Nat, a1 = Int.ofNat a := ⟨a1.toNat, by simp only [Int.ofNat_eq_natCast]; omega⟩
  simp only [Int.ofNat_eq_natCast] at h0 h1
  obtain ⟨n, v, s', h2, h3⟩ := front d a (by omega) (by omega) a2 (fun x0 x1 x21 x22 x23 x25 x26 => cases (d % 5) (a % (d % 5 + 2)) (Nat.mod_lt _ (by omega)) (Nat.mod_lt _ (by omega)) a2 x0 x1 x21 x22 x23 x25 x26)
  have e5 : T.tab 5 = some (.fn body [.tmp 6]) := rfl
  refine calls_true T.tabOk e5 (n := n) (s := s0) (args := [.int .u8 (.ofNat d), .int .u8 (.ofNat a), .bool a2]) (Rel.empty W) (.cons (.int _ _) (.cons (.int _ _) (.cons (.bool _) .nil))) ?_
  rw [h2, h3]
  rfl
end Go.Proofs.YteoeidhcmcacbaaGreatDoor.movesBorder
