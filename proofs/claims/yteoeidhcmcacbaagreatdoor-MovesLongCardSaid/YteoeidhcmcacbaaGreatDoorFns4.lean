/-
  Functions of the program in the abstract machine's form, and that they are the program's. Printed by a program of this work.
-/
import Derived.Test.YteoeidhcmcacbaaGreatDoorUse
import Derived.Test.YteoeidhcmcacbaaGreatDoorChecked
set_option maxRecDepth 100000
set_option maxHeartbeats 0
set_option linter.unusedVariables false
set_option linter.unusedSimpArgs false
namespace Go.Proofs.YteoeidhcmcacbaaGreatDoor.T
open Go Go.Avm
def a227 : AFn := .fn (.seq (.reg [⟨some 2,(.mov (.c (.int .i64 (0)))),none,[],[]⟩]) (.seq (.seq (.reg [⟨some 3,(.mov (.t 0)),none,[],[]⟩,⟨some 4,(.bin .eql (.prim) (.t 3) (.c (.int .u32 (0)))),none,[],[]⟩]) (.cond (.t 4) (.seq (.reg [⟨some 2,(.mov (.c (.int .i64 (32)))),none,[],[]⟩]) .ret) .skip)) (.seq (.reg [⟨some 5,(.mov (.t 0)),none,[],[]⟩,⟨some 6,(.mov (.t 0)),none,[],[]⟩,⟨some 7,(.un .neg (.t 6)),none,[],[]⟩,⟨some 8,(.bin .and (.prim) (.t 5) (.t 7)),none,[],[]⟩,⟨some 9,(.bin .mul (.prim) (.t 8) (.c (.int .u32 (125613361)))),none,[],[]⟩,⟨some 10,(.bin .shr (.prim) (.t 9) (.c (.int .u64 (27)))),none,[],[]⟩,⟨some 11,(.ixp 32 1 (.c .junk) (.t 10)),none,[],[]⟩,⟨some 12,(.load false 1 (.t 11)),none,[],[]⟩,⟨some 13,(.conv .i64 (.t 12)),none,[],[]⟩,⟨some 2,(.mov (.t 13)),none,[],[]⟩]) .ret))) [(.tmp 2)]
theorem c227 : Good Tryz.prog 227 a227 := ⟨by kernel_rfl, trivial⟩
def a228 : AFn := .fn (.seq (.reg [⟨some 2,(.mov (.c (.int .i64 (0)))),none,[],[]⟩]) (.seq (.seq (.reg [⟨some 3,(.mov (.t 0)),none,[],[]⟩,⟨some 4,(.bin .eql (.prim) (.t 3) (.c (.int .u64 (0)))),none,[],[]⟩]) (.cond (.t 4) (.seq (.reg [⟨some 2,(.mov (.c (.int .i64 (64)))),none,[],[]⟩]) .ret) .skip)) (.seq (.reg [⟨some 5,(.mov (.t 0)),none,[],[]⟩,⟨some 6,(.mov (.t 0)),none,[],[]⟩,⟨some 7,(.un .neg (.t 6)),none,[],[]⟩,⟨some 8,(.bin .and (.prim) (.t 5) (.t 7)),none,[],[]⟩,⟨some 9,(.bin .mul (.prim) (.t 8) (.c (.int .u64 (285870213051353865)))),none,[],[]⟩,⟨some 10,(.bin .shr (.prim) (.t 9) (.c (.int .u64 (58)))),none,[],[]⟩,⟨some 11,(.ixp 64 1 (.c .junk) (.t 10)),none,[],[]⟩,⟨some 12,(.load false 1 (.t 11)),none,[],[]⟩,⟨some 13,(.conv .i64 (.t 12)),none,[],[]⟩,⟨some 2,(.mov (.t 13)),none,[],[]⟩]) .ret))) [(.tmp 2)]
theorem c228 : Good Tryz.prog 228 a228 := ⟨by kernel_rfl, trivial⟩
end Go.Proofs.YteoeidhcmcacbaaGreatDoor.T
