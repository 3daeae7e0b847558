/-
  The laws about plays of a piece that asks p for ever: the runs of moves.Play upon it.
-/
import Derived.Test.YteoeidhcmcacbaaGreatDoorTableR
import Derived.Test.YteoeidhcmcacbaaGreatDoorRe2
set_option linter.unusedVariables false
set_option linter.unusedSimpArgs false
set_option maxRecDepth 100000
set_option maxHeartbeats 0
namespace Go.Proofs.YteoeidhcmcacbaaGreatDoor.movesLong
open Go Go.Avm
/-! ### the memories: of the piece; of the unfolded term; of a run that waits, and the move that it has made -/
def oP : List AObj := [.row [.slice 1 0 1 3 0 none, .int .i64 (0), .ptr 2 0 0] 0 [3] false, .row [.str [112], .nilslice, .int .i64 (0)] 0 [3] false, .row [.int .i64 (6), .int .i64 (0), .str [], .int .i64 (0), .nilslice, .int .i64 (0), .nilslice, .slice 3 0 2 1 1 none] 0 [8] false, .row [.ptr 4 0 0, .ptr 5 0 0] 1 [2, 1] false, .row [.int .i64 (10), .int .i64 (1), .str [], .int .i64 (1), .nilslice, .int .i64 (0), .nilslice, .nilslice] 0 [8] false, .row [.int .i64 (8), .int .i64 (0), .str [112], .int .i64 (0), .nilslice, .int .i64 (0), .nilslice, .nilslice] 0 [8] false]
def oU : List AObj := [.row [.slice 1 0 3 7 2 none, .slice 2 0 1 3 0 none, .slice 3 0 3 9 2 none] 0 [3] false, .row [.int .i64 (6), .int .i64 (0), .str [], .int .i64 (0), .nilslice, .int .i64 (0), .slice 4 0 2 1 1 none, .int .i64 (10), .int .i64 (1), .str [], .int .i64 (1), .nilslice, .int .i64 (0), .nilslice, .int .i64 (8), .int .i64 (0), .str [112], .int .i64 (0), .nilslice, .int .i64 (0), .nilslice] 2 [21, 14] false, .row [.str [112], .nilslice, .int .i64 (0)] 0 [3] false, .row [.int .i64 (6), .int .i64 (0), .slice 5 0 2 1 1 none, .int .i64 (-1), .int .i64 (0), .nilslice, .int .i64 (0), .int .i64 (0), .nilslice, .int .i64 (10), .int .i64 (1), .nilslice, .int .i64 (0), .int .i64 (0), .nilslice, .int .i64 (0), .int .i64 (0), .nilslice, .int .i64 (8), .int .i64 (0), .nilslice, .int .i64 (0), .int .i64 (1), .nilslice, .int .i64 (0), .int .i64 (0), .nilslice] 2 [27] false, .row [.int .i64 (1), .int .i64 (2)] 1 [2, 1] false, .row [.int .i64 (1), .int .i64 (2)] 1 [2, 1] false]
def oW : List AObj := [.row [.ptr 2 0 0, .slice 3 0 3 1 0 (some 3), .int .i64 (2), .junk, .junk, .junk, .junk, .junk] 0 [8] false, .row [.str [112], .int .i64 (0), .bool false, .int .i64 (0), .bool false] 0 [5] false, .row [.slice 4 0 3 7 2 none, .slice 5 0 1 3 0 none, .slice 6 0 3 9 2 none] 0 [3] false, .row [.int .u8 (0), .int .u8 (0), .int .u8 (0)] 0 [3] false, .row [.int .i64 (6), .int .i64 (0), .str [], .int .i64 (0), .nilslice, .int .i64 (0), .slice 7 0 2 1 1 none, .int .i64 (10), .int .i64 (1), .str [], .int .i64 (1), .nilslice, .int .i64 (0), .nilslice, .int .i64 (8), .int .i64 (0), .str [112], .int .i64 (0), .nilslice, .int .i64 (0), .nilslice] 2 [21, 14] false, .row [.str [112], .nilslice, .int .i64 (0)] 0 [3] false, .row [.int .i64 (6), .int .i64 (0), .slice 8 0 2 1 1 none, .int .i64 (-1), .int .i64 (0), .nilslice, .int .i64 (0), .int .i64 (0), .nilslice, .int .i64 (10), .int .i64 (1), .nilslice, .int .i64 (0), .int .i64 (0), .nilslice, .int .i64 (0), .int .i64 (0), .nilslice, .int .i64 (8), .int .i64 (0), .nilslice, .int .i64 (0), .int .i64 (1), .nilslice, .int .i64 (0), .int .i64 (0), .nilslice] 2 [27] false, .row [.int .i64 (1), .int .i64 (2)] 1 [2, 1] false, .row [.int .i64 (1), .int .i64 (2)] 1 [2, 1] false]

/-! ### the code -/
def ops (c : AC) : List AOper := match c with | .reg l => l | _ => []
def hd (c : AC) : AC := match c with | .seq a _ => a | c => c
def tl (c : AC) : AC := match c with | .seq _ b => b | _ => .bad
def body7 : AC := match T.a7 with | .fn c _ => c | _ => .bad
def body13 : AC := match T.a13 with | .fn c _ => c | _ => .bad
/-- What follows n pieces of a row. -/
def aft : Nat → AC → AC
  | 0, c => c
  | n + 1, c => aft n (tl c)
def round13 : AC := match aft 7 body13 with | .block _ (.loop c) => c | _ => .bad
/-- The body of the round, and its last words. -/
def inner13 : AC := match round13 with | .seq (.block _ c) _ => c | _ => .bad
def ask13 : List AOper := ops (hd (aft 4 inner13))

/-! ### closed runs -/
theorem runP : okCut (Fast.runOps (Fast.call T.tab 1000) (ops (hd (aft 1 body7))) (mkF []) (mkS [])) [(7, .ptr 0 0 0), (8, .int .i64 0)] oP [66, 65, 58, 61, 59, 62] = true := by kernel_rfl
theorem runU : okCut (Fast.runOps (Fast.call T.tab 1000) (ops (hd (aft 1 body13))) (mkF [(0, .ptr 0 0 0)]) (mkS oP)) [(6, .ptr 0 0 0), (7, .int .i64 0)] oU [22, 12, 21, 29, 14, 37] = true := by kernel_rfl
theorem runW : okCut (Fast.runOps (Fast.call T.tab 1000) (ops (hd (aft 5 body13))) (mkF [(6, .ptr 0 0 0)]) (mkS oU)) [(8, .ptr 0 0 0), (9, .ptr 1 0 0), (10, .int .i64 0)] oW [8, 23, 0, 7, 1, 2, 3, 4, 5] = true := by kernel_rfl
def mB : List AVal := [.str [], .int .i64 0, .bool false, .int .i64 0, .bool false]
def mP : List AVal := [.str [112], .int .i64 0, .bool false, .int .i64 0, .bool false]
def mA : List AVal := [.str [112], .int .i64 0, .bool true, .int .i64 0, .bool false]
def mF : List AVal := [.str [], .int .i64 0, .bool false, .int .i64 0, .bool true]
def mV : List AVal := [.str [112], .int .i64 0, .bool true, .int .i64 1, .bool false]
theorem runA : okCut (Fast.runOps (Fast.call T.tab 1000) (ask13.drop 6) (mkF [(66, .ptr 0 0 0), (71, .agg mA), (9, .ptr 1 0 0)]) (mkS oW)) [(10, .int .i64 0), (12, .bool true)] oW [0, 1, 2, 3, 4, 5, 6, 7, 8] = true := by kernel_rfl
theorem runF : okCut (Fast.runOps (Fast.call T.tab 1000) (ask13.drop 6) (mkF [(66, .ptr 0 0 0), (71, .agg mF), (9, .ptr 1 0 0)]) (mkS oW)) [(12, .bool false)] [] [] = true := by kernel_rfl
theorem runV : okCut (Fast.runOps (Fast.call T.tab 1000) (ask13.drop 6) (mkF [(66, .ptr 0 0 0), (71, .agg mV), (9, .ptr 1 0 0)]) (mkS oW)) [(12, .bool false)] [] [] = true := by kernel_rfl
end Go.Proofs.YteoeidhcmcacbaaGreatDoor.movesLong
