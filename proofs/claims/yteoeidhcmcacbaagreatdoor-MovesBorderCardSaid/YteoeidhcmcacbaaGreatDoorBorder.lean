/-
  The law MovesBorder: the road to the runs of its closed family.
-/
import Derived.Test.YteoeidhcmcacbaaGreatDoorTableR
set_option linter.unusedVariables false
set_option linter.unusedSimpArgs false
set_option maxRecDepth 100000
set_option maxHeartbeats 0
namespace Go.Proofs.YteoeidhcmcacbaaGreatDoor.movesBorder
open Go Go.Avm
def body : AC := match T.a5 with
  | .fn c _ => c
  | _ => .bad
def rest : AC := match T.a5 with
  | .fn (.seq _ (.seq _ (.seq _ c))) _ => c
  | _ => .bad
/-- The road to the piece that is read, and what follows it; the question about its plays, and what follows that. -/
def partA : AC := match rest with
  | .seq a (.seq b (.seq c (.seq d _))) => .seq (.seq (.seq a b) c) d
  | _ => .bad
def partB : AC := match rest with
  | .seq _ (.seq _ (.seq _ (.seq _ x))) => x
  | _ => .bad
def partB1 : AC := match partB with
  | .seq a (.seq b (.seq c (.seq d _))) => .seq (.seq (.seq a b) c) d
  | _ => .bad
def partC : AC := match partB with
  | .seq _ (.seq _ (.seq _ (.seq _ x))) => x
  | _ => .bad
theorem join4 {tab : Nat → Option AFn} {a b c d x : AC} {fr : Fr} {s : AS} {t : Nat} (h : Wp tab (.seq (.seq (.seq (.seq a b) c) d) x) fr s (Yes t)) : Wp tab (.seq a (.seq b (.seq c (.seq d x)))) fr s (Yes t) :=
  yes_assoc (yes_assoc (yes_assoc h))
theorem okB : partB.ok = true := by decide +kernel
theorem okC : partC.ok = true := by decide +kernel
noncomputable def fr0 (x0 x1 x21 x22 x23 x25 x26 : AVal) (t : Bool) (n f : Nat) : Fr :=
  ((((((((((((enter [x0, x1, .bool t]).put (some 6) (.bool false)).put (some 21) x21).put (some 22) x22).put (some 23) x23).put (some 24) (.int .i64 (.ofNat n))).put (some 7) (.int .i64 (.ofNat n))).put (some 25) x25).put (some 26) x26).put (some 27) (.int .i64 (.ofNat n))).put (some 28) (.int .i64 (.ofNat (Nat.succ n)))).put (some 29) (.int .i64 (.ofNat f))).put (some 8) (.int .i64 (.ofNat f))
noncomputable def s0 : AS := { h := .e, nx := 0 }
theorem wrap_nat {m : Nat} (h : m < 9223372036854775808) : wrapF .i64 (.ofNat m) = .ofNat m := by
  show (bif Nat.blt m 9223372036854775808 then Int.ofNat m else _) = _
  rw [blt_iff.2 h]; rfl
theorem front (d a : Nat) (hd : d < 256) (ha : a < 256) (t : Bool)
    (h : ∀ x0 x1 x21 x22 x23 x25 x26, Wp T.tab rest (fr0 x0 x1 x21 x22 x23 x25 x26 t (d % 5 + 1) (a % (d % 5 + 2))) s0 (Yes 6)) :
    Cw T.tab 5 [.int .u8 (.ofNat d), .int .u8 (.ofNat a), .bool t] s0 fun v _ => v = .bool true := by
  have e5 : T.tab 5 = some (.fn body [.tmp 6]) := rfl
  have h1 := wrap_nat (m := d) (by omega)
  have h2 := wrap_nat (m := a) (by omega)
  have h3 := wrap_nat (m := d % 5 + 1) (by omega)
  have h4 := wrap_nat (m := d % 5 + 2) (by omega)
  refine cw_of e5 (aw_seq (aw_reg (ow_loud rfl rfl rfl (ow_nil ?_))))
  refine aw_seq (aw_reg (ow_loud rfl rfl rfl ?_))
  refine ow_loud (v := .int .i64 (.ofNat d)) (s' := s0) (by show some (AVal.int .i64 (wrapF .i64 (.ofNat d)), s0) = _; rw [h1]) rfl rfl ?_
  refine ow_loud (v := .int .i64 (.ofNat (d % 5))) (s' := s0) rfl rfl rfl ?_
  refine ow_loud (v := .int .i64 (.ofNat (d % 5 + 1))) (s' := s0) (by show some (AVal.int .i64 (wrapF .i64 (.ofNat (d % 5 + 1))), s0) = _; rw [h3]) rfl rfl ?_
  refine ow_loud rfl rfl rfl (ow_nil ?_)
  refine aw_seq (aw_reg (ow_loud rfl rfl rfl ?_))
  refine ow_loud (v := .int .i64 (.ofNat a)) (s' := s0) (by show some (AVal.int .i64 (wrapF .i64 (.ofNat a)), s0) = _; rw [h2]) rfl rfl ?_
  refine ow_loud rfl rfl rfl ?_
  refine ow_loud (v := .int .i64 (.ofNat (d % 5 + 2))) (s' := s0) (by show some (AVal.int .i64 (wrapF .i64 (.ofNat (d % 5 + 2))), s0) = _; rw [h4]) rfl rfl ?_
  refine ow_loud (v := .int .i64 (.ofNat (a % (d % 5 + 2)))) (s' := s0) rfl rfl rfl ?_
  refine ow_loud rfl rfl rfl (ow_nil ?_)
  obtain ⟨n, e, fr, s, e1, rfl, e2, e3⟩ := h (.int .u8 (.ofNat d)) (.int .u8 (.ofNat a)) (.int .u8 (.ofNat d)) (.int .i64 (.ofNat d)) (.int .i64 (.ofNat (d % 5))) (.int .u8 (.ofNat a)) (.int .i64 (.ofNat a))
  exact ⟨n, .ret, fr, s, e1, e3, .bool true, by show (match some [fr.get 6] with | some [v] => some v | some vs => some (.tuple vs) | none => none) = _; rw [e2], rfl⟩
end Go.Proofs.YteoeidhcmcacbaaGreatDoor.movesBorder
