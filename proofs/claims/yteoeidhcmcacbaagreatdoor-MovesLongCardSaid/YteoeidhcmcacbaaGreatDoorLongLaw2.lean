/-
  The laws about plays of a piece that asks p for ever: the law's rows.
-/
import Derived.Test.YteoeidhcmcacbaaGreatDoorLongLaw
set_option linter.unusedVariables false
set_option linter.unusedSimpArgs false
set_option maxRecDepth 100000
set_option maxHeartbeats 1000000
namespace Go.Proofs.YteoeidhcmcacbaaGreatDoor.movesLong
open Go Go.Avm

theorem ok7_1 : (aft 1 body7).ok = true := by decide +kernel
theorem ok7_2 : (aft 2 body7).ok = true := by decide +kernel
theorem ok7_4 : (aft 4 body7).ok = true := by decide +kernel
theorem ok7_5 : (aft 5 body7).ok = true := by decide +kernel
theorem ok7_7 : (aft 7 body7).ok = true := by decide +kernel
def loop7 : AC := match tl (hd (aft 4 body7)) with | .block _ (.loop c) => c | _ => .bad
theorem ok7_l : (AC.loop loop7).ok = true := by decide +kernel
theorem okRead : ((ops (hd (aft 1 body7))).all AOper.ok) = true := by decide +kernel
theorem kR0 : (dsts (ops (hd (aft 1 body7)))).contains 0 = false := by decide +kernel
theorem kR1 : (dsts (ops (hd (aft 1 body7)))).contains 1 = false := by decide +kernel
theorem kR2 : (dsts (ops (hd (aft 1 body7)))).contains 2 = false := by decide +kernel
/-- A value put down in a small memory. -/
theorem sr_new {P : List AObj} {o : AObj} : Sr (fun k => k) (mkS (P ++ [o])) ((mkS P).new o) := by
  refine ⟨fun _ _ e => e, fun g x e => ⟨x, ?_, Or.refl x⟩, fun j => ?_⟩
  · rw [mkS_get] at e
    rw [AS.get_new, mkS_get, show (mkS P).nx = P.length from llen_eq P]
    by_cases h : g = P.length
    · rw [if_pos h]; subst h; simpa using e
    · rw [if_neg h]
      have hg := (List.getElem?_eq_some_iff.1 e).1
      rw [List.getElem?_append_left (by simp at hg; omega)] at e
      exact e
  · show llen (P ++ [o]) + j = llen P + 1 + j
    rw [llen_eq, llen_eq]; simp

section
variable {n a q : Nat}
/-- The frame at the head of the loop. -/
noncomputable def F7 (n a q L v : Nat) (c : Option Nat) (i : Nat) : Fr := mkF [(0, .int .u16 (.ofNat n)), (1, .int .u16 (.ofNat a)), (2, .int .u8 (.ofNat q)), (7, .ptr 0 0 0), (9, .slice 6 0 L 5 v c), (10, .int .i64 (.ofNat i))]
theorem loop7_ok {N : Nat} (hn : n < 65536) (hN : N = n % 10001) {Q : Ex → Fr → AS → Prop} (hQ : LiftQ Q)
    (hend : ∀ v ex c, c = none ∨ c = some (2 + 2 * N) → Q (.exit 0) (F7 n a q (2 + 2 * N) v c N) (mkS (oP ++ [rowObj base (2 + 2 * N) v ex]))) : ∀ (k i v : Nat) (ex : List Nat) (c : Option Nat), i + k = N → c = none ∨ c = some (2 + 2 * i) →
    Wp T.tab (.loop loop7) (F7 n a q (2 + 2 * i) v c i) (mkS (oP ++ [rowObj base (2 + 2 * i) v ex])) Q := by
  have hN2 : N < 10001 := by rw [hN]; exact Nat.mod_lt _ (by omega)
  intro k
  induction k with
  | zero =>
    intro i v ex c hi hc
    obtain rfl : i = N := by omega
    refine aw_loop_step ?_
    show Wp T.tab (.seq (.seq (.reg (ops (hd (hd loop7)))) (tl (hd loop7))) (tl loop7)) _ _ _
    refine aw_seq (aw_seq (aw_reg (ow_loud rfl rfl rfl (ow_loud rfl rfl rfl ?_))))
    refine ow_loud (v := .int .i64 (.ofNat n)) (s' := mkS (oP ++ [rowObj base (2 + 2 * i) v ex])) (by show some (AVal.int .i64 (wrapF .i64 (.ofNat n)), _) = _; rw [wrap_nat (by omega)]) rfl rfl ?_
    refine ow_loud (v := .int .i64 (.ofNat (n % 10001))) (s' := mkS (oP ++ [rowObj base (2 + 2 * i) v ex])) rfl rfl rfl ?_
    refine ow_loud (v := .bool false) (s' := mkS (oP ++ [rowObj base (2 + 2 * i) v ex])) (by
      show some (AVal.bool (bltI (.ofNat i) (.ofNat (n % 10001))), _) = _
      rw [bltI_eq, ← hN, decide_eq_false (by omega)]) rfl rfl (ow_nil ?_)
    refine aw_false rfl (aw_exit ?_)
    refine hQ (fun k => k) _ _ _ _ _ _ (hend v ex c hc) (.exit 0) (Gets.frr ?_ rfl) (Sr.refl _)
    exact ⟨Vr.refl _, Vr.refl _, Vr.refl _, Vr.refl _, Vr.refl _, Vr.refl _, trivial⟩
  | succ k ih =>
    intro i v ex c hi hc
    refine aw_loop_step ?_
    show Wp T.tab (.seq (.seq (.reg (ops (hd (hd loop7)))) (tl (hd loop7))) (.seq (.block 1 (.reg (ops (match hd (tl loop7) with | .block _ c => c | c => c)))) (.reg (ops (tl (tl loop7)))))) _ _ _
    refine aw_seq (aw_seq (aw_reg (ow_loud rfl rfl rfl (ow_loud rfl rfl rfl ?_))))
    refine ow_loud (v := .int .i64 (.ofNat n)) (s' := mkS (oP ++ [rowObj base (2 + 2 * i) v ex])) (by show some (AVal.int .i64 (wrapF .i64 (.ofNat n)), _) = _; rw [wrap_nat (by omega)]) rfl rfl ?_
    refine ow_loud (v := .int .i64 (.ofNat (n % 10001))) (s' := mkS (oP ++ [rowObj base (2 + 2 * i) v ex])) rfl rfl rfl ?_
    refine ow_loud (v := .bool true) (s' := mkS (oP ++ [rowObj base (2 + 2 * i) v ex])) (by
      show some (AVal.bool (bltI (.ofNat i) (.ofNat (n % 10001))), _) = _
      rw [bltI_eq, ← hN, decide_eq_true (by simp only [Int.ofNat_eq_natCast]; omega)]) rfl rfl (ow_nil ?_)
    refine aw_true rfl (aw_skip (aw_seq (aw_block (aw_reg ?_))))
    refine ow_loud rfl rfl rfl (ow_loud (v := .agg mA) rfl rfl rfl (ow_loud (v := .agg mP) rfl rfl rfl ?_))
    -- the two moves
    have hnx : (mkS (oP ++ [rowObj base (2 + 2 * i) v ex])).nx = 7 := by rw [show (mkS (oP ++ [rowObj base (2 + 2 * i) v ex])).nx = (oP ++ [rowObj base (2 + 2 * i) v ex]).length from llen_eq (oP ++ [rowObj base (2 + 2 * i) v ex])]; rfl
    refine ow_loud (v := .slice 7 0 2 5 0 (some 2)) (s' := (mkS (oP ++ [rowObj base (2 + 2 * i) v ex])).new (oneRow (mA ++ mP))) (by
      show some (AVal.slice (mkS (oP ++ [rowObj base (2 + 2 * i) v ex])).nx 0 2 5 0 (some 2), (mkS (oP ++ [rowObj base (2 + 2 * i) v ex])).new (oneRow (mA ++ mP))) = _
      rw [hnx]) rfl rfl ?_
    have h6 : ((mkS (oP ++ [rowObj base (2 + 2 * i) v ex])).new (oneRow (mA ++ mP))).get 6 = some (rowObj base (2 + 2 * i) v ex) := by rw [AS.get_new, hnx, if_neg (by omega), mkS_get]; rfl
    have h7 : cellsAt ((mkS (oP ++ [rowObj base (2 + 2 * i) v ex])).new (oneRow (mA ++ mP))) 7 0 0 (Nat.mul 2 5) = some (mA ++ mP) := by
      unfold cellsAt
      rw [AS.get_new, hnx, if_pos rfl]
      rfl
    obtain ⟨s', g1, v1, ex1, e1, e2, e3, e4⟩ := row_app base_moves h6 hc (x := .t 32) (y := .t 35)
      (fr := (((((((((F7 n a q (2 + 2 * i) v c i).put (some 25) (.int .i64 (.ofNat i))).put (some 26) (.int .u16 (.ofNat n))).put (some 27) (.int .i64 (.ofNat n))).put (some 28) (.int .i64 (.ofNat (n % 10001)))).put (some 29) (.bool true)).put (some 32) (.slice 6 0 (2 + 2 * i) 5 v c)).put (some 33) (.agg mA)).put (some 34) (.agg mP)).put (some 35) (.slice 7 0 2 5 0 (some 2)))
      rfl rfl h7 rfl (by omega) (by omega) (base_two (by omega) (by omega))
    refine ow_loud e1 rfl rfl (ow_loud rfl rfl rfl (ow_nil ?_))
    refine aw_reg (ow_loud rfl rfl rfl (ow_loud (add_nat (n := i) (k := 1) rfl rfl (by omega)) rfl rfl (ow_loud rfl rfl rfl (ow_nil ?_))))
    obtain ⟨τ, t1, t2, t3⟩ := sr_same (P := oP) (s := s') (fun k o e => by
      have hk : k < 6 := (List.getElem?_eq_some_iff.1 e).1
      refine e3 k o hk ?_
      rw [AS.get_new, hnx, if_neg (by omega), mkS_get, List.getElem?_append_left hk]; exact e) clP (g := g1) e4 e2 (base_moves.or _ _ _)
    have ih' := ih (i + 1) v1 ex1 none (by omega) (.inl rfl)
    rw [show 2 + 2 * (i + 1) = 2 + 2 * i + 2 by omega] at ih'
    refine aw_re T.tabR ok7_l hQ (Gets.frr ?_ rfl) t1 ih'
    have hp : τ 0 = 0 := t2 0 (by decide)
    have hr : τ 6 = g1 := t3
    exact ⟨kept_plain rfl, kept_plain rfl, kept_plain rfl, keptPtr hp, keptSl hr, kept_plain rfl, trivial⟩

/-- The piece is read, and the row made. -/
theorem start7 (hn : n < 65536)
    (h : ∀ v ex c, c = none ∨ c = some (2 + 2 * (n % 10001)) → Wp T.tab (aft 5 body7) (F7 n a q (2 + 2 * (n % 10001)) v c (n % 10001)) (mkS (oP ++ [rowObj base (2 + 2 * (n % 10001)) v ex])) Q7) :
    Wp T.tab body7 (enter [.int .u16 (.ofNat n), .int .u16 (.ofNat a), .int .u8 (.ofNat q)]) (mkS []) Q7 := by
  show Wp T.tab (.seq (.reg (ops (hd body7))) (.seq (.reg (ops (hd (aft 1 body7)))) (aft 2 body7))) _ _ _
  refine aw_seq (aw_reg (ow_loud rfl rfl rfl (ow_nil ?_)))
  refine aw_seq (aw_reg ?_)
  refine cut_all T.tabR (LiftQ.andThen T.tabR ok7_2 liftQ7) okRead runP trivial rfl (K := [(0, .int .u16 (.ofNat n)), (1, .int .u16 (.ofNat a)), (2, .int .u8 (.ofNat q))]) ⟨⟨rfl, kR0, rfl⟩, ⟨rfl, kR1, rfl⟩, ⟨rfl, kR2, rfl⟩, trivial⟩ ?_
  show Wp T.tab (.seq (.seq (.reg (ops (hd (hd (aft 2 body7))))) (tl (hd (aft 2 body7)))) (.seq (.reg (ops (hd (aft 3 body7)))) (aft 4 body7))) _ _ _
  refine aw_seq (aw_seq (aw_reg (ow_loud rfl rfl rfl (ow_loud rfl rfl rfl (ow_nil ?_)))))
  refine aw_false rfl (aw_skip ?_)
  refine aw_seq (aw_reg (ow_loud (v := .agg mB) rfl rfl rfl (ow_loud (v := .agg mP) rfl rfl rfl ?_)))
  refine ow_loud (v := .slice 6 0 2 5 0 (some 2)) (s' := (mkS oP).new (rowObj base 2 0 [])) rfl rfl rfl (ow_loud rfl rfl rfl (ow_nil ?_))
  refine aw_re T.tabR ok7_4 liftQ7 (fr := mkF [(0, .int .u16 (.ofNat n)), (1, .int .u16 (.ofNat a)), (2, .int .u8 (.ofNat q)), (7, .ptr 0 0 0), (9, .slice 6 0 2 5 0 (some 2))]) (Gets.frr ⟨Vr.refl _, Vr.refl _, Vr.refl _, Vr.refl _, Vr.refl _, trivial⟩ rfl) sr_new ?_
  show Wp T.tab (.seq (.seq (.reg (ops (hd (hd (aft 4 body7))))) (.block 0 (.loop loop7))) (aft 5 body7)) _ _ _
  refine aw_seq (aw_seq (aw_reg (ow_loud rfl rfl rfl (ow_nil (aw_block ?_)))))
  have hl : LiftQ (Out.of 0 (Then T.tab (aft 5 body7) Q7)) := (LiftQ.andThen T.tabR ok7_5 liftQ7).out 0
  refine aw_re T.tabR ok7_l hl (Gets.frr ?_ rfl) (Sr.refl _) (loop7_ok (n := n) (a := a) (q := q) hn rfl hl (fun v ex c hc => h v ex c hc) (n % 10001) 0 0 [] (some 2) (by omega) (.inr rfl))
  exact ⟨Vr.refl _, Vr.refl _, Vr.refl _, Vr.refl _, Vr.refl _, Vr.refl _, trivial⟩
end
end Go.Proofs.YteoeidhcmcacbaaGreatDoor.movesLong
