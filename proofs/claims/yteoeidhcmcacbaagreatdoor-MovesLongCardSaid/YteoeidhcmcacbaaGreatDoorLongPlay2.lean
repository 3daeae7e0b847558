/-
  The laws about plays of a piece that asks p for ever: the rounds of moves.Play, and what it returns.
-/
import Derived.Test.YteoeidhcmcacbaaGreatDoorLongPlay
set_option linter.unusedVariables false
set_option linter.unusedSimpArgs false
set_option maxRecDepth 100000
set_option maxHeartbeats 1000000
namespace Go.Proofs.YteoeidhcmcacbaaGreatDoor.movesLong
open Go Go.Avm

theorem okI1 : (aft 1 inner13).ok = true := by decide +kernel
theorem ok5 : (aft 5 inner13).ok = true := by decide +kernel
theorem okT : (match round13 with | .seq _ b => b | _ => .bad : AC).ok = true := by decide +kernel
theorem kA8 : (dsts (ask13.drop 6)).contains 8 = false := by decide +kernel
theorem kA9 : (dsts (ask13.drop 6)).contains 9 = false := by decide +kernel
theorem kA1 : (dsts (ask13.drop 6)).contains 1 = false := by decide +kernel
theorem kA11 : (dsts (ask13.drop 6)).contains 11 = false := by decide +kernel
section
variable {f : Nat → List AVal} (hf : Moves f) {L v : Nat} {ex : List Nat} {c : Option Nat}

/-- What follows a round. -/
def QI (b : Bool) : Ex → Fr → AS → Prop := Out.of 1 (Then T.tab (tl round13) (Then T.tab (.loop round13) (Out.of 0 (QP b 0))))
theorem liftQI (b : Bool) : LiftQ (QI b) := LiftQ.out (LiftQ.andThen T.tabR okT (LiftQ.andThen T.tabR okLoop ((liftQP b 0).out 0))) 1

/-- The frame behind the first look. -/
noncomputable def fr1 (L v : Nat) (c : Option Nat) (i : Nat) : Fr := ((Fl L v c i).put (some 48) (.int .i64 0)).put (some 49) (.bool false)
theorem cellM {o : AObj} : cellsAt (mkS (oW ++ [o])) 1 0 0 5 = some mP := by
  unfold cellsAt
  rw [mkS_get]
  rfl
theorem row9 {o : AObj} : (mkS (oW ++ [o])).get 9 = some o := by rw [mkS_get]; rfl

include hf in
/-- The piece's move is held against the row's. -/
theorem in1 {b : Bool} {i : Nat} (hi : i < L) {q : Bool} (hq : beqFlat ks mP (f i) = some q) (h1 : q = false → b = false)
    (k : q = true → ∀ fr : Fr, fr.df = [] → fr.get 8 = .ptr 0 0 0 → fr.get 9 = .ptr 1 0 0 → fr.get 1 = .slice 9 0 L 5 v c → fr.get 11 = .int .i64 (.ofNat i) → Wp T.tab (aft 2 inner13) fr (mkS (oW ++ [rowObj f L v ex])) (QI b)) :
    Wp T.tab inner13 (Fl L v c i) (mkS (oW ++ [rowObj f L v ex])) (QI b) := by
  show Wp T.tab (.seq (.seq (.reg (ops (hd (hd inner13)))) (tl (hd inner13))) (.seq (.seq (.reg (ops (hd (hd (aft 1 inner13))))) (tl (hd (aft 1 inner13)))) (aft 2 inner13))) _ _ _
  refine aw_seq (aw_seq (aw_reg (ow_loud rfl rfl rfl (ow_loud rfl rfl rfl (ow_nil ?_)))))
  refine aw_false rfl (aw_skip ?_)
  refine aw_seq (aw_seq (aw_reg (ow_loud rfl rfl rfl (ow_loud rfl rfl rfl (ow_loud rfl rfl rfl ?_)))))
  refine ow_loud (v := .agg mP) (s' := mkS (oW ++ [rowObj f L v ex])) (by
    show (match (match cellsAt (mkS (oW ++ [rowObj f L v ex])) 1 0 0 5 with
      | some cs => bif true then some (AVal.agg cs) else single cs
      | none => none) with | some w => some (w, mkS (oW ++ [rowObj f L v ex])) | none => none) = _
    rw [cellM]; rfl) rfl rfl ?_
  refine ow_loud rfl rfl rfl (ow_loud rfl rfl rfl ?_)
  refine ow_loud (row_addr hi rfl rfl) rfl rfl ?_
  refine ow_loud (row_load hf row9 hi rfl) rfl rfl ?_
  refine ow_loud (flat_ne rfl rfl hq) rfl rfl (ow_loud rfl rfl rfl (ow_nil ?_))
  cases q with
  | true => exact aw_false rfl (aw_skip (k rfl _ rfl rfl rfl rfl rfl))
  | false =>
    rw [h1 rfl]
    refine aw_true rfl (aw_seq (aw_reg (ow_loud rfl rfl rfl (ow_loud rfl rfl rfl (ow_nil ?_)))))
    exact aw_ret (rets2 (s := mkS (oW ++ [rowObj f L v ex])) rfl rfl rfl)
/-- Is the row at its end? -/
theorem in2 {b : Bool} {i : Nat} (hL : L ≤ 20000) (hi : i < L) {fr : Fr} {s : AS} (hd0 : fr.df = []) (h8 : fr.get 8 = .ptr 0 0 0) (h9 : fr.get 9 = .ptr 1 0 0) (h1 : fr.get 1 = .slice 9 0 L 5 v c) (h11 : fr.get 11 = .int .i64 (.ofNat i))
    (hb : i + 1 = L → b = true)
    (k : i + 1 ≠ L → Wp T.tab (aft 3 inner13) (mkF [(8, .ptr 0 0 0), (9, .ptr 1 0 0), (1, .slice 9 0 L 5 v c), (11, .int .i64 (.ofNat i))]) s (QI b)) : Wp T.tab (aft 2 inner13) fr s (QI b) := by
  refine aw_re T.tabR (by decide +kernel) (liftQI b) (fr := mkF [(8, .ptr 0 0 0), (9, .ptr 1 0 0), (1, .slice 9 0 L 5 v c), (11, .int .i64 (.ofNat i))]) (Gets.frr ⟨by rw [h8]; exact Vr.refl _, by rw [h9]; exact Vr.refl _, by rw [h1]; exact Vr.refl _, by rw [h11]; exact Vr.refl _, trivial⟩ hd0) (Sr.refl s) ?_
  show Wp T.tab (.seq (.seq (.reg (ops (hd (hd (aft 2 inner13))))) (tl (hd (aft 2 inner13)))) (aft 3 inner13)) _ _ _
  refine aw_seq (aw_seq (aw_reg (ow_loud rfl rfl rfl ?_)))
  refine ow_loud (add_nat (n := i) (k := 1) rfl rfl (by omega)) rfl rfl ?_
  refine ow_loud rfl rfl rfl (ow_loud rfl rfl rfl ?_)
  refine ow_loud (v := .bool (decide (i + 1 = L))) (s' := s) (by show some (AVal.bool (beqI (.ofNat (i + 1)) (.ofNat L)), s) = _; rw [eqI]) rfl rfl (ow_nil ?_)
  by_cases e : i + 1 = L
  · rw [hb e]
    rw [decide_eq_true e]
    refine aw_true rfl (aw_seq (aw_reg (ow_loud rfl rfl rfl (ow_loud rfl rfl rfl (ow_nil ?_)))))
    exact aw_ret (rets2 (s := s) rfl rfl rfl)
  · rw [decide_eq_false e]
    refine aw_false rfl (aw_skip ?_)
    refine aw_re T.tabR (by decide +kernel) (liftQI b) (Gets.frr ?_ rfl) (Sr.refl s) (k e)
    exact ⟨Vr.refl _, Vr.refl _, Vr.refl _, Vr.refl _, trivial⟩
include hf in
/-- The other side's move is a wrong one. -/
theorem in3bad {i : Nat} (hL : L ≤ 20000) (hi : i + 1 < L) {mv : List AVal} (hm : f (i + 1) = mv) (hrun : okCut (Fast.runOps (Fast.call T.tab 1000) (ask13.drop 6) (mkF [(66, .ptr 0 0 0), (71, .agg mv), (9, .ptr 1 0 0)]) (mkS oW)) [(12, .bool false)] [] [] = true)
    (hu : ((AVal.agg mv).under oW.length 9) = true) :
    Wp T.tab (aft 3 inner13) (mkF [(8, .ptr 0 0 0), (9, .ptr 1 0 0), (1, .slice 9 0 L 5 v c), (11, .int .i64 (.ofNat i))]) (mkS (oW ++ [rowObj f L v ex])) (QI false) := by
  show Wp T.tab (.seq (.reg (ops (hd (aft 3 inner13)))) (.seq (.reg ask13) (aft 5 inner13))) _ _ _
  refine aw_seq (aw_reg (ow_loud rfl rfl rfl (ow_nil ?_)))
  refine aw_seq (aw_reg (ow_loud rfl rfl rfl (ow_loud rfl rfl rfl (ow_loud rfl rfl rfl ?_))))
  refine ow_loud (add_nat (n := i) (k := 1) rfl rfl (by omega)) rfl rfl ?_
  refine ow_loud (row_addr hi rfl rfl) rfl rfl ?_
  refine ow_loud (row_load hf row9 hi rfl) rfl rfl ?_
  rw [hm]
  show Ow T.tab (ask13.drop 6) _ _ _
  refine cut_row T.tabR (LiftQ.andThen T.tabR ok5 (liftQI false)) okA hrun clW rfl ?_ (by decide +kernel) (hf.or L v ex) ⟨Vr.refl _, Vr.refl _, Vr.refl _, trivial⟩ rfl (K := []) trivial ?_
  · simp only [List.all_cons, List.all_nil, hu, Bool.and_true]; rfl
  · show Wp T.tab (.seq (.reg (ops (hd (aft 5 inner13)))) (tl (aft 5 inner13))) _ _ _
    refine aw_seq (aw_reg (ow_loud rfl rfl rfl (ow_loud rfl rfl rfl (ow_nil ?_))))
    refine aw_true rfl (aw_seq (aw_reg (ow_loud rfl rfl rfl (ow_loud rfl rfl rfl (ow_nil ?_)))))
    exact aw_ret (rets2 (s := mkS ([] ++ [rowObj f L v ex])) rfl rfl rfl)
include hf in
/-- The other side answers: the piece asks again. -/
theorem in3 {b : Bool} {i : Nat} (hL : L ≤ 20000) (hi : i + 1 < L) (hm : f (i + 1) = mA)
    (k : Wp T.tab (.loop round13) (Fl L v c (i + 2)) (mkS (oW ++ [rowObj f L v ex])) (Out.of 0 (QP b 0))) :
    Wp T.tab (aft 3 inner13) (mkF [(8, .ptr 0 0 0), (9, .ptr 1 0 0), (1, .slice 9 0 L 5 v c), (11, .int .i64 (.ofNat i))]) (mkS (oW ++ [rowObj f L v ex])) (QI b) := by
  show Wp T.tab (.seq (.reg (ops (hd (aft 3 inner13)))) (.seq (.reg ask13) (aft 5 inner13))) _ _ _
  refine aw_seq (aw_reg (ow_loud rfl rfl rfl (ow_nil ?_)))
  refine aw_seq (aw_reg (ow_loud rfl rfl rfl (ow_loud rfl rfl rfl (ow_loud rfl rfl rfl ?_))))
  refine ow_loud (add_nat (n := i) (k := 1) rfl rfl (by omega)) rfl rfl ?_
  refine ow_loud (row_addr hi rfl rfl) rfl rfl ?_
  refine ow_loud (row_load hf row9 hi rfl) rfl rfl ?_
  rw [hm]
  show Ow T.tab (ask13.drop 6) _ _ _
  refine cut_row T.tabR (LiftQ.andThen T.tabR ok5 (liftQI b)) okA runA clW clW (by decide +kernel) (by decide +kernel) (hf.or L v ex) ⟨Vr.refl _, Vr.refl _, Vr.refl _, trivial⟩ rfl
    (K := [(8, .ptr 0 0 0, .ptr 0 0 0), (9, .ptr 1 0 0, .ptr 1 0 0), (1, .slice 9 0 L 5 v c, .slice 9 0 L 5 v c), (11, .int .i64 (.ofNat i), .int .i64 (.ofNat i))])
    ⟨⟨rfl, kA8, fun ρ _ h => keptPtr (h 0 0 rfl (by decide) (by decide))⟩, ⟨rfl, kA9, fun ρ _ h => keptPtr (h 1 1 rfl (by decide) (by decide))⟩, ⟨rfl, kA1, fun ρ h _ => keptSl h⟩, ⟨rfl, kA11, fun _ _ _ => .int _ _⟩, trivial⟩ ?_
  show Wp T.tab (.seq (.reg (ops (hd (aft 5 inner13)))) (tl (aft 5 inner13))) _ _ _
  refine aw_seq (aw_reg (ow_loud rfl rfl rfl (ow_loud rfl rfl rfl (ow_nil ?_))))
  refine aw_false rfl (aw_skip ?_)
  show Wp T.tab (.reg (ops (tl round13))) _ _ _
  refine aw_reg (ow_loud rfl rfl rfl (ow_loud (add_nat (n := i) (k := 2) rfl rfl (by omega)) rfl rfl (ow_loud rfl rfl rfl (ow_nil ?_))))
  refine aw_re T.tabR okLoop ((liftQP b 0).out 0) (Gets.frr ?_ rfl) (Sr.refl _) k
  exact ⟨Vr.refl _, Vr.refl _, Vr.refl _, Vr.refl _, Vr.refl _, trivial⟩

/-- The row that is a play, as far as it goes. -/
def base (j : Nat) : List AVal := if j = 0 then mB else if j % 2 = 1 then mP else mA
/-- A move that is none there. -/
def Bad (f : Nat → List AVal) (k : Nat) : Prop := if k = 0 then beqFlat ks (f 0) mB = some false else if k % 2 = 1 then beqFlat ks mP (f k) = some false else f k = mF ∨ f k = mV
include hf in
theorem rounds {k : Nat} (hL : L ≤ 20000) (hev : L % 2 = 0) (hk : k ≤ L) (hgood : ∀ j, j < k → f j = base j) (hbad : k < L → Bad f k) : ∀ (n i : Nat), i % 2 = 1 → i ≤ k → i < L → k - i ≤ n →
    Wp T.tab (.loop round13) (Fl L v c i) (mkS (oW ++ [rowObj f L v ex])) (Out.of 0 (QP (decide (k = L)) 0)) := by
  intro n
  induction n with
  | zero =>
    intro i hi hik hiL hn
    obtain rfl : i = k := by omega
    refine aw_loop_step ?_
    show Wp T.tab (.seq (.block 1 inner13) (tl round13)) _ _ _
    refine aw_seq (aw_block ?_)
    have hb := hbad hiL
    unfold Bad at hb
    rw [if_neg (by omega), if_pos hi] at hb
    exact in1 hf hiL hb (fun _ => decide_eq_false (by omega)) (fun e => by cases e)
  | succ n ih =>
    intro i hi hik hiL hn
    refine aw_loop_step ?_
    show Wp T.tab (.seq (.block 1 inner13) (tl round13)) _ _ _
    refine aw_seq (aw_block ?_)
    by_cases e : i = k
    · subst e
      have hb := hbad hiL
      unfold Bad at hb
      rw [if_neg (by omega), if_pos hi] at hb
      exact in1 hf hiL hb (fun _ => decide_eq_false (by omega)) (fun e => by cases e)
    · have hfi : f i = mP := by rw [hgood i (by omega), base, if_neg (by omega), if_pos hi]
      refine in1 hf hiL (q := true) (by rw [hfi]; rfl) (fun e => by cases e) (fun _ fr hd0 h8 h9 h1 h11 => ?_)
      refine in2 hL hiL hd0 h8 h9 h1 h11 (fun e2 => decide_eq_true (by omega)) (fun e2 => ?_)
      by_cases e3 : i + 1 = k
      · have hb := hbad (by omega)
        unfold Bad at hb
        rw [if_neg (by omega), if_neg (by omega)] at hb
        rw [decide_eq_false (by omega)]
        rcases hb with hb | hb
        · exact in3bad hf hL (by omega) (e3 ▸ hb) runF rfl
        · exact in3bad hf hL (by omega) (e3 ▸ hb) runV rfl
      · have hfi1 : f (i + 1) = mA := by rw [hgood (i + 1) (by omega), base, if_neg (by omega), if_neg (by omega)]
        exact in3 hf hL (by omega) hfi1 (ih (i + 2) (by omega) (by omega) (by omega) (by omega))

include hf in
/-- moves.Play of a row that is a play up to move k. -/
theorem play_even {k : Nat} (h2 : 2 ≤ L) (hL : L ≤ 20000) (hev : L % 2 = 0) (hk : k ≤ L) (hgood : ∀ j, j < k → f j = base j) (hbad : k < L → Bad f k) :
    Wp T.tab body13 (enter [.ptr 0 0 0, .slice 6 0 L 5 v c]) (mkS (oP ++ [rowObj f L v ex])) (QP (decide (k = L)) 0) := by
  refine play1 hf (play2 hL fun x18 x19 x21 x22 x23 => ?_)
  have hs : (mkS (oU ++ [rowObj f L v ex])).get 6 = some (rowObj f L v ex) := by rw [mkS_get]; rfl
  by_cases e : k = 0
  · subst e
    have hb := hbad (by omega)
    unfold Bad at hb
    rw [if_pos rfl] at hb
    exact play3 hf hs hev h2 hb (fun _ => decide_eq_false (by omega)) (fun e => by cases e)
  · have h0 : f 0 = mB := by rw [hgood 0 (by omega), base, if_pos rfl]
    refine play3 hf hs hev h2 (q := true) (by rw [h0]; rfl) (fun e => by cases e) (fun _ fr hd0 h6 h1 => ?_)
    exact play4 hf hd0 h6 h1 (rounds hf hL hev hk hgood hbad (k - 1) 1 rfl (by omega) (by omega) (by omega))
include hf in
theorem play_one (h2 : 2 ≤ L) (hL : L ≤ 20000) (ho : L % 2 = 1) : Wp T.tab body13 (enter [.ptr 0 0 0, .slice 6 0 L 5 v c]) (mkS (oP ++ [rowObj f L v ex])) (QP false 0) :=
  play1 hf (play2 hL fun _ _ _ _ _ => play_odd ho)
include hf in
theorem play_great (hL : 20000 < L) : Wp T.tab body13 (enter [.ptr 0 0 0, .slice 6 0 L 5 v c]) (mkS (oP ++ [rowObj f L v ex])) (QP false 5) :=
  play1 hf (play_long hL)
end
end Go.Proofs.YteoeidhcmcacbaaGreatDoor.movesLong
