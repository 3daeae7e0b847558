/-
  The laws about plays of a piece that asks p for ever: moves.Play upon it, for rows of any length.
-/
import Derived.Test.YteoeidhcmcacbaaGreatDoorLongRuns
set_option linter.unusedVariables false
set_option linter.unusedSimpArgs false
set_option maxRecDepth 100000
set_option maxHeartbeats 1000000
namespace Go.Proofs.YteoeidhcmcacbaaGreatDoor.movesLong
open Go Go.Avm

/-! ### rows of moves -/
def cellsOf (f : Nat → List AVal) : Nat → List AVal
  | 0 => []
  | n + 1 => cellsOf f n ++ f n
theorem cellsOf_length {f : Nat → List AVal} (hf : ∀ j, (f j).length = 5) : ∀ n, (cellsOf f n).length = n * 5
  | 0 => rfl
  | n + 1 => by rw [cellsOf, List.length_append, cellsOf_length hf n, hf]; omega
theorem cellsOf_at {f : Nat → List AVal} (hf : ∀ j, (f j).length = 5) : ∀ {n i : Nat}, i < n → ((cellsOf f n).drop (i * 5)).take 5 = f i
  | n + 1, i, h => by
    have hl := cellsOf_length hf n
    by_cases e : i = n
    · subst e
      rw [cellsOf, List.drop_append, hl, Nat.sub_self, List.drop_of_length_le (by omega)]
      simp [← hf i]
    · have hi : i < n := by omega
      rw [cellsOf, List.drop_append_of_le_length (by omega), List.take_append_of_le_length (by simp; omega)]
      exact cellsOf_at hf hi
theorem cellsOf_plain {f : Nat → List AVal} (hf : ∀ j, ((f j).all AVal.plain) = true) : ∀ n, ((cellsOf f n).all AVal.plain) = true
  | 0 => rfl
  | n + 1 => by rw [cellsOf, List.all_append, cellsOf_plain hf n, hf]; rfl
def rowObj (f : Nat → List AVal) (L v : Nat) (ex : List Nat) : AObj := .row (cellsOf f L) v (L * 5 :: ex) false
/-- A row of moves, as functions have it. -/
structure Moves (f : Nat → List AVal) : Prop where
  len : ∀ j, (f j).length = 5
  plain : ∀ j, ((f j).all AVal.plain) = true
theorem Moves.or {f : Nat → List AVal} (h : Moves f) (L v : Nat) (ex : List Nat) (τ : Nat → Nat) : Or τ (rowObj f L v ex) (rowObj f L v ex) := Or.plain (cellsOf_plain h.plain L) _ _ _
theorem row_read {f : Nat → List AVal} (hf : Moves f) {s : AS} {g L v : Nat} {ex : List Nat} (hg : s.get g = some (rowObj f L v ex)) {i : Nat} (hi : i < L) : cellsAt s g (Nat.add 0 (Nat.mul i 5)) v 5 = some (f i) := by
  unfold cellsAt
  rw [hg]
  show (bif Nat.ble v v then match nth (L * 5 :: ex) (Nat.sub v v) with
    | some e => bif Nat.ble (Nat.add (Nat.add 0 (Nat.mul i 5)) 5) e then some (ltake (ldrop (cellsOf f L) (Nat.add 0 (Nat.mul i 5))) 5) else none
    | none => none else none) = _
  rw [ble_iff.2 (Nat.le_refl v), show Nat.sub v v = 0 from Nat.sub_self v]
  show (bif Nat.ble (Nat.add (Nat.add 0 (Nat.mul i 5)) 5) (L * 5) then some (ltake (ldrop (cellsOf f L) (Nat.add 0 (Nat.mul i 5))) 5) else none) = _
  rw [ble_iff.2 (by show 0 + i * 5 + 5 ≤ L * 5; omega), cond_true, ltake_eq, ldrop_eq, show Nat.add 0 (Nat.mul i 5) = i * 5 from Nat.zero_add _, cellsOf_at hf.len hi]
theorem row_load {f : Nat → List AVal} (hf : Moves f) {fr : Fr} {s : AS} {g L v : Nat} {ex : List Nat} (hg : s.get g = some (rowObj f L v ex)) {i : Nat} (hi : i < L) {t : Nat} (ht : fr.get t = .ptr g (Nat.add 0 (Nat.mul i 5)) v) :
    loud fr s (.load true 5 (.t t)) = some (.agg (f i), s) := by
  show (match (match fr.get t with
    | .ptr g x v => match cellsAt s g x v 5 with
      | some cs => bif true then some (AVal.agg cs) else single cs
      | none => none
    | _ => none) with | some v => some (v, s) | none => none) = _
  rw [ht]
  simp only
  rw [row_read hf hg hi]
  rfl
theorem row_addr {fr : Fr} {s : AS} {g L v : Nat} {c : Option Nat} {i : Nat} (hi : i < L) {x y : Opd} (hx : fr.ev x = .slice g 0 L 5 v c) (hy : fr.ev y = .int .i64 (.ofNat i)) :
    loud fr s (.ixa 5 x y) = some (.ptr g (Nat.add 0 (Nat.mul i 5)) v, s) := by
  show (match (match fr.ev x, fr.ev y with
    | .slice g off len sz' v _, .int _ i => bif Nat.beq 5 sz' then match idx i len with
        | some n => some (AVal.ptr g (Nat.add off (Nat.mul n 5)) v)
        | none => none
      else none
    | _, _ => none) with | some v => some (v, s) | none => none) = _
  rw [hx, hy]
  simp only [show Nat.beq 5 5 = true from rfl, cond_true, idx]
  rw [blt_iff.2 hi]
  rfl

theorem ok1 : (aft 1 body13).ok = true := by decide +kernel
theorem ok2 : (aft 2 body13).ok = true := by decide +kernel
theorem ok6 : (aft 6 body13).ok = true := by decide +kernel
theorem okR : round13.ok = true := by decide +kernel
theorem okI5 : (aft 5 inner13).ok = true := by decide +kernel
theorem okU : ((ops (hd (aft 1 body13))).all AOper.ok) = true := by decide +kernel
theorem okW : ((ops (hd (aft 5 body13))).all AOper.ok) = true := by decide +kernel
theorem okA : ((ask13.drop 6).all AOper.ok) = true := by decide +kernel
theorem kept1 : (dsts (ops (hd (aft 1 body13)))).contains 1 = false := by decide +kernel
theorem kept4 : (dsts (ops (hd (aft 1 body13)))).contains 4 = false := by decide +kernel
theorem kept5 : (dsts (ops (hd (aft 1 body13)))).contains 5 = false := by decide +kernel
theorem clP : (oP.all (AObj.under oP.length)) = true := by decide +kernel
theorem clU : (oU.all (AObj.under oU.length)) = true := by decide +kernel
theorem clW : (oW.all (AObj.under oW.length)) = true := by decide +kernel

section
variable {f : Nat → List AVal} (hf : Moves f) {L v : Nat} {ex : List Nat}
/-- What moves.Play returns. -/
def QP (b : Bool) (d : Int) : Ex → Fr → AS → Prop := Rets [(4, .bool b), (5, .int .i64 d)]
theorem liftQP (b : Bool) (d : Int) : LiftQ (QP b d) := LiftQ.rets rfl

include hf in
/-- Up to the unfolded term. -/
theorem play1 {b : Bool} {d : Int} {c : Option Nat}
    (h : Wp T.tab (aft 2 body13) (mkF [(6, .ptr 0 0 0), (7, .int .i64 0), (1, .slice 6 0 L 5 v c), (4, .bool false), (5, .int .i64 0)]) (mkS (oU ++ [rowObj f L v ex])) (QP b d)) :
    Wp T.tab body13 (enter [.ptr 0 0 0, .slice 6 0 L 5 v c]) (mkS (oP ++ [rowObj f L v ex])) (QP b d) := by
  show Wp T.tab (.seq (.reg (ops (hd body13))) (.seq (.reg (ops (hd (aft 1 body13)))) (aft 2 body13))) _ _ _
  refine aw_seq (aw_reg (ow_loud rfl rfl rfl (ow_loud rfl rfl rfl (ow_nil ?_))))
  refine aw_seq (aw_reg ?_)
  exact cut_row T.tabR (LiftQ.andThen T.tabR ok2 (liftQP b d)) okU runU clP clU (by decide +kernel) (by decide +kernel) (hf.or L v ex) ⟨Vr.refl _, trivial⟩ rfl
    (K := [(1, .slice 6 0 L 5 v c, .slice 6 0 L 5 v c), (4, .bool false, .bool false), (5, .int .i64 0, .int .i64 0)])
    ⟨⟨rfl, kept1, fun ρ h _ => by
      have h6 : ρ 6 = 6 := h
      have := Vr.slice (σ := ρ) 6 0 L 5 v c
      rwa [h6] at this⟩, ⟨rfl, kept4, fun _ _ _ => .bool _⟩, ⟨rfl, kept5, fun _ _ _ => .int _ _⟩, trivial⟩ h
theorem big_false (h : L ≤ 20000) : bltI 20000 (.ofNat L) = false := by rw [bltI_eq, decide_eq_false_iff_not]; simp only [Int.ofNat_eq_natCast]; omega
theorem big_true (h : 20000 < L) : bltI 20000 (.ofNat L) = true := by rw [bltI_eq, decide_eq_true_iff]; simp only [Int.ofNat_eq_natCast]; omega
/-- The length is looked at: a row that is too long. -/
theorem play_long {c : Option Nat} {s : AS} (h : 20000 < L) : Wp T.tab (aft 2 body13) (mkF [(6, .ptr 0 0 0), (7, .int .i64 0), (1, .slice 6 0 L 5 v c), (4, .bool false), (5, .int .i64 0)]) s (QP false 5) := by
  show Wp T.tab (.seq (.seq (.reg (ops (hd (hd (aft 2 body13))))) (tl (hd (aft 2 body13)))) (.seq (.seq (.reg (ops (hd (hd (aft 3 body13))))) (tl (hd (aft 3 body13)))) (aft 4 body13))) _ _ _
  refine aw_seq (aw_seq (aw_reg (ow_loud rfl rfl rfl (ow_loud rfl rfl rfl (ow_nil ?_)))))
  refine aw_false rfl (aw_skip ?_)
  refine aw_seq (aw_seq (aw_reg (ow_loud rfl rfl rfl (ow_loud rfl rfl rfl (ow_loud (v := .bool true) (s' := s) (by show some (AVal.bool (bltI 20000 (.ofNat L)), s) = _; rw [big_true h]) rfl rfl (ow_nil ?_))))))
  refine aw_true rfl (aw_seq (aw_reg (ow_loud rfl rfl rfl (ow_loud rfl rfl rfl (ow_nil ?_)))))
  exact aw_ret (s := s) (rets2 (s := s) rfl rfl rfl)
theorem play2 {c : Option Nat} {s : AS} {b : Bool} {d : Int} (h : L ≤ 20000)
    (k : ∀ x18 x19 x21 x22 x23, Wp T.tab (aft 4 body13) ((((((mkF [(6, .ptr 0 0 0), (7, .int .i64 0), (1, .slice 6 0 L 5 v c), (4, .bool false), (5, .int .i64 0)]).put (some 18) x18).put (some 19) x19).put (some 21) x21).put (some 22) x22).put (some 23) x23) s (QP b d)) :
    Wp T.tab (aft 2 body13) (mkF [(6, .ptr 0 0 0), (7, .int .i64 0), (1, .slice 6 0 L 5 v c), (4, .bool false), (5, .int .i64 0)]) s (QP b d) := by
  show Wp T.tab (.seq (.seq (.reg (ops (hd (hd (aft 2 body13))))) (tl (hd (aft 2 body13)))) (.seq (.seq (.reg (ops (hd (hd (aft 3 body13))))) (tl (hd (aft 3 body13)))) (aft 4 body13))) _ _ _
  refine aw_seq (aw_seq (aw_reg (ow_loud rfl rfl rfl (ow_loud rfl rfl rfl (ow_nil ?_)))))
  refine aw_false rfl (aw_skip ?_)
  refine aw_seq (aw_seq (aw_reg (ow_loud rfl rfl rfl (ow_loud rfl rfl rfl (ow_loud (v := .bool false) (s' := s) (by show some (AVal.bool (bltI 20000 (.ofNat L)), s) = _; rw [big_false h]) rfl rfl (ow_nil ?_))))))
  refine aw_false rfl (aw_skip ?_)
  exact k _ _ _ _ _

/-! ### the first move -/
def ks : List PK := [.s, .i, .b, .i, .b]
theorem flat_ne {fr : Fr} {s : AS} {x y : Opd} {a c : List AVal} {b : Bool} (hx : fr.ev x = .agg a) (hy : fr.ev y = .agg c) (h : beqFlat ks a c = some b) : loud fr s (.bin .neq (.flat ks) x y) = some (.bool (!b), s) := by
  show (match (match isEq (.flat ks) (fr.ev x) (fr.ev y) with | some b => some (AVal.bool (!b)) | none => none) with | some v => some (v, s) | none => none) = _
  rw [hx, hy]
  show (match (match beqFlat ks a c with | some b => some (AVal.bool (!b)) | none => none) with | some v => some (v, s) | none => none) = _
  rw [h]
theorem keptPtr {ρ : Nat → Nat} {k g x v : Nat} (h : ρ k = g) : Vr ρ (.ptr k x v) (.ptr g x v) := h ▸ .ptr k x v
theorem keptSl {ρ : Nat → Nat} {k g o l z v : Nat} {c : Option Nat} (h : ρ k = g) : Vr ρ (.slice k o l z v c) (.slice g o l z v c) := h ▸ .slice k o l z v c
theorem eq0 {n : Nat} (h : n ≠ 0) : beqI (.ofNat n) 0 = false := by rw [beqI_eq, decide_eq_false_iff_not]; simp only [Int.ofNat_eq_natCast]; omega
theorem eqI {n m : Nat} : beqI (.ofNat n) (.ofNat m) = decide (n = m) := by rw [beqI_eq, decide_eq_decide]; simp only [Int.ofNat_eq_natCast]; omega
theorem wrap_nat {m : Nat} (h : m < 9223372036854775808) : wrapF .i64 (.ofNat m) = .ofNat m := by
  show (bif Nat.blt m 9223372036854775808 then Int.ofNat m else _) = _
  rw [blt_iff.2 h]; rfl
theorem add_nat {fr : Fr} {s : AS} {x : Opd} {n : Nat} {q : Int} {k : Nat} (hx : fr.ev x = .int .i64 (.ofNat n)) (hq : q = .ofNat k) (h : n + k < 9223372036854775808) : loud fr s (.bin .add .prim x (.c (.int .i64 q))) = some (.int .i64 (.ofNat (n + k)), s) := by
  subst hq
  show (match (match fr.ev x, AVal.int .i64 (.ofNat k) with
    | .int k a, .int k' b => bif beqK k k' then some (AVal.int k (wrapF k (a + b))) else none
    | .str a, .str b => bif Nat.ble (Nat.add (llen a) (llen b)) 1099511627776 then some (.str (lapp a b)) else none
    | _, _ => none) with | some v => some (v, s) | none => none) = _
  rw [hx]
  show some (AVal.int .i64 (wrapF .i64 (.ofNat (n + k))), s) = _
  rw [wrap_nat h]

/-- The frame behind the length's test. -/
noncomputable def fr4 (L v : Nat) (c : Option Nat) (x18 x19 x21 x22 x23 : AVal) : Fr := (((((mkF [(6, .ptr 0 0 0), (7, .int .i64 0), (1, .slice 6 0 L 5 v c), (4, .bool false), (5, .int .i64 0)]).put (some 18) x18).put (some 19) x19).put (some 21) x21).put (some 22) x22).put (some 23) x23
variable {c : Option Nat} {x18 x19 x21 x22 x23 : AVal}
/-- An odd row. -/
theorem play_odd {s : AS} (h : L % 2 = 1) : Wp T.tab (aft 4 body13) (fr4 L v c x18 x19 x21 x22 x23) s (QP false 0) := by
  show Wp T.tab (.seq (.seq (.reg (ops (hd (hd (aft 4 body13))))) (tl (hd (aft 4 body13)))) (aft 5 body13)) _ _ _
  refine aw_seq (aw_seq (aw_reg (ow_loud rfl rfl rfl (ow_loud rfl rfl rfl ?_))))
  refine ow_loud (v := .bool false) (s' := s) (by show some (AVal.bool (beqI (.ofNat L) 0), s) = _; rw [eq0 (by omega)]) rfl rfl ?_
  refine ow_loud rfl rfl rfl (ow_loud rfl rfl rfl (ow_loud rfl rfl rfl ?_))
  refine ow_loud (v := .int .i64 (.ofNat (L % 2))) (s' := s) rfl rfl rfl ?_
  refine ow_loud (v := .bool true) (s' := s) (by show some (AVal.bool (beqI (.ofNat (L % 2)) (.ofNat 1)), s) = _; rw [h]; rfl) rfl rfl ?_
  refine ow_loud rfl rfl rfl (ow_loud rfl rfl rfl ?_)
  refine ow_skip rfl (ow_skip rfl (ow_skip rfl (ow_skip rfl (ow_skip rfl (ow_loud rfl rfl rfl (ow_nil ?_))))))
  refine aw_true rfl (aw_seq (aw_reg (ow_loud rfl rfl rfl (ow_loud rfl rfl rfl (ow_nil ?_)))))
  exact aw_ret (s := s) (rets2 (s := s) rfl rfl rfl)
include hf in
/-- An even row: its first move is looked at. -/
theorem play3 {s : AS} (hs : s.get 6 = some (rowObj f L v ex)) {q : Bool} (h : L % 2 = 0) (h2 : 2 ≤ L) (hq : beqFlat ks (f 0) mB = some q) {b : Bool} (h1 : q = false → b = false)
    (k : q = true → ∀ fr : Fr, fr.df = [] → fr.get 6 = .ptr 0 0 0 → fr.get 1 = .slice 6 0 L 5 v c → Wp T.tab (aft 5 body13) fr s (QP b 0)) : Wp T.tab (aft 4 body13) (fr4 L v c x18 x19 x21 x22 x23) s (QP b 0) := by
  show Wp T.tab (.seq (.seq (.reg (ops (hd (hd (aft 4 body13))))) (tl (hd (aft 4 body13)))) (aft 5 body13)) _ _ _
  refine aw_seq (aw_seq (aw_reg (ow_loud rfl rfl rfl (ow_loud rfl rfl rfl ?_))))
  refine ow_loud (v := .bool false) (s' := s) (by show some (AVal.bool (beqI (.ofNat L) 0), s) = _; rw [eq0 (by omega)]) rfl rfl ?_
  refine ow_loud rfl rfl rfl (ow_loud rfl rfl rfl (ow_loud rfl rfl rfl ?_))
  refine ow_loud (v := .int .i64 (.ofNat (L % 2))) (s' := s) rfl rfl rfl ?_
  refine ow_loud (v := .bool false) (s' := s) (by show some (AVal.bool (beqI (.ofNat (L % 2)) (.ofNat 1)), s) = _; rw [h]; rfl) rfl rfl ?_
  refine ow_loud rfl rfl rfl (ow_loud rfl rfl rfl (ow_loud rfl rfl rfl ?_))
  refine ow_loud (row_addr (i := 0) (by omega) rfl rfl) rfl rfl ?_
  refine ow_loud (row_load hf hs (i := 0) (by omega) rfl) rfl rfl ?_
  refine ow_loud (v := .agg mB) (s' := s) rfl rfl rfl ?_
  refine ow_loud (flat_ne rfl rfl hq) rfl rfl ?_
  refine ow_loud rfl rfl rfl (ow_nil ?_)
  cases q with
  | true => exact aw_false rfl (aw_skip (k rfl _ rfl rfl rfl))
  | false =>
    rw [h1 rfl]
    refine aw_true rfl (aw_seq (aw_reg (ow_loud rfl rfl rfl (ow_loud rfl rfl rfl (ow_nil ?_)))))
    exact aw_ret (s := s) (rets2 (s := s) rfl rfl rfl)

/-! ### the rounds -/
noncomputable def Fl (L v : Nat) (c : Option Nat) (i : Nat) : Fr := mkF [(8, .ptr 0 0 0), (9, .ptr 1 0 0), (10, .int .i64 0), (1, .slice 9 0 L 5 v c), (11, .int .i64 (.ofNat i))]
theorem okLoop : (AC.loop round13).ok = true := okR
theorem keptW1 : (dsts (ops (hd (aft 5 body13)))).contains 1 = false := by decide +kernel
include hf in
/-- The piece begins. -/
theorem play4 {b : Bool} {d : Int} {fr : Fr} (hd : fr.df = []) (h6 : fr.get 6 = .ptr 0 0 0) (h1 : fr.get 1 = .slice 6 0 L 5 v c)
    (k : Wp T.tab (.loop round13) (Fl L v c 1) (mkS (oW ++ [rowObj f L v ex])) (Out.of 0 (QP b d))) : Wp T.tab (aft 5 body13) fr (mkS (oU ++ [rowObj f L v ex])) (QP b d) := by
  show Wp T.tab (.seq (.reg (ops (Go.Proofs.YteoeidhcmcacbaaGreatDoor.movesLong.hd (aft 5 body13)))) (aft 6 body13)) _ _ _
  refine aw_seq (aw_reg ?_)
  refine cut_row T.tabR (LiftQ.andThen T.tabR ok6 (liftQP b d)) okW runW clU clW (by decide +kernel) (by decide +kernel) (hf.or L v ex) ⟨by rw [h6]; exact Vr.refl _, trivial⟩ hd
    (K := [(1, .slice 6 0 L 5 v c, .slice 9 0 L 5 v c)]) ⟨⟨h1, keptW1, fun ρ h _ => keptSl h⟩, trivial⟩ ?_
  show Wp T.tab (.seq (.reg (ops (Go.Proofs.YteoeidhcmcacbaaGreatDoor.movesLong.hd (aft 6 body13)))) (.block 0 (.loop round13))) _ _ _
  refine aw_seq (aw_reg (ow_loud rfl rfl rfl (ow_nil (aw_block ?_))))
  refine aw_re T.tabR okLoop ((liftQP b d).out 0) (Gets.frr ?_ rfl) (Sr.refl _) k
  exact ⟨Vr.refl _, Vr.refl _, Vr.refl _, Vr.refl _, Vr.refl _, trivial⟩
end
end Go.Proofs.YteoeidhcmcacbaaGreatDoor.movesLong
