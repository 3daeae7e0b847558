/-
  The laws about plays of a piece that asks p for ever: the four kinds of rows, and the law.
-/
import Derived.Test.YteoeidhcmcacbaaGreatDoorLongLaw2
set_option linter.unusedVariables false
set_option linter.unusedSimpArgs false
set_option maxRecDepth 100000
set_option maxHeartbeats 1000000
namespace Go.Proofs.YteoeidhcmcacbaaGreatDoor.movesLong
open Go Go.Avm

theorem ok7_6 : (aft 6 body7).ok = true := by decide +kernel
theorem ok7_8 : (aft 8 body7).ok = true := by decide +kernel
section
variable {f : Nat → List AVal} (hf : Moves f) {L v : Nat} {ex : List Nat} {c : Option Nat}
include hf in
/-- What follows the row. -/
theorem tail7 {w : Bool} (h : L ≤ 20000 → Wp T.tab body13 (enter [.ptr 0 0 0, .slice 6 0 L 5 v c]) (mkS (oP ++ [rowObj f L v ex])) (QP w 0)) :
    Wp T.tab (aft 7 body7) (mkF [(7, .ptr 0 0 0), (9, .slice 6 0 L 5 v c), (11, .bool w)]) (mkS (oP ++ [rowObj f L v ex])) Q7 := by
  show Wp T.tab (.seq (.reg (ops (hd (aft 7 body7)))) (.seq (.seq (.reg (ops (hd (hd (aft 8 body7))))) (tl (hd (aft 8 body7)))) (aft 9 body7))) _ _ _
  refine aw_seq (aw_reg (ow_loud rfl rfl rfl (ow_nil ?_)))
  refine aw_seq (aw_seq (aw_reg (ow_loud rfl rfl rfl (ow_loud rfl rfl rfl ?_))))
  by_cases e : L ≤ 20000
  · refine ow_loud (v := .bool false) (s' := mkS (oP ++ [rowObj f L v ex])) (by show some (AVal.bool (bltI 20000 (.ofNat L)), _) = _; rw [big_false e]) rfl rfl (ow_nil ?_)
    refine aw_false rfl (aw_skip ?_)
    refine aw_re T.tabR ok7_9 liftQ7 (Gets.frr ?_ rfl) (Sr.refl _) (end7 (c := c) (b := w) (d := 0) (h e))
    exact ⟨Vr.refl _, Vr.refl _, Vr.refl _, Vr.refl _, trivial⟩
  · refine ow_loud (v := .bool true) (s' := mkS (oP ++ [rowObj f L v ex])) (by show some (AVal.bool (bltI 20000 (.ofNat L)), _) = _; rw [big_true (by omega)]) rfl rfl (ow_nil ?_)
    refine aw_true rfl (aw_reg (ow_loud rfl rfl rfl (ow_loud rfl rfl rfl (ow_nil ?_))))
    refine aw_re T.tabR ok7_9 liftQ7 (Gets.frr ?_ rfl) (Sr.refl _) (end7 (c := c) (b := false) (d := 5) (play_great hf (by omega)))
    exact ⟨Vr.refl _, Vr.refl _, Vr.refl _, Vr.refl _, trivial⟩
/-- A field of a move. -/
theorem row_field {f : Nat → List AVal} (hf : Moves f) {s : AS} {g L v : Nat} {ex : List Nat} (hg : s.get g = some (rowObj f L v ex)) {i j : Nat} (hi : i < L) {x : AVal} (hx : (f i)[j]? = some x) : cellsAt s g (Nat.add (Nat.add 0 (Nat.mul i 5)) j) v 1 = some [x] := by
  have hj : j < 5 := by have := (List.getElem?_eq_some_iff.1 hx).1; rwa [hf.len] at this
  unfold cellsAt
  rw [hg]
  show (bif Nat.ble v v then match nth (L * 5 :: ex) (Nat.sub v v) with
    | some e => bif Nat.ble (Nat.add (Nat.add (Nat.add 0 (Nat.mul i 5)) j) 1) e then some (ltake (ldrop (cellsOf f L) (Nat.add (Nat.add 0 (Nat.mul i 5)) j)) 1) else none
    | none => none else none) = _
  rw [ble_iff.2 (Nat.le_refl v), show Nat.sub v v = 0 from Nat.sub_self v]
  show (bif Nat.ble (Nat.add (Nat.add (Nat.add 0 (Nat.mul i 5)) j) 1) (L * 5) then some (ltake (ldrop (cellsOf f L) (Nat.add (Nat.add 0 (Nat.mul i 5)) j)) 1) else none) = _
  rw [ble_iff.2 (by show 0 + i * 5 + j + 1 ≤ L * 5; omega), cond_true, ltake_eq, ldrop_eq, show Nat.add (Nat.add 0 (Nat.mul i 5)) j = i * 5 + j by show 0 + i * 5 + j = _; omega]
  have h1 := cellsOf_at hf.len hi
  have h2 : (cellsOf f L)[i * 5 + j]? = some x := by
    rw [← hx, ← h1, List.getElem?_take_of_lt hj, List.getElem?_drop]
  have hlt := (List.getElem?_eq_some_iff.1 h2).1
  rw [List.drop_eq_getElem_cons hlt, (List.getElem?_eq_some_iff.1 h2).2]
  rfl
theorem row_load1 {f : Nat → List AVal} (hf : Moves f) {fr : Fr} {s : AS} {g L v : Nat} {ex : List Nat} (hg : s.get g = some (rowObj f L v ex)) {i j : Nat} (hi : i < L) {x : AVal} (hx : (f i)[j]? = some x) {t : Nat} (ht : fr.get t = .ptr g (Nat.add (Nat.add 0 (Nat.mul i 5)) j) v) :
    loud fr s (.load false 1 (.t t)) = some (x, s) := by
  show (match (match fr.get t with
    | .ptr g x v => match cellsAt s g x v 1 with
      | some cs => bif false then some (AVal.agg cs) else single cs
      | none => none
    | _ => none) with | some v => some (v, s) | none => none) = _
  rw [ht]
  simp only
  rw [row_field hf hg hi hx]
  rfl
end

section
variable {n a q : Nat}
/-- A move of the row that is a play, with a value. -/
def valued (k : Nat) : List AVal := if k = 0 then [.str [], .int .i64 0, .bool false, .int .i64 1, .bool false] else if k % 2 = 1 then [.str [112], .int .i64 0, .bool false, .int .i64 1, .bool false] else mV
def nameOf (k : Nat) : AVal := if k = 0 then .str [] else .str [112]
def ansOf (k : Nat) : AVal := if k = 0 then .bool false else if k % 2 = 1 then .bool false else .bool true
theorem base_name (k : Nat) : (base k)[0]? = some (nameOf k) := by unfold base nameOf; split; rfl; split <;> rfl
theorem base_ans (k : Nat) : (base k)[2]? = some (ansOf k) := by unfold base ansOf; split; rfl; split <;> rfl
theorem valued_eq (k : Nat) : [nameOf k, .int .i64 0, ansOf k, .int .i64 1, .bool false] = valued k := by unfold valued nameOf ansOf; split; rfl; split <;> rfl
theorem name_plain (k : Nat) : (nameOf k).plain = true := by unfold nameOf; split <;> rfl
theorem ans_plain (k : Nat) : (ansOf k).plain = true := by unfold ansOf; split; rfl; split <;> rfl
theorem bad_fault (k : Nat) : Bad (upd base k mF) k := by
  unfold Bad
  by_cases h0 : k = 0
  · subst h0; rw [if_pos rfl]; rfl
  · rw [if_neg h0, show upd base k mF k = mF by unfold upd; rw [if_pos rfl]]
    split
    · rfl
    · exact .inl rfl
theorem bad_value (k : Nat) : Bad (upd base k (valued k)) k := by
  unfold Bad
  by_cases h0 : k = 0
  · subst h0; rw [if_pos rfl]; rfl
  · rw [if_neg h0, show upd base k (valued k) k = valued k by unfold upd; rw [if_pos rfl]]
    unfold valued
    rw [if_neg h0]
    split
    · rfl
    · exact .inr rfl
/-- The code that makes the kinds. -/
def sw7 : AC := match tl (hd (aft 6 body7)) with | .block _ c => c | c => c
/-- A row whose move k is another one. -/
theorem changed {L v : Nat} {ex : List Nat} {c : Option Nat} {k : Nat} {x : List AVal} (hk : k < L) (hev : L % 2 = 0) (h2 : 2 ≤ L) (h1 : x.length = 5) (hp : (x.all AVal.plain) = true) (hb : Bad (upd base k x) k) {fr : Fr} (hd0 : fr.df = []) (h7 : fr.get 7 = .ptr 0 0 0) (h9 : fr.get 9 = .slice 6 0 L 5 v c) (h11 : fr.get 11 = .bool false) :
    Wp T.tab (aft 7 body7) fr ((mkS (oP ++ [rowObj base L v ex])).set 6 (rowObj (upd base k x) L v [])) Q7 := by
  have hm := base_moves.upd (k := k) h1 hp
  have hlt : 6 < (mkS (oP ++ [rowObj base L v ex])).nx := by rw [show (mkS (oP ++ [rowObj base L v ex])).nx = (oP ++ [rowObj base L v ex]).length from llen_eq (oP ++ [rowObj base L v ex])]; show 6 < 7; omega
  obtain ⟨τ, t1, t2, t3⟩ := sr_same (P := oP) (s := (mkS (oP ++ [rowObj base L v ex])).set 6 (rowObj (upd base k x) L v [])) (fun j o e => by
    have hj : j < 6 := (List.getElem?_eq_some_iff.1 e).1
    rw [AS.get_set_ne _ _ (by omega), mkS_get, List.getElem?_append_left hj]; exact e) clP (g := 6) (Nat.le_refl 6) (AS.get_set_same _ _ hlt) (hm.or _ _ _)
  have hp0 : τ 0 = 0 := t2 0 (by decide)
  have hr : τ 6 = 6 := t3
  refine aw_re T.tabR ok7_7 liftQ7 (fr := mkF [(7, .ptr 0 0 0), (9, .slice 6 0 L 5 v c), (11, .bool false)]) (Gets.frr ⟨?_, ?_, ?_, trivial⟩ hd0) t1 (tail7 hm (w := false) (c := c) fun hL => ?_)
  · rw [h7]; exact keptPtr hp0
  · rw [h9]; exact keptSl hr
  · rw [h11]; exact kept_plain rfl
  · have := play_even hm (v := v) (ex := []) (c := c) h2 hL hev (Nat.le_of_lt hk) (fun j hj => by unfold upd; rw [if_neg (by omega)]) (fun _ => hb)
    rwa [show decide (k = L) = false from decide_eq_false (by omega)] at this
theorem kinds (hn : n < 65536) (ha : a < 65536) {N : Nat} (hN : N < 10001) (v : Nat) (ex : List Nat) (c : Option Nat) (hc : c = none ∨ c = some (2 + 2 * N)) :
    Wp T.tab (aft 5 body7) (F7 n a q (2 + 2 * N) v c N) (mkS (oP ++ [rowObj base (2 + 2 * N) v ex])) Q7 := by
  show Wp T.tab (.seq (.reg (ops (hd (aft 5 body7)))) (.seq (.seq (.reg (ops (hd (hd (aft 6 body7))))) (.block 2 (.seq (.reg (ops (hd sw7))) (.cond (.t 39) (.seq (.reg (ops (match tl sw7 with | .cond _ x _ => hd x | c => c))) (.reg (ops (match tl sw7 with | .cond _ x _ => tl x | c => c)))) (match tl sw7 with | .cond _ _ x => x | c => c))))) (aft 7 body7))) _ _ _
  have hs6 : (mkS (oP ++ [rowObj base (2 + 2 * N) v ex])).get 6 = some (rowObj base (2 + 2 * N) v ex) := by rw [mkS_get]; rfl
  refine aw_seq (aw_reg (ow_loud rfl rfl rfl (ow_nil ?_)))
  refine aw_seq (aw_seq (aw_reg (ow_loud rfl rfl rfl (ow_loud (v := .int .u8 (.ofNat (q % 4))) rfl rfl rfl (ow_nil (aw_block ?_))))))
  have hq : q % 4 = 0 ∨ q % 4 = 1 ∨ q % 4 = 2 ∨ q % 4 = 3 := by omega
  have hstep : ∀ (s : AS) (m : Nat) (b : Bool), b = decide (q % 4 = m) → some (AVal.bool (beqI (.ofNat (q % 4)) (.ofNat m)), s) = some (.bool b, s) := fun s m b hb => by rw [eqI, hb]
  rcases hq with hq | hq | hq | hq
  · -- the row as it is
    refine aw_seq (aw_reg (ow_loud (v := .bool false) (hstep _ 1 false (decide_eq_false (by omega)).symm) rfl rfl (ow_loud rfl rfl rfl (ow_nil (aw_false rfl ?_)))))
    refine aw_seq (aw_reg (ow_loud (v := .bool false) (hstep _ 2 false (decide_eq_false (by omega)).symm) rfl rfl (ow_loud rfl rfl rfl (ow_nil (aw_false rfl ?_)))))
    refine aw_seq (aw_reg (ow_loud (v := .bool false) (hstep _ 3 false (decide_eq_false (by omega)).symm) rfl rfl (ow_loud rfl rfl rfl (ow_nil (aw_false rfl (aw_skip ?_))))))
    refine aw_re T.tabR ok7_7 liftQ7 (fr := mkF [(7, .ptr 0 0 0), (9, .slice 6 0 (2 + 2 * N) 5 v c), (11, .bool true)]) (Gets.frr ⟨Vr.refl _, Vr.refl _, Vr.refl _, trivial⟩ rfl) (Sr.refl _) (tail7 base_moves (w := true) (c := c) fun hL => ?_)
    have := play_even base_moves (v := v) (ex := ex) (c := c) (k := 2 + 2 * N) (by omega) hL (by omega) (Nat.le_refl _) (fun _ _ => rfl) (fun h => by omega)
    rwa [show decide (2 + 2 * N = 2 + 2 * N) = true from decide_eq_true rfl] at this
  · -- a move that is the fault
    have hk : a % (2 + 2 * N) < 2 + 2 * N := Nat.mod_lt _ (by omega)
    refine aw_seq (aw_reg (ow_loud (v := .bool true) (hstep _ 1 true (decide_eq_true hq).symm) rfl rfl (ow_loud rfl rfl rfl (ow_nil (aw_true rfl ?_)))))
    refine aw_seq (aw_reg (ow_loud rfl rfl rfl (ow_loud rfl rfl rfl ?_)))
    refine ow_loud (v := .int .i64 (.ofNat a)) (s' := mkS (oP ++ [rowObj base (2 + 2 * N) v ex])) (by show some (AVal.int .i64 (wrapF .i64 (.ofNat a)), _) = _; rw [wrap_nat (by omega)]) rfl rfl ?_
    refine ow_loud rfl rfl rfl (ow_loud rfl rfl rfl ?_)
    refine ow_loud (v := .int .i64 (.ofNat (a % (2 + 2 * N)))) (s' := mkS (oP ++ [rowObj base (2 + 2 * N) v ex])) (by
      show (match (bif true && !beqI (.ofNat (2 + 2 * N)) 0 then some (AVal.int .i64 (.ofNat (a % (2 + 2 * N)))) else none) with | some x => some (x, _) | none => none) = _
      rw [eq0 (by omega)]; rfl) rfl rfl ?_
    refine ow_loud (v := .agg mF) rfl rfl rfl ?_
    refine ow_loud (row_addr hk rfl rfl) rfl rfl ?_
    refine ow_loud (row_store base_moves hs6 hk (x := mF) rfl rfl rfl rfl) rfl rfl (ow_nil ?_)
    refine aw_reg (ow_loud rfl rfl rfl (ow_nil ?_))
    exact changed hk (by omega) (by omega) rfl rfl (bad_fault _) rfl rfl rfl rfl
  · -- one move more
    refine aw_seq (aw_reg (ow_loud (v := .bool false) (hstep _ 1 false (decide_eq_false (by omega)).symm) rfl rfl (ow_loud rfl rfl rfl (ow_nil (aw_false rfl ?_)))))
    refine aw_seq (aw_reg (ow_loud (v := .bool true) (hstep _ 2 true (decide_eq_true hq).symm) rfl rfl (ow_loud rfl rfl rfl (ow_nil (aw_true rfl ?_)))))
    refine aw_seq (aw_reg (ow_loud rfl rfl rfl (ow_loud (v := .agg mA) rfl rfl rfl ?_)))
    have hnx : (mkS (oP ++ [rowObj base (2 + 2 * N) v ex])).nx = 7 := by rw [show (mkS (oP ++ [rowObj base (2 + 2 * N) v ex])).nx = (oP ++ [rowObj base (2 + 2 * N) v ex]).length from llen_eq (oP ++ [rowObj base (2 + 2 * N) v ex])]; rfl
    refine ow_loud (v := .slice 7 0 1 5 0 (some 1)) (s' := (mkS (oP ++ [rowObj base (2 + 2 * N) v ex])).new (oneRow mA)) (by
      show some (AVal.slice (mkS (oP ++ [rowObj base (2 + 2 * N) v ex])).nx 0 1 5 0 (some 1), (mkS (oP ++ [rowObj base (2 + 2 * N) v ex])).new (oneRow mA)) = _
      rw [hnx]) rfl rfl ?_
    have h6 : ((mkS (oP ++ [rowObj base (2 + 2 * N) v ex])).new (oneRow mA)).get 6 = some (rowObj base (2 + 2 * N) v ex) := by rw [AS.get_new, hnx, if_neg (by omega), mkS_get]; rfl
    have h7 : cellsAt ((mkS (oP ++ [rowObj base (2 + 2 * N) v ex])).new (oneRow mA)) 7 0 0 (Nat.mul 1 5) = some mA := by
      unfold cellsAt
      rw [AS.get_new, hnx, if_pos rfl]
      rfl
    obtain ⟨s', g1, v1, ex1, e1, e2, e3, e4⟩ := row_app base_moves h6 hc (x := .t 51) (y := .t 53)
      (fr := ((((((((((F7 n a q (2 + 2 * N) v c N).put (some 11) (.bool true)).put (some 37) (.int .u8 (.ofNat q))).put (some 38) (.int .u8 (.ofNat (q % 4)))).put (some 40) (.bool false)).put (some 39) (.bool false)).put (some 50) (.bool true)).put (some 49) (.bool true)).put (some 51) (.slice 6 0 (2 + 2 * N) 5 v c)).put (some 52) (.agg mA)).put (some 53) (.slice 7 0 1 5 0 (some 1)))
      rfl rfl h7 rfl (by omega) (by omega) (base_one (by omega) (by omega))
    refine ow_loud e1 rfl rfl (ow_loud rfl rfl rfl (ow_nil ?_))
    refine aw_reg (ow_loud rfl rfl rfl (ow_nil ?_))
    obtain ⟨τ, t1, t2, t3⟩ := sr_same (P := oP) (s := s') (fun k o e => by
      have hk : k < 6 := (List.getElem?_eq_some_iff.1 e).1
      refine e3 k o hk ?_
      rw [AS.get_new, hnx, if_neg (by omega), mkS_get, List.getElem?_append_left hk]; exact e) clP (g := g1) e4 e2 (base_moves.or _ _ _)
    have hp : τ 0 = 0 := t2 0 (by decide)
    have hr : τ 6 = g1 := t3
    refine aw_re T.tabR ok7_7 liftQ7 (fr := mkF [(7, .ptr 0 0 0), (9, .slice 6 0 (2 + 2 * N + 1) 5 v1 none), (11, .bool false)]) (Gets.frr ⟨keptPtr hp, keptSl hr, kept_plain rfl, trivial⟩ rfl) t1 (tail7 base_moves (w := false) (c := none) fun hL => ?_)
    exact play_one base_moves (by omega) hL (by omega)
  · -- a move with a value
    have hk : a % (2 + 2 * N) < 2 + 2 * N := Nat.mod_lt _ (by omega)
    refine aw_seq (aw_reg (ow_loud (v := .bool false) (hstep _ 1 false (decide_eq_false (by omega)).symm) rfl rfl (ow_loud rfl rfl rfl (ow_nil (aw_false rfl ?_)))))
    refine aw_seq (aw_reg (ow_loud (v := .bool false) (hstep _ 2 false (decide_eq_false (by omega)).symm) rfl rfl (ow_loud rfl rfl rfl (ow_nil (aw_false rfl ?_)))))
    refine aw_seq (aw_reg (ow_loud (v := .bool true) (hstep _ 3 true (decide_eq_true hq).symm) rfl rfl (ow_loud rfl rfl rfl (ow_nil (aw_true rfl ?_)))))
    refine aw_seq (aw_reg (ow_loud rfl rfl rfl ?_))
    refine ow_loud (v := .int .i64 (.ofNat a)) (s' := mkS (oP ++ [rowObj base (2 + 2 * N) v ex])) (by show some (AVal.int .i64 (wrapF .i64 (.ofNat a)), _) = _; rw [wrap_nat (by omega)]) rfl rfl ?_
    refine ow_loud rfl rfl rfl (ow_loud rfl rfl rfl ?_)
    refine ow_loud (v := .int .i64 (.ofNat (a % (2 + 2 * N)))) (s' := mkS (oP ++ [rowObj base (2 + 2 * N) v ex])) (by
      show (match (bif true && !beqI (.ofNat (2 + 2 * N)) 0 then some (AVal.int .i64 (.ofNat (a % (2 + 2 * N)))) else none) with | some x => some (x, _) | none => none) = _
      rw [eq0 (by omega)]; rfl) rfl rfl ?_
    refine ow_loud rfl rfl rfl (ow_nil ?_)
    refine aw_seq (aw_reg (ow_loud rfl rfl rfl (ow_loud rfl rfl rfl (ow_loud rfl rfl rfl (ow_loud rfl rfl rfl ?_)))))
    refine ow_loud (row_addr hk rfl rfl) rfl rfl (ow_loud rfl rfl rfl ?_)
    refine ow_loud (row_load1 base_moves hs6 hk (base_name _) rfl) rfl rfl ?_
    refine ow_loud rfl rfl rfl (ow_loud rfl rfl rfl ?_)
    refine ow_loud (row_addr hk rfl rfl) rfl rfl (ow_loud rfl rfl rfl ?_)
    refine ow_loud (row_load1 base_moves hs6 hk (base_ans _) rfl) rfl rfl ?_
    refine ow_loud (v := .agg (valued (a % (2 + 2 * N)))) (s' := mkS (oP ++ [rowObj base (2 + 2 * N) v ex])) (by
      rw [← valued_eq]
      have h1 := name_plain (a % (2 + 2 * N))
      have h2 := ans_plain (a % (2 + 2 * N))
      show (match (match fillParts [(0, 1, nameOf (a % (2 + 2 * N))), (2, 1, ansOf (a % (2 + 2 * N))), (3, 1, AVal.int .i64 1)] mB with | some cs => some (AVal.agg cs) | none => none) with | some x => some (x, mkS (oP ++ [rowObj base (2 + 2 * N) v ex])) | none => none) = _
      generalize nameOf (a % (2 + 2 * N)) = x1 at h1 ⊢
      generalize ansOf (a % (2 + 2 * N)) = x2 at h2 ⊢
      cases x1 <;> (try (cases h1; done)) <;> cases x2 <;> (try (cases h2; done)) <;> rfl) rfl rfl ?_
    refine ow_loud (row_addr hk rfl rfl) rfl rfl ?_
    refine ow_loud (row_store base_moves hs6 hk (x := valued (a % (2 + 2 * N))) (by unfold valued; split; rfl; split <;> rfl) (by unfold valued; split; rfl; split <;> rfl) rfl rfl) rfl rfl (ow_nil ?_)
    refine aw_reg (ow_loud rfl rfl rfl (ow_nil ?_))
    exact changed hk (by omega) (by omega) (by unfold valued; split; rfl; split <;> rfl) (by unfold valued; split; rfl; split <;> rfl) (bad_value _) rfl rfl rfl rfl

/-- THE LAW's CODE RETURNS TRUE. -/
theorem long7 (hn : n < 65536) (ha : a < 65536) : Cw T.tab 7 [.int .u16 (.ofNat n), .int .u16 (.ofNat a), .int .u8 (.ofNat q)] (mkS []) fun w _ => w = .bool true := by
  refine cw_of (body := body7) (rs := [.tmp 6]) rfl ((start7 hn fun v ex c hc => kinds hn ha (Nat.mod_lt _ (by omega)) v ex c hc).mono fun e fr s hq => ?_)
  obtain ⟨rfl, hd0, hq⟩ := hq
  have h6 := hq (6, .bool true) (by simp)
  refine ⟨hd0, .bool true, ?_, rfl⟩
  show (match some [fr.get 6] with | some [v] => some v | some vs => some (.tuple vs) | none => none) = _
  rw [h6]
end
end Go.Proofs.YteoeidhcmcacbaaGreatDoor.movesLong
