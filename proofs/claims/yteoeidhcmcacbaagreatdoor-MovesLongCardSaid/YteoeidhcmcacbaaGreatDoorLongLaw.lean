/-
  The laws about plays of a piece that asks p for ever: the law's own code.
-/
import Derived.Test.YteoeidhcmcacbaaGreatDoorLongPlay2
set_option linter.unusedVariables false
set_option linter.unusedSimpArgs false
set_option maxRecDepth 100000
set_option maxHeartbeats 1000000
namespace Go.Proofs.YteoeidhcmcacbaaGreatDoor.movesLong
open Go Go.Avm

/-! ### rows that are written, and appended to -/
def upd (f : Nat → List AVal) (k : Nat) (x : List AVal) (j : Nat) : List AVal := if j = k then x else f j
theorem Moves.upd {f : Nat → List AVal} (h : Moves f) {k : Nat} {x : List AVal} (h1 : x.length = 5) (h2 : (x.all AVal.plain) = true) : Moves (upd f k x) :=
  ⟨fun j => by unfold movesLong.upd; split; exact h1; exact h.len j, fun j => by unfold movesLong.upd; split; exact h2; exact h.plain j⟩
theorem cellsOf_congr {f g : Nat → List AVal} : ∀ {n : Nat}, (∀ j, j < n → f j = g j) → cellsOf f n = cellsOf g n
  | 0, _ => rfl
  | n + 1, h => by rw [cellsOf, cellsOf, cellsOf_congr fun j hj => h j (by omega), h n (by omega)]
theorem splice_cells {f : Nat → List AVal} (hf : Moves f) {k : Nat} {x : List AVal} (hx : x.length = 5) : ∀ {n : Nat}, k < n → splice (cellsOf f n) (k * 5) x = cellsOf (upd f k x) n
  | n + 1, h => by
    have hl := cellsOf_length hf.len n
    unfold splice
    simp only [lapp_eq, ltake_eq, ldrop_eq, llen_eq, hx]
    rw [cellsOf, cellsOf]
    by_cases e : k = n
    · subst e
      rw [List.take_append_of_le_length (by omega), List.take_of_length_le (by omega), show Nat.add (k * 5) 5 = (cellsOf f k).length + 5 by rw [hl], List.drop_append, List.drop_of_length_le (by omega)]
      rw [show (cellsOf f k).length + 5 - (cellsOf f k).length = 5 by omega, List.drop_of_length_le (by rw [hf.len]; omega)]
      rw [cellsOf_congr (f := upd f k x) (g := f) fun j hj => by unfold upd; rw [if_neg (by omega)]]
      rw [show upd f k x k = x by unfold upd; rw [if_pos rfl]]
      simp
    · have ih := splice_cells hf hx (n := n) (k := k) (by omega)
      unfold splice at ih
      simp only [lapp_eq, ltake_eq, ldrop_eq, llen_eq, hx] at ih
      rw [← ih, List.take_append_of_le_length (by omega), List.drop_append_of_le_length (by show k * 5 + 5 ≤ _; omega)]
      rw [show upd f k x n = f n by unfold upd; rw [if_neg (by omega)]]
      simp
theorem row_store {f : Nat → List AVal} (hf : Moves f) {fr : Fr} {s : AS} {g L v : Nat} {ex : List Nat} (hg : s.get g = some (rowObj f L v ex)) {k : Nat} (hk : k < L) {x : List AVal} (h1 : x.length = 5) (h2 : (x.all AVal.plain) = true) {a y : Opd}
    (ha : fr.ev a = .ptr g (Nat.add 0 (Nat.mul k 5)) v) (hy : fr.ev y = .agg x) : loud fr s (.store 5 a y) = some (.junk, s.set g (rowObj (upd f k x) L v [])) := by
  have hones : ones x = true := by
    rw [ones_iff]
    intro c hc
    have := List.all_eq_true.1 h2 c hc
    cases c <;> first | rfl | cases this
  show (match fr.ev a with
    | .ptr g x w => bif Nat.beq (llen (fr.ev y).cells) 5 && ones (fr.ev y).cells then
        match putAt s g x w (fr.ev y).cells with
        | some s => some (AVal.junk, s)
        | none => none
      else none
    | _ => none) = _
  rw [ha, hy]
  show (bif Nat.beq (llen x) 5 && ones x then match putAt s g (Nat.add 0 (Nat.mul k 5)) v x with | some s => some (AVal.junk, s) | none => none else none) = _
  rw [hones, llen_eq, h1]
  have hp : putAt s g (Nat.add 0 (Nat.mul k 5)) v x = some (s.set g (rowObj (upd f k x) L v [])) := by
    unfold putAt
    rw [hg]
    show (bif Nat.beq v v && !false && Nat.ble (Nat.add (Nat.add 0 (Nat.mul k 5)) (llen x)) (L * 5) then some (s.set g (.row (splice (cellsOf f L) (Nat.add 0 (Nat.mul k 5)) x) v [L * 5] false)) else none) = _
    rw [beqN_iff.2 rfl, llen_eq, h1, ble_iff.2 (by show 0 + k * 5 + 5 ≤ L * 5; omega), show Nat.add 0 (Nat.mul k 5) = k * 5 from Nat.zero_add _, splice_cells hf h1 hk]
    rfl
  rw [hp]
  rfl
/-- An append of moves. -/
theorem row_app {f : Nat → List AVal} (hf : Moves f) {fr : Fr} {s : AS} {g L v : Nat} {ex : List Nat} (hg : s.get g = some (rowObj f L v ex)) {c : Option Nat} (hc : c = none ∨ c = some L) {g' m : Nat} {x y : Opd}
    (hx : fr.ev x = .slice g 0 L 5 v c) (hy : fr.ev y = .slice g' 0 m 5 0 (some m)) {vs : List AVal} (hvs : cellsAt s g' 0 0 (Nat.mul m 5) = some vs) (hl : vs.length = m * 5) (hm : 0 < m) (hL : L + m < 100000) (hnew : cellsOf f L ++ vs = cellsOf f (L + m)) :
    ∃ s' g1 v1 ex1, loud fr s (.app 5 x y) = some (.slice g1 0 (L + m) 5 v1 none, s') ∧ s'.get g1 = some (rowObj f (L + m) v1 ex1) ∧ (∀ k o, k < g → s.get k = some o → s'.get k = some o) ∧ g ≤ g1 := by
  have hk : Nat.div (llen vs) 5 = m := by rw [llen_eq, hl]; show m * 5 / 5 = m; omega
  have hgl := AS.lt_of_get hg
  have hcl : cellsAt s g 0 v (Nat.mul L 5) = some (cellsOf f L) := by
    unfold cellsAt
    rw [hg]
    show (bif Nat.ble v v then match nth (L * 5 :: ex) (Nat.sub v v) with
      | some e => bif Nat.ble (Nat.add 0 (Nat.mul L 5)) e then some (ltake (ldrop (cellsOf f L) 0) (Nat.mul L 5)) else none
      | none => none else none) = _
    rw [ble_iff.2 (Nat.le_refl v), show Nat.sub v v = 0 from Nat.sub_self v]
    show (bif Nat.ble (Nat.add 0 (Nat.mul L 5)) (L * 5) then some (ltake (ldrop (cellsOf f L) 0) (Nat.mul L 5)) else none) = _
    rw [ble_iff.2 (by show 0 + L * 5 ≤ L * 5; omega), cond_true, ltake_eq, ldrop_eq, List.drop_zero, show Nat.mul L 5 = L * 5 from rfl, List.take_of_length_le (by rw [cellsOf_length hf.len]; exact Nat.le_refl _)]
  have hroom : room (Nat.add L m) = true := ble_iff.2 (by show L + m ≤ _; omega)
  have hgo : ∀ r, append s 5 (.slice g 0 L 5 v c) vs = r → loud fr s (.app 5 x y) = r := by
    intro r hr
    rw [← hr]
    show (match fr.ev y with
      | .nilslice => append s 5 (fr.ev x) []
      | .slice g off len sz' v _ => bif Nat.beq 5 sz' then match cellsAt s g off v (Nat.mul len 5) with
          | some vs => append s 5 (fr.ev x) vs
          | none => none
        else none
      | .str b => bif Nat.beq 5 1 then append s 5 (fr.ev x) (lmap (fun (n : Nat) => AVal.int .u8 (.ofNat n)) b) else none
      | _ => none) = _
    rw [hx, hy]
    show (bif Nat.beq 5 5 then match cellsAt s g' 0 0 (Nat.mul m 5) with | some vs => append s 5 (.slice g 0 L 5 v c) vs | none => none else none) = _
    rw [hvs]; rfl
  rcases hc with rfl | rfl
  · refine ⟨s.set g (rowObj f (L + m) (v + 1) (L * 5 :: ex)), g, v + 1, L * 5 :: ex, hgo _ ?_, AS.get_set_same _ _ hgl, fun k o hk e => by rw [AS.get_set_ne _ _ (by omega)]; exact e, Nat.le_refl g⟩
    unfold append
    simp only [hk, hroom, hcl, show Nat.beq 5 5 = true from rfl, show Nat.beq m 0 = false from Bool.eq_false_iff.2 (fun e => by have := beqN_iff.1 e; omega), Bool.not_true, cond_false, capBelow]
    have hgr : growAt s g (Nat.add 0 (Nat.mul L 5)) v vs = some (s.set g (rowObj f (L + m) (v + 1) (L * 5 :: ex)), v + 1) := by
      unfold growAt
      rw [hg]
      show (bif !false && Nat.ble v v then match nth (L * 5 :: ex) (Nat.sub v v) with
        | some e => bif Nat.ble (Nat.add 0 (Nat.mul L 5)) e then
            bif Nat.beq v v && Nat.beq (Nat.add 0 (Nat.mul L 5)) (llen (cellsOf f L)) then some (s.set g (.row (lapp (cellsOf f L) vs) (Nat.succ v) (Nat.add (Nat.add 0 (Nat.mul L 5)) (llen vs) :: L * 5 :: ex) false), Nat.succ v)
            else some (s.set g (.row (lapp (ltake (cellsOf f L) (Nat.add 0 (Nat.mul L 5))) vs) (Nat.succ v) [Nat.add (Nat.add 0 (Nat.mul L 5)) (llen vs)] false), Nat.succ v)
          else none
        | none => none else none) = _
      rw [ble_iff.2 (Nat.le_refl v), show Nat.sub v v = 0 from Nat.sub_self v]
      show (bif Nat.ble (Nat.add 0 (Nat.mul L 5)) (L * 5) then _ else none) = _
      rw [ble_iff.2 (by show 0 + L * 5 ≤ L * 5; omega), cond_true, beqN_iff.2 rfl, llen_eq, cellsOf_length hf.len, beqN_iff.2 (show Nat.add 0 (Nat.mul L 5) = L * 5 from Nat.zero_add _)]
      show some (s.set g (.row (lapp (cellsOf f L) vs) (v + 1) (Nat.add (Nat.add 0 (Nat.mul L 5)) (llen vs) :: L * 5 :: ex) false), v + 1) = _
      rw [lapp_eq, hnew, llen_eq, hl, show Nat.add (Nat.add 0 (Nat.mul L 5)) (m * 5) = (L + m) * 5 by show 0 + L * 5 + m * 5 = _; omega]
      rfl
    rw [hgr]
    rfl
  · refine ⟨s.new (oneRow (cellsOf f (L + m))), s.nx, 0, [], hgo _ ?_, ?_, fun k o hk e => by rw [AS.get_new, if_neg (by omega)]; exact e, Nat.le_of_lt hgl⟩
    · unfold append
      simp only [hk, hroom, hcl, show Nat.beq 5 5 = true from rfl, show Nat.beq m 0 = false from Bool.eq_false_iff.2 (fun e => by have := beqN_iff.1 e; omega), Bool.not_true, cond_false, capBelow]
      rw [blt_iff.2 (by show L < L + m; omega), cond_true, lapp_eq, hnew]
      rfl
    · rw [AS.get_new, if_pos rfl]
      unfold oneRow rowObj
      rw [llen_eq, cellsOf_length hf.len]

/-! ### the row that is a play -/
theorem base_moves : Moves base :=
  ⟨fun j => by unfold base; split; rfl; split <;> rfl, fun j => by unfold base; split; rfl; split <;> rfl⟩
theorem base_two {L : Nat} (h : L % 2 = 0) (h2 : 2 ≤ L) : cellsOf base L ++ (mA ++ mP) = cellsOf base (L + 2) := by
  rw [cellsOf, cellsOf]
  rw [show base L = mA by unfold base; rw [if_neg (by omega), if_neg (by omega)], show base (L + 1) = mP by unfold base; rw [if_neg (by omega), if_pos (by omega)], List.append_assoc]
theorem base_one {L : Nat} (h : L % 2 = 0) (h2 : 2 ≤ L) : cellsOf base L ++ mA = cellsOf base (L + 1) := by
  rw [cellsOf, show base L = mA by unfold base; rw [if_neg (by omega), if_neg (by omega)]]

/-! ### the end -/
def Q7 : Ex → Fr → AS → Prop := Rets [(6, .bool true)]
theorem liftQ7 : LiftQ Q7 := LiftQ.rets rfl
theorem ok7_10 : (aft 10 body7).ok = true := by decide +kernel
theorem ok7_9 : (aft 9 body7).ok = true := by decide +kernel
section
variable {f : Nat → List AVal} {L v : Nat} {ex : List Nat} {c : Option Nat}
/-- moves.Play is asked, and its answer held against what is wanted. -/
theorem end7 {b : Bool} {d : Nat} (h : Wp T.tab body13 (enter [.ptr 0 0 0, .slice 6 0 L 5 v c]) (mkS (oP ++ [rowObj f L v ex])) (QP b (.ofNat d))) :
    Wp T.tab (aft 9 body7) (mkF [(7, .ptr 0 0 0), (9, .slice 6 0 L 5 v c), (11, .bool b), (13, .int .i64 (.ofNat d))]) (mkS (oP ++ [rowObj f L v ex])) Q7 := by
  show Wp T.tab (.seq (.reg (ops (hd (aft 9 body7)))) (.seq (.reg (ops (hd (aft 10 body7)))) .ret)) _ _ _
  refine aw_seq (aw_reg (ow_loud rfl rfl rfl (ow_loud rfl rfl rfl ?_)))
  have hp : Cw T.tab 13 [.ptr 0 0 0, .slice 6 0 L 5 v c] (mkS (oP ++ [rowObj f L v ex])) fun w _ => w = .tuple [.bool b, .int .i64 (.ofNat d)] := by
    refine cw_of (body := body13) (rs := [.tmp 4, .tmp 5]) rfl (h.mono fun e fr s hq => ?_)
    obtain ⟨rfl, hd0, hq⟩ := hq
    have h4 := hq (4, .bool b) (by simp)
    have h5 := hq (5, .int .i64 (.ofNat d)) (by simp)
    refine ⟨hd0, _, ?_, rfl⟩
    show (match some [fr.get 4, fr.get 5] with | some [v] => some v | some vs => some (.tuple vs) | none => none) = _
    rw [h4, h5]
  refine ow_call rfl rfl rfl (hp.mono fun w s1 hw => ⟨rfl, ?_⟩)
  subst hw
  refine ow_loud rfl rfl rfl (ow_loud rfl rfl rfl (ow_loud rfl rfl rfl (ow_loud rfl rfl rfl (ow_loud rfl rfl rfl (ow_nil ?_)))))
  refine aw_seq (aw_reg (ow_loud rfl rfl rfl (ow_loud rfl rfl rfl ?_)))
  refine ow_loud (v := .bool true) (s' := s1) (by show some (AVal.bool (b == b), s1) = _; rw [beq_self_eq_true]) rfl rfl ?_
  refine ow_loud rfl rfl rfl (ow_loud rfl rfl rfl (ow_loud rfl rfl rfl ?_))
  refine ow_loud (v := .bool true) (s' := s1) (by show some (AVal.bool (beqI (.ofNat d) (.ofNat d)), s1) = _; rw [eqI, decide_eq_true rfl]) rfl rfl ?_
  refine ow_loud rfl rfl rfl (ow_loud rfl rfl rfl ?_)
  refine ow_call rfl rfl rfl (cw_yes.mono fun w s2 hw => ⟨rfl, ?_⟩)
  obtain ⟨rfl, rfl⟩ := hw
  refine ow_loud rfl rfl rfl (ow_loud rfl rfl rfl (ow_nil ?_))
  exact aw_ret (rets1 (s := s2) rfl rfl)
end
end Go.Proofs.YteoeidhcmcacbaaGreatDoor.movesLong
