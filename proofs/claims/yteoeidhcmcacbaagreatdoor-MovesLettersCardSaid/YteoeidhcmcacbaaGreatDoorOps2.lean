/-
  Comparing, and reckoning.
-/
import Derived.Test.YteoeidhcmcacbaaGreatDoorOps1
import Derived.Laws.StructEq
set_option linter.unusedVariables false
set_option linter.unusedSimpArgs false
namespace Go.Avm
section
variable {P : Program} {ρ : Emb} {w : World}

theorem str_list {s : List Nat} {b : ByteArray} (h : b.data.toList.map (·.toNat) = s) : b.toList.map (·.toNat) = s := by
  rw [ByteArray.toList_eq]; exact h
theorem map_toNat_inj {l m : List UInt8} : l.map (·.toNat) = m.map (·.toNat) ↔ l = m := by
  constructor
  · intro h
    induction l generalizing m with
    | nil => cases m <;> simp_all
    | cons a l ih =>
      cases m with
      | nil => simp at h
      | cons b m =>
        simp at h
        rw [ih h.2, UInt8.toNat_inj.1 h.1]
  · intro h; rw [h]
theorem str_eq {s t : List Nat} {b c : ByteArray} (h : b.data.toList.map (·.toNat) = s) (k : c.data.toList.map (·.toNat) = t) : (b.toList == c.toList) = beqL s t := by
  rw [beqL_eq, Bool.eq_iff_iff, beq_iff_eq, decide_eq_true_iff, ← str_list h, ← str_list k, map_toNat_inj]
theorem bytesLt_nil (m : List Nat) : bytesLt [] m = match m with | [] => false | _ :: _ => true := by cases m <;> rfl
theorem bytesLt_cons (a b : Nat) (l m : List Nat) : bytesLt (a :: l) (b :: m) = (Nat.blt a b || (Nat.beq a b && bytesLt l m)) := by
  show (Bool.rec (Bool.rec false (bytesLt l m) (Nat.beq a b)) true (Nat.blt a b) : Bool) = _
  generalize Nat.blt a b = p
  generalize Nat.beq a b = q
  cases p <;> cases q <;> rfl
theorem str_lt {s t : List Nat} {b c : ByteArray} (h : b.data.toList.map (·.toNat) = s) (k : c.data.toList.map (·.toNat) = t) : Op.bytesLess b.toList c.toList = bytesLt s t := by
  rw [← str_list h, ← str_list k]
  generalize b.toList = x
  generalize c.toList = y
  clear h k
  induction x generalizing y with
  | nil => cases y <;> simp [Op.bytesLess, bytesLt_nil]
  | cons a x ih =>
    cases y with
    | nil => rfl
    | cons d y =>
      simp only [List.map_cons, bytesLt_cons, Op.bytesLess, ih]
      have h1 : decide (a < d) = Nat.blt a.toNat d.toNat := by
        by_cases h : a.toNat < d.toNat
        · rw [blt_iff.2 h]; exact decide_eq_true (UInt8.lt_iff_toNat_lt.2 h)
        · rw [show Nat.blt a.toNat d.toNat = false from Bool.eq_false_iff.2 (fun e => h (blt_iff.1 e))]
          exact decide_eq_false (fun e => h (UInt8.lt_iff_toNat_lt.1 e))
      have h2 : (a == d) = Nat.beq a.toNat d.toNat := by
        by_cases h : a = d
        · subst h; simp [Nat.beq_refl]
        · rw [show Nat.beq a.toNat d.toNat = false from Bool.eq_false_iff.2 (fun e => h (UInt8.toNat_inj.1 (beqN_iff.1 e)))]
          simpa using h
      rw [h1, h2]
theorem str_size {s : List Nat} {b : ByteArray} (h : b.data.toList.map (·.toNat) = s) : b.size = s.length := by
  rw [← h, List.length_map, Array.length_toList]; rfl

theorem prim_b {t : TypeId} (h : primT P t = some .b) : P.underlying t = some .bool := by
  unfold primT at h
  cases hu : P.underlying t with
  | none => rw [hu] at h; cases h
  | some d => rw [hu] at h; cases d <;> simp at h ⊢
theorem prim_i {t : TypeId} (h : primT P t = some .i) : ∃ k, P.underlying t = some (.int k) := by
  unfold primT at h
  cases hu : P.underlying t with
  | none => rw [hu] at h; cases h
  | some d => rw [hu] at h; cases d <;> simp at h ⊢
theorem prim_s {t : TypeId} (h : primT P t = some .s) : P.underlying t = some .string := by
  unfold primT at h
  cases hu : P.underlying t with
  | none => rw [hu] at h; cases h
  | some d => rw [hu] at h; cases d <;> simp at h ⊢

theorem int_beq (a b : Int) : (a == b) = beqI a b := by rw [beqI_eq]; rfl

/-- Two plain values are compared as their type has it. -/
theorem prim_eq {t : TypeId} {k : PK} (ht : primT P t = some k) {x y : AVal} {x' y' : Value} {b : Bool} (h : beqPrim k x y = some b) (hx : V ρ x x') (hy : V ρ y y') (d : Nat) :
    (Op.equalIn (d + 1) t x' y').run P w = .ok b w ∧ x'.oneCell' = true ∧ y'.oneCell' = true := by
  cases k with
  | b =>
    cases x <;> cases y <;> simp [beqPrim] at h
    cases hx; cases hy
    exact ⟨by simp [Op.equalIn, run_under (prim_b ht), h], rfl, rfl⟩
  | i =>
    cases x <;> cases y <;> simp [beqPrim] at h
    obtain ⟨h1, h2⟩ := bif_some h
    rw [beqK_eq, decide_eq_true_iff] at h1
    subst h1
    obtain ⟨k, hk⟩ := prim_i ht
    cases hx; cases hy
    refine ⟨?_, rfl, rfl⟩
    rw [run_equalIn_int w d t _ k _ _ hk, int_beq]
    exact congrArg (fun z => Result.ok z w) (Option.some.inj h2)
  | s =>
    cases x <;> cases y <;> simp [beqPrim] at h
    cases hx with
    | str _ b1 h1 => cases hy with
      | str _ b2 h2 =>
        refine ⟨?_, rfl, rfl⟩
        rw [run_equalIn_string w d t _ _ (prim_s ht), str_eq h1 h2, h]
theorem beqFlat_nil (l m : List AVal) : beqFlat [] l m = match l, m with | [], [] => some true | _, _ => none := rfl
theorem beqFlat_cons (k : PK) (ks : List PK) (l m : List AVal) : beqFlat (k :: ks) l m = match l, m with
    | a :: l, b :: m => match beqPrim k a b with
      | some true => beqFlat ks l m
      | some false => some false
      | none => none
    | _, _ => none := rfl
theorem part_one {t : TypeId} {k : PK} (ht : primT P t = some k) {C : Array Value} {i : Nat} {v : Value} (h : C[i]? = some v) : (part t C i).run P w = .ok v w := by
  have hu : isAggT P t = some false := by
    cases k with
    | b => simp [isAggT, prim_b ht]
    | i => obtain ⟨k, hk⟩ := prim_i ht; simp [isAggT, hk]
    | s => simp [isAggT, prim_s ht]
  simp [part, run_agg hu, h]
/-- Rows of plain values are compared as fields. -/
theorem flat_eq (d : Nat) : ∀ (fs : List Field) (ks : List PK) (i : Nat) (l m : List AVal) (X Y : Array Value) (b : Bool), flatFs P fs i = some ks → beqFlat ks l m = some b →
    Vs ρ l (X.toList.drop i) → Vs ρ m (Y.toList.drop i) → (Op.eqFields (d + 1) X Y fs).run P w = .ok b w := by
  intro fs
  induction fs with
  | nil =>
    intro ks i l m X Y b hf h hl hm
    simp only [flatFs] at hf
    obtain rfl := Option.some.inj hf
    rw [beqFlat_nil] at h
    cases l <;> cases m <;> simp at h
    subst h
    rfl
  | cons f fs ih =>
    intro ks i l m X Y b hf h hl hm
    simp only [flatFs] at hf
    split at hf
    · rename_i hc
      rw [Bool.and_eq_true] at hc
      obtain ⟨ho, hn⟩ := hc
      have ho : f.offset = i := by simpa using ho
      have hn : f.name ≠ "_" := by simpa using hn
      cases hp : primT P f.type with
      | none => rw [hp] at hf; cases hf
      | some k =>
        rw [hp] at hf
        cases hr : flatFs P fs (i + 1) with
        | none => rw [hr] at hf; cases hf
        | some ks' =>
          rw [hr] at hf
          obtain rfl := Option.some.inj hf
          rw [beqFlat_cons] at h
          cases hX : X.toList.drop i with
          | nil => rw [hX] at hl; cases hl; cases m <;> simp at h
          | cons x' X' =>
            rw [hX] at hl
            cases hl with
            | @cons x _ l _ hx hl =>
              cases hY : Y.toList.drop i with
              | nil => rw [hY] at hm; cases hm; simp at h
              | cons y' Y' =>
                rw [hY] at hm
                cases hm with
                | @cons y _ m _ hy hm =>
                  simp only at h
                  have hXi : X[i]? = some x' := by
                    have : (X.toList.drop i)[0]? = some x' := by rw [hX]; rfl
                    simpa using this
                  have hYi : Y[i]? = some y' := by
                    have : (Y.toList.drop i)[0]? = some y' := by rw [hY]; rfl
                    simpa using this
                  have hX2 : X.toList.drop (i + 1) = X' := by rw [← List.drop_drop, hX]; rfl
                  have hY2 : Y.toList.drop (i + 1) = Y' := by rw [← List.drop_drop, hY]; rfl
                  cases hb : beqPrim k x y with
                  | none => rw [hb] at h; cases h
                  | some q =>
                    rw [hb] at h
                    have he := (prim_eq (w := w) hp hb hx hy d).1
                    rw [← ho] at hXi hYi
                    simp only [Op.eqFields, hn, ne_eq, not_false_eq_true, if_true, Sem.run_bind, part_one hp hXi, part_one hp hYi, Result.andThen_ok, he]
                    cases q with
                    | true => simp; exact ih ks' (i + 1) l m X Y b hr h (hX2 ▸ hl) (hY2 ▸ hm)
                    | false => simp at h; subst h; simp
    · cases hf
theorem flat_under {t : TypeId} {fs : Array Field} (h : P.underlying t = some (.struct fs)) : P.fieldsOf t = fs := by simp [Program.fieldsOf, h]
theorem flat_equal {t : TypeId} {fs : Array Field} {ks : List PK} (hu : P.underlying t = some (.struct fs)) (hst : P.stoodInHeld t = false) (hf : flatFs P fs.toList 0 = some ks)
    {l m : List AVal} {X Y : Array Value} {b : Bool} (h : beqFlat ks l m = some b) (hl : Vs ρ l X.toList) (hm : Vs ρ m Y.toList) (d : Nat) :
    (Op.equalIn (d + 2) t (.agg X) (.agg Y)).run P w = .ok b w := by
  rw [run_equalIn_struct w (d + 1) t X Y (by rw [flat_under hu]; exact hu) hst, flat_under hu]
  exact flat_eq d fs.toList ks 0 l m X Y b hf h (by simpa using hl) (by simpa using hm)
theorem flat_guard (n : Nat) : ∀ (fs : List Field) (ks : List PK) (i : Nat), flatFs P fs i = some ks → (fs.any fun f => f.name != "_" && P.eqGuardType (n + 1) f.type) = false := by
  intro fs
  induction fs with
  | nil => intro ks i _; rfl
  | cons f fs ih =>
    intro ks i hf
    simp only [flatFs] at hf
    split at hf
    · cases hp : primT P f.type with
      | none => rw [hp] at hf; cases hf
      | some k =>
        rw [hp] at hf
        cases hr : flatFs P fs (i + 1) with
        | none => rw [hr] at hf; cases hf
        | some ks' =>
          have hg : P.eqGuardType (n + 1) f.type = false := by
            cases k with
            | b => simp [Program.eqGuardType, prim_b hp]
            | i => obtain ⟨k, hk⟩ := prim_i hp; simp [Program.eqGuardType, hk]
            | s => simp [Program.eqGuardType, prim_s hp]
          simp only [List.any_cons, hg, Bool.and_false, Bool.false_or]
          exact ih ks' (i + 1) hr
    · cases hf
theorem flat_guardType {t : TypeId} {fs : Array Field} {ks : List PK} (hu : P.underlying t = some (.struct fs)) (hf : flatFs P fs.toList 0 = some ks) : P.eqGuardType P.depth t = false := by
  have hd : P.depth = (2 * (P.types.size + Made.depth)) + 2 := rfl
  rw [hd]
  have := flat_guard (P := P) (2 * (P.types.size + Made.depth)) fs.toList ks 0 hf
  rw [Program.eqGuardType, hu, ← this]
  exact (Array.any_toList ..).symm

/-- What is compared is compared so in the model, ahead of which nothing is asked. -/
def EqOk (P : Program) (w : World) (t : TypeId) (ox oy : Operand) (x' y' : Value) (b : Bool) : Prop :=
  (∀ op, (eqGuard op t ox oy x' y').run P w = .ok () w) ∧ (binOp .eql t x' y').run P w = .ok (.bool b) w ∧ (binOp .neq t x' y').run P w = .ok (.bool (!b)) w
theorem eqOk_of {t : TypeId} {ox oy : Operand} {x' y' : Value} {b : Bool} (hg : ∀ op, (eqGuard op t ox oy x' y').run P w = .ok () w) (h1 : binOp .eql t x' y' = (do pure (.bool (← Op.equal t x' y'))))
    (h2 : binOp .neq t x' y' = (do pure (.bool (!(← Op.equal t x' y'))))) (h : ∀ d, (Op.equalIn (d + 2) t x' y').run P w = .ok b w) : EqOk P w t ox oy x' y' b := by
  have h' : (Op.equal t x' y').run P w = .ok b w := h 9998
  exact ⟨hg, by rw [h1, Sem.run_bind, h']; rfl, by rw [h2, Sem.run_bind, h']; rfl⟩

theorem ekT_inv {t : TypeId} {ek : EK} (ht : ekT P t = some ek) :
    (ek = .bool ∧ P.underlying t = some .bool) ∨ ek = .prim ∨ (ek = .ptr ∧ ∃ e, P.underlying t = some (.pointer e)) ∨ (ek = .slice ∧ ∃ e, P.underlying t = some (.slice e)) ∨
    (ek = .map ∧ ∃ k e, P.underlying t = some (.map k e)) ∨ (ek = .func ∧ ∃ a b c, P.underlying t = some (.func a b c)) ∨ (ek = .iface ∧ ∃ ms, P.underlying t = some (.interface ms)) ∨
    (∃ ks fs, ek = .flat ks ∧ P.underlying t = some (.struct fs) ∧ P.stoodInHeld t = false ∧ flatFs P fs.toList 0 = some ks) := by
  unfold ekT at ht
  split at ht <;> simp at ht <;> (try subst ht) <;> (try (simp_all; done))
  rename_i fs hu
  obtain ⟨h1, ks, h2, rfl⟩ := ht
  exact .inr (.inr (.inr (.inr (.inr (.inr (.inr ⟨ks, fs, rfl, hu, h1, h2⟩))))))

set_option maxHeartbeats 8000000 in
theorem isEq_ok {t : TypeId} {ek : EK} (ht : ekT P t = some ek) {x y : AVal} {x' y' : Value} {b : Bool} (h : isEq ek x y = some b) (hx : V ρ x x') (hy : V ρ y y') (ox oy : Operand)
    (hc : ek = .iface → (∃ v, ox = .const v) ∨ ∃ v, oy = .const v) : EqOk P w t ox oy x' y' b := by
  have hu := ekT_inv ht
  unfold isEq at h
  split at h
  case h_1 =>
    obtain ⟨h1, h2⟩ := bif_some h
    rw [beqK_eq, decide_eq_true_iff] at h1
    subst h1
    obtain rfl := Option.some.inj h2
    cases hx; cases hy
    exact ⟨fun op => by simp [eqGuard], by simp [binOp, Op.intCmp, int_beq], by simp [binOp, Op.intCmp, bne, int_beq]⟩
  case h_2 =>
    obtain rfl := Option.some.inj h
    cases hx with
    | str _ b1 h1 => cases hy with
      | str _ b2 h2 =>
        refine ⟨fun op => by simp [eqGuard], ?_, ?_⟩
        · show (Op.stringOp .eql b1 b2).run P w = _
          simp only [Op.stringOp, Sem.run_pure, str_eq h1 h2]
        · show (Op.stringOp .neq b1 b2).run P w = _
          simp only [Op.stringOp, Sem.run_pure, str_eq h1 h2]
  case h_3 =>
    obtain rfl := Option.some.inj h
    have hu : P.underlying t = some .bool := by simpa using hu
    cases hx; cases hy
    exact eqOk_of (fun op => by simp [eqGuard]) rfl rfl (fun d => by simp [Op.equalIn, run_under hu])
  case h_4 | h_5 | h_6 =>
    obtain rfl := Option.some.inj h
    obtain ⟨e, hu⟩ : ∃ e, P.underlying t = some (.pointer e) := by simpa using hu
    cases hx <;> cases hy <;> exact eqOk_of (fun op => by simp [eqGuard]) rfl rfl (fun d => by simp [Op.equalIn, run_under hu])
  case h_7 | h_8 | h_9 =>
    obtain rfl := Option.some.inj h
    obtain ⟨e, hu⟩ : ∃ e, P.underlying t = some (.slice e) := by simpa using hu
    cases hx <;> cases hy <;> exact eqOk_of (fun op => by simp [eqGuard]) rfl rfl (fun d => by simp [Op.equalIn, run_under hu])
  case h_10 | h_11 | h_12 =>
    obtain rfl := Option.some.inj h
    obtain ⟨k, e, hu⟩ : ∃ k e, P.underlying t = some (.map k e) := by simpa using hu
    cases hx <;> cases hy <;> exact eqOk_of (fun op => by simp [eqGuard]) rfl rfl (fun d => by simp [Op.equalIn, run_under hu])
  case h_13 | h_14 | h_15 =>
    obtain rfl := Option.some.inj h
    obtain ⟨a, c, d, hu⟩ : ∃ a c d, P.underlying t = some (.func a c d) := by simpa using hu
    cases hx <;> cases hy <;> exact eqOk_of (fun op => by simp [eqGuard]) rfl rfl (fun d => by simp [Op.equalIn, run_under hu])
  case h_16 =>
    obtain rfl := Option.some.inj h
    obtain ⟨ms, hu⟩ : ∃ ms, P.underlying t = some (.interface ms) := by simpa using hu
    cases hx; cases hy
    refine eqOk_of (fun op => ?_) rfl rfl (fun d => by simp [Op.equalIn, run_under hu])
    rcases hc rfl with ⟨v, rfl⟩ | ⟨v, rfl⟩ <;> simp [eqGuard]
  case h_17 | h_18 =>
    obtain rfl := Option.some.inj h
    obtain ⟨ms, hu⟩ : ∃ ms, P.underlying t = some (.interface ms) := by simpa using hu
    cases hx <;> cases hy <;> exact eqOk_of (fun op => by simp [eqGuard]) rfl rfl (fun d => by simp [Op.equalIn, run_under hu])
  case h_19 =>
    obtain ⟨fs, hu, hst, hf⟩ : ∃ fs, P.underlying t = some (.struct fs) ∧ P.stoodInHeld t = false ∧ flatFs P fs.toList 0 = some _ := by simpa using hu
    obtain ⟨X, rfl, hX⟩ := hx.cells_agg
    obtain ⟨Y, rfl, hY⟩ := hy.cells_agg
    exact eqOk_of (fun op => run_eqGuard_agg w op t ox oy X Y (flat_guardType hu hf)) rfl rfl (flat_equal hu hst hf h hX hY)
  case h_20 => simp at hu
  case h_21 => simp at hu
  case h_22 => cases h
end
end Go.Avm
