/-
  Reckoning, reading, and putting together.
-/
import Derived.Test.YteoeidhcmcacbaaGreatDoorOps2
set_option linter.unusedVariables false
set_option linter.unusedSimpArgs false
namespace Go.Avm
section
variable {P : Program} {B N : Nat} {ρ : Emb} {s : AS} {w : World} {fr : Fr} {a : Act}

theorem bltI_iff {a b : Int} : bltI a b = true ↔ a < b := by rw [bltI_eq, decide_eq_true_iff]
theorem not_lt_le (a b : Int) : (!decide (b < a)) = decide (a ≤ b) := by
  by_cases h : a ≤ b
  · rw [decide_eq_true h, decide_eq_false (by omega)]; rfl
  · rw [decide_eq_false h, decide_eq_true (by omega)]; rfl
theorem not_beqI {a b : Int} (h : (!beqI a b) = true) : a ≠ b := by
  rw [beqI_eq] at h; simpa using h

set_option maxHeartbeats 4000000 in
/-- What is reckoned is reckoned so in the model. -/
theorem binop_ok {t : TypeId} {ek : EK} {op : BinOp} (ht : ekT P t = some ek) {x y v : AVal} {x' y' : Value} (h : binop op ek x y = some v) (hx : V ρ x x') (hy : V ρ y y') (ox oy : Operand)
    (hc : ek = .iface → (∃ v, ox = .const v) ∨ ∃ v, oy = .const v) :
    ∃ v', (do eqGuard op t ox oy x' y'; binOp op t x' y' : Sem Value).run P w = .ok v' w ∧ V ρ v v' := by
  by_cases he : op = .eql
  · subst he
    simp only [binop] at h
    cases hq : isEq ek x y with
    | none => rw [hq] at h; cases h
    | some b =>
      rw [hq] at h
      obtain rfl := Option.some.inj h
      obtain ⟨h1, h2, _⟩ := isEq_ok (P := P) (w := w) ht hq hx hy ox oy hc
      exact ⟨_, by rw [Sem.run_bind, h1]; exact h2, .bool b⟩
  by_cases hne : op = .neq
  · subst hne
    simp only [binop] at h
    cases hq : isEq ek x y with
    | none => rw [hq] at h; cases h
    | some b =>
      rw [hq] at h
      obtain rfl := Option.some.inj h
      obtain ⟨h1, _, h2⟩ := isEq_ok (P := P) (w := w) ht hq hx hy ox oy hc
      exact ⟨_, by rw [Sem.run_bind, h1]; exact h2, .bool _⟩
  have hg : (eqGuard op t ox oy x' y').run P w = .ok () w := by
    cases op <;> first | exact absurd rfl he | exact absurd rfl hne | rfl
  rw [Sem.run_bind, hg, Result.andThen_ok]
  have hkind : (∃ k n k' m, x = .int k n ∧ y = .int k' m) ∨ (∃ a b, x = .str a ∧ y = .str b) := by
    cases x <;> first
      | (cases y <;> first
          | exact .inl ⟨_, _, _, _, rfl, rfl⟩
          | exact .inr ⟨_, _, rfl, rfl⟩
          | (cases op <;> first | exact absurd rfl he | exact absurd rfl hne | cases h))
      | (cases op <;> first | exact absurd rfl he | exact absurd rfl hne | cases h)
  rcases hkind with ⟨k, n, k', m, rfl, rfl⟩ | ⟨s1, s2, rfl, rfl⟩
  case inl =>
    cases hx; cases hy
    cases op <;> simp only [binop, reduceCtorEq] at h <;> first
      | exact absurd rfl he
      | exact absurd rfl hne
      | skip
    case add => obtain ⟨h1, h2⟩ := bif_some h; rw [beqK_eq, decide_eq_true_iff] at h1; subst h1; obtain rfl := Option.some.inj h2; exact ⟨_, by simp [binOp, Op.intArith]; rfl, by rw [wrapF_eq]; exact .int _ _⟩
    case sub => obtain ⟨h1, h2⟩ := bif_some h; rw [beqK_eq, decide_eq_true_iff] at h1; subst h1; obtain rfl := Option.some.inj h2; exact ⟨_, by simp [binOp, Op.intArith]; rfl, by rw [wrapF_eq]; exact .int _ _⟩
    case mul => obtain ⟨h1, h2⟩ := bif_some h; rw [beqK_eq, decide_eq_true_iff] at h1; subst h1; obtain rfl := Option.some.inj h2; exact ⟨_, by simp [binOp, Op.intArith]; rfl, by rw [wrapF_eq]; exact .int _ _⟩
    case lss => obtain ⟨h1, h2⟩ := bif_some h; rw [beqK_eq, decide_eq_true_iff] at h1; subst h1; obtain rfl := Option.some.inj h2; exact ⟨_, by simp [binOp, Op.intCmp]; rfl, by rw [bltI_eq]; exact .bool _⟩
    case leq => obtain ⟨h1, h2⟩ := bif_some h; rw [beqK_eq, decide_eq_true_iff] at h1; subst h1; obtain rfl := Option.some.inj h2; exact ⟨.bool (decide (n ≤ m)), by simp [binOp, Op.intCmp], by rw [bltI_eq, not_lt_le]; exact .bool _⟩
    case gtr => obtain ⟨h1, h2⟩ := bif_some h; rw [beqK_eq, decide_eq_true_iff] at h1; subst h1; obtain rfl := Option.some.inj h2; exact ⟨_, by simp [binOp, Op.intCmp]; rfl, by rw [bltI_eq]; exact .bool _⟩
    case geq => obtain ⟨h1, h2⟩ := bif_some h; rw [beqK_eq, decide_eq_true_iff] at h1; subst h1; obtain rfl := Option.some.inj h2; exact ⟨.bool (decide (n ≥ m)), by simp [binOp, Op.intCmp], by rw [bltI_eq, not_lt_le]; exact .bool _⟩
    case quo =>
      obtain ⟨h1, h2⟩ := bif_some h; rw [Bool.and_eq_true] at h1; obtain ⟨h0, h1⟩ := h1; rw [beqK_eq, decide_eq_true_iff] at h0; subst h0; have hz := not_beqI h1; obtain rfl := Option.some.inj h2
      exact ⟨_, by simp [binOp, Op.intDiv, hz], .int _ _⟩
    case rem =>
      obtain ⟨h1, h2⟩ := bif_some h; rw [Bool.and_eq_true] at h1; obtain ⟨h0, h1⟩ := h1; rw [beqK_eq, decide_eq_true_iff] at h0; subst h0; have hz := not_beqI h1; obtain rfl := Option.some.inj h2
      exact ⟨_, by simp [binOp, Op.intDiv, hz], .int _ _⟩
    case shl =>
      obtain ⟨h1, h2⟩ := bif_none h; obtain rfl := Option.some.inj h2
      have hz : ¬ m < 0 := fun e => by rw [bltI_iff.2 e] at h1; cases h1
      exact ⟨_, by simp only [binOp, Op.shift, hz, if_false, Sem.run_pure], .int _ _⟩
    case shr =>
      obtain ⟨h1, h2⟩ := bif_none h; obtain rfl := Option.some.inj h2
      have hz : ¬ m < 0 := fun e => by rw [bltI_iff.2 e] at h1; cases h1
      exact ⟨_, by simp only [binOp, Op.shift, hz, if_false, Sem.run_pure], .int _ _⟩
    case and => obtain ⟨h1, h2⟩ := bif_some h; rw [beqK_eq, decide_eq_true_iff] at h1; subst h1; obtain rfl := Option.some.inj h2; exact ⟨_, by simp only [binOp, Op.intBits, ne_eq, not_true_eq_false, if_false, Sem.run_pure], .int _ _⟩
    case or => obtain ⟨h1, h2⟩ := bif_some h; rw [beqK_eq, decide_eq_true_iff] at h1; subst h1; obtain rfl := Option.some.inj h2; exact ⟨_, by simp only [binOp, Op.intBits, ne_eq, not_true_eq_false, if_false, Sem.run_pure], .int _ _⟩
    case xor => obtain ⟨h1, h2⟩ := bif_some h; rw [beqK_eq, decide_eq_true_iff] at h1; subst h1; obtain rfl := Option.some.inj h2; exact ⟨_, by simp only [binOp, Op.intBits, ne_eq, not_true_eq_false, if_false, Sem.run_pure], .int _ _⟩
    case andNot => obtain ⟨h1, h2⟩ := bif_some h; rw [beqK_eq, decide_eq_true_iff] at h1; subst h1; obtain rfl := Option.some.inj h2; exact ⟨_, by simp only [binOp, Op.intBits, ne_eq, not_true_eq_false, if_false, Sem.run_pure], .int _ _⟩
  case inr =>
    cases hx with
    | str _ b1 h1 => cases hy with
      | str _ b2 h2 =>
        cases op <;> simp only [binop, reduceCtorEq] at h <;> first
          | exact absurd rfl he
          | exact absurd rfl hne
          | skip
        case add =>
          obtain ⟨h3, h4⟩ := bif_some h
          have h3 : s1.length + s2.length ≤ 1099511627776 := by simpa using ble_iff.1 h3
          obtain rfl := Option.some.inj h4
          refine ⟨.string (b1 ++ b2), ?_, .str _ _ ?_⟩
          · show (Op.stringOp .add b1 b2).run P w = _
            have hm : IntKind.i64.max = 9223372036854775807 := by decide
            simp only [Op.stringOp, str_size h1, str_size h2, hm]
            rw [if_neg (by omega)]; rfl
          · rw [lapp_eq, ← h1, ← h2]; simp [ByteArray.data_append]
        case lss => obtain rfl := Option.some.inj h; exact ⟨_, by show (Op.stringOp .lss b1 b2).run P w = _; simp only [Op.stringOp, Sem.run_pure, str_lt h1 h2], .bool _⟩
        case leq => obtain rfl := Option.some.inj h; exact ⟨_, by show (Op.stringOp .leq b1 b2).run P w = _; simp only [Op.stringOp, Sem.run_pure, str_lt h1 h2, str_eq h1 h2], .bool _⟩
        case gtr => obtain rfl := Option.some.inj h; exact ⟨_, by show (Op.stringOp .gtr b1 b2).run P w = _; simp only [Op.stringOp, Sem.run_pure, str_lt h1 h2, str_eq h1 h2], .bool _⟩
        case geq => obtain rfl := Option.some.inj h; exact ⟨_, by show (Op.stringOp .geq b1 b2).run P w = _; simp only [Op.stringOp, Sem.run_pure, str_lt h1 h2], .bool _⟩

theorem unop_ok {op : UnOp} {x v : AVal} {x' : Value} (h : unop op x = some v) (hx : V ρ x x') : ∃ v', (Op.unary op x').run P w = .ok v' w ∧ V ρ v v' := by
  unfold unop at h
  split at h
  · obtain rfl := Option.some.inj h; cases hx; exact ⟨_, rfl, .bool _⟩
  · obtain rfl := Option.some.inj h; cases hx; exact ⟨_, by simp only [Op.unary, Op.intArith, Sem.run_pure]; rfl, by rw [wrapF_eq]; exact .int _ _⟩
  · cases h
end
end Go.Avm
