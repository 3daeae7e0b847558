/-
  One operation of a region.
-/
import Derived.Test.YteoeidhcmcacbaaGreatDoorWriteAll
import Derived.Test.YteoeidhcmcacbaaGreatDoorCong
import Derived.Orders
set_option linter.unusedVariables false
set_option linter.unusedSimpArgs false
namespace Go.Avm
open Go.RowKit (Below)

/-- What a call ends in. -/
def OutOk (B : Nat) (ρ : Emb) (s : AS) (w : World) (out : Out) (s' : AS) (e : Ending) (w' : World) : Prop :=
  ∃ ρ', Rel B ρ' s' w' ∧ Step B ρ s w ρ' s' w' ∧ match out with
    | .ret v => ∃ v', e = .returned v' ∧ V ρ' v v'
    | .pan v => ∃ v', e = .panicked [{ v := v', recovered := false }] ∧ V ρ' v v'

/-- A caller is sound. -/
def CallOk (P : Program) (call : Caller) : Prop :=
  ∀ (B : Nat) (ρ : Emb) (s : AS) (w : World) (f : Nat) (args : List AVal) (ARGS : Array Value) (out : Out) (s' : AS), Rel B ρ s w → Vs ρ args ARGS.toList → call f args s = some (out, s') →
    (∃ fn, P.funcs[f]? = some fn ∧ fn.name ≠ "runtime.NumGoroutine" ∧ fn.body.isNone = false ∧ Calls P f ARGS w (OutOk B ρ s w out s')) ∨
    (∃ v v', out = .ret v ∧ s' = s ∧ (callFunc f ARGS).run P w = .ok (.value v') w ∧ V ρ v v')

section
variable {P : Program} {B N : Nat} {ρ : Emb} {s : AS} {w : World} {fr : Fr} {a : Act}

theorem run_callFunc {f : Nat} {fn : Func} (h : P.funcs[f]? = some fn) (h1 : fn.name ≠ "runtime.NumGoroutine") (h2 : fn.body.isNone = false) (args : Array Value) : (callFunc f args).run P w = .ok (.enter f args) w := by
  have h3 : fn.body ≠ none := fun e => by rw [e] at h2; cases h2
  simp [callFunc, program, h, h1, h3, Sem.run]

theorem not_call {o : Oper} {op : AOp} (hc : compOp P o = some op) (f : Opd) (args : List Opd) (h : op = .call f args) :
    ∃ c fo, o.op = .call c ∧ c.callee = .value fo ∧ f = compOpd fo ∧ args = c.args.toList.map compOpd := by
  subst h
  obtain ⟨dst, oo, ty, pos, after, guard⟩ := o
  cases oo
  case call c =>
    obtain ⟨callee, cargs, ats⟩ := c
    simp only [compOp] at hc
    cases callee with
    | value fo => simp only [compCall] at hc; injection hc with hc; injection hc with e1 e2; exact ⟨_, fo, rfl, rfl, e1.symm, e2.symm⟩
    | invoke r m => simp only [compCall] at hc; cases hc
    | builtin b =>
      exfalso
      cases b <;> simp only [compCall] at hc <;> first
        | (cases hc; done)
        | (repeat' (first | (cases hc; done) | split at hc))
  case makeFunc f x y =>
    exfalso
    cases f <;> simp only [compOp] at hc <;> cases hc
  case makeMap t r =>
    exfalso
    cases r <;> simp only [compOp] at hc <;> cases hc
  all_goals
    (exfalso
     unfold compOp at hc
     try dsimp only at hc
     repeat' (first
       | (cases hc; done)
       | (rw [Option.map_eq_some_iff] at hc; obtain ⟨_, _, hc⟩ := hc; cases hc; done)
       | split at hc
       | (rw [Option.bind_eq_some_iff] at hc; obtain ⟨_, _, hc⟩ := hc; try dsimp only at hc)))

theorem not_dfr {o : Oper} {op : AOp} (hc : compOp P o = some op) (f : Opd) (args : List Opd) (h : op = .dfr f args) :
    ∃ c fo, o.op = .defer c ∧ c.callee = .value fo ∧ f = compOpd fo ∧ args = c.args.toList.map compOpd := by
  subst h
  obtain ⟨dst, oo, ty, pos, after, guard⟩ := o
  cases oo
  case defer c =>
    obtain ⟨callee, cargs, ats⟩ := c
    simp only [compOp] at hc
    cases callee with
    | value fo => simp only at hc; injection hc with hc; injection hc with e1 e2; exact ⟨_, fo, rfl, rfl, e1.symm, e2.symm⟩
    | invoke r m => simp only at hc; cases hc
    | builtin b => simp only at hc; cases hc
  case call c =>
    obtain ⟨callee, cargs, ats⟩ := c
    exfalso
    simp only [compOp] at hc
    cases callee with
    | value fo => simp only [compCall] at hc; cases hc
    | invoke r m => simp only [compCall] at hc; cases hc
    | builtin b =>
      cases b <;> simp only [compCall] at hc <;> first
        | (cases hc; done)
        | (repeat' (first | (cases hc; done) | split at hc))
  case makeFunc f x y =>
    exfalso
    cases f <;> simp only [compOp] at hc <;> cases hc
  case makeMap t r =>
    exfalso
    cases r <;> simp only [compOp] at hc <;> cases hc
  all_goals
    (exfalso
     unfold compOp at hc
     try dsimp only at hc
     repeat' (first
       | (cases hc; done)
       | (rw [Option.map_eq_some_iff] at hc; obtain ⟨_, _, hc⟩ := hc; cases hc; done)
       | split at hc
       | (rw [Option.bind_eq_some_iff] at hc; obtain ⟨_, _, hc⟩ := hc; try dsimp only at hc)))

theorem not_pan {o : Oper} {op : AOp} (hc : compOp P o = some op) (x : Opd) (h : op = .pan x) : ∃ y, o.op = .panic y ∧ x = compOpd y := by
  subst h
  obtain ⟨dst, oo, ty, pos, after, guard⟩ := o
  cases oo
  case panic y => simp only [compOp] at hc; injection hc with hc; injection hc with e1; exact ⟨_, rfl, e1.symm⟩
  case call c =>
    obtain ⟨callee, cargs, ats⟩ := c
    exfalso
    simp only [compOp] at hc
    cases callee with
    | value fo => simp only [compCall] at hc; cases hc
    | invoke r m => simp only [compCall] at hc; cases hc
    | builtin b =>
      cases b <;> simp only [compCall] at hc <;> first
        | (cases hc; done)
        | (repeat' (first | (cases hc; done) | split at hc))
  case makeFunc f x y =>
    exfalso
    cases f <;> simp only [compOp] at hc <;> cases hc
  case makeMap t r =>
    exfalso
    cases r <;> simp only [compOp] at hc <;> cases hc
  all_goals
    (exfalso
     unfold compOp at hc
     try dsimp only at hc
     repeat' (first
       | (cases hc; done)
       | (rw [Option.map_eq_some_iff] at hc; obtain ⟨_, _, hc⟩ := hc; cases hc; done)
       | split at hc
       | (rw [Option.bind_eq_some_iff] at hc; obtain ⟨_, _, hc⟩ := hc; try dsimp only at hc)))

/-- What a value is that a quiet operation gives. -/
theorem quiet_ok (hR : Rel B ρ s w) (hF : FrR N ρ fr a) (o : Oper) {op : AOp} (hc : compOp P o = some op) {v : AVal} {s' : AS} (h : quiet fr s op = some (v, s')) :
    ∃ v' w' ρ', (execOp a.eval o).run P w = .ok (.value v') w' ∧ Rel B ρ' s' w' ∧ Step B ρ s w ρ' s' w' ∧ V ρ' v v' := by
  unfold quiet at h
  cases hm : op.makes with
  | false =>
    rw [hm] at h
    simp only [cond_false] at h
    cases hp : pval fr s op with
    | none => rw [hp] at h; cases h
    | some v1 =>
      rw [hp] at h
      have h := Option.some.inj h
      injection h with e1 e2
      subst e1 e2
      obtain ⟨v', h1, h2⟩ := pval_ok hR hF o hc hp
      exact ⟨v', w, ρ, h1, hR, .refl _ _ _ _, h2⟩
  | true =>
    rw [hm] at h
    simp only [cond_true] at h
    cases hp : made fr op with
    | none => rw [hp] at h; cases h
    | some p =>
      obtain ⟨obj, f⟩ := p
      rw [hp] at h
      have h := Option.some.inj h
      injection h with e1 e2
      subst e1 e2
      have hmm : ¬ Mapped ρ s.nx := fun e => Nat.lt_irrefl _ (hR.lt e)
      obtain ⟨v', w', ρ', h1, h2, h3, h4, h5, h6⟩ := made_ok (hR.new obj) hF o hc hp (g := s.nx) (by rw [AS.get_new, if_pos rfl]) (Nat.lt_succ_self _) hmm
      exact ⟨v', w', ρ', h1, h2, ⟨h3, fun k hk => (h4 k hk).elim .inl fun e => .inr (by omega), fun k hk _ => by rw [AS.get_new, if_neg (by omega)], Nat.le_succ _, h6⟩, h5⟩

/-- What holds behind an operation's own doing. -/
def A1Ok (B : Nat) (ρ : Emb) (s : AS) (w : World) (a : Act) (dst : Option Nat) (K : Act → World → Prop) (Q : Exit → Act → World → Prop) : A1 → Prop
  | .val v s' => ∀ v' w' ρ', Rel B ρ' s' w' → Step B ρ s w ρ' s' w' → V ρ' v v' → K (a.put dst v') w'
  | .dfr f A Bc args => ∀ (A' B' ARGS : List Value), Vs ρ A A' → Vs ρ Bc B' → Vs ρ args ARGS → K ({ a with defers := { target := .fn (.func f) B'.toArray, args := (A' ++ ARGS).toArray } :: a.defers }.put dst undef) w
  | .pan v s' => ∀ v' w' ρ', Rel B ρ' s' w' → Step B ρ s w ρ' s' w' → V ρ' v v' → Q (.panic [{ v := v', recovered := false }]) a w'

theorem act1_ok {call : Caller} (hcall : CallOk P call) (hR : Rel B ρ s w) (hF : FrR N ρ fr a) (o : Oper) {op : AOp} (hc : compOp P o = some op) {r : A1} (h : act1 call op fr s = some r) {K : Act → World → Prop} {Q : Exit → Act → World → Prop}
    (hK : A1Ok B ρ s w a o.dst K Q r) : o.wp P a w K Q := by
  have loudly : ∀ {x : AOp}, op = x → (∀ f l, x ≠ .call f l) → (∀ f l, x ≠ .dfr f l) → (∀ y, x ≠ .pan y) → o.wp P a w K Q := by
    intro x hx h1 h2 h3
    subst hx
    have h' : (match loud fr s op with | some (v, s) => some (A1.val v s) | none => none) = some r := by
      cases op <;> first
        | exact h
        | exact absurd rfl (h1 _ _)
        | exact absurd rfl (h2 _ _)
        | exact absurd rfl (h3 _)
    cases hl : loud fr s op with
    | none => rw [hl] at h'; cases h'
    | some p =>
      obtain ⟨v, s1⟩ := p
      rw [hl] at h'
      obtain rfl := Option.some.inj h'
      unfold loud at hl
      cases hw : op.writes with
      | true =>
        rw [hw] at hl
        obtain ⟨n, v', w', ρ', g1, g2, g3, g4, g5⟩ := write_ok hR hF o hc hl
        unfold Oper.wp
        rw [g1]
        have := hK v' w' ρ' g3 g4 g5
        rcases g2 with rfl | ⟨rfl, rfl⟩ <;> exact this
      | false =>
        rw [hw] at hl
        obtain ⟨v', w', ρ', g1, g2, g3, g4⟩ := quiet_ok hR hF o hc hl
        unfold Oper.wp
        rw [g1]
        exact hK v' w' ρ' g2 g3 g4
  cases op
  case call f args =>
    obtain ⟨c, fo, ho, hcal, rfl, rfl⟩ := not_call hc _ _ rfl
    simp only [act1] at h
    have hf := hF.ev fo
    cases hq : fr.ev (compOpd fo) <;> rw [hq] at h hf <;> try (cases h; done)
    rename_i g A Bc
    simp only at h
    obtain ⟨A', B', hfo, hA, hB⟩ := hf.parts_func
    have hargs := hF.evs c.args.toList
    have hall : Vs ρ (A ++ (((c.args.toList.map compOpd).map fr.ev) ++ Bc)) (A' ++ c.args.map a.eval ++ B').toList := by
      have h1 := hA.append (hargs.append hB)
      simpa using h1
    rw [lapp_eq, lapp_eq, lmap_eq] at h
    have hexec : ∀ w : World, (execOp a.eval o).run P w = (callFunc g (A' ++ c.args.map a.eval ++ B')).run P w := by
      intro w
      unfold execOp
      rw [ho]
      simp [resolve, hcal, hfo, Deferred.ofValue, invoke]
    cases hcl : call g (A ++ (((c.args.toList.map compOpd).map fr.ev) ++ Bc)) s with
    | none => rw [hcl] at h; cases h
    | some p =>
      obtain ⟨out, s1⟩ := p
      rw [hcl] at h
      rcases hcall B ρ s w g _ _ out s1 hR hall hcl with ⟨fn, h1, h2, h3, h4⟩ | ⟨v, v', rfl, rfl, h1, h2⟩
      · unfold Oper.wp
        rw [hexec, run_callFunc h1 h2 h3, Oper.upon_enter]
        refine h4.mono fun e w' he => ?_
        obtain ⟨ρ', g1, g2, g3⟩ := he
        cases out with
        | ret v =>
          obtain ⟨v', rfl, g4⟩ := g3
          obtain rfl := Option.some.inj h
          exact hK v' w' ρ' g1 g2 g4
        | pan v =>
          obtain ⟨v', rfl, g4⟩ := g3
          obtain rfl := Option.some.inj h
          exact hK v' w' ρ' g1 g2 g4
      · obtain rfl := Option.some.inj h
        unfold Oper.wp
        rw [hexec, h1]
        exact hK v' w ρ hR (.refl _ _ _ _) h2
  case dfr f args =>
    obtain ⟨c, fo, ho, hcal, rfl, rfl⟩ := not_dfr hc _ _ rfl
    simp only [act1] at h
    have hf := hF.ev fo
    cases hq : fr.ev (compOpd fo) <;> rw [hq] at h hf <;> try (cases h; done)
    rename_i g A Bc
    obtain rfl := Option.some.inj h
    obtain ⟨A', B', hfo, hA, hB⟩ := hf.parts_func
    have hexec : (execOp a.eval o).run P w = .ok (.defer { target := .fn (.func g) B', args := A' ++ c.args.map a.eval }) w := by
      unfold execOp
      rw [ho]
      simp [resolve, hcal, hfo, Deferred.ofValue]
    unfold Oper.wp
    rw [hexec]
    have := hK A'.toList B'.toList (c.args.toList.map a.eval) hA hB (by rw [lmap_eq]; exact hF.evs _)
    have e : (A'.toList ++ c.args.toList.map a.eval).toArray = A' ++ c.args.map a.eval := by
      apply Array.ext'
      simp
    rw [e] at this
    exact this
  case pan x =>
    obtain ⟨y, ho, rfl⟩ := not_pan hc _ rfl
    simp only [act1] at h
    have hf := hF.ev y
    cases hq : fr.ev (compOpd y) <;> rw [hq] at h hf <;> try (cases h; done)
    rename_i t v
    obtain rfl := Option.some.inj h
    generalize hy : a.eval y = y' at hf
    cases hf with
    | iface _ _ v' hv =>
      have hexec : (execOp a.eval o).run P w = .halt (.panic (.iface t v')) w := by
        unfold execOp
        rw [ho]
        simp [hy, Instr.panic, goPanic]
      unfold Oper.wp
      rw [hexec]
      exact hK _ w ρ hR (.refl _ _ _ _) (.iface t v v' hv)
  all_goals exact loudly rfl (fun _ _ h => by cases h) (fun _ _ h => by cases h) (fun _ h => by cases h)
end
end Go.Avm
