/-
  Regions whose order is open: the invariant.
-/
import Derived.Test.YteoeidhcmcacbaaGreatDoorReg2
set_option linter.unusedVariables false
set_option linter.unusedSimpArgs false
namespace Go.Avm
open Go.RowKit (Below)

/-- An operation that the abstract machine has taken, and the model has not. -/
def PendOk (ρ : Emb) (n0 : Nat) (fr : Fr) (s : AS) (x : AOper) (num : Option Nat) : Prop :=
  (wanted fr x.guard = some false ∧ ∀ t, x.dst = some t → fr.get t = .tuple []) ∨
  (wanted fr x.guard = some true ∧ x.op.makes = false ∧ ∃ v, pval fr s x.op = some v ∧ ∀ t, x.dst = some t → fr.get t = v) ∨
  (wanted fr x.guard = some true ∧ x.op.makes = true ∧ ∃ obj f g, made fr x.op = some (obj, f) ∧ num = some g ∧ n0 ≤ g ∧ s.get g = some obj ∧ ¬ Mapped ρ g ∧ ∀ t, x.dst = some t → fr.get t = f g)

theorem mem_looks_op {x : AOper} {t : Nat} (h : t ∈ x.op.tmps) : t ∈ x.looks := by unfold AOper.looks; simp [h]
theorem mem_looks_guard {x : AOper} {t : Nat} {w : Bool} (h : x.guard = some (t, w)) : t ∈ x.looks := by unfold AOper.looks; simp [h]

theorem PendOk.move {ρ ρ' : Emb} {n0 : Nat} {fr fr' : Fr} {s s' : AS} {x : AOper} {num : Option Nat} (h : PendOk ρ n0 fr s x num) (hf : ∀ t ∈ x.looks, fr'.get t = fr.get t) (hd : ∀ t, x.dst = some t → fr'.get t = fr.get t)
    (hp : x.op.makes = false → wanted fr' x.guard = some true → ∀ v, pval fr s x.op = some v → (∀ t, x.dst = some t → fr'.get t = v) → ∃ v', pval fr' s' x.op = some v' ∧ ∀ t, x.dst = some t → fr'.get t = v')
    (hs : ∀ g o, num = some g → ¬ Mapped ρ g → s.get g = some o → s'.get g = some o ∧ ¬ Mapped ρ' g) : PendOk ρ' n0 fr' s' x num := by
  have hw : wanted fr' x.guard = wanted fr x.guard := wanted_cong fun t b e => hf t (mem_looks_guard e)
  rcases h with ⟨h1, h2⟩ | ⟨h1, h2, v, h3, h4⟩ | ⟨h1, h2, obj, f, g, h3, h4, h5, h6, h7, h8⟩
  · exact .inl ⟨hw ▸ h1, fun t e => by rw [hd t e]; exact h2 t e⟩
  · exact .inr (.inl ⟨hw ▸ h1, h2, hp h2 (hw ▸ h1) v h3 fun t e => by rw [hd t e]; exact h4 t e⟩)
  · obtain ⟨h9, h10⟩ := hs g obj h4 h7 h6
    exact .inr (.inr ⟨hw ▸ h1, h2, obj, f, g, by rw [made_cong fun t ht => hf t (mem_looks_op ht)]; exact h3, h4, h5, h9, h10, fun t e => by rw [hd t e]; exact h8 t e⟩)

abbrev done? (listed : Array Bool) (i : Nat) : Bool := listed.getD i false

section
variable {P : Program} {N B : Nat} {ops : Array Oper} {b : Array Nat} {L : List RI} {call : Caller} {res : Ex × Fr × AS} {ρ0 : Emb} {s0 : AS} {w0 : World}

structure St (P : Program) (N B : Nat) (ops : Array Oper) (b : Array Nat) (L : List RI) (call : Caller) (res : Ex × Fr × AS) (ρ0 : Emb) (s0 : AS) (w0 : World) (listed : Array Bool) (a : Act) (w : World)
    (done rest pre : List RI) (fr fr0 : Fr) (s : AS) (ρ : Emb) (num : Nat → Option Nat) : Prop where
  split : L = done ++ rest
  run : runOps call (rest.map (·.op)) fr s = some res
  chk : ChkOk b pre rest
  pre : ∀ x ∈ done, x.act = false → x ∈ pre
  size : listed.size = ops.size
  closed : ∀ j o, done? listed j = true → ops[j]? = some o → ∀ e ∈ o.after, Region.binds .any e = true → done? listed e.on = true
  rest : ∀ x ∈ rest, done? listed x.i = false
  acts : ∀ x ∈ done, x.act = true → done? listed x.i = true
  rel : Rel B ρ s w
  step : Step B ρ0 s0 w0 ρ s w
  frame : FrR N ρ fr0 a
  same : ∀ t, (∀ x ∈ done, done? listed x.i = false → x.op.dst ≠ some t) → fr0.get t = fr.get t
  df : fr0.df = fr.df
  pend : ∀ x ∈ done, done? listed x.i = false → PendOk ρ s0.nx fr s x.op (num x.i)
  uniq : ∀ i j g, num i = some g → num j = some g → i = j
  lt : ∀ i g, num i = some g → g < s.nx

/-- The abstract machine goes on over what does not act. -/
theorem settle (hL : LOk P N ops b L) {listed : Array Bool} {a : Act} {w : World} {fr0 : Fr} {ρ : Emb} : ∀ {rest done pre : List RI} {fr : Fr} {s : AS} {num : Nat → Option Nat},
    St P N B ops b L call res ρ0 s0 w0 listed a w done rest pre fr fr0 s ρ num →
    ∃ done' rest' pre' fr' s' num', St P N B ops b L call res ρ0 s0 w0 listed a w done' rest' pre' fr' fr0 s' ρ num' ∧ ∀ y l, rest' = y :: l → y.act = true
  | [], done, pre, fr, s, num, h => ⟨done, [], pre, fr, s, num, h, fun _ _ e => by cases e⟩
  | x :: rest, done, pre, fr, s, num, h => by
    cases hact : x.act with
    | true => exact ⟨done, x :: rest, pre, fr, s, num, h, fun y l e => by injection e with e1 _; rw [← e1]; exact hact⟩
    | false =>
      have hxL : x ∈ L := by rw [h.split]; simp
      obtain ⟨hstill, hself⟩ := okOne_ok (hL.one x hxL) hact
      have hun : done? listed x.i = false := h.rest x (by simp)
      -- nothing that lies ahead looks at what it writes
      have hfar : ∀ y ∈ done, ∀ t, x.op.dst = some t → t ∉ y.op.looks ∧ y.op.dst ≠ some t := by
        intro y hy t ht
        have hp : Pair b y x := by
          have := hL.pair
          rw [h.split, List.pairwise_append] at this
          exact this.2.2 y hy x (by simp)
        refine ⟨fun e => ?_, fun e => ?_⟩
        · have := (hp.wr t ht (.inl e)).1; rw [hact] at this; cases this
        · have := (hp.wr t ht (.inr e)).1; rw [hact] at this; cases this
      -- what the abstract machine did
      have hrun : oper call x.op (runOps call (rest.map (·.op))) fr s = some res := h.run
      have key : ∃ (v : AVal) (s' : AS) (num' : Nat → Option Nat), runOps call (rest.map (·.op)) (fr.put x.op.dst v) s' = some res ∧ (s' = s ∨ ∃ o, s' = s.new o) ∧ PendOk ρ s0.nx (fr.put x.op.dst v) s' x.op (num' x.i) ∧ (∀ y ∈ done, num' y.i = num y.i) ∧
          (∀ i j g, num' i = some g → num' j = some g → i = j) ∧ ∀ i g, num' i = some g → g < s'.nx := by
        have hput : ∀ v, ∀ t ∈ x.op.looks, (fr.put x.op.dst v).get t = fr.get t := fun v t ht => by
          rw [Fr.get_put, if_neg]
          intro e; exact hself t e ht
        rw [oper_eq] at hrun
        cases hw : wanted fr x.op.guard with
        | none => rw [hw] at hrun; cases hrun
        | some wb =>
          rw [hw] at hrun
          cases wb with
          | false =>
            refine ⟨.tuple [], s, num, hrun, .inl rfl, .inl ⟨?_, fun t e => by rw [Fr.get_put, if_pos e]⟩, fun _ _ => rfl, h.uniq, h.lt⟩
            rw [wanted_cong fun t b e => hput _ t (mem_looks_guard e)]
            exact hw
          | true =>
            simp only at hrun
            have hq : ∃ v s1, quiet fr s x.op.op = some (v, s1) ∧ act1 call x.op.op fr s = some (.val v s1) := by
              have : act1 call x.op.op fr s = match quiet fr s x.op.op with | some (v, s) => some (.val v s) | none => none := by
                generalize x.op.op = op at hstill
                cases op <;> first | rfl | (cases hstill; done)
              cases hqq : quiet fr s x.op.op with
              | none => rw [this, hqq] at hrun; cases hrun
              | some p => obtain ⟨v, s1⟩ := p; exact ⟨v, s1, rfl, by rw [this, hqq]⟩
            obtain ⟨v, s1, hq, ha⟩ := hq
            rw [ha] at hrun
            replace hrun := (bif_some hrun).2
            have hwt : wanted (fr.put x.op.dst v) x.op.guard = some true := by
              rw [wanted_cong fun t b e => hput _ t (mem_looks_guard e)]
              exact hw
            unfold quiet at hq
            cases hm : x.op.op.makes with
            | false =>
              rw [hm, cond_false] at hq
              cases hpv : pval fr s x.op.op with
              | none => rw [hpv] at hq; cases hq
              | some v1 =>
                rw [hpv] at hq
                have hq := Option.some.inj hq
                injection hq with e1 e2
                subst e1 e2
                refine ⟨v1, s, num, hrun, .inl rfl, .inr (.inl ⟨hwt, hm, v1, ?_, fun t e => by rw [Fr.get_put, if_pos e]⟩), fun _ _ => rfl, h.uniq, h.lt⟩
                rw [pval_cong fun t ht => hput _ t (mem_looks_op ht)]
                exact hpv
            | true =>
              rw [hm, cond_true] at hq
              cases hpv : made fr x.op.op with
              | none => rw [hpv] at hq; cases hq
              | some p =>
                obtain ⟨obj, f⟩ := p
                rw [hpv] at hq
                have hq := Option.some.inj hq
                injection hq with e1 e2
                subst e1 e2
                have hne : ∀ y ∈ done, y.i ≠ x.i := fun y hy e => by
                  have hE := hL.edges done x rest h.split
                  exact hE.new (List.mem_map.2 ⟨y, hy, e⟩)
                refine ⟨f s.nx, s.new obj, fun i => if i = x.i then some s.nx else num i, hrun, .inr ⟨obj, rfl⟩, .inr (.inr ⟨hwt, hm, obj, f, s.nx, ?_, if_pos rfl, h.step.nx, by rw [AS.get_new, if_pos rfl],
                  fun e => Nat.lt_irrefl _ (h.rel.lt e), fun t e => by rw [Fr.get_put, if_pos e]⟩), fun y hy => if_neg (hne y hy), fun i j g hi hj => ?_, fun i g hi => ?_⟩
                · rw [made_cong fun t ht => hput _ t (mem_looks_op ht)]
                  exact hpv
                · dsimp only at hi hj
                  by_cases e1 : i = x.i
                  · by_cases e2 : j = x.i
                    · rw [e1, e2]
                    · rw [if_pos e1] at hi; rw [if_neg e2] at hj
                      obtain rfl := Option.some.inj hi
                      exact absurd (h.lt _ _ hj) (Nat.lt_irrefl _)
                  · by_cases e2 : j = x.i
                    · rw [if_neg e1] at hi; rw [if_pos e2] at hj
                      obtain rfl := Option.some.inj hj
                      exact absurd (h.lt _ _ hi) (Nat.lt_irrefl _)
                    · rw [if_neg e1] at hi; rw [if_neg e2] at hj
                      exact h.uniq _ _ _ hi hj
                · dsimp only at hi
                  by_cases e1 : i = x.i
                  · rw [if_pos e1] at hi
                    obtain rfl := Option.some.inj hi
                    exact Nat.lt_succ_self _
                  · rw [if_neg e1] at hi
                    exact Nat.lt_succ_of_lt (h.lt _ _ hi)
      obtain ⟨v, s', num', hrun', hs', hpx, hnum, huniq', hlt'⟩ := key
      have hchk := h.chk
      unfold ChkOk at hchk
      rw [hact] at hchk
      refine settle hL (rest := rest) (done := done ++ [x]) (pre := x :: pre) (fr := fr.put x.op.dst v) (s := s') (num := num') ?_
      refine St.mk (by rw [h.split]; simp) hrun' hchk.2 ?_ h.size h.closed (fun y hy => h.rest y (by simp [hy])) ?_ ?_ ?_ h.frame ?_ (by rw [Fr.df_put]; exact h.df) ?_ huniq' hlt'
      · intro y hy hya
        rcases List.mem_append.1 hy with hy | hy
        · exact List.mem_cons_of_mem _ (h.pre y hy hya)
        · obtain rfl := List.mem_singleton.1 hy; exact List.mem_cons_self
      · intro y hy hya
        rcases List.mem_append.1 hy with hy | hy
        · exact h.acts y hy hya
        · obtain rfl := List.mem_singleton.1 hy; rw [hact] at hya; cases hya
      · rcases hs' with rfl | ⟨o, rfl⟩
        · exact h.rel
        · exact h.rel.new o
      · rcases hs' with rfl | ⟨o, rfl⟩
        · exact h.step
        · exact h.step.trans ⟨.refl _, fun _ h => .inl h, fun g hg _ => by rw [AS.get_new, if_neg (by omega)], Nat.le_succ _, .refl _ _⟩
      · intro t ht
        rw [Fr.get_put, if_neg (fun e => ht x (by simp) hun e)]
        exact h.same t fun y hy hyd => ht y (by simp [hy]) hyd
      · intro y hy hyd
        rcases List.mem_append.1 hy with hy | hy
        · rw [hnum y hy]
          have hget : ∀ t, (∀ u, x.op.dst = some u → u ≠ t) → (fr.put x.op.dst v).get t = fr.get t := fun t ht => by
            rw [Fr.get_put, if_neg]; intro e; exact ht t e rfl
          refine (h.pend y hy hyd).move (fun t ht => hget t fun u e e2 => (hfar y hy u e).1 (e2 ▸ ht)) (fun t ht => hget t fun u e e2 => (hfar y hy u e).2 (by rw [ht, e2])) (fun _ _ v1 hv1 hv2 => ⟨v1, ?_, hv2⟩) (fun g o _ hm hg => ⟨?_, hm⟩)
          · rw [pval_cong fun t ht => hget t fun u e e2 => (hfar y hy u e).1 (e2 ▸ mem_looks_op ht)]
            rcases hs' with rfl | ⟨o, rfl⟩
            · exact hv1
            · exact pval_new o hv1
          · rcases hs' with rfl | ⟨o, rfl⟩
            · exact hg
            · exact get_new_old hg
        · obtain rfl := List.mem_singleton.1 hy
          exact hpx
end
end Go.Avm
