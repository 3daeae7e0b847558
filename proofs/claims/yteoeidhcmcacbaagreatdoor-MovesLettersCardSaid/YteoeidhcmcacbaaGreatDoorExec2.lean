/-
  THE ABSTRACT MACHINE IS SOUND: code, calls.
-/
import Derived.Test.YteoeidhcmcacbaaGreatDoorExec
set_option linter.unusedVariables false
set_option linter.unusedSimpArgs false
namespace Go.Avm
open Go.RowKit (Below)

section
variable {P : Program} {tab : Nat → Option AFn}

/-- A way of running code is sound. -/
def ExecOk (P : Program) (ex : Exec) : Prop :=
  ∀ (N : Nat) (code : Code) (fr : Fr) (s : AS) (res : Ex × Fr × AS), ex (compCode P N code) fr s = some res → ∀ (B : Nat) (ρ : Emb) (w : World) (a : Act), Rel B ρ s w → FrR N ρ fr a →
    ∀ Q : Exit → Act → World → Prop, (∀ e a1 w1, ExR N B ρ s w res e a1 w1 → Q e a1 w1) → code.wp P Q a w

/-! ### calls that are deferred -/

/-- How a frame goes on to be left; r: a panic may have been recovered. -/
def MR (ρ : Emb) (r : Bool) : Mode → FrameMode → Prop
  | .ret, u => u = .returning ∨ r = true ∧ ∃ v', u = .panicking [{ v := v', recovered := true }]
  | .pan v, u => ∃ v', u = .panicking [{ v := v', recovered := false }] ∧ V ρ v v'
theorem MR.back {ρ : Emb} {v' : Value} : MR ρ true .ret (.panicking [{ v := v', recovered := true }]) := .inr ⟨rfl, v', rfl⟩
theorem MR.plain {ρ : Emb} {r : Bool} : MR ρ r .ret .returning := .inl rfl
theorem MR.raised {ρ : Emb} {r : Bool} {v : AVal} {v' : Value} (h : V ρ v v') : MR ρ r (.pan v) (.panicking [{ v := v', recovered := false }]) := ⟨v', rfl, h⟩
theorem MR.mono {ρ ρ' : Emb} (e : Ext ρ ρ') {r : Bool} {m : Mode} {u : FrameMode} (h : MR ρ r m u) : MR ρ' r m u := by
  cases m with
  | ret => exact h
  | pan v => obtain ⟨v', h1, h2⟩ := h; exact ⟨v', h1, h2.mono e⟩
theorem MR.settle {ρ : Emb} {r : Bool} {m : Mode} {u : FrameMode} (h : MR ρ r m u) : MR ρ false m (Go.settle u) := by
  cases m with
  | ret =>
    rcases h with rfl | ⟨_, v', rfl⟩
    · exact .inl rfl
    · exact .inl rfl
  | pan v => obtain ⟨v', rfl, h2⟩ := h; exact ⟨v', rfl, h2⟩
theorem MR.run {ρ : Emb} {r : Bool} {m : Mode} {u : FrameMode} (h : MR ρ r m u) : u ≠ .run := by
  cases m with
  | ret => rcases h with rfl | ⟨_, v', rfl⟩ <;> exact fun e => by cases e
  | pan v => obtain ⟨v', rfl, _⟩ := h; exact fun e => by cases e

theorem recov_exec {o : Oper} (h : compOp P o = some .recov) (a : Act) (w : World) : (execOp a.eval o).run P w = .ok .recover w := by
  obtain ⟨dst, oo, ty, pos, after, guard⟩ := o
  cases oo
  case call c =>
    obtain ⟨callee, cargs, ats⟩ := c
    simp only [compOp] at h
    cases callee with
    | value fo => simp only [compCall] at h; cases h
    | invoke r m => simp only [compCall] at h; cases h
    | builtin b =>
      cases b <;> simp only [compCall] at h <;> first
        | rfl
        | (cases h; done)
        | (exfalso; repeat' (first | (cases h; done) | split at h))
  case makeFunc f x y =>
    exfalso
    cases f <;> simp only [compOp] at h <;> cases h
  case makeMap t r =>
    exfalso
    cases r <;> simp only [compOp] at h <;> cases h
  all_goals
    (exfalso
     unfold compOp at h
     try dsimp only at h
     repeat' (first
       | (cases h; done)
       | (rw [Option.map_eq_some_iff] at h; obtain ⟨_, _, h⟩ := h; cases h; done)
       | split at h
       | (rw [Option.bind_eq_some_iff] at h; obtain ⟨_, _, h⟩ := h; try dsimp only at h)))

theorem recOps_cons (o : AOper) (l : List AOper) (m : Mode) (fr : Fr) (s : AS) : recOps (o :: l) m fr s =
    match o.guard with
    | some _ => none
    | none =>
      match o.op with
      | .recov => match m with
        | .ret => recOps l .ret (fr.put o.dst .niliface) s
        | .pan v => recOps l .ret (fr.put o.dst v) s
      | op => match quiet fr s op with
        | some (v, s) => recOps l m (fr.put o.dst v) s
        | none => none := rfl

/-- A deferred function's first region. -/
theorem rec_ok {N B : Nat} {ops : Array Oper} {Q : Exit → Act → List Frame → World → Prop} {c₀ : Frame} {cs : List Frame} {m' : Mode} {fr' : Fr} {s' : AS} {ρ0 : Emb} {s0 : AS} {w0 : World}
    (hQ : ∀ ρ' a' w' u', Rel B ρ' s' w' → Step B ρ0 s0 w0 ρ' s' w' → FrR N ρ' fr' a' → MR ρ' true m' u' → Q .normal a' ({ c₀ with mode := u' } :: cs) w') :
    ∀ {l : List Nat} {L : List AOper} {ρ : Emb} {s : AS} {w : World} {fr : Fr} {a : Act} {m : Mode} {u : FrameMode}, lin P N ops l = some L → Rel B ρ s w → Step B ρ0 s0 w0 ρ s w → FrR N ρ fr a → MR ρ true m u → recOps L m fr s = some (m', fr', s') →
      wpOpsS P ops Q l a ({ c₀ with mode := u } :: cs) w
  | [], L, ρ, s, w, fr, a, m, u, hl, hR, hS, hF, hM, h => by
    obtain rfl := Option.some.inj hl
    have h := Option.some.inj h
    injection h with e1 h
    injection h with e2 e3
    subst e1 e2 e3
    exact hQ ρ a w u hR hS hF hM
  | i :: l, L, ρ, s, w, fr, a, m, u, hl, hR, hS, hF, hM, h => by
    unfold lin at hl
    split at hl
    · rename_i x r h1 h2
      obtain rfl := Option.some.inj hl
      obtain ⟨o, ho, hx, _⟩ := opAt_inv h1
      rw [recOps_cons] at h
      cases hg : x.guard with
      | some p => rw [hg] at h; cases h
      | none =>
        rw [hg] at h
        simp only at h
        have hw : Region.wanted o (yielded ops a.tmps) = true := wanted_ok hF hx.guard (by rw [hg]; rfl)
        simp only [wpOpsS, ho, hw, if_true]
        by_cases hrec : x.op = .recov
        · rw [recov_exec (hrec ▸ hx.op)]
          rw [hrec] at h
          simp only at h
          cases m with
          | ret =>
            simp only at h
            have hnone : recoverD ({ c₀ with mode := u } :: cs) = none := by
              rcases hM with rfl | ⟨_, v', rfl⟩ <;> rfl
            simp only [hnone]
            refine rec_ok hQ h2 hR hS ?_ hM h
            rw [← hx.dst]
            exact hF.put hx.lt .niliface
          | pan v =>
            simp only at h
            obtain ⟨v', rfl, hv⟩ := hM
            have hsome : recoverD ({ c₀ with mode := .panicking [{ v := v', recovered := false }] } :: cs) = some (v', { c₀ with mode := .panicking [{ v := v', recovered := true }] } :: cs) := rfl
            simp only [hsome]
            refine rec_ok hQ h2 hR hS ?_ .back h
            rw [← hx.dst]
            exact hF.put hx.lt hv
        · have h' : (match quiet fr s x.op with | some (v, s) => recOps r m (fr.put x.dst v) s | none => none) = some (m', fr', s') := by
            generalize x.op = op at h hrec
            cases op <;> first | exact absurd rfl hrec | exact h
          cases hq : quiet fr s x.op with
          | none => rw [hq] at h'; cases h'
          | some p =>
            obtain ⟨v, s1⟩ := p
            rw [hq] at h'
            simp only at h'
            obtain ⟨v', w', ρ', g1, g2, g3, g4⟩ := quiet_ok hR hF o hx.op hq
            rw [g1]
            simp only [Oper.upon_value]
            refine rec_ok hQ h2 g2 (hS.trans g3) ?_ (hM.mono g3.ext) h'
            rw [← hx.dst]
            exact (hF.mono g3.ext).put hx.lt g4
    · cases hl

/-- A deferred call. -/
theorem deferred_ok (hT : TabOk P tab) {ex : Exec} (hex : ExecOk P ex) {B : Nat} {ρ : Emb} {s : AS} {w : World} {f : Nat} {args : List AVal} {ARGS : Array Value} {m m' : Mode} {s' : AS} {u : FrameMode} (hR : Rel B ρ s w) (hA : Vs ρ args ARGS.toList) (hM : MR ρ false m u)
    (h : deferred tab ex m f args s = some (m', s')) :
    (∃ fn, P.funcs[f]? = some fn ∧ fn.name ≠ "runtime.NumGoroutine" ∧ fn.body.isNone = false) ∧
    CallsD P f ARGS u w fun e u' w' => (∃ v, e = .returned v) ∧ ∃ ρ', Rel B ρ' s' w' ∧ Step B ρ s w ρ' s' w' ∧ MR ρ' true m' u' := by
  unfold deferred at h
  split at h
  · rename_i ops c hf
    obtain ⟨F, code, h1, h2, h3, h4, h5⟩ := hT.fn f _ _ hf
    refine ⟨⟨F, h1, h2, by rw [h3]; rfl⟩, ?_⟩
    cases hrec : recOps ops m (enter args) s with
    | none => rw [hrec] at h; cases h
    | some p =>
      obtain ⟨m1, fr1, s1⟩ := p
      rw [hrec] at h
      simp only at h
      cases code <;> simp only [compCode] at h4 <;> try (cases h4; done)
      · split at h4
        · split at h4 <;> cases h4
        · cases h4
      · rename_i x y
        injection h4 with h6 h7
        cases x <;> simp only [compCode] at h6 <;> try (cases h6; done)
        rename_i id oops draw
        cases hcr : compRegion P F.ntmps oops draw with
        | none => rw [hcr] at h6; cases h6
        | some L =>
          rw [hcr] at h6
          simp only at h6
          cases draw with
          | true => simp at h6
          | false =>
            split at h6
            · injection h6 with h6
              subst h6
              have hlin : lin P F.ntmps oops (List.range oops.size) = some ops := hcr
              refine callsD_of_wpS h1 h3 fun c₀ cs hc₀ => wpS_seq (wpS_region ?_)
              have hc : c₀ = { c₀ with mode := u } := by subst hc₀; rfl
              rw [hc]
              refine rec_ok (ρ0 := ρ) (s0 := s) (w0 := w) (m' := m1) (fr' := fr1) (s' := s1) ?_ hlin hR (.refl _ _ _ _) (enter_ok hA F.ntmps) (?_ : MR ρ true m u) hrec
              · intro ρ1 a1 w1 u1 g1 g2 g3 g4
                show Code.wpS P y _ a1 _ w1
                refine wpS_of_wp ?_
                cases hx : ex c fr1 s1 with
                | none => rw [hx] at h; cases h
                | some res =>
                  obtain ⟨e1, fr2, s2⟩ := res
                  rw [hx] at h
                  subst h7
                  refine hex F.ntmps y fr1 s1 _ hx B ρ1 w1 a1 g1 g3 _ fun e a2 w2 he => ?_
                  obtain ⟨ρ2, k1, k2, k3, k4⟩ := he
                  have hres : ∀ vs, (Go.results F a2.tmps).run P w2 = .ok vs w2 → True := fun _ _ => trivial
                  have hfin : (e1 = .nrm ∨ e1 = .ret) → fr2.df = [] → m1 = m' → s2 = s' → (a2.defers = [] ∧ ∃ u', ({ ({ c₀ with mode := u } : Frame) with mode := u1 } :: cs : List Frame) = { ({ c₀ with mode := u } : Frame) with mode := u' } :: cs ∧
                      ∃ v, (Go.results F a2.tmps).run P w2 = .ok v w2 ∧ ((∃ v', Ending.returned v = .returned v') ∧ ∃ ρ', Rel B ρ' s' w2 ∧ Step B ρ s w ρ' s' w2 ∧ MR ρ' true m' u')) := by
                    intro _ hdf hm hs
                    subst hm hs
                    have hds := k3.df
                    rw [show (e1, fr2, s2).2.1 = fr2 from rfl, hdf] at hds
                    have hdn : a2.defers = [] := by cases hq : a2.defers with
                      | nil => rfl
                      | cons d l => rw [hq] at hds; cases hds
                    obtain ⟨v', r1, r2⟩ := results_ok (F := F) k1 k3 h5 (v := .tuple []) rfl
                    exact ⟨hdn, u1, rfl, v', r1, ⟨v', rfl⟩, ρ2, k1, g2.trans k2, g4.mono k2.ext⟩
                  cases e1 with
                  | nrm =>
                    simp only at h k4
                    subst k4
                    cases hdf : fr2.df with
                    | nil => rw [hdf] at h; have h := Option.some.inj h; injection h with q1 q2; exact hfin (.inl rfl) hdf q1 q2
                    | cons => rw [hdf] at h; cases h
                  | ret =>
                    simp only at h k4
                    subst k4
                    cases hdf : fr2.df with
                    | nil => rw [hdf] at h; have h := Option.some.inj h; injection h with q1 q2; exact hfin (.inr rfl) hdf q1 q2
                    | cons => rw [hdf] at h; cases h
                  | exit i => cases h
                  | pan v => cases h
              · cases m with
                | ret => rcases hM with rfl | ⟨e, _⟩
                         · exact .inl rfl
                         · cases e
                | pan v => exact hM
            · cases h6
  · cases h

theorem leave_cons (ex : Exec) (rs : List ARes) (fr : Fr) (d : AVal × List AVal) (ds : List (AVal × List AVal)) (m : Mode) (s : AS) : leave tab ex rs fr (d :: ds) m s =
    match d with
    | (.func f a b, args) => match deferred tab ex m f (lapp a (lapp args b)) s with
      | some (m, s) => leave tab ex rs fr ds m s
      | none => none
    | _ => none := by
  obtain ⟨f, args⟩ := d
  cases f <;> rfl

theorem leave_ok (hT : TabOk P tab) {ex : Exec} (hex : ExecOk P ex) {N B : Nat} {F : Func} {rs : List ARes} (hrs : F.results.toList.mapM (compRes P) = some rs) {fr : Fr} {tmps : Array Value} {out : Out} {s' : AS} {ρ0 : Emb} {s0 : AS} {w0 : World} :
    ∀ {ds : List (AVal × List AVal)} {DS : List Deferred} {ρ : Emb} {s : AS} {w : World} {m : Mode} {u : FrameMode}, Rel B ρ s w → Step B ρ0 s0 w0 ρ s w → (∃ D0, FrR N ρ { fr with df := [] } { tmps := tmps, defers := D0 }) → Ds ρ ds DS → MR ρ false m u →
      leave tab ex rs fr ds m s = some (out, s') → Leaves P F tmps (OutOk B ρ0 s0 w0 out s') DS u w := by
  intro ds
  induction ds with
  | nil =>
    intro DS ρ s w m u hR hS hF hD hM h
    cases hD
    obtain ⟨D0, hF⟩ := hF
    cases m with
    | ret =>
      have h' : (match results rs fr s with | some v => some (Out.ret v, s) | none => none) = some (out, s') := h
      rcases hM with rfl | ⟨e, _⟩
      · cases hv : results rs fr s with
        | none => rw [hv] at h'; cases h'
        | some v =>
          rw [hv] at h'
          have h' := Option.some.inj h'
          injection h' with q1 q2
          subst q1 q2
          have hv' : results rs { fr with df := [] } s = some v := hv
          obtain ⟨v', r1, r2⟩ := results_ok hR hF hrs hv'
          exact ⟨v', r1, ρ, hR, hS, v', rfl, r2⟩
      · cases e
    | pan v =>
      have h' : some (Out.pan v, s) = some (out, s') := h
      have h' := Option.some.inj h'
      injection h' with q1 q2
      subst q1 q2
      obtain ⟨v', rfl, hv⟩ := hM
      exact ⟨ρ, hR, hS, v', rfl, hv⟩
  | cons d ds ih =>
    intro DS ρ s w m u hR hS hF hD hM h
    rw [leave_cons] at h
    cases hD with
    | @cons f A Bc args A' B' ARGS _ L hA hB hG t =>
      simp only at h
      cases hd : deferred tab ex m f (lapp A (lapp args Bc)) s with
      | none => rw [hd] at h; cases h
      | some p =>
        obtain ⟨m1, s1⟩ := p
        rw [hd] at h
        simp only at h
        have hall : Vs ρ (lapp A (lapp args Bc)) ((A' ++ ARGS).toArray ++ B'.toArray).toList := by
          rw [lapp_eq, lapp_eq]
          simpa using hA.append (hG.append hB)
        obtain ⟨⟨fn, f1, f2, f3⟩, hcd⟩ := deferred_ok hT hex hR hall hM hd
        refine leaves_cons hM.run (by show (callFunc f _).run P w = _; exact run_callFunc f1 f2 f3 _) (hcd.mono fun e u' w' he => ?_)
        obtain ⟨⟨v, rfl⟩, ρ1, k1, k2, k3⟩ := he
        obtain ⟨D0, hF⟩ := hF
        exact ih k1 (hS.trans k2) ⟨D0, hF.mono k2.ext⟩ (t.mono k2.ext) k3.settle h

/-- Calls are sound if code is. -/
theorem callW_ok (hT : TabOk P tab) {ex : Exec} (hex : ExecOk P ex) : CallOk P (callW tab ex) := by
  intro B ρ s w f args ARGS out s' hR hA h
  unfold callW at h
  split at h
  · rename_i hf
    right
    obtain ⟨F, h1, h2, h3, h4, h5⟩ := hT.ib f hf
    split at h
    · rename_i b c
      obtain ⟨hc, h⟩ := bif_some h
      injection h with h
      injection h with q1 q2
      subst q1 q2
      obtain ⟨l⟩ := ARGS
      match l, hA with
      | [x, y], .cons hx (.cons hy .nil) =>
        cases hx with
        | str _ b' hb =>
          cases hy
          exact ⟨_, _, rfl, rfl, indexByte_ok h1 h2 h3 h4 h5 hb (blt_iff.1 hc) w, .int _ _⟩
    · cases h
  · rename_i g hf
    exact .inl (hT.orc f g hf B ρ s w args ARGS out s' hR hA h)
  · rename_i body rs hf
    left
    obtain ⟨F, code, h1, h2, h3, rfl, h5⟩ := hT.fn f _ _ hf
    refine ⟨F, h1, h2, by rw [h3]; rfl, calls_of_wp_defers h1 h3 ?_⟩
    cases hx : ex (compCode P F.ntmps code) (enter args) s with
    | none => rw [hx] at h; cases h
    | some res =>
      rw [hx] at h
      refine hex F.ntmps code (enter args) s res hx B ρ w _ hR (enter_ok hA F.ntmps) _ fun e a1 w1 he => ?_
      obtain ⟨ρ1, k1, k2, k3, k4⟩ := he
      obtain ⟨e1, fr1, s1⟩ := res
      have hF0 : ∃ D0, FrR F.ntmps ρ1 { fr1 with df := [] } { tmps := a1.tmps, defers := D0 } := ⟨[], k3.size, k3.tm, .nil⟩
      cases e1 with
      | nrm =>
        simp only at h k4
        subst k4
        exact leave_ok hT hex h5 k1 k2 hF0 k3.df .plain h
      | ret =>
        simp only at h k4
        subst k4
        exact leave_ok hT hex h5 k1 k2 hF0 k3.df .plain h
      | pan v =>
        simp only at h k4
        obtain ⟨v', rfl, hv⟩ := k4
        exact leave_ok hT hex h5 k1 k2 hF0 k3.df (.raised hv) h
      | exit i => cases h
  · cases h
end
end Go.Avm
