/-
  Runs without a count of rounds: what code comes to, and the rules by which it is walked.
-/
import Derived.Test.YteoeidhcmcacbaaGreatDoorUse
set_option linter.unusedVariables false
set_option linter.unusedSimpArgs false
namespace Go.Avm

/-! ### more rounds give the same answer -/
def CLe (c d : Caller) : Prop := ∀ f a s r, c f a s = some r → d f a s = some r
def ELe (x y : Exec) : Prop := ∀ c fr s r, x c fr s = some r → y c fr s = some r

theorem oper_mono {c d : Caller} (h : CLe c d) {o : AOper} {nx ny : Fr → AS → Res} (hn : ∀ fr s r, nx fr s = some r → ny fr s = some r) {fr : Fr} {s : AS} {r : Ex × Fr × AS}
    (e : oper c o nx fr s = some r) : oper d o ny fr s = some r := by
  unfold oper at e ⊢
  cases hw : wanted fr o.guard with
  | none => rw [hw] at e; cases e
  | some b =>
    rw [hw] at e
    cases b with
    | false => exact hn _ _ _ e
    | true =>
      simp only at e ⊢
      generalize o.op = op at e ⊢
      cases op
      case call f args =>
        simp only at e ⊢
        generalize fr.ev f = fv at e ⊢
        cases fv <;> simp only at e ⊢ <;> try (cases e; done)
        rename_i g a b
        cases hc : c g (lapp a (lapp (lmap fr.ev args) b)) s with
        | none => rw [hc] at e; cases e
        | some p =>
          obtain ⟨out, s1⟩ := p
          rw [hc] at e
          rw [h _ _ _ _ hc]
          cases out with
          | ret v =>
            simp only at e ⊢
            cases hl : looks (fr.put o.dst v) s1 o.chk with
            | false => rw [hl] at e; cases e
            | true => rw [hl] at e; exact hn _ _ _ e
          | pan v => exact e
      case dfr f args =>
        simp only at e ⊢
        generalize fr.ev f = fv at e ⊢
        cases fv <;> simp only at e ⊢ <;> try (cases e; done)
        exact hn _ _ _ e
      case pan x => exact e
      all_goals
        simp only at e ⊢
        split at e
        · rename_i v s1 hl
          cases hk : looks (fr.put o.dst v) s1 o.chk with
          | false => rw [hk] at e; cases e
          | true => rw [hk] at e; exact hn _ _ _ e
        · cases e

theorem runOps_cons (c : Caller) (o : AOper) (l : List AOper) (fr : Fr) (s : AS) : runOps c (o :: l) fr s = oper c o (runOps c l) fr s := rfl
theorem runOps_mono {c d : Caller} (h : CLe c d) : ∀ {l : List AOper} {fr : Fr} {s : AS} {r : Ex × Fr × AS}, runOps c l fr s = some r → runOps d l fr s = some r
  | [], _, _, _, e => e
  | o :: l, fr, s, r, e => by
    rw [runOps_cons] at e ⊢
    exact oper_mono h (fun fr s r e => runOps_mono h e) e

section
variable {tab : Nat → Option AFn}
theorem deferred_mono {x y : Exec} (h : ELe x y) {m : Mode} {f : Nat} {args : List AVal} {s : AS} {r : Mode × AS} (e : deferred tab x m f args s = some r) : deferred tab y m f args s = some r := by
  unfold deferred at e ⊢
  split at e
  · rename_i ops c hf
    cases hr : recOps ops m (enter args) s with
    | none => rw [hr] at e; cases e
    | some p =>
      obtain ⟨m1, fr1, s1⟩ := p
      rw [hr] at e
      simp only at e ⊢
      cases hx : x c fr1 s1 with
      | none => rw [hx] at e; cases e
      | some q => rw [hx] at e; rw [h _ _ _ _ hx]; exact e
  · cases e
theorem leave_mono {x y : Exec} (h : ELe x y) (rs : List ARes) (fr : Fr) : ∀ {ds : List (AVal × List AVal)} {m : Mode} {s : AS} {r : Out × AS}, leave tab x rs fr ds m s = some r → leave tab y rs fr ds m s = some r
  | [], _, _, _, e => e
  | d :: ds, m, s, r, e => by
    rw [leave_cons] at e ⊢
    obtain ⟨f, args⟩ := d
    cases f <;> simp only at e ⊢ <;> try (cases e; done)
    rename_i g a b
    cases hd : deferred tab x m g (lapp a (lapp args b)) s with
    | none => rw [hd] at e; cases e
    | some p => rw [hd] at e; rw [deferred_mono h hd]; exact leave_mono h rs fr e
theorem callW_mono {x y : Exec} (h : ELe x y) : CLe (callW tab x) (callW tab y) := by
  intro f a s r e
  unfold callW at e ⊢
  split at e
  · exact e
  · exact e
  · rename_i body rs hf
    cases hx : x body (enter a) s with
    | none => rw [hx] at e; cases e
    | some q =>
      obtain ⟨e1, fr1, s1⟩ := q
      rw [hx] at e
      rw [h _ _ _ _ hx]
      cases e1 <;> simp only at e ⊢
      · exact leave_mono h _ _ e
      · cases e
      · exact leave_mono h _ _ e
      · exact leave_mono h _ _ e
  · cases e
theorem step_mono {x y : Exec} (h : ELe x y) : ELe (step tab x) (step tab y) := by
  intro c fr s r e
  cases c <;> simp only [step] at e ⊢
  case skip => exact e
  case reg => exact runOps_mono (callW_mono h) e
  case seq a b =>
    cases hx : x a fr s with
    | none => rw [hx] at e; cases e
    | some q =>
      obtain ⟨e1, fr1, s1⟩ := q
      rw [hx] at e
      rw [h _ _ _ _ hx]
      cases e1 <;> simp only at e ⊢
      · exact h _ _ _ _ e
      · exact e
      · exact e
      · exact e
  case cond c a b =>
    generalize fr.ev c = v at e ⊢
    cases v <;> simp only at e ⊢ <;> try (cases e; done)
    rename_i t
    cases t
    · exact h _ _ _ _ e
    · exact h _ _ _ _ e
  case block id c =>
    cases hx : x c fr s with
    | none => rw [hx] at e; cases e
    | some q =>
      rw [hx] at e
      rw [h _ _ _ _ hx]
      exact e
  case loop c =>
    cases hx : x c fr s with
    | none => rw [hx] at e; cases e
    | some q =>
      obtain ⟨e1, fr1, s1⟩ := q
      rw [hx] at e
      rw [h _ _ _ _ hx]
      cases e1 <;> simp only at e ⊢
      · exact h _ _ _ _ e
      · exact e
      · exact e
      · exact e
  case exit => exact e
  case ret => exact e
  all_goals cases e
theorem exec_mono1 : ∀ n, ELe (exec tab n) (exec tab (n + 1))
  | 0, _, _, _, _, e => by cases e
  | n + 1, c, fr, s, r, e => by
    rw [exec_succ] at e ⊢
    exact step_mono (exec_mono1 n) c fr s r e
theorem exec_mono {n m : Nat} (h : n ≤ m) : ELe (exec tab n) (exec tab m) := by
  induction h with
  | refl => exact fun _ _ _ _ e => e
  | step _ ih => exact fun c fr s r e => exec_mono1 _ c fr s r (ih c fr s r e)
theorem call_mono {n m : Nat} (h : n ≤ m) : CLe (call tab n) (call tab m) := callW_mono (exec_mono h)

/-! ### what code comes to -/
/-- Code comes to something of which Q holds. -/
def Wp (tab : Nat → Option AFn) (c : AC) (fr : Fr) (s : AS) (Q : Ex → Fr → AS → Prop) : Prop := ∃ n e fr' s', exec tab n c fr s = some (e, fr', s') ∧ Q e fr' s'
/-- So do operations, .. -/
def Ow (tab : Nat → Option AFn) (l : List AOper) (fr : Fr) (s : AS) (Q : Ex → Fr → AS → Prop) : Prop := ∃ n e fr' s', runOps (call tab n) l fr s = some (e, fr', s') ∧ Q e fr' s'
/-- .. and calls. -/
def Cw (tab : Nat → Option AFn) (f : Nat) (args : List AVal) (s : AS) (Q : AVal → AS → Prop) : Prop := ∃ n v s', call tab n f args s = some (.ret v, s') ∧ Q v s'

variable {Q Q' : Ex → Fr → AS → Prop} {fr : Fr} {s : AS}

theorem Wp.mono {c : AC} (h : Wp tab c fr s Q) (hQ : ∀ e fr s, Q e fr s → Q' e fr s) : Wp tab c fr s Q' := by
  obtain ⟨n, e, fr', s', h1, h2⟩ := h
  exact ⟨n, e, fr', s', h1, hQ _ _ _ h2⟩
theorem Ow.mono {l : List AOper} (h : Ow tab l fr s Q) (hQ : ∀ e fr s, Q e fr s → Q' e fr s) : Ow tab l fr s Q' := by
  obtain ⟨n, e, fr', s', h1, h2⟩ := h
  exact ⟨n, e, fr', s', h1, hQ _ _ _ h2⟩
theorem Cw.mono {f : Nat} {args : List AVal} {R R' : AVal → AS → Prop} (h : Cw tab f args s R) (hQ : ∀ v s, R v s → R' v s) : Cw tab f args s R' := by
  obtain ⟨n, v, s', h1, h2⟩ := h
  exact ⟨n, v, s', h1, hQ _ _ h2⟩

theorem aw_skip (h : Q .nrm fr s) : Wp tab .skip fr s Q := ⟨1, _, _, _, rfl, h⟩
theorem aw_exit {i : Nat} (h : Q (.exit i) fr s) : Wp tab (.exit i) fr s Q := ⟨1, _, _, _, rfl, h⟩
theorem aw_ret (h : Q .ret fr s) : Wp tab .ret fr s Q := ⟨1, _, _, _, rfl, h⟩
theorem aw_reg {l : List AOper} (h : Ow tab l fr s Q) : Wp tab (.reg l) fr s Q := by
  obtain ⟨n, e, fr', s', h1, h2⟩ := h
  exact ⟨n + 1, e, fr', s', h1, h2⟩
/-- What follows in a row. -/
def Then (tab : Nat → Option AFn) (b : AC) (Q : Ex → Fr → AS → Prop) : Ex → Fr → AS → Prop
  | .nrm, fr, s => Wp tab b fr s Q
  | e, fr, s => Q e fr s
theorem aw_seq {a b : AC} (h : Wp tab a fr s (Then tab b Q)) : Wp tab (.seq a b) fr s Q := by
  obtain ⟨n, e, fr1, s1, h1, h2⟩ := h
  cases e with
  | nrm =>
    obtain ⟨m, e2, fr2, s2, h3, h4⟩ := h2
    refine ⟨max n m + 1, e2, fr2, s2, ?_, h4⟩
    rw [exec_succ]
    simp only [step]
    rw [exec_mono (Nat.le_max_left n m) _ _ _ _ h1]
    exact exec_mono (Nat.le_max_right n m) _ _ _ _ h3
  | exit i => exact ⟨n + 1, _, _, _, by rw [exec_succ]; simp only [step]; rw [h1], h2⟩
  | ret => exact ⟨n + 1, _, _, _, by rw [exec_succ]; simp only [step]; rw [h1], h2⟩
  | pan v => exact ⟨n + 1, _, _, _, by rw [exec_succ]; simp only [step]; rw [h1], h2⟩
theorem aw_cond {c : Opd} {a b : AC} {t : Bool} (hc : fr.ev c = .bool t) (h : if t = true then Wp tab a fr s Q else Wp tab b fr s Q) : Wp tab (.cond c a b) fr s Q := by
  cases t with
  | true =>
    obtain ⟨n, e, fr1, s1, h1, h2⟩ := h
    exact ⟨n + 1, e, fr1, s1, by rw [exec_succ]; simp only [step]; rw [hc]; exact h1, h2⟩
  | false =>
    rw [if_neg (by simp)] at h
    obtain ⟨n, e, fr1, s1, h1, h2⟩ := h
    exact ⟨n + 1, e, fr1, s1, by rw [exec_succ]; simp only [step]; rw [hc]; exact h1, h2⟩
/-- What follows a block. -/
def Out.of (id : Nat) (Q : Ex → Fr → AS → Prop) : Ex → Fr → AS → Prop
  | .exit i, fr, s => if i = id then Q .nrm fr s else Q (.exit i) fr s
  | e, fr, s => Q e fr s
theorem aw_block {id : Nat} {c : AC} (h : Wp tab c fr s (Out.of id Q)) : Wp tab (.block id c) fr s Q := by
  obtain ⟨n, e, fr1, s1, h1, h2⟩ := h
  cases e with
  | exit i =>
    simp only [Out.of] at h2
    by_cases e : i = id
    · rw [if_pos e] at h2
      exact ⟨n + 1, .nrm, fr1, s1, by rw [exec_succ]; simp only [step]; rw [h1]; simp only; rw [beqN_iff.2 e]; rfl, h2⟩
    · rw [if_neg e] at h2
      refine ⟨n + 1, .exit i, fr1, s1, ?_, h2⟩
      rw [exec_succ]; simp only [step]; rw [h1]; simp only
      rw [show Nat.beq i id = false from Bool.eq_false_iff.2 (fun h => e (beqN_iff.1 h))]; rfl
  | nrm => exact ⟨n + 1, _, _, _, by rw [exec_succ]; simp only [step]; rw [h1], h2⟩
  | ret => exact ⟨n + 1, _, _, _, by rw [exec_succ]; simp only [step]; rw [h1], h2⟩
  | pan v => exact ⟨n + 1, _, _, _, by rw [exec_succ]; simp only [step]; rw [h1], h2⟩
/-- One round of a loop. -/
theorem aw_loop_step {c : AC} (h : Wp tab c fr s (Then tab (.loop c) Q)) : Wp tab (.loop c) fr s Q := by
  obtain ⟨n, e, fr1, s1, h1, h2⟩ := h
  cases e with
  | nrm =>
    obtain ⟨m, e2, fr2, s2, h3, h4⟩ := h2
    refine ⟨max n m + 1, e2, fr2, s2, ?_, h4⟩
    rw [exec_succ]
    simp only [step]
    rw [exec_mono (Nat.le_max_left n m) _ _ _ _ h1]
    exact exec_mono (Nat.le_max_right n m) _ _ _ _ h3
  | exit i => exact ⟨n + 1, _, _, _, by rw [exec_succ]; simp only [step]; rw [h1], h2⟩
  | ret => exact ⟨n + 1, _, _, _, by rw [exec_succ]; simp only [step]; rw [h1], h2⟩
  | pan v => exact ⟨n + 1, _, _, _, by rw [exec_succ]; simp only [step]; rw [h1], h2⟩
/-- A loop with an invariant and a measure. -/
theorem aw_loop {c : AC} (I : Nat → Fr → AS → Prop) (hI : ∀ k fr s, I k fr s → Wp tab c fr s fun e fr s => match e with | .nrm => ∃ j, j < k ∧ I j fr s | e => Q e fr s) :
    ∀ {k : Nat} {fr : Fr} {s : AS}, I k fr s → Wp tab (.loop c) fr s Q := by
  intro k
  induction k using Nat.strongRecOn with
  | _ k ih =>
    intro fr s h
    refine aw_loop_step ((hI k fr s h).mono fun e fr s h => ?_)
    cases e with
    | nrm => obtain ⟨j, hj, h⟩ := h; exact ih j hj h
    | exit => exact h
    | ret => exact h
    | pan => exact h

/-! ### operations -/
theorem ow_nil (h : Q .nrm fr s) : Ow tab [] fr s Q := ⟨0, _, _, _, rfl, h⟩
theorem loud_oper {c : Caller} {o : AOper} {nx : Fr → AS → Res} {v : AVal} {s' : AS} (hg : wanted fr o.guard = some true) (h : loud fr s o.op = some (v, s')) (hk : looks (fr.put o.dst v) s' o.chk = true) : oper c o nx fr s = nx (fr.put o.dst v) s' := by
  unfold oper
  rw [hg]
  simp only
  generalize hop : o.op = op at h ⊢
  cases op
  case call f args => cases h
  case dfr f args => cases h
  case pan x => cases h
  all_goals
    simp only
    rw [h]
    simp only
    rw [hk]
    rfl
theorem ow_loud {o : AOper} {l : List AOper} {v : AVal} {s' : AS} (h : loud fr s o.op = some (v, s')) (hg : wanted fr o.guard = some true) (hk : looks (fr.put o.dst v) s' o.chk = true) (k : Ow tab l (fr.put o.dst v) s' Q) : Ow tab (o :: l) fr s Q := by
  obtain ⟨n, e, fr1, s1, h1, h2⟩ := k
  exact ⟨n, e, fr1, s1, by rw [runOps_cons, loud_oper hg h hk]; exact h1, h2⟩
theorem ow_skip {o : AOper} {l : List AOper} (hg : wanted fr o.guard = some false) (k : Ow tab l (fr.put o.dst (.tuple [])) s Q) : Ow tab (o :: l) fr s Q := by
  obtain ⟨n, e, fr1, s1, h1, h2⟩ := k
  exact ⟨n, e, fr1, s1, by rw [runOps_cons]; unfold oper; rw [hg]; exact h1, h2⟩
theorem ow_call {o : AOper} {l : List AOper} {f : Opd} {args : List Opd} {g : Nat} {a b : List AVal} (ho : o.op = .call f args) (hf : fr.ev f = .func g a b) (hg : wanted fr o.guard = some true)
    (k : Cw tab g (a ++ (args.map fr.ev ++ b)) s fun v s' => looks (fr.put o.dst v) s' o.chk = true ∧ Ow tab l (fr.put o.dst v) s' Q) : Ow tab (o :: l) fr s Q := by
  obtain ⟨n, v, s1, h1, hk, m, e, fr2, s2, h2, h3⟩ := k
  refine ⟨max n m, e, fr2, s2, ?_, h3⟩
  rw [runOps_cons]
  unfold oper
  rw [hg, ho]
  simp only
  rw [hf]
  simp only [lapp_eq, lmap_eq]
  rw [call_mono (Nat.le_max_left n m) _ _ _ _ h1]
  simp only
  rw [hk]
  exact runOps_mono (call_mono (Nat.le_max_right n m)) h2

/-- How a call comes back: its results are read. -/
def Res.of (rs : List ARes) (R : AVal → AS → Prop) : Ex → Fr → AS → Prop
  | .nrm, fr, s => fr.df = [] ∧ ∃ v, results rs fr s = some v ∧ R v s
  | .ret, fr, s => fr.df = [] ∧ ∃ v, results rs fr s = some v ∧ R v s
  | _, _, _ => False
theorem cw_of {f : Nat} {body : AC} {rs : List ARes} (hf : tab f = some (.fn body rs)) {args : List AVal} {R : AVal → AS → Prop} (h : Wp tab body (enter args) s (Res.of rs R)) : Cw tab f args s R := by
  obtain ⟨n, e, fr1, s1, h1, h2⟩ := h
  cases e with
  | exit => exact h2.elim
  | pan => exact h2.elim
  | nrm =>
    obtain ⟨hd, v, hv, h3⟩ := h2
    refine ⟨n, v, s1, ?_, h3⟩
    show callW tab (exec tab n) f args s = _
    unfold callW
    rw [hf]
    simp only
    rw [h1]
    simp only
    rw [hd]
    show (match results rs fr1 s1 with | some v => some (Out.ret v, s1) | none => none) = _
    rw [hv]
  | ret =>
    obtain ⟨hd, v, hv, h3⟩ := h2
    refine ⟨n, v, s1, ?_, h3⟩
    show callW tab (exec tab n) f args s = _
    unfold callW
    rw [hf]
    simp only
    rw [h1]
    simp only
    rw [hd]
    show (match results rs fr1 s1 with | some v => some (Out.ret v, s1) | none => none) = _
    rw [hv]
/-- A run that was calculated. -/
theorem cw_run {f : Nat} {args : List AVal} {n : Nat} {v : AVal} {s' : AS} {R : AVal → AS → Prop} (h : call tab n f args s = some (.ret v, s')) (hR : R v s') : Cw tab f args s R := ⟨n, v, s', h, hR⟩
end
end Go.Avm
