/-
  A run lifts to a greater memory: code and calls.
-/
import Derived.Test.YteoeidhcmcacbaaGreatDoorEquiv2
set_option linter.unusedVariables false
set_option linter.unusedSimpArgs false
namespace Go.Avm

/-- How a piece of code is left. -/
inductive Er (σ : Nat → Nat) : Ex → Ex → Prop
  | nrm : Er σ .nrm .nrm
  | exit (i : Nat) : Er σ (.exit i) (.exit i)
  | ret : Er σ .ret .ret
  | pan {v v' : AVal} (h : Vr σ v v') : Er σ (.pan v) (.pan v')
inductive Outr (σ : Nat → Nat) : Out → Out → Prop
  | ret {v v' : AVal} (h : Vr σ v v') : Outr σ (.ret v) (.ret v')
  | pan {v v' : AVal} (h : Vr σ v v') : Outr σ (.pan v) (.pan v')
inductive Mor (σ : Nat → Nat) : Mode → Mode → Prop
  | ret : Mor σ .ret .ret
  | pan {v v' : AVal} (h : Vr σ v v') : Mor σ (.pan v) (.pan v')

def ResR (σ : Nat → Nat) (s' : AS) (r : Ex × Fr × AS) (r' : Ex × Fr × AS) : Prop := Er σ r.1 r'.1 ∧ Frr σ r.2.1 r'.2.1 ∧ Sr σ r.2.2 r'.2.2 ∧ Far σ s' r'.2.2
def CallR (c : Caller) : Prop := ∀ (σ : Nat → Nat) (f : Nat) (args args' : List AVal) (s s' : AS) (out : Out) (s1 : AS), c f args s = some (out, s1) → Vrs σ args args' → Sr σ s s' →
  ∃ out' s1', c f args' s' = some (out', s1') ∧ Outr σ out out' ∧ Sr σ s1 s1' ∧ Far σ s' s1'
def ExecR (x : Exec) : Prop := ∀ (σ : Nat → Nat) (c : AC) (fr fr' : Fr) (s s' : AS) (r : Ex × Fr × AS), c.ok = true → x c fr s = some r → Frr σ fr fr' → Sr σ s s' → ∃ r', x c fr' s' = some r' ∧ ResR σ s' r r'

section
variable {σ : Nat → Nat}
theorem ResR.far {s s1 : AS} {r r' : Ex × Fr × AS} (h : ResR σ s1 r r') (k : Far σ s s1) : ResR σ s r r' := ⟨h.1, h.2.1, h.2.2.1, k.trans h.2.2.2⟩

theorem oper_r {c : Caller} (hc : CallR c) {o : AOper} (ho : o.ok = true) {nx : Fr → AS → Res}
    (hn : ∀ (fr fr' : Fr) (s s' : AS) (r : Ex × Fr × AS), nx fr s = some r → Frr σ fr fr' → Sr σ s s' → ∃ r', nx fr' s' = some r' ∧ ResR σ s' r r')
    {fr fr' : Fr} {s s' : AS} {r : Ex × Fr × AS} (h : oper c o nx fr s = some r) (hF : Frr σ fr fr') (hS : Sr σ s s') : ∃ r', oper c o nx fr' s' = some r' ∧ ResR σ s' r r' := by
  rw [AOper.ok, Bool.and_eq_true] at ho
  obtain ⟨ho, hk⟩ := ho
  unfold oper at h ⊢
  cases hw : wanted fr o.guard with
  | none => rw [hw] at h; cases h
  | some b =>
    rw [hw] at h
    rw [wanted_r hF hw]
    cases b with
    | false => exact hn _ _ _ _ _ h (hF.put (.tuple .nil) _) hS
    | true =>
      simp only at h ⊢
      have hloud : ∀ op, op.ok = true → (match loud fr s op with
          | some (v, s) => bif looks (fr.put o.dst v) s o.chk then nx (fr.put o.dst v) s else none
          | none => none) = some r → ∃ r', (match loud fr' s' op with
          | some (v, s) => bif looks (fr'.put o.dst v) s o.chk then nx (fr'.put o.dst v) s else none
          | none => none) = some r' ∧ ResR σ s' r r' := by
        intro op hop h
        cases hl : loud fr s op with
        | none => rw [hl] at h; cases h
        | some p =>
          obtain ⟨v, s1⟩ := p
          obtain ⟨v', s1', h1, h2, h3, h4⟩ := loud_r hS hF hop hl
          rw [hl] at h
          rw [h1]
          simp only at h ⊢
          obtain ⟨hb, h⟩ := bif_some h
          have hF' := hF.put h2 o.dst
          rw [looks_r h3 hF' hk hb]
          obtain ⟨r', h5, h6⟩ := hn _ _ _ _ _ h hF' h3
          exact ⟨r', h5, h6.far h4⟩
      generalize o.op = op at h ho ⊢
      cases op
      case call f args =>
        simp only [AOp.ok, Bool.and_eq_true] at ho
        have hf := hF.ev ho.1
        have ha := hF.evs ho.2
        simp only at h ⊢
        generalize fr.ev f = x at h hf
        generalize fr'.ev f = x' at hf
        cases hf <;> simp only at h ⊢ <;> try (cases h; done)
        rename_i g a b a' b' ha1 hb1
        cases hq : c g (lapp a (lapp (lmap fr.ev args) b)) s with
        | none => rw [hq] at h; cases h
        | some p =>
          obtain ⟨out, s1⟩ := p
          have hall : Vrs σ (lapp a (lapp (lmap fr.ev args) b)) (lapp a' (lapp (lmap fr'.ev args) b')) := by
            rw [lapp_eq, lapp_eq, lapp_eq, lapp_eq]
            exact ha1.append (ha.append hb1)
          obtain ⟨out', s1', h1, h2, h3, h4⟩ := hc σ g _ _ s s' out s1 hq hall hS
          rw [hq] at h
          rw [h1]
          cases h2 with
          | ret hv =>
            simp only at h ⊢
            obtain ⟨hb, h⟩ := bif_some h
            have hF' := hF.put hv o.dst
            rw [looks_r h3 hF' hk hb]
            obtain ⟨r', h5, h6⟩ := hn _ _ _ _ _ h hF' h3
            exact ⟨r', h5, h6.far h4⟩
          | pan hv =>
            simp only at h ⊢
            obtain rfl := Option.some.inj h
            exact ⟨_, rfl, .pan hv, hF.junk _, h3, h4⟩
      case dfr f args =>
        simp only [AOp.ok, Bool.and_eq_true] at ho
        have hf := hF.ev ho.1
        have ha := hF.evs ho.2
        simp only at h ⊢
        generalize fr.ev f = x at h hf
        generalize fr'.ev f = x' at hf
        cases hf <;> simp only at h ⊢ <;> try (cases h; done)
        rename_i ha1 hb1
        exact hn _ _ _ _ _ h (Frr.put (fr := { fr with df := _ :: fr.df }) (fr' := { fr' with df := _ :: fr'.df }) ⟨hF.tm, .cons (.func _ ha1 hb1) ha hF.df⟩ (.junk _) o.dst) hS
      case pan x =>
        have hf := hF.ev (x := x) ho
        simp only at h ⊢
        generalize fr.ev x = y at h hf
        generalize fr'.ev x = y' at hf
        cases hf <;> simp only at h ⊢ <;> try (cases h; done)
        rename_i t v v' hv
        obtain rfl := Option.some.inj h
        exact ⟨_, rfl, .pan (.iface t hv), hF.junk _, hS, .refl _⟩
      all_goals exact hloud _ ho h

theorem runOps_r {c : Caller} (hc : CallR c) : ∀ {l : List AOper}, (l.all AOper.ok) = true → ∀ {fr fr' : Fr} {s s' : AS} {r : Ex × Fr × AS}, runOps c l fr s = some r → Frr σ fr fr' → Sr σ s s' → ∃ r', runOps c l fr' s' = some r' ∧ ResR σ s' r r'
  | [], _, fr, fr', s, s', r, h, hF, hS => by
    obtain rfl := Option.some.inj (show some (Ex.nrm, fr, s) = some r from h)
    exact ⟨_, rfl, .nrm, hF, hS, .refl _⟩
  | o :: l, ho, fr, fr', s, s', r, h, hF, hS => by
    rw [List.all_cons, Bool.and_eq_true] at ho
    rw [runOps_cons] at h ⊢
    exact oper_r hc ho.1 (fun fr fr' s s' r h hF hS => runOps_r hc ho.2 h hF hS) h hF hS

theorem recOps_r : ∀ {l : List AOper}, (l.all AOper.ok) = true → ∀ {m m' m1 : Mode} {fr fr' fr1 : Fr} {s s' s1 : AS}, recOps l m fr s = some (m1, fr1, s1) → Mor σ m m' → Frr σ fr fr' → Sr σ s s' →
    ∃ m1' fr1' s1', recOps l m' fr' s' = some (m1', fr1', s1') ∧ Mor σ m1 m1' ∧ Frr σ fr1 fr1' ∧ Sr σ s1 s1' ∧ Far σ s' s1'
  | [], _, m, m', m1, fr, fr', fr1, s, s', s1, h, hm, hF, hS => by
    have h := Option.some.inj (show some (m, fr, s) = some (m1, fr1, s1) from h)
    injection h with e1 h
    injection h with e2 e3
    subst e1 e2 e3
    exact ⟨_, _, _, rfl, hm, hF, hS, .refl _⟩
  | o :: l, ho, m, m', m1, fr, fr', fr1, s, s', s1, h, hm, hF, hS => by
    rw [List.all_cons, Bool.and_eq_true] at ho
    have hoo := ho.1
    rw [AOper.ok, Bool.and_eq_true] at hoo
    rw [recOps_cons] at h ⊢
    cases hg : o.guard with
    | some p => rw [hg] at h; cases h
    | none =>
      rw [hg] at h
      simp only at h ⊢
      have hq : ∀ op, op.ok = true → (match quiet fr s op with | some (v, s) => recOps l m (fr.put o.dst v) s | none => none) = some (m1, fr1, s1) →
          ∃ m1' fr1' s1', (match quiet fr' s' op with | some (v, s) => recOps l m' (fr'.put o.dst v) s | none => none) = some (m1', fr1', s1') ∧ Mor σ m1 m1' ∧ Frr σ fr1 fr1' ∧ Sr σ s1 s1' ∧ Far σ s' s1' := by
        intro op hop h
        cases hl : quiet fr s op with
        | none => rw [hl] at h; cases h
        | some p =>
          obtain ⟨v, s2⟩ := p
          obtain ⟨v', s2', h1, h2, h3, h4⟩ := quiet_r hS hF hop hl
          rw [hl] at h
          rw [h1]
          obtain ⟨a, b, c, h5, h6, h7, h8, h9⟩ := recOps_r ho.2 h hm (hF.put h2 o.dst) h3
          exact ⟨a, b, c, h5, h6, h7, h8, h4.trans h9⟩
      have hok := hoo.1
      generalize o.op = op at h hok ⊢
      cases op
      case recov =>
        cases hm with
        | ret => exact recOps_r ho.2 h .ret (hF.put .niliface _) hS
        | pan hv => exact recOps_r ho.2 h .ret (hF.put hv _) hS
      all_goals exact hq _ hok h

/-- A table whose code holds no numbers of things. -/
structure TabR (tab : Nat → Option AFn) : Prop where
  ok : ∀ f body rs, tab f = some (.fn body rs) → body.ok = true
  orc : ∀ f g, tab f = some (.orc g) → CallR (fun _ => g)

variable {tab : Nat → Option AFn}
theorem deferred_r (hT : TabR tab) {x : Exec} (hx : ExecR x) {f : Nat} {args args' : List AVal} {m m' m1 : Mode} {s s' s1 : AS} (h : deferred tab x m f args s = some (m1, s1)) (ha : Vrs σ args args') (hm : Mor σ m m') (hS : Sr σ s s') :
    ∃ m1' s1', deferred tab x m' f args' s' = some (m1', s1') ∧ Mor σ m1 m1' ∧ Sr σ s1 s1' ∧ Far σ s' s1' := by
  unfold deferred at h ⊢
  have hen : Frr σ (enter args) (enter args') := ⟨fun t => by
    show Vr σ (Option.rec .junk (fun v => v) ((enterAt args 0 .e).get t)) (Option.rec .junk (fun v => v) ((enterAt args' 0 .e).get t))
    rw [enterAt_get, enterAt_get, ha.length]
    split
    · rename_i ht
      cases he : args[t - 0]? with
      | none => exact .junk _
      | some y => obtain ⟨z, h1, h2⟩ := ha.get he; rw [h1]; exact h2
    · exact .junk _, .nil⟩
  split at h
  · rename_i ops c hf
    have hok := hT.ok f _ _ hf
    rw [AC.ok, Bool.and_eq_true] at hok
    cases hr : recOps ops m (enter args) s with
    | none => rw [hr] at h; cases h
    | some p =>
      obtain ⟨m2, fr2, s2⟩ := p
      obtain ⟨m2', fr2', s2', h1, h2, h3, h4, h5⟩ := recOps_r hok.1 hr hm hen hS
      rw [hr] at h
      rw [h1]
      simp only at h ⊢
      cases hq : x c fr2 s2 with
      | none => rw [hq] at h; cases h
      | some q =>
        obtain ⟨e3, fr3, s3⟩ := q
        obtain ⟨r', h6, h7, h8, h9, h10⟩ := hx σ c fr2 fr2' s2 s2' _ hok.2 hq h3 h4
        obtain ⟨e3', fr3', s3'⟩ := r'
        rw [hq] at h
        rw [h6]
        cases h7 with
        | exit i => cases h
        | pan hv => cases h
        | nrm =>
          simp only at h ⊢
          have hd := h8.df
          generalize hdf : fr3.df = d at h
          simp only at hd
          rw [hdf] at hd
          generalize fr3'.df = d' at hd ⊢
          cases hd with
          | cons => cases h
          | nil =>
            have h := Option.some.inj h
            injection h with q1 q2
            subst q1 q2
            exact ⟨_, _, rfl, h2, h9, h5.trans h10⟩
        | ret =>
          simp only at h ⊢
          have hd := h8.df
          generalize hdf : fr3.df = d at h
          simp only at hd
          rw [hdf] at hd
          generalize fr3'.df = d' at hd ⊢
          cases hd with
          | cons => cases h
          | nil =>
            have h := Option.some.inj h
            injection h with q1 q2
            subst q1 q2
            exact ⟨_, _, rfl, h2, h9, h5.trans h10⟩
  · cases h

theorem resultList_r {fr fr' : Fr} {s s' : AS} (hF : Frr σ fr fr') (hS : Sr σ s s') : ∀ {rs : List ARes} {vs : List AVal}, resultList fr s rs = some vs → ∃ vs', resultList fr' s' rs = some vs' ∧ Vrs σ vs vs'
  | [], vs, h => by obtain rfl := Option.some.inj (show some [] = some vs from h); exact ⟨[], rfl, .nil⟩
  | r :: rs, vs, h => by
    have h' : (match result fr s r, resultList fr s rs with | some v, some vs => some (v :: vs) | _, _ => none) = some vs := h
    have hr : ∀ v, result fr s r = some v → ∃ v', result fr' s' r = some v' ∧ Vr σ v v' := by
      intro v e
      cases r with
      | tmp t => obtain rfl := Option.some.inj e; exact ⟨_, rfl, hF.tm t⟩
      | cell t g n =>
        simp only [result] at e ⊢
        have ht := hF.tm t
        generalize fr.get t = y at e ht
        generalize fr'.get t = y' at ht
        cases ht <;> simp only at e ⊢ <;> try (cases e; done)
        rename_i q a b
        cases hc : cellsAt s q a b n with
        | none => rw [hc] at e; cases e
        | some cs =>
          obtain ⟨cs', h1, h2⟩ := cellsAt_r hS hc
          rw [hc] at e
          rw [h1]
          exact cellsVal_r h2 e
    cases h1 : result fr s r with
    | none => rw [h1] at h'; cases h'
    | some v =>
      cases h2 : resultList fr s rs with
      | none => rw [h1, h2] at h'; cases h'
      | some us =>
        rw [h1, h2] at h'
        obtain rfl := Option.some.inj h'
        obtain ⟨v', h3, h4⟩ := hr v h1
        obtain ⟨us', h5, h6⟩ := resultList_r hF hS h2
        refine ⟨v' :: us', ?_, .cons h4 h6⟩
        show (match result fr' s' r, resultList fr' s' rs with | some v, some vs => some (v :: vs) | _, _ => none) = _
        rw [h3, h5]
theorem results_r {fr fr' : Fr} {s s' : AS} (hF : Frr σ fr fr') (hS : Sr σ s s') {rs : List ARes} {v : AVal} (h : results rs fr s = some v) : ∃ v', results rs fr' s' = some v' ∧ Vr σ v v' := by
  unfold results at h ⊢
  cases hl : resultList fr s rs with
  | none => rw [hl] at h; cases h
  | some vs =>
    obtain ⟨vs', h1, h2⟩ := resultList_r hF hS hl
    rw [hl] at h
    rw [h1]
    cases h2 with
    | nil => obtain rfl := Option.some.inj h; exact ⟨_, rfl, .tuple .nil⟩
    | cons hx t =>
      cases t with
      | nil => obtain rfl := Option.some.inj h; exact ⟨_, rfl, hx⟩
      | cons hy t => obtain rfl := Option.some.inj h; exact ⟨_, rfl, .tuple (.cons hx (.cons hy t))⟩

theorem leave_r (hT : TabR tab) {x : Exec} (hx : ExecR x) (rs : List ARes) {fr fr' : Fr} (hF : Frr σ fr fr') : ∀ {ds ds' : List (AVal × List AVal)} {m m' : Mode} {s s' : AS} {out : Out} {s1 : AS}, Dr σ ds ds' → leave tab x rs fr ds m s = some (out, s1) → Mor σ m m' → Sr σ s s' →
    ∃ out' s1', leave tab x rs fr' ds' m' s' = some (out', s1') ∧ Outr σ out out' ∧ Sr σ s1 s1' ∧ Far σ s' s1'
  | [], _, m, m', s, s', out, s1, hd, h, hm, hS => by
    cases hd
    cases hm with
    | ret =>
      have h' : (match results rs fr s with | some v => some (Out.ret v, s) | none => none) = some (out, s1) := h
      cases hv : results rs fr s with
      | none => rw [hv] at h'; cases h'
      | some v =>
        rw [hv] at h'
        have h' := Option.some.inj h'
        injection h' with q1 q2
        subst q1 q2
        obtain ⟨v', h1, h2⟩ := results_r hF hS hv
        refine ⟨.ret v', s', ?_, .ret h2, hS, .refl _⟩
        show (match results rs fr' s' with | some v => some (Out.ret v, s') | none => none) = _
        rw [h1]
    | pan hv =>
      have h' := Option.some.inj (show some (Out.pan _, s) = some (out, s1) from h)
      injection h' with q1 q2
      subst q1 q2
      exact ⟨_, _, rfl, .pan hv, hS, .refl _⟩
  | (f, a) :: ds, _, m, m', s, s', out, s1, hd, h, hm, hS => by
    cases hd with
    | @cons _ f' _ a' _ ds' hf ha t =>
      rw [leave_cons] at h ⊢
      cases hf <;> simp only at h ⊢ <;> try (cases h; done)
      rename_i g c1 c2 c1' c2' h1 h2
      cases hq : deferred tab x m g (lapp c1 (lapp a c2)) s with
      | none => rw [hq] at h; cases h
      | some p =>
        obtain ⟨m2, s2⟩ := p
        have hall : Vrs σ (lapp c1 (lapp a c2)) (lapp c1' (lapp a' c2')) := by
          rw [lapp_eq, lapp_eq, lapp_eq, lapp_eq]
          exact h1.append (ha.append h2)
        obtain ⟨m2', s2', h3, h4, h5, h6⟩ := deferred_r hT hx hq hall hm hS
        rw [hq] at h
        rw [h3]
        obtain ⟨out', s1', h7, h8, h9, h10⟩ := leave_r hT hx rs hF t h h4 h5
        exact ⟨out', s1', h7, h8, h9, h6.trans h10⟩

theorem callW_r (hT : TabR tab) {x : Exec} (hx : ExecR x) : CallR (callW tab x) := by
  intro σ f args args' s s' out s1 h ha hS
  have hen : Frr σ (enter args) (enter args') := ⟨fun t => by
    show Vr σ (Option.rec .junk (fun v => v) ((enterAt args 0 .e).get t)) (Option.rec .junk (fun v => v) ((enterAt args' 0 .e).get t))
    rw [enterAt_get, enterAt_get, ha.length]
    split
    · rename_i ht
      cases he : args[t - 0]? with
      | none => exact .junk _
      | some y => obtain ⟨z, h1, h2⟩ := ha.get he; rw [h1]; exact h2
    · exact .junk _, .nil⟩
  unfold callW at h ⊢
  split at h
  · split at h
    · cases ha with
      | cons h1 t =>
        cases t with
        | cons h2 t =>
          cases t
          cases h1
          cases h2
          simp only
          obtain ⟨hb, h⟩ := bif_some h
          rw [hb]
          have h := Option.some.inj h
          injection h with q1 q2
          subst q1 q2
          exact ⟨_, _, rfl, .ret (.int _ _), hS, .refl _⟩
    · cases h
  · rename_i g hf
    exact hT.orc f g hf σ f args args' s s' out s1 h ha hS
  · rename_i body rs hf
    have hok := hT.ok f _ _ hf
    cases hq : x body (enter args) s with
    | none => rw [hq] at h; cases h
    | some q =>
      obtain ⟨e3, fr3, s3⟩ := q
      obtain ⟨r', h6, h7, h8, h9, h10⟩ := hx σ body _ _ s s' _ hok hq hen hS
      obtain ⟨e3', fr3', s3'⟩ := r'
      rw [hq] at h
      rw [h6]
      cases h7 with
      | exit i => cases h
      | nrm => obtain ⟨a, b, h1, h2, h3, h4⟩ := leave_r hT hx rs h8 h8.df h .ret h9; exact ⟨a, b, h1, h2, h3, h10.trans h4⟩
      | ret => obtain ⟨a, b, h1, h2, h3, h4⟩ := leave_r hT hx rs h8 h8.df h .ret h9; exact ⟨a, b, h1, h2, h3, h10.trans h4⟩
      | pan hv => obtain ⟨a, b, h1, h2, h3, h4⟩ := leave_r hT hx rs h8 h8.df h (.pan hv) h9; exact ⟨a, b, h1, h2, h3, h10.trans h4⟩
  · cases h

theorem exec_r (hT : TabR tab) : ∀ n, ExecR (exec tab n)
  | 0 => fun _ _ _ _ _ _ _ _ h _ _ => by cases h
  | n + 1 => by
    have hx := exec_r hT n
    intro σ c fr fr' s s' r hok h hF hS
    rw [exec_succ] at h ⊢
    cases c <;> simp only [step] at h ⊢ <;> try (cases h; done)
    case skip => obtain rfl := Option.some.inj h; exact ⟨_, rfl, .nrm, hF, hS, .refl _⟩
    case reg l => exact runOps_r (callW_r hT hx) hok h hF hS
    case seq a b =>
      rw [AC.ok, Bool.and_eq_true] at hok
      cases hq : exec tab n a fr s with
      | none => rw [hq] at h; cases h
      | some q =>
        obtain ⟨e3, fr3, s3⟩ := q
        obtain ⟨r', h6, h7, h8, h9, h10⟩ := hx σ a _ _ s s' _ hok.1 hq hF hS
        obtain ⟨e3', fr3', s3'⟩ := r'
        rw [hq] at h
        rw [h6]
        cases h7 with
        | nrm => obtain ⟨r2, h1, h2⟩ := hx σ b _ _ _ _ _ hok.2 h h8 h9; exact ⟨r2, h1, h2.far h10⟩
        | exit i => obtain rfl := Option.some.inj h; exact ⟨_, rfl, .exit i, h8, h9, h10⟩
        | ret => obtain rfl := Option.some.inj h; exact ⟨_, rfl, .ret, h8, h9, h10⟩
        | pan hv => obtain rfl := Option.some.inj h; exact ⟨_, rfl, .pan hv, h8, h9, h10⟩
    case cond c a b =>
      simp only [AC.ok, Bool.and_eq_true] at hok
      have hc := hF.ev hok.1
      generalize fr.ev c = y at h hc
      generalize fr'.ev c = y' at hc
      cases hc <;> simp only at h ⊢ <;> try (cases h; done)
      rename_i t
      cases t with
      | true => exact hx σ a _ _ _ _ _ hok.2.1 h hF hS
      | false => exact hx σ b _ _ _ _ _ hok.2.2 h hF hS
    case block id c =>
      cases hq : exec tab n c fr s with
      | none => rw [hq] at h; cases h
      | some q =>
        obtain ⟨e3, fr3, s3⟩ := q
        obtain ⟨r', h6, h7, h8, h9, h10⟩ := hx σ c _ _ s s' _ hok hq hF hS
        obtain ⟨e3', fr3', s3'⟩ := r'
        rw [hq] at h
        rw [h6]
        cases h7 with
        | nrm => obtain rfl := Option.some.inj h; exact ⟨_, rfl, .nrm, h8, h9, h10⟩
        | exit i =>
          simp only at h ⊢
          cases hb : Nat.beq i id with
          | true => rw [hb] at h; obtain rfl := Option.some.inj h; exact ⟨_, rfl, .nrm, h8, h9, h10⟩
          | false => rw [hb] at h; obtain rfl := Option.some.inj h; exact ⟨_, rfl, .exit i, h8, h9, h10⟩
        | ret => obtain rfl := Option.some.inj h; exact ⟨_, rfl, .ret, h8, h9, h10⟩
        | pan hv => obtain rfl := Option.some.inj h; exact ⟨_, rfl, .pan hv, h8, h9, h10⟩
    case loop c =>
      cases hq : exec tab n c fr s with
      | none => rw [hq] at h; cases h
      | some q =>
        obtain ⟨e3, fr3, s3⟩ := q
        obtain ⟨r', h6, h7, h8, h9, h10⟩ := hx σ c _ _ s s' _ hok hq hF hS
        obtain ⟨e3', fr3', s3'⟩ := r'
        rw [hq] at h
        rw [h6]
        cases h7 with
        | nrm => obtain ⟨r2, h1, h2⟩ := hx σ (.loop c) _ _ _ _ _ hok h h8 h9; exact ⟨r2, h1, h2.far h10⟩
        | exit i => obtain rfl := Option.some.inj h; exact ⟨_, rfl, .exit i, h8, h9, h10⟩
        | ret => obtain rfl := Option.some.inj h; exact ⟨_, rfl, .ret, h8, h9, h10⟩
        | pan hv => obtain rfl := Option.some.inj h; exact ⟨_, rfl, .pan hv, h8, h9, h10⟩
    case exit id => obtain rfl := Option.some.inj h; exact ⟨_, rfl, .exit id, hF, hS, .refl _⟩
    case ret => obtain rfl := Option.some.inj h; exact ⟨_, rfl, .ret, hF, hS, .refl _⟩
theorem call_r (hT : TabR tab) (n : Nat) : CallR (call tab n) := callW_r hT (exec_r hT n)

/-- A call in a smaller memory tells of one in a greater. -/
theorem cw_lift (hT : TabR tab) {f : Nat} {args args' : List AVal} {s s' : AS} {R : AVal → AS → Prop} (h : Cw tab f args s R) (ha : Vrs σ args args') (hS : Sr σ s s') :
    Cw tab f args' s' fun v' s1' => ∃ v s1, R v s1 ∧ Vr σ v v' ∧ Sr σ s1 s1' ∧ Far σ s' s1' := by
  obtain ⟨n, v, s1, h1, h2⟩ := h
  obtain ⟨out', s1', h3, h4, h5, h6⟩ := call_r hT n σ f args args' s s' _ _ h1 ha hS
  cases h4 with
  | ret hv => exact ⟨n, _, s1', h3, v, s1, h2, hv, h5, h6⟩
end
end Go.Avm
