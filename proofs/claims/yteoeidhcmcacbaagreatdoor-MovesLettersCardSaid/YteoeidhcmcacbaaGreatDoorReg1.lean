/-
  Regions whose order is fixed.
-/
import Derived.Test.YteoeidhcmcacbaaGreatDoorAct
set_option linter.unusedVariables false
set_option linter.unusedSimpArgs false
namespace Go.Avm
open Go.RowKit (Below)

/-- What a piece of code ends in. -/
def ExR (N B : Nat) (ρ : Emb) (s : AS) (w : World) (res : Ex × Fr × AS) (e : Exit) (a' : Act) (w' : World) : Prop :=
  ∃ ρ', Rel B ρ' res.2.2 w' ∧ Step B ρ s w ρ' res.2.2 w' ∧ FrR N ρ' res.2.1 a' ∧ match res.1 with
    | .nrm => e = .normal
    | .exit i => e = .exit i
    | .ret => e = .ret
    | .pan v => ∃ v', e = .panic [{ v := v', recovered := false }] ∧ V ρ' v v'

section
variable {P : Program} {B N : Nat} {ρ : Emb} {s : AS} {w : World} {fr : Fr} {a : Act} {ops : Array Oper} {call : Caller}

theorem ExR.from {ρ1 : Emb} {s1 : AS} {w1 : World} {res : Ex × Fr × AS} {e : Exit} {a' : Act} {w' : World} (hS : Step B ρ s w ρ1 s1 w1) (h : ExR N B ρ1 s1 w1 res e a' w') : ExR N B ρ s w res e a' w' := by
  obtain ⟨ρ', h1, h2, h3⟩ := h
  exact ⟨ρ', h1, hS.trans h2, h3⟩

theorem FrR.get_bool (hF : FrR N ρ fr a) {t : Nat} {b : Bool} (h : fr.get t = .bool b) : a.tmps[t]? = some (.bool b) := by
  have h1 := hF.tm t
  rw [h] at h1
  generalize hv : a.tmps.getD t undef = v at h1
  cases h1
  rw [Array.getD_eq_getD_getElem?] at hv
  cases hq : a.tmps[t]? with
  | none => rw [hq] at hv; cases hv
  | some y => rw [hq] at hv; exact congrArg some hv
theorem FrR.get_nothing (hF : FrR N ρ fr a) {t : Nat} (h : fr.get t = .tuple []) (b : Bool) : a.tmps[t]? ≠ some (.bool b) := by
  have h1 := hF.tm t
  rw [h] at h1
  intro e
  rw [Array.getD_eq_getD_getElem?, e] at h1
  cases h1

theorem wanted_ok (hF : FrR N ρ fr a) {o : Oper} {g : Option (Nat × Bool)} (hg : guardOf ops o = some g) {b : Bool} (h : wanted fr g = some b) : Region.wanted o (yielded ops a.tmps) = b := by
  unfold guardOf at hg
  unfold Region.wanted
  cases ho : o.guard with
  | none =>
    rw [ho] at hg
    obtain rfl := Option.some.inj hg
    exact Option.some.inj h
  | some p =>
    obtain ⟨j, want⟩ := p
    rw [ho] at hg
    simp only at hg
    cases hd : (ops[j]?).bind (·.dst) with
    | none => rw [hd] at hg; cases hg
    | some t =>
      rw [hd] at hg
      obtain rfl := Option.some.inj hg
      simp only [wanted] at h
      simp only [yielded, hd, Option.bind_some]
      split at h
      · rename_i c hc
        rw [hF.get_bool hc]
        obtain rfl := Option.some.inj h
        cases c <;> cases want <;> rfl
      · rename_i hc
        obtain rfl := Option.some.inj h
        have := hF.get_nothing hc
        split
        · rename_i c hc2; exact absurd hc2 (this c)
        · cases want <;> rfl
      · cases h

/-- What is known of an operation and its compiled form. -/
structure OpIs (P : Program) (N : Nat) (ops : Array Oper) (o : Oper) (x : AOper) : Prop where
  op : compOp P o = some x.op
  guard : guardOf ops o = some x.guard
  dst : o.dst = x.dst
  lt : ∀ d, o.dst = some d → d < N

theorem opAt_inv {i : Nat} {x : AOper} (h : opAt P N ops i = some x) : ∃ o, ops[i]? = some o ∧ OpIs P N ops o x ∧ x.chk = [] ∧ x.pend = [] := by
  unfold opAt at h
  cases ho : ops[i]? with
  | none => rw [ho] at h; cases h
  | some o =>
    rw [ho] at h
    simp only at h
    split at h
    · rename_i op g h1 h2
      split at h
      · rename_i h3
        obtain rfl := Option.some.inj h
        refine ⟨o, rfl, ⟨h1, h2, rfl, fun d hd => ?_⟩, rfl, rfl⟩
        rw [hd] at h3
        simpa using h3
      · cases h
    · cases h

theorem FrR.defer (hF : FrR N ρ fr a) {f : Nat} {A Bc args : List AVal} {A' B' ARGS : List Value} (hA : Vs ρ A A') (hB : Vs ρ Bc B') (hG : Vs ρ args ARGS) :
    FrR N ρ { fr with df := (.func f A Bc, args) :: fr.df } { a with defers := { target := .fn (.func f) B'.toArray, args := (A' ++ ARGS).toArray } :: a.defers } :=
  ⟨hF.size, hF.tm, .cons hA hB hG hF.df⟩
theorem FrR.junk (hF : FrR N ρ fr a) : ∀ l : List Nat, FrR N ρ (fr.junk l) a
  | [] => hF
  | t :: l => by
    have h := hF.junk l
    refine ⟨h.size, fun u => ?_, by rw [show fr.junk (t :: l) = (fr.junk l).put (some t) .junk from rfl, Fr.df_put]; exact h.df⟩
    rw [show fr.junk (t :: l) = (fr.junk l).put (some t) .junk from rfl, Fr.get_put]
    split
    · exact .junk _
    · exact h.tm u

/-- One operation, and what follows. -/
theorem oper_next (hcall : CallOk P call) (hR : Rel B ρ s w) (hF : FrR N ρ fr a) {o : Oper} {x : AOper} (hx : OpIs P N ops o x) {next : Fr → AS → Res} {res : Ex × Fr × AS} (h : oper call x next fr s = some res)
    {K : Act → World → Prop} {Q : Exit → Act → World → Prop}
    (hK : ∀ fr1 s1 ρ1 a1 w1, next fr1 s1 = some res → Rel B ρ1 s1 w1 → Step B ρ s w ρ1 s1 w1 → FrR N ρ1 fr1 a1 → K a1 w1)
    (hP : ∀ e a1 w1, ExR N B ρ s w res e a1 w1 → Q e a1 w1) :
    if Region.wanted o (yielded ops a.tmps) then o.wp P a w K Q ∨ (o.asks P a w ∧ LetsOut Q) else K (a.put o.dst undef) w := by
  rw [oper_eq] at h
  have hlt : ∀ d, o.dst = some d → d < N := hx.lt
  cases hw : wanted fr x.guard with
  | none => rw [hw] at h; cases h
  | some b =>
    rw [wanted_ok hF hx.guard hw]
    rw [hw] at h
    cases b with
    | false =>
      simp only [Bool.false_eq_true, if_false]
      simp only at h
      refine hK _ _ ρ _ w h hR (.refl _ _ _ _) ?_
      rw [← hx.dst]
      exact hF.put hlt (.tuple' .nil)
    | true =>
      simp only [if_true]
      simp only at h
      cases hq : act1 call x.op fr s with
      | none => rw [hq] at h; cases h
      | some r =>
        rw [hq] at h
        refine .inl (act1_ok hcall hR hF o hx.op hq ?_)
        cases r with
        | val v s1 =>
          simp only at h
          intro v' w1 ρ1 h1 h2 h3
          refine hK _ _ ρ1 _ w1 (bif_some h).2 h1 h2 ?_
          rw [← hx.dst]
          exact (hF.mono h2.ext).put hlt h3
        | dfr f A Bc args =>
          simp only at h
          intro A' B' ARGS hA hB hG
          refine hK _ _ ρ _ w h hR (.refl _ _ _ _) ?_
          rw [← hx.dst]
          exact (hF.defer hA hB hG).put hlt (.junk _)
        | pan v s1 =>
          obtain rfl := Option.some.inj h
          intro v' w1 ρ1 h1 h2 h3
          exact hP _ _ _ ⟨ρ1, h1, h2, (hF.mono h2.ext).junk _, v', rfl, h3⟩

theorem lin_ok (hcall : CallOk P call) {Q : Exit → Act → World → Prop} {res : Ex × Fr × AS} : ∀ {l : List Nat} {L : List AOper} {ρ : Emb} {s : AS} {w : World} {fr : Fr} {a : Act}, lin P N ops l = some L → Rel B ρ s w → FrR N ρ fr a →
    runOps call L fr s = some res → (∀ e a1 w1, ExR N B ρ s w res e a1 w1 → Q e a1 w1) → wpOps P ops Q l a w
  | [], L, ρ, s, w, fr, a, hl, hR, hF, h, hQ => by
    obtain rfl := Option.some.inj hl
    obtain rfl := Option.some.inj h
    exact hQ _ _ _ ⟨ρ, hR, .refl _ _ _ _, hF, rfl⟩
  | i :: l, L, ρ, s, w, fr, a, hl, hR, hF, h, hQ => by
    unfold lin at hl
    split at hl
    · rename_i x r h1 h2
      obtain rfl := Option.some.inj hl
      obtain ⟨o, ho, hx, _⟩ := opAt_inv h1
      simp only [wpOps, ho]
      have h : oper call x (runOps call r) fr s = some res := h
      exact oper_next hcall hR hF hx h (fun fr1 s1 ρ1 a1 w1 g1 g2 g3 g4 => lin_ok hcall h2 g2 g4 g1 fun e a1 w1 he => hQ _ _ _ (he.from g3)) hQ
    · cases hl
end
end Go.Avm
