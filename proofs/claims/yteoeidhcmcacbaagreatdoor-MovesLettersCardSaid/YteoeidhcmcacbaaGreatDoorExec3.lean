/-
  THE ABSTRACT MACHINE IS SOUND: all of it.
-/
import Derived.Test.YteoeidhcmcacbaaGreatDoorExec2
set_option linter.unusedVariables false
set_option linter.unusedSimpArgs false
namespace Go.Avm
open Go.RowKit (Below)

section
variable {P : Program} {tab : Nat → Option AFn}

theorem exec_succ (n : Nat) (c : AC) (fr : Fr) (s : AS) : exec tab (n + 1) c fr s = step tab (exec tab n) c fr s := rfl

theorem loop_ok {N : Nat} {x : Code} {Q : Exit → Act → World → Prop} {res : Ex × Fr × AS} {B : Nat} {ρ0 : Emb} {s0 : AS} {w0 : World} (hQ : ∀ e a1 w1, ExR N B ρ0 s0 w0 res e a1 w1 → Q e a1 w1) :
    ∀ (n : Nat), (∀ m, m < n → ExecOk P (exec tab m)) → ∀ (fr : Fr) (s : AS) (ρ : Emb) (w : World) (a : Act), exec tab n (.loop (compCode P N x)) fr s = some res → Rel B ρ s w → Step B ρ0 s0 w0 ρ s w → FrR N ρ fr a → Code.rounds P x Q n a w
  | 0, _, fr, s, ρ, w, a, h, _, _, _ => by cases h
  | n + 1, hex, fr, s, ρ, w, a, h, hR, hS, hF => by
    rw [exec_succ] at h
    simp only [step] at h
    rw [rounds_succ]
    cases hx : exec tab n (compCode P N x) fr s with
    | none => rw [hx] at h; cases h
    | some r =>
      rw [hx] at h
      refine hex n (Nat.lt_succ_self _) N x fr s r hx B ρ w a hR hF _ fun e a1 w1 he => ?_
      obtain ⟨e1, fr1, s1⟩ := r
      have he' := he
      obtain ⟨ρ1, k1, k2, k3, k4⟩ := he
      cases e1 with
      | nrm =>
        simp only at h k4
        subst k4
        exact loop_ok hQ n (fun m hm => hex m (by omega)) fr1 s1 ρ1 w1 a1 h k1 (hS.trans k2) k3
      | exit i =>
        obtain rfl := Option.some.inj h
        simp only at k4
        subst k4
        exact hQ _ _ _ (he'.from hS)
      | ret =>
        obtain rfl := Option.some.inj h
        simp only at k4
        subst k4
        exact hQ _ _ _ (he'.from hS)
      | pan v =>
        obtain rfl := Option.some.inj h
        simp only at k4
        obtain ⟨v', rfl, hv⟩ := k4
        exact hQ _ _ _ (he'.from hS)

theorem exec_ok (hT : TabOk P tab) (n : Nat) : ExecOk P (exec tab n) := by
  induction n using Nat.strongRecOn with
  | _ n ih =>
    cases n with
    | zero => intro N code fr s res h; cases h
    | succ n =>
      have hex := ih n (Nat.lt_succ_self _)
      have hcall : CallOk P (callW tab (exec tab n)) := callW_ok hT hex
      intro N code fr s res h B ρ w a hR hF Q hQ
      rw [exec_succ] at h
      cases code <;> simp only [compCode] at h <;> try (cases h; done)
      case skip =>
        obtain rfl := Option.some.inj h
        exact wp_skip (hQ _ _ _ ⟨ρ, hR, .refl _ _ _ _, hF, rfl⟩)
      case region id ops draw =>
        cases hc : compRegion P N ops draw with
        | none => rw [hc] at h; cases h
        | some l =>
          rw [hc] at h
          simp only at h
          split at h
          · cases h
          · have h : runOps (callW tab (exec tab n)) l fr s = some res := h
            cases draw with
            | true => exact region_draw hT.mixed hcall hc hR hF h hQ
            | false => exact wp_region (lin_ok hcall (show lin P N ops (List.range ops.size) = some l from hc) hR hF h hQ)
      case seq x y =>
        simp only [step] at h
        refine wp_seq ?_
        cases hx : exec tab n (compCode P N x) fr s with
        | none => rw [hx] at h; cases h
        | some r =>
          rw [hx] at h
          refine hex N x fr s r hx B ρ w a hR hF _ fun e a1 w1 he => ?_
          obtain ⟨e1, fr1, s1⟩ := r
          have he' := he
          obtain ⟨ρ1, k1, k2, k3, k4⟩ := he
          cases e1 with
          | nrm =>
            simp only at h k4
            subst k4
            exact hex N y fr1 s1 res h B ρ1 w1 a1 k1 k3 Q fun e a2 w2 he2 => hQ _ _ _ (he2.from k2)
          | exit i =>
            obtain rfl := Option.some.inj h
            simp only at k4
            subst k4
            exact hQ _ _ _ he'
          | ret =>
            obtain rfl := Option.some.inj h
            simp only at k4
            subst k4
            exact hQ _ _ _ he'
          | pan v =>
            obtain rfl := Option.some.inj h
            simp only at k4
            obtain ⟨v', rfl, hv⟩ := k4
            exact hQ _ _ _ he'
      case cond c x y =>
        simp only [step] at h
        have hc := hF.ev c
        cases hq : fr.ev (compOpd c) <;> rw [hq] at h hc <;> try (cases h; done)
        rename_i t
        simp only at h
        generalize hv : a.eval c = v at hc
        cases hc
        refine wp_cond hv ?_
        cases t with
        | true => exact hex N x fr s res h B ρ w a hR hF Q hQ
        | false => exact hex N y fr s res h B ρ w a hR hF Q hQ
      case block id x =>
        simp only [step] at h
        refine wp_block ?_
        cases hx : exec tab n (compCode P N x) fr s with
        | none => rw [hx] at h; cases h
        | some r =>
          rw [hx] at h
          refine hex N x fr s r hx B ρ w a hR hF _ fun e a1 w1 he => ?_
          obtain ⟨e1, fr1, s1⟩ := r
          have he' := he
          obtain ⟨ρ1, k1, k2, k3, k4⟩ := he
          cases e1 with
          | nrm =>
            obtain rfl := Option.some.inj h
            simp only at k4
            subst k4
            exact hQ _ _ _ he'
          | exit i =>
            simp only at h k4
            subst k4
            show Exit.inBlock id Q (.exit i) a1 w1
            show (if i = id then Q .normal a1 w1 else Q (.exit i) a1 w1)
            by_cases e : i = id
            · rw [if_pos e]
              rw [show Nat.beq i id = true from beqN_iff.2 e, cond_true] at h
              obtain rfl := Option.some.inj h
              exact hQ _ _ _ ⟨ρ1, k1, k2, k3, rfl⟩
            · rw [if_neg e]
              have : Nat.beq i id = false := by
                cases hb : Nat.beq i id with
                | false => rfl
                | true => exact absurd (beqN_iff.1 hb) e
              rw [this, cond_false] at h
              obtain rfl := Option.some.inj h
              exact hQ _ _ _ he'
          | ret =>
            obtain rfl := Option.some.inj h
            simp only at k4
            subst k4
            exact hQ _ _ _ he'
          | pan v =>
            obtain rfl := Option.some.inj h
            simp only at k4
            obtain ⟨v', rfl, hv⟩ := k4
            exact hQ _ _ _ he'
      case loop x => exact wp_loop_rounds (n + 1) (loop_ok hQ (n + 1) ih fr s ρ w a (by rw [exec_succ]; exact h) hR (.refl _ _ _ _) hF)
      case exit id =>
        obtain rfl := Option.some.inj h
        exact wp_exit (hQ _ _ _ ⟨ρ, hR, .refl _ _ _ _, hF, rfl⟩)
      case ret =>
        obtain rfl := Option.some.inj h
        exact wp_ret (hQ _ _ _ ⟨ρ, hR, .refl _ _ _ _, hF, rfl⟩)

/-- CALLS OF THE ABSTRACT MACHINE ARE SOUND. -/
theorem call_ok (hT : TabOk P tab) (n : Nat) : CallOk P (call tab n) := callW_ok hT (exec_ok hT n)

/-- A call by itself: the memory is empty. -/
def Emb.none : Emb := { row := fun _ _ => .none, mp := fun _ => .none }
theorem Rel.empty (w : World) : Rel w.heap.size Emb.none { h := .e, nx := 0 } w :=
  ⟨Nat.le_refl _, fun _ _ _ h => (by cases h), fun _ _ h => (by cases h), fun _ _ _ _ _ _ h => (by cases h), fun _ _ _ h => (by cases h)⟩
end
end Go.Avm
