/-
  THE ABSTRACT MACHINE IS SOUND.
-/
import Derived.Test.YteoeidhcmcacbaaGreatDoorReg4
import Derived.Test.YteoeidhcmcacbaaGreatDoorExt
import Derived.LoopN
import Derived.Recover
set_option linter.unusedVariables false
set_option linter.unusedSimpArgs false
namespace Go.Avm
open Go.RowKit (Below)

/-- A table of compiled functions is the program's. -/
structure TabOk (P : Program) (tab : Nat → Option AFn) : Prop where
  mixed : P.follows .mixedOrders = true
  fn : ∀ f body rs, tab f = some (.fn body rs) → ∃ F c, P.funcs[f]? = some F ∧ F.name ≠ "runtime.NumGoroutine" ∧ F.body = some c ∧ body = compCode P F.ntmps c ∧ F.results.toList.mapM (compRes P) = some rs
  ib : ∀ f, tab f = some .indexByte → ∃ F, P.funcs[f]? = some F ∧ F.name ≠ "runtime.NumGoroutine" ∧ F.body = none ∧ Extern.findNext F = none ∧ Extern.find F = some Extern.BytealgIndexByte.indexByte
  orc : ∀ f g, tab f = some (.orc g) → ∀ (B : Nat) (ρ : Emb) (s : AS) (w : World) (args : List AVal) (ARGS : Array Value) (out : Out) (s' : AS), Rel B ρ s w → Vs ρ args ARGS.toList → g args s = some (out, s') →
    ∃ fn, P.funcs[f]? = some fn ∧ fn.name ≠ "runtime.NumGoroutine" ∧ fn.body.isNone = false ∧ Calls P f ARGS w (OutOk B ρ s w out s')

theorem enterAt_get : ∀ (args : List AVal) (i : Nat) (t : Tr AVal) (j : Nat), (enterAt args i t).get j = if i ≤ j ∧ j < i + args.length then args[j - i]? else t.get j
  | [], i, t, j => by rw [if_neg (by simp)]; rfl
  | v :: l, i, t, j => by
    rw [show enterAt (v :: l) i t = enterAt l (i + 1) (t.set i v) from rfl, enterAt_get l (i + 1)]
    by_cases h1 : i + 1 ≤ j ∧ j < i + 1 + l.length
    · rw [if_pos h1, if_pos (by simp; omega), show j - i = (j - (i + 1)) + 1 by omega, List.getElem?_cons_succ]
    · rw [if_neg h1, Tr.get_set]
      by_cases h2 : j = i
      · subst h2; rw [if_pos rfl, if_pos (by simp), Nat.sub_self]; rfl
      · rw [if_neg h2, if_neg (by simp; omega)]

section
variable {P : Program} {B N : Nat} {ρ : Emb} {s : AS} {w : World} {fr : Fr} {a : Act} {tab : Nat → Option AFn}

theorem enter_ok {args : List AVal} {ARGS : Array Value} (h : Vs ρ args ARGS.toList) (n : Nat) : FrR n ρ (enter args) { tmps := ARGS ++ Array.replicate (n - ARGS.size) undef, defers := [] } := by
  have hl := h.length
  refine ⟨by simp; omega, fun t => ?_, .nil⟩
  show V ρ (Option.rec .junk (fun v => v) ((enterAt args 0 .e).get t)) _
  rw [enterAt_get]
  by_cases ht : t < args.length
  · rw [if_pos ⟨Nat.zero_le _, by omega⟩, Nat.sub_zero]
    have ht' : t < ARGS.size := by simp at hl; omega
    rw [List.getElem?_eq_getElem ht, Array.getD_eq_getD_getElem?, Array.getElem?_append_left ht', Array.getElem?_eq_getElem ht']
    exact h.get (i := t) (by simp [ht]) (by simp [ht'])
  · rw [if_neg (by omega)]
    exact .junk _

/-! ### results -/
def readRes (tmps : Array Value) : ResultVar → Sem Value
  | .tmp t => pure (tmps.getD t undef)
  | .cell a t => do loadVar t (← asAddr (tmps.getD a undef))

theorem result_ok (hR : Rel B ρ s w) (hF : FrR N ρ fr a) {r : ResultVar} {ar : ARes} (hc : compRes P r = some ar) {v : AVal} (h : result fr s ar = some v) : ∃ v', (readRes a.tmps r).run P w = .ok v' w ∧ V ρ v v' := by
  cases r with
  | tmp t =>
    obtain rfl := Option.some.inj hc
    obtain rfl := Option.some.inj h
    exact ⟨_, rfl, hF.tm t⟩
  | cell c t =>
    simp only [compRes] at hc
    split at hc
    · rename_i g n hg hn
      obtain rfl := Option.some.inj hc
      simp only [result] at h
      have hx := hF.tm c
      cases hq : fr.get c <;> rw [hq] at h hx <;> try (cases h; done)
      rename_i gr x ver
      simp only at h
      cases hcs : cellsAt s gr x ver (if g then n else 1) with
      | none => rw [hcs] at h; cases h
      | some cs =>
        rw [hcs] at h
        generalize hy : a.tmps.getD c undef = y at hx
        cases hx with
        | ptr _ _ _ L hL hlo =>
          obtain ⟨v', h1, h2⟩ := loadVar_ok (P := P) hR hg hn hcs h hL hlo
          exact ⟨v', by simp only [readRes, hy]; exact h1, h2⟩
    · cases hc

theorem resultList_ok (hR : Rel B ρ s w) (hF : FrR N ρ fr a) : ∀ {l : List ResultVar} {rs : List ARes} {vs : List AVal}, l.mapM (compRes P) = some rs → resultList fr s rs = some vs → ∃ VS, (l.mapM (readRes a.tmps)).run P w = .ok VS w ∧ Vs ρ vs VS
  | [], rs, vs, hc, h => by
    obtain rfl := Option.some.inj hc
    obtain rfl := Option.some.inj h
    exact ⟨[], rfl, .nil⟩
  | r :: l, rs, vs, hc, h => by
    rw [List.mapM_cons] at hc
    cases h1 : compRes P r with
    | none => rw [h1] at hc; cases hc
    | some ar =>
      cases h2 : l.mapM (compRes P) with
      | none => rw [h1, h2] at hc; cases hc
      | some rs' =>
        rw [h1, h2] at hc
        obtain rfl := Option.some.inj hc
        have h' : (match result fr s ar, resultList fr s rs' with | some v, some vs => some (v :: vs) | _, _ => none) = some vs := h
        cases h3 : result fr s ar with
        | none => rw [h3] at h'; cases h'
        | some v =>
          cases h4 : resultList fr s rs' with
          | none => rw [h3, h4] at h'; cases h'
          | some vs' =>
            rw [h3, h4] at h'
            obtain rfl := Option.some.inj h'
            obtain ⟨v', h5, h6⟩ := result_ok hR hF h1 h3
            obtain ⟨VS, h7, h8⟩ := resultList_ok hR hF h2 h4
            exact ⟨v' :: VS, by rw [List.mapM_cons]; simp [h5, h7], .cons h6 h8⟩

theorem results_ok (hR : Rel B ρ s w) (hF : FrR N ρ fr a) {F : Func} {rs : List ARes} (hc : F.results.toList.mapM (compRes P) = some rs) {v : AVal} (h : results rs fr s = some v) : ∃ v', (Go.results F a.tmps).run P w = .ok v' w ∧ V ρ v v' := by
  unfold results at h
  cases hl : resultList fr s rs with
  | none => rw [hl] at h; cases h
  | some vs =>
    rw [hl] at h
    obtain ⟨VS, h1, h2⟩ := resultList_ok hR hF hc hl
    have hrun : ∀ v', (if h : VS.toArray.size = 1 then VS.toArray[0] else Value.tuple VS.toArray) = v' → (Go.results F a.tmps).run P w = .ok v' w := by
      intro v' hv
      have e : Go.results F a.tmps = (do
          let vs ← F.results.mapM (readRes a.tmps)
          pure (if h : vs.size = 1 then vs[0] else .tuple vs)) := rfl
      rw [e, ← Array.toArray_toList (xs := F.results), List.mapM_toArray]
      simp [h1]
      simpa using hv
    match vs, VS, h2, h, hrun with
    | [], [], _, h, hrun =>
      obtain rfl := Option.some.inj h
      exact ⟨_, hrun _ rfl, .tuple' .nil⟩
    | [x], [y], .cons hx .nil, h, hrun =>
      obtain rfl := Option.some.inj h
      exact ⟨_, hrun _ rfl, hx⟩
    | x :: x2 :: l, y :: y2 :: l2, h2, h, hrun =>
      obtain rfl := Option.some.inj h
      refine ⟨_, hrun _ ?_, .tuple' (C := (y :: y2 :: l2).toArray) (by simpa using h2)⟩
      rw [dif_neg (by simp)]
end
end Go.Avm
