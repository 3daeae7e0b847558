/-
  What a run of the abstract machine says of the program.
-/
import Derived.Test.YteoeidhcmcacbaaGreatDoorTab
set_option linter.unusedVariables false
set_option linter.unusedSimpArgs false
namespace Go.Avm
open Go.RowKit (Below)
section
variable {P : Program} {tab : Nat → Option AFn}

theorem calls_of (hT : TabOk P tab) {f : Nat} {body : AC} {rs : List ARes} (hf : tab f = some (.fn body rs)) {n B : Nat} {ρ : Emb} {s s' : AS} {w : World} {args : List AVal} {ARGS : Array Value} {out : Out} (hR : Rel B ρ s w) (hA : Vs ρ args ARGS.toList)
    (h : call tab n f args s = some (out, s')) : Calls P f ARGS w (OutOk B ρ s w out s') := by
  rcases call_ok hT n B ρ s w f args ARGS out s' hR hA h with ⟨fn, _, _, _, h4⟩ | ⟨v, v', _, _, h3, _⟩
  · exact h4
  · obtain ⟨F, c, h5, h6, h7, _⟩ := hT.fn f _ _ hf
    rw [run_callFunc h5 h6 (by rw [h7]; rfl)] at h3
    cases h3

/-- A frame of which less is known is related, too. -/
theorem FrR.weaken {N : Nat} {ρ : Emb} {fr fr' : Fr} {a : Act} (h : FrR N ρ fr a) (hg : ∀ t, fr'.get t = fr.get t ∨ fr'.get t = .junk) (hd : fr'.df = fr.df) : FrR N ρ fr' a :=
  ⟨h.size, fun t => by
    rcases hg t with e | e
    · rw [e]; exact h.tm t
    · rw [e]; exact .junk _, hd ▸ h.df⟩

/-- Has a run come back with true? -/
def isTrue : Option (Out × AS) → Bool
  | some (.ret (.bool true), _) => true
  | _ => false
theorem isTrue_inv {r : Option (Out × AS)} (h : isTrue r = true) : ∃ s, r = some (.ret (.bool true), s) := by
  unfold isTrue at h
  split at h
  · exact ⟨_, rfl⟩
  · cases h

/-- What comes back true. -/
def Trues (w : World) (e : Ending) (w' : World) : Prop := e = .returned (.bool true) ∧ Below w.heap.size w w'

theorem calls_true (hT : TabOk P tab) {f : Nat} {body : AC} {rs : List ARes} (hf : tab f = some (.fn body rs)) {n : Nat} {ρ : Emb} {s : AS} {w : World} {args : List AVal} {ARGS : Array Value} (hR : Rel w.heap.size ρ s w) (hA : Vs ρ args ARGS.toList)
    (h : isTrue (call tab n f args s) = true) : Calls P f ARGS w (Trues w) := by
  obtain ⟨s', h⟩ := isTrue_inv h
  refine (calls_of hT hf hR hA h).mono fun e w' he => ?_
  obtain ⟨ρ', _, h2, v', rfl, h4⟩ := he
  cases h4
  exact ⟨rfl, h2.below⟩

/-- A closed run. -/
theorem closed_true (hT : TabOk P tab) {f : Nat} {body : AC} {rs : List ARes} (hf : tab f = some (.fn body rs)) {n : Nat} (h : isTrue (call tab n f [] { h := .e, nx := 0 }) = true) (w : World) : Calls P f #[] w (Trues w) :=
  calls_true hT hf (Rel.empty w) .nil h
end
end Go.Avm
