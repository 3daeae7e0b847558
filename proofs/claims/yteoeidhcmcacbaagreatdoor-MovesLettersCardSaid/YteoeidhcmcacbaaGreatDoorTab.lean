/-
  A table of compiled functions, and that it is the program's.
-/
import Derived.Test.YteoeidhcmcacbaaGreatDoorExec3
import Derived.KernelRfl
set_option linter.unusedVariables false
set_option linter.unusedSimpArgs false
namespace Go.Avm

def comp (P : Program) (f : Nat) : Option AFn := match P.funcs[f]? with | some F => compFn P F | none => none

/-- What holds at all places of a tree. -/
def Tr.All {α : Type} (Q : Nat → α → Prop) : Tr α → Nat → Nat → Prop
  | .e, _, _ => True
  | .n l v r, d, k => (match v with | none => True | some x => Q k x) ∧ l.All Q (2 * d) (k + d) ∧ r.All Q (2 * d) (k + 2 * d)
theorem Tr.All.get {α : Type} {Q : Nat → α → Prop} : ∀ {t : Tr α} {d k : Nat}, t.All Q d k → ∀ {j : Nat} {x : α}, t.get j = some x → Q (k + d * j) x
  | .e, _, _, _, _, _, h => by cases h
  | .n l v r, d, k, hA, j, x, h => by
    obtain ⟨h1, h2, h3⟩ := hA
    rw [Tr.get_n] at h
    by_cases e : j = 0
    · subst e
      rw [if_pos rfl] at h
      rw [h] at h1
      simpa using h1
    · rw [if_neg e] at h
      by_cases e2 : j % 2 = 1
      · rw [if_pos e2] at h
        have := h2.get h
        have e3 : k + d + 2 * d * (j / 2) = k + d * j := by
          have : j = 2 * (j / 2) + 1 := by omega
          calc k + d + 2 * d * (j / 2) = k + d * (2 * (j / 2) + 1) := by rw [Nat.mul_add, Nat.mul_one, Nat.mul_comm 2 d, Nat.mul_assoc]; omega
            _ = k + d * j := by rw [← this]
        rwa [e3] at this
      · rw [if_neg e2] at h
        have := h3.get h
        have e3 : k + 2 * d + 2 * d * (j / 2 - 1) = k + d * j := by
          have : j = 2 * ((j / 2 - 1) + 1) := by omega
          generalize j / 2 - 1 = q at this
          subst this
          rw [show d * (2 * (q + 1)) = 2 * d * q + 2 * d by rw [← Nat.mul_assoc, Nat.mul_comm d 2, Nat.mul_add, Nat.mul_one], Nat.add_assoc, Nat.add_comm (2 * d)]
        rwa [e3] at this

theorem comp_fn {P : Program} {f : Nat} {body : AC} {rs : List ARes} (h : comp P f = some (.fn body rs)) :
    ∃ F c, P.funcs[f]? = some F ∧ F.name ≠ "runtime.NumGoroutine" ∧ F.body = some c ∧ body = compCode P F.ntmps c ∧ F.results.toList.mapM (compRes P) = some rs := by
  unfold comp at h
  cases hF : P.funcs[f]? with
  | none => rw [hF] at h; cases h
  | some F =>
    rw [hF] at h
    simp only [compFn] at h
    split at h
    · rename_i c hc
      split at h
      · cases h
      · rename_i hn
        rw [Option.map_eq_some_iff] at h
        obtain ⟨r, h1, h2⟩ := h
        injection h2 with h2 h3
        subst h2 h3
        exact ⟨F, c, rfl, by simpa using hn, hc, rfl, h1⟩
    · split at h <;> cases h
theorem comp_ib {P : Program} {f : Nat} (h : comp P f = some .indexByte) : ∃ F, P.funcs[f]? = some F ∧ F.name = "internal/bytealg.IndexByteString" ∧ F.body = none := by
  unfold comp at h
  cases hF : P.funcs[f]? with
  | none => rw [hF] at h; cases h
  | some F =>
    rw [hF] at h
    simp only [compFn] at h
    split at h
    · split at h
      · cases h
      · rw [Option.map_eq_some_iff] at h
        obtain ⟨r, _, h2⟩ := h
        cases h2
    · rename_i hb
      split at h
      · rename_i hn
        exact ⟨F, rfl, by simpa using hn, hb⟩
      · cases h

theorem find_ib {F : Func} (h : F.name = "internal/bytealg.IndexByteString") : Extern.find F = some Extern.BytealgIndexByte.indexByte := by
  unfold Extern.find
  rw [h]
  rfl

/-- What is asked of each function of a table. -/
def Good (P : Program) (f : Nat) (x : AFn) : Prop := comp P f = some x ∧ match x with
  | .indexByte => ∃ F, P.funcs[f]? = some F ∧ Extern.findNext F = none
  | .fn _ _ => True
  | .orc _ => False

theorem tabOk_of {P : Program} {t : Tr AFn} (hm : P.follows .mixedOrders = true) (hA : t.All (Good P) 1 0) : TabOk P (fun f => t.get f) := by
  have hget : ∀ f x, t.get f = some x → Good P f x := fun f x h => by
    have := hA.get h
    rwa [Nat.one_mul, Nat.zero_add] at this
  refine ⟨hm, fun f body rs h => comp_fn (hget f _ h).1, fun f h => ?_, fun f g h => (hget f _ h).2.elim⟩
  obtain ⟨hc, G, h4, h5⟩ := hget f _ h
  obtain ⟨F, h1, h2, h3⟩ := comp_ib hc
  rw [h1] at h4
  obtain rfl := Option.some.inj h4
  exact ⟨F, h1, by rw [h2]; decide, h3, h5, find_ib h2⟩

/-- The world grows: what is known of it holds on. -/
theorem Rel.grown {B : Nat} {ρ : Emb} {s : AS} {w w' : World} (h : Rel B ρ s w) (b : Go.RowKit.Below w.heap.size w w') : Rel B ρ s w' := by
  refine ⟨Nat.le_trans h.base b.size, fun g v L hL => ?_, fun r k hk => ?_, h.disj, h.mdisj⟩
  · obtain ⟨h1, cs, cur, exts, ro, h2, h3⟩ := h.row g v L hL
    obtain ⟨e, he⟩ := h3.shape
    have hb := b.block L.b (shape_lt he)
    refine ⟨h1, cs, cur, exts, ro, h2, h3.ver, ?_, ?_, h3.le, ?_⟩
    · simpa only [World.shape?, hb] using h3.shape
    · simpa only [World.frozen?, hb] using h3.own
    · simpa only [World.cell?, Loc.at, hb] using h3.cells
  · obtain ⟨h1, h2, es, Es, ck, h3, h4, h5⟩ := h.mp r k hk
    exact ⟨h1, h2, es, Es, ck, h3, by rw [b.block k (Array.getElem?_eq_some_iff.1 h4).1]; exact h4, h5⟩

/-- A function without arguments of which it is known that it returns true. -/
def yes : List AVal → AS → Option (Out × AS) := fun args s => match args with | [] => some (.ret (.bool true), s) | _ => none
/-- A table in which such a function is known. -/
noncomputable def known (tab : Nat → Option AFn) (a : Nat) : Nat → Option AFn := fun f => Bool.rec (tab f) (some (.orc yes)) (Nat.beq f a)
theorem known_eq (tab : Nat → Option AFn) (a f : Nat) : known tab a f = if f = a then some (.orc yes) else tab f := by
  show (Bool.rec (tab f) (some (.orc yes)) (Nat.beq f a) : Option AFn) = _
  by_cases h : f = a
  · rw [if_pos h, beqN_iff.2 h]
  · rw [if_neg h, show Nat.beq f a = false from Bool.eq_false_iff.2 (fun e => h (beqN_iff.1 e))]
theorem known_ok {P : Program} {tab : Nat → Option AFn} (hT : TabOk P tab) {a : Nat} {F : Func} (hF : P.funcs[a]? = some F) (hn : F.name ≠ "runtime.NumGoroutine") (hb : F.body.isNone = false)
    (h : ∀ w, Calls P a #[] w fun e w' => e = .returned (.bool true) ∧ Go.RowKit.Below w.heap.size w w') : TabOk P (known tab a) := by
  refine ⟨hT.mixed, fun f body rs h => ?_, fun f h => ?_, fun f g hf B ρ s w args ARGS out s' hR hA e => ?_⟩
  · rw [known_eq] at h
    split at h
    · cases h
    · exact hT.fn f body rs h
  · rw [known_eq] at h
    split at h
    · cases h
    · exact hT.ib f h
  · rw [known_eq] at hf
    split at hf
    · rename_i hfa
      subst hfa
      cases hf
      obtain ⟨l⟩ := ARGS
      cases hA with
      | cons => cases e
      | nil =>
        have e := Option.some.inj e
        injection e with e1 e2
        subst e1 e2
        refine ⟨F, hF, hn, hb, (h w).mono fun e w' ⟨h1, h2⟩ => ?_⟩
        exact ⟨ρ, hR.grown h2, ⟨.refl ρ, fun _ h => .inl h, fun _ _ _ => rfl, Nat.le_refl _, h2.mono hR.base⟩, _, h1, .bool true⟩
    · exact hT.orc f g hf B ρ s w args ARGS out s' hR hA e
end Go.Avm
