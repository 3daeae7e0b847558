/-
  A state is replaced by a smaller one that stands for it.
-/
import Derived.Test.YteoeidhcmcacbaaGreatDoorCut2
set_option linter.unusedVariables false
set_option linter.unusedSimpArgs false
namespace Go.Avm

mutual
theorem Vr.refl : ∀ (x : AVal), Vr (fun k => k) x x
  | .junk => .junk _
  | .bool b => .bool b
  | .int k n => .int k n
  | .str l => .str l
  | .ptr g x v => .ptr g x v
  | .nilptr => .nilptr
  | .slice g o l z v c => .slice g o l z v c
  | .nilslice => .nilslice
  | .map r => .map r
  | .nilmap => .nilmap
  | .func f a b => .func f (Vrs.refl a) (Vrs.refl b)
  | .nilfunc => .nilfunc
  | .iface t v => .iface t (Vr.refl v)
  | .niliface => .niliface
  | .agg l => .agg (Vrs.refl l)
  | .tuple l => .tuple (Vrs.refl l)
theorem Vrs.refl : ∀ (l : List AVal), Vrs (fun k => k) l l
  | [] => .nil
  | x :: l => .cons (Vr.refl x) (Vrs.refl l)
end
theorem Mr.refl : ∀ (l : List (AVal × AVal)), Mr (fun k => k) l l
  | [] => .nil
  | (_, _) :: l => .cons (Vr.refl _) (Vr.refl _) (Mr.refl l)
theorem Or.refl : ∀ (o : AObj), Or (fun k => k) o o
  | .row cs v ex ro => .row (Vrs.refl cs) v ex (fun e => e)
  | .map es => .map (Mr.refl es)
theorem Sr.refl (s : AS) : Sr (fun k => k) s s := ⟨fun _ _ e => e, fun _ o e => ⟨o, e, Or.refl o⟩, fun _ => rfl⟩

/-- What a frame holds, as far as one looks. -/
def Gets (σ : Nat → Nat) (fr : Fr) : List (Nat × AVal) → Prop
  | [] => True
  | (t, v) :: l => Vr σ v (fr.get t) ∧ Gets σ fr l
theorem Gets.mem {σ : Nat → Nat} {fr : Fr} : ∀ {l : List (Nat × AVal)}, Gets σ fr l → ∀ p ∈ l, Vr σ p.2 (fr.get p.1)
  | [], _, p, hp => by simp at hp
  | (_, _) :: l, h, p, hp => by
    rcases List.mem_cons.1 hp with rfl | hp
    · exact h.1
    · exact h.2.mem p hp
theorem Gets.frr {σ : Nat → Nat} {fr : Fr} {l : List (Nat × AVal)} (h : Gets σ fr l) (hd : fr.df = []) : Frr σ (mkF l) fr :=
  ⟨mkF_get (P := Vr σ) .junk l h.mem, by rw [hd]; exact .nil⟩

/-- What holds on in a greater memory. -/
def LiftQ (Q : Ex → Fr → AS → Prop) : Prop := ∀ (σ : Nat → Nat) (e : Ex) (fr : Fr) (s : AS) (e' : Ex) (fr' : Fr) (s' : AS), Q e fr s → Er σ e e' → Frr σ fr fr' → Sr σ s s' → Q e' fr' s'
section
variable {tab : Nat → Option AFn} {Q : Ex → Fr → AS → Prop} {σ : Nat → Nat} {fr fr' : Fr} {s s' : AS}
/-- The state is replaced. -/
theorem aw_re (hT : TabR tab) {c : AC} (hc : c.ok = true) (hQ : LiftQ Q) (hF : Frr σ fr fr') (hS : Sr σ s s') (h : Wp tab c fr s Q) : Wp tab c fr' s' Q := by
  obtain ⟨n, e, fr1, s1, h1, h2⟩ := h
  obtain ⟨⟨e', fr1', s1'⟩, h4, h5, h6, h7, h8⟩ := exec_r hT n σ c fr fr' s s' _ hc h1 hF hS
  exact ⟨n, e', fr1', s1', h4, hQ σ _ _ _ _ _ _ h2 h5 h6 h7⟩
theorem LiftQ.andThen (hT : TabR tab) {b : AC} (hb : b.ok = true) (hQ : LiftQ Q) : LiftQ (Then tab b Q) := by
  intro σ e fr s e' fr' s' h he hF hS
  cases he with
  | nrm => exact aw_re hT hb hQ hF hS h
  | exit i => exact hQ σ _ _ _ _ _ _ h (.exit i) hF hS
  | ret => exact hQ σ _ _ _ _ _ _ h .ret hF hS
  | pan hv => exact hQ σ _ _ _ _ _ _ h (.pan hv) hF hS
theorem LiftQ.out (hQ : LiftQ Q) (id : Nat) : LiftQ (Out.of id Q) := by
  intro σ e fr s e' fr' s' h he hF hS
  cases he with
  | nrm => exact hQ σ _ _ _ _ _ _ h .nrm hF hS
  | exit i =>
    simp only [Out.of] at h ⊢
    split
    · rename_i hi; rw [if_pos hi] at h; exact hQ σ _ _ _ _ _ _ h .nrm hF hS
    · rename_i hi; rw [if_neg hi] at h; exact hQ σ _ _ _ _ _ _ h (.exit i) hF hS
  | ret => exact hQ σ _ _ _ _ _ _ h .ret hF hS
  | pan hv => exact hQ σ _ _ _ _ _ _ h (.pan hv) hF hS

/-- Plain values. -/
def AVal.plain : AVal → Bool
  | .bool _ | .int _ _ | .str _ => true
  | _ => false
theorem Vr.plain {x y : AVal} (h : Vr σ x y) (hx : x.plain = true) : y = x := by cases h <;> first | rfl | cases hx
/-- The end of a run: plain values in some temporaries. -/
def Rets (l : List (Nat × AVal)) (e : Ex) (fr : Fr) (_ : AS) : Prop := e = .ret ∧ fr.df = [] ∧ ∀ p ∈ l, fr.get p.1 = p.2
theorem LiftQ.rets {l : List (Nat × AVal)} (hl : (l.all fun p => p.2.plain) = true) : LiftQ (Rets l) := by
  intro σ e fr s e' fr' s' ⟨h1, h2, h3⟩ he hF hS
  subst h1
  cases he
  refine ⟨rfl, ?_, fun p hp => ?_⟩
  · have := hF.df
    rw [h2] at this
    generalize fr'.df = d at this ⊢
    cases this; rfl
  · have := hF.tm p.1
    rw [h3 p hp] at this
    exact this.plain (List.all_eq_true.1 hl p hp)

/-- A memory that holds a small one and one thing more. -/
theorem sr_snoc {P : List AObj} {m : List Nat} {g : Nat} {o o' : AObj} (h : memB (m ++ [g]) s P m = true) (hn : nodupB (m ++ [g]) = true) (hg : s.get g = some o') (ho : Or (sig (m ++ [g]) s.nx) o o') : Sr (sig (m ++ [g]) s.nx) (mkS (P ++ [o])) s := by
  obtain ⟨h5, h6⟩ := memB_inv h
  have hlt : ∀ (k x : Nat), (m ++ [g])[k]? = some x → x < s.nx := fun k x e => by
    by_cases hk : k < m.length
    · rw [List.getElem?_append_left hk] at e
      obtain ⟨g', o', e1, e2, _⟩ := h6 k P[k] (by simp [h5, hk])
      rw [e] at e1; obtain rfl := Option.some.inj e1
      exact AS.lt_of_get e2
    · rw [List.getElem?_append_right (by omega)] at e
      have : k - m.length = 0 := by
        cases hq : k - m.length with
        | zero => rfl
        | succ q => rw [hq] at e; simp at e
      rw [this] at e; simp at e; subst e
      exact AS.lt_of_get hg
  refine ⟨?_, ?_, ?_⟩
  · intro a b e
    cases ha : (m ++ [g])[a]? with
    | some x =>
      rw [sig_some ha] at e
      cases hb : (m ++ [g])[b]? with
      | some y => rw [sig_some hb] at e; subst e; exact nodupB_inv hn a b _ ha hb
      | none =>
        rw [sig_none (List.getElem?_eq_none_iff.1 hb)] at e
        have := hlt a x ha; omega
    | none =>
      rw [sig_none (List.getElem?_eq_none_iff.1 ha)] at e
      have ha' := List.getElem?_eq_none_iff.1 ha
      cases hb : (m ++ [g])[b]? with
      | some y =>
        rw [sig_some hb] at e
        have := hlt b y hb; omega
      | none =>
        rw [sig_none (List.getElem?_eq_none_iff.1 hb)] at e
        have hb' := List.getElem?_eq_none_iff.1 hb
        omega
  · intro k x e
    rw [mkS_get] at e
    by_cases hk : k < P.length
    · rw [List.getElem?_append_left hk] at e
      obtain ⟨g', o2, e1, e2, e3⟩ := h6 k x e
      exact ⟨o2, by rw [sig_some (by rw [List.getElem?_append_left (by omega)]; exact e1)]; exact e2, objB_inv _ s.nx e3⟩
    · rw [List.getElem?_append_right (by omega)] at e
      have hq : k - P.length = 0 := by
        cases hq : k - P.length with
        | zero => rfl
        | succ q => rw [hq] at e; simp at e
      rw [hq] at e; simp at e; subst e
      exact ⟨o', by rw [sig_some (m := m ++ [g]) (g := g) (by rw [List.getElem?_append_right (by omega), show k - m.length = 0 by omega]; rfl)]; exact hg, ho⟩
  · intro j
    show sig _ s.nx (llen _ + j) = _
    rw [llen_eq, sig_none (by simp; omega)]
    simp; omega
end
end Go.Avm
