/-
  A long run is cut: behind a piece of it the memory is replaced by a small one, without what is reached no more.
-/
import Derived.Test.YteoeidhcmcacbaaGreatDoorEquiv3
import Derived.Test.YteoeidhcmcacbaaGreatDoorFast
set_option linter.unusedVariables false
set_option linter.unusedSimpArgs false
namespace Go.Avm

/-! ### small memories and frames -/
noncomputable def mkT (l : List AObj) : Nat → Tr AObj → Tr AObj := List.rec (motive := fun _ => Nat → Tr AObj → Tr AObj) (fun _ t => t) (fun o _ ih i t => ih (Nat.succ i) (t.set i o)) l
noncomputable def mkS (l : List AObj) : AS := { h := mkT l 0 .e, nx := llen l }
noncomputable def mkF (l : List (Nat × AVal)) : Fr := { tm := List.rec (motive := fun _ => Tr AVal) .e (fun p _ ih => Prod.rec (fun k v => ih.set k v) p) l, df := [] }

theorem mkT_get : ∀ (l : List AObj) (i : Nat) (t : Tr AObj) (g : Nat), (mkT l i t).get g = if i ≤ g ∧ g < i + l.length then l[g - i]? else t.get g
  | [], i, t, g => by rw [if_neg (by simp)]; rfl
  | o :: l, i, t, g => by
    rw [show mkT (o :: l) i t = mkT l (i + 1) (t.set i o) from rfl, mkT_get l (i + 1)]
    by_cases h1 : i + 1 ≤ g ∧ g < i + 1 + l.length
    · rw [if_pos h1, if_pos (by simp; omega), show g - i = (g - (i + 1)) + 1 by omega, List.getElem?_cons_succ]
    · rw [if_neg h1, Tr.get_set]
      by_cases h2 : g = i
      · subst h2; rw [if_pos rfl, if_pos (by simp), Nat.sub_self]; rfl
      · rw [if_neg h2, if_neg (by simp; omega)]
theorem mkS_get (l : List AObj) (g : Nat) : (mkS l).get g = l[g]? := by
  rw [AS.get_eq]
  show (if g < llen l then (mkT l 0 .e).get g else none) = _
  rw [mkT_get, llen_eq]
  by_cases h : g < l.length
  · rw [if_pos h, if_pos ⟨Nat.zero_le _, by omega⟩, Nat.sub_zero]
  · rw [if_neg h, List.getElem?_eq_none (by omega)]
theorem mkF_get {P : AVal → AVal → Prop} (hj : ∀ y, P .junk y) {fr : Fr} : ∀ (l : List (Nat × AVal)), (∀ p ∈ l, P p.2 (fr.get p.1)) → ∀ t, P ((mkF l).get t) (fr.get t)
  | [], _, t => hj _
  | (k, v) :: l, h, t => by
    show P (((mkF l).put (some k) v).get t) _
    rw [Fr.get_put]
    by_cases e : some k = some t
    · rw [if_pos e]; injection e with e; subst e; exact h (k, v) (by simp)
    · rw [if_neg e]; exact mkF_get hj l (fun p hp => h p (by simp [hp])) t

/-! ### what is checked -/
noncomputable def idB (m : List Nat) (g g' : Nat) : Bool := Option.rec (motive := fun _ => Bool) false (fun k => Nat.beq k g') (nth m g)
noncomputable def all2 {α : Type} (f : α → α → Bool) (l : List α) : List α → Bool :=
  List.rec (motive := fun _ => List α → Bool) (fun m => List.rec true (fun _ _ _ => false) m) (fun a _ ih m => List.rec (motive := fun _ => Bool) false (fun b t _ => f a b && ih t) m) l
def capB : Option Nat → Option Nat → Bool
  | none, none => true
  | some a, some b => Nat.beq a b
  | _, _ => false
noncomputable def vrB (m : List Nat) (n : Nat) : AVal → AVal → Bool :=
  Nat.rec (motive := fun _ => AVal → AVal → Bool) (fun _ _ => false) (fun _ ih x y => match x, y with
    | .junk, _ => true
    | .bool a, .bool b => a == b
    | .int k a, .int j b => beqK k j && beqI a b
    | .str a, .str b => beqL a b
    | .ptr g x v, .ptr g' x' v' => idB m g g' && (Nat.beq x x' && Nat.beq v v')
    | .nilptr, .nilptr => true
    | .slice g o l z v c, .slice g' o' l' z' v' c' => idB m g g' && (Nat.beq o o' && (Nat.beq l l' && (Nat.beq z z' && (Nat.beq v v' && capB c c'))))
    | .nilslice, .nilslice => true
    | .map g, .map g' => idB m g g'
    | .nilmap, .nilmap => true
    | .func f a b, .func f' a' b' => Nat.beq f f' && (all2 ih a a' && all2 ih b b')
    | .nilfunc, .nilfunc => true
    | .iface t v, .iface t' v' => Nat.beq t t' && ih v v'
    | .niliface, .niliface => true
    | .agg a, .agg b => all2 ih a b
    | .tuple a, .tuple b => all2 ih a b
    | _, _ => false) n
noncomputable def enB (m : List Nat) (p q : AVal × AVal) : Bool := vrB m 9 p.1 q.1 && vrB m 9 p.2 q.2
noncomputable def objB (m : List Nat) (o o' : AObj) : Bool := match o, o' with
  | .row cs v ex ro, .row cs' v' ex' ro' => all2 (vrB m 9) cs cs' && (Nat.beq v v' && (beqL ex ex' && (ro || !ro')))
  | .map es, .map es' => all2 (enB m) es es'
  | _, _ => false
noncomputable def memB (m : List Nat) (s : AS) (os : List AObj) : List Nat → Bool :=
  List.rec (motive := fun _ => List Nat → Bool) (fun l => List.rec true (fun _ _ _ => false) l)
    (fun o _ ih l => List.rec (motive := fun _ => Bool) false (fun g t _ => Option.rec (motive := fun _ => Bool) false (fun o' => objB m o o' && ih t) (s.get g)) l) os
noncomputable def freshB (g : Nat) (l : List Nat) : Bool := List.rec (motive := fun _ => Bool) true (fun k _ ih => bif Nat.beq g k then false else ih) l
noncomputable def nodupB (l : List Nat) : Bool := List.rec (motive := fun _ => Bool) true (fun g t ih => freshB g t && ih) l
noncomputable def frB (m : List Nat) (fr : Fr) (l : List (Nat × AVal)) : Bool := List.rec (motive := fun _ => Bool) true (fun p _ ih => vrB m 9 p.2 (fr.get p.1) && ih) l
/-- Behind a piece of a run the small frame and the small memory stand for what there is; m: where its things stand. -/
noncomputable def okCut (r : Res) (fl : List (Nat × AVal)) (os : List AObj) (m : List Nat) : Bool :=
  match r with
  | some (.nrm, fr, s) => frB m fr fl && (memB m s os m && (nodupB m && (match fr.df with | [] => true | _ => false)))
  | _ => false

/-! ### and that it is so -/
noncomputable def sig (m : List Nat) (nx k : Nat) : Nat := match m[k]? with
  | some g => g
  | none => nx + (k - m.length)
theorem sig_some {m : List Nat} {nx k g : Nat} (h : m[k]? = some g) : sig m nx k = g := by unfold sig; rw [h]
theorem sig_none {m : List Nat} {nx k : Nat} (h : m.length ≤ k) : sig m nx k = nx + (k - m.length) := by unfold sig; rw [List.getElem?_eq_none h]
theorem idB_inv {m : List Nat} {g g' nx : Nat} (h : idB m g g' = true) : g' = sig m nx g := by
  unfold idB at h
  rw [nth_eq] at h
  cases hg : m[g]? with
  | none => rw [hg] at h; cases h
  | some k => rw [hg] at h; rw [sig_some hg]; exact (beqN_iff.1 h).symm
theorem all2_cons {α : Type} (f : α → α → Bool) (a b : α) (l m : List α) : all2 f (a :: l) (b :: m) = (f a b && all2 f l m) := rfl
theorem all2_vrs {σ : Nat → Nat} {f : AVal → AVal → Bool} (hf : ∀ x y, f x y = true → Vr σ x y) : ∀ {l m : List AVal}, all2 f l m = true → Vrs σ l m
  | [], [], _ => .nil
  | [], _ :: _, h => by cases h
  | _ :: _, [], h => by cases h
  | a :: l, b :: m, h => by
    rw [all2_cons, Bool.and_eq_true] at h
    exact .cons (hf _ _ h.1) (all2_vrs hf h.2)
theorem capB_inv {a b : Option Nat} (h : capB a b = true) : a = b := by
  cases a <;> cases b <;> first | rfl | (cases h; done) | (rw [beqN_iff.1 h])
theorem vrB_inv (m : List Nat) (nx : Nat) : ∀ (n : Nat) (x y : AVal), vrB m n x y = true → Vr (sig m nx) x y
  | 0, _, _, h => by cases h
  | n + 1, x, y, h => by
    have ih := vrB_inv m nx n
    have h' : (match (generalizing := false) x, y with
    | .junk, _ => true
    | .bool a, .bool b => a == b
    | .int k a, .int j b => beqK k j && beqI a b
    | .str a, .str b => beqL a b
    | .ptr g x v, .ptr g' x' v' => idB m g g' && (Nat.beq x x' && Nat.beq v v')
    | .nilptr, .nilptr => true
    | .slice g o l z v c, .slice g' o' l' z' v' c' => idB m g g' && (Nat.beq o o' && (Nat.beq l l' && (Nat.beq z z' && (Nat.beq v v' && capB c c'))))
    | .nilslice, .nilslice => true
    | .map g, .map g' => idB m g g'
    | .nilmap, .nilmap => true
    | .func f a b, .func f' a' b' => Nat.beq f f' && (all2 (vrB m n) a a' && all2 (vrB m n) b b')
    | .nilfunc, .nilfunc => true
    | .iface t v, .iface t' v' => Nat.beq t t' && vrB m n v v'
    | .niliface, .niliface => true
    | .agg a, .agg b => all2 (vrB m n) a b
    | .tuple a, .tuple b => all2 (vrB m n) a b
    | _, _ => false) = true := h
    clear h
    split at h'
    all_goals try simp only [Bool.and_eq_true] at h'
    · exact .junk _
    · rw [beq_iff_eq] at h'; subst h'; exact .bool _
    · rw [beqK_eq, beqI_eq, decide_eq_true_iff, decide_eq_true_iff] at h'; obtain ⟨rfl, rfl⟩ := h'; exact .int _ _
    · rw [beqL_eq, decide_eq_true_iff] at h'; subst h'; exact .str _
    · obtain ⟨h1, h2, h3⟩ := h'
      rw [idB_inv (nx := nx) h1, ← beqN_iff.1 h2, ← beqN_iff.1 h3]; exact .ptr _ _ _
    · exact .nilptr
    · obtain ⟨h1, h2, h3, h4, h5, h6⟩ := h'
      rw [idB_inv (nx := nx) h1, ← beqN_iff.1 h2, ← beqN_iff.1 h3, ← beqN_iff.1 h4, ← beqN_iff.1 h5, ← capB_inv h6]; exact .slice _ _ _ _ _ _
    · exact .nilslice
    · rw [idB_inv (nx := nx) h']; exact .map _
    · exact .nilmap
    · obtain ⟨h1, h2, h3⟩ := h'
      rw [← beqN_iff.1 h1]; exact .func _ (all2_vrs ih h2) (all2_vrs ih h3)
    · exact .nilfunc
    · rw [← beqN_iff.1 h'.1]; exact .iface _ (ih _ _ h'.2)
    · exact .niliface
    · exact .agg (all2_vrs ih h')
    · exact .tuple (all2_vrs ih h')
    · cases h'
theorem enB_inv (m : List Nat) (nx : Nat) : ∀ {l k : List (AVal × AVal)}, all2 (enB m) l k = true → Mr (sig m nx) l k
  | [], [], _ => .nil
  | [], _ :: _, h => by cases h
  | _ :: _, [], h => by cases h
  | (a, b) :: l, (a', b') :: k, h => by
    rw [all2_cons, Bool.and_eq_true] at h
    have h1 : (vrB m 9 a a' && vrB m 9 b b') = true := h.1
    rw [Bool.and_eq_true] at h1
    exact .cons (vrB_inv m nx 9 _ _ h1.1) (vrB_inv m nx 9 _ _ h1.2) (enB_inv m nx h.2)
theorem objB_inv (m : List Nat) (nx : Nat) {o o' : AObj} (h : objB m o o' = true) : Or (sig m nx) o o' := by
  unfold objB at h
  split at h
  · simp only [Bool.and_eq_true] at h
    obtain ⟨h1, h2, h3, h4⟩ := h
    rw [← beqN_iff.1 h2]
    rw [beqL_eq, decide_eq_true_iff] at h3
    rw [← h3]
    refine .row (all2_vrs (vrB_inv m nx 9) h1) _ _ ?_
    intro e
    rw [e] at h4
    simpa using h4
  · exact .map (enB_inv m nx h)
  · cases h
theorem memB_inv {m : List Nat} {s : AS} : ∀ {os : List AObj} {l : List Nat}, memB m s os l = true → os.length = l.length ∧ ∀ (k : Nat) (o : AObj), os[k]? = some o → ∃ (g : Nat) (o' : AObj), l[k]? = some g ∧ s.get g = some o' ∧ objB m o o' = true
  | [], [], _ => ⟨rfl, fun k o e => by simp at e⟩
  | [], _ :: _, h => by cases h
  | _ :: _, [], h => by cases h
  | o :: os, g :: l, h => by
    have h' : (Option.rec (motive := fun _ => Bool) false (fun o' => objB m o o' && memB m s os l) (s.get g) : Bool) = true := h
    cases hg : s.get g with
    | none => rw [hg] at h'; cases h'
    | some o' =>
      rw [hg] at h'
      have h' : (objB m o o' && memB m s os l) = true := h'
      rw [Bool.and_eq_true] at h'
      obtain ⟨h1, h2⟩ := memB_inv h'.2
      refine ⟨by simp [h1], fun k q e => ?_⟩
      cases k with
      | zero => simp at e; subst e; exact ⟨g, o', rfl, hg, h'.1⟩
      | succ k => simp only [List.getElem?_cons_succ] at e ⊢; exact h2 k q e
theorem freshB_inv {g : Nat} : ∀ {l : List Nat}, freshB g l = true → ∀ (k x : Nat), l[k]? = some x → x ≠ g
  | [], _, k, x, e => by simp at e
  | y :: l, h, k, x, e => by
    obtain ⟨h1, h2⟩ : Nat.beq g y = false ∧ freshB g l = true := by
      have h' : (bif Nat.beq g y then false else freshB g l) = true := h
      cases hb : Nat.beq g y with
      | true => rw [hb] at h'; cases h'
      | false => rw [hb] at h'; exact ⟨rfl, h'⟩
    cases k with
    | zero =>
      simp at e; subst e
      intro e; rw [e, Nat.beq_refl] at h1; cases h1
    | succ k => exact freshB_inv h2 k x (by simpa using e)
theorem nodupB_inv : ∀ {l : List Nat}, nodupB l = true → ∀ (i j x : Nat), l[i]? = some x → l[j]? = some x → i = j
  | [], _, i, j, x, e, _ => by simp at e
  | y :: l, h, i, j, x, e1, e2 => by
    have h' : (freshB y l && nodupB l) = true := h
    rw [Bool.and_eq_true] at h'
    cases i with
    | zero =>
      cases j with
      | zero => rfl
      | succ j => simp at e1 e2; subst e1; exact absurd rfl (freshB_inv h'.1 j _ e2)
    | succ i =>
      cases j with
      | zero => simp at e1 e2; subst e2; exact absurd rfl (freshB_inv h'.1 i _ e1)
      | succ j => rw [nodupB_inv h'.2 i j x (by simpa using e1) (by simpa using e2)]
theorem frB_inv {m : List Nat} {fr : Fr} : ∀ {l : List (Nat × AVal)}, frB m fr l = true → ∀ p ∈ l, vrB m 9 p.2 (fr.get p.1) = true
  | [], _, p, hp => by simp at hp
  | q :: l, h, p, hp => by
    have h' : (vrB m 9 q.2 (fr.get q.1) && frB m fr l) = true := h
    rw [Bool.and_eq_true] at h'
    rcases List.mem_cons.1 hp with rfl | hp
    · exact h'.1
    · exact frB_inv h'.2 p hp
theorem okCut_sr {r : Res} {fl : List (Nat × AVal)} {os : List AObj} {m : List Nat} (h : okCut r fl os m = true) {e : Ex} {fr : Fr} {s : AS} (hr : r = some (e, fr, s)) : Sr (sig m s.nx) (mkS os) s := by
  unfold okCut at h
  split at h
  · rename_i fr1 s1
    have hr := Option.some.inj hr
    injection hr with _ hr
    injection hr with q1 q2
    subst q1 q2
    simp only [Bool.and_eq_true] at h
    obtain ⟨h1, h2, h3, h4⟩ := h
    obtain ⟨h5, h6⟩ := memB_inv h2
    have hlt : ∀ (k g : Nat), m[k]? = some g → g < s1.nx := fun k g e => by
      have hk : k < os.length := by rw [h5]; exact (List.getElem?_eq_some_iff.1 e).1
      obtain ⟨g', o', e1, e2, _⟩ := h6 k os[k] (by simp [hk])
      rw [e] at e1; obtain rfl := Option.some.inj e1
      exact AS.lt_of_get e2
    refine ⟨?_, ?_, ?_⟩
    · intro a b e
      cases ha : m[a]? with
      | some x =>
        rw [sig_some ha] at e
        cases hb : m[b]? with
        | some y => rw [sig_some hb] at e; subst e; exact nodupB_inv h3 a b _ ha hb
        | none =>
          rw [sig_none (List.getElem?_eq_none_iff.1 hb)] at e
          have := hlt a x ha; omega
      | none =>
        rw [sig_none (List.getElem?_eq_none_iff.1 ha)] at e
        have ha' := List.getElem?_eq_none_iff.1 ha
        cases hb : m[b]? with
        | some y =>
          rw [sig_some hb] at e
          have := hlt b y hb; omega
        | none =>
          rw [sig_none (List.getElem?_eq_none_iff.1 hb)] at e
          have hb' := List.getElem?_eq_none_iff.1 hb
          omega
    · intro g o e
      rw [mkS_get] at e
      obtain ⟨g', o', e1, e2, e3⟩ := h6 g o e
      exact ⟨o', by rw [sig_some e1]; exact e2, objB_inv m s1.nx e3⟩
    · intro j
      show sig m s1.nx (llen os + j) = _
      rw [llen_eq, sig_none (by omega), h5]; omega
  · cases h
theorem okCut_at {r : Res} {fl : List (Nat × AVal)} {os : List AObj} {m : List Nat} (h : okCut r fl os m = true) : ∃ fr s σ, r = some (.nrm, fr, s) ∧ Frr σ (mkF fl) fr ∧ Sr σ (mkS os) s ∧ (∀ (k g : Nat), m[k]? = some g → σ k = g) ∧ ∀ p ∈ fl, Vr σ p.2 (fr.get p.1) := by
  have h0 := h
  unfold okCut at h
  split at h
  · rename_i fr s
    simp only [Bool.and_eq_true] at h
    obtain ⟨h1, h2, h3, h4⟩ := h
    have hdf : fr.df = [] := by
      cases hd : fr.df with
      | nil => rfl
      | cons _ _ => rw [hd] at h4; cases h4
    exact ⟨fr, s, sig m s.nx, rfl, ⟨mkF_get (P := Vr (sig m s.nx)) .junk fl (fun p hp => vrB_inv m s.nx 9 _ _ (frB_inv h1 p hp)), by rw [hdf]; exact .nil⟩, okCut_sr h0 rfl, fun k g e => sig_some e, fun p hp => vrB_inv m s.nx 9 _ _ (frB_inv h1 p hp)⟩
  · cases h
theorem okCut_inv {r : Res} {fl : List (Nat × AVal)} {os : List AObj} {m : List Nat} (h : okCut r fl os m = true) : ∃ fr s σ, r = some (.nrm, fr, s) ∧ Frr σ (mkF fl) fr ∧ Sr σ (mkS os) s := by
  obtain ⟨fr, s, σ, h1, h2, h3, _⟩ := okCut_at h
  exact ⟨fr, s, σ, h1, h2, h3⟩

section
variable {tab : Nat → Option AFn}
/-- Returns a run with true, by a temporary? -/
noncomputable def retTrue (t : Nat) : Option (Ex × Fr × AS) → Bool
  | some (.ret, fr, _) => (match fr.get t with | .bool b => b | _ => false) && (match fr.df with | [] => true | _ => false)
  | _ => false
theorem retTrue_inv {t : Nat} {r : Option (Ex × Fr × AS)} (h : retTrue t r = true) : ∃ fr s, r = some (.ret, fr, s) ∧ fr.get t = .bool true ∧ fr.df = [] := by
  unfold retTrue at h
  split at h
  · rename_i fr s
    rw [Bool.and_eq_true] at h
    obtain ⟨h1, h2⟩ := h
    refine ⟨fr, s, rfl, ?_, ?_⟩
    · cases hv : fr.get t <;> rw [hv] at h1 <;> first | (cases h1; done) | (simp only at h1; subst h1; rfl)
    · cases hd : fr.df with
      | nil => rfl
      | cons _ _ => rw [hd] at h2; cases h2
  · cases h
/-- The end of a run that returns true. -/
def Yes (t : Nat) (e : Ex) (fr : Fr) (_ : AS) : Prop := e = .ret ∧ fr.get t = .bool true ∧ fr.df = []
theorem yes_run {c : AC} {fr : Fr} {s : AS} {n t : Nat} (h : retTrue t (Fast.exec tab n c fr s) = true) : Wp tab c fr s (Yes t) := by
  rw [Fast.exec_eq] at h
  obtain ⟨fr1, s1, e, h1, h2⟩ := retTrue_inv h
  exact ⟨n, _, fr1, s1, e, rfl, h1, h2⟩
theorem yes_lift (hT : TabR tab) {c : AC} (hc : c.ok = true) {σ : Nat → Nat} {fr fr' : Fr} {s s' : AS} {t : Nat} (h : Wp tab c fr s (Yes t)) (hF : Frr σ fr fr') (hS : Sr σ s s') : Wp tab c fr' s' (Yes t) := by
  obtain ⟨n, e, fr1, s1, h1, rfl, h2, h3⟩ := h
  obtain ⟨⟨e', fr1', s1'⟩, h4, h5, h6, h7, h8⟩ := exec_r hT n σ c fr fr' s s' _ hc h1 hF hS
  cases h5
  refine ⟨n, _, fr1', s1', h4, rfl, ?_, ?_⟩
  · have := h6.tm t
    simp only at this
    rw [h2] at this
    generalize fr1'.get t = v at this ⊢
    cases this; rfl
  · have := h6.df
    simp only at this
    rw [h3] at this
    generalize fr1'.df = d at this ⊢
    cases this; rfl
/-- A run is cut behind its first piece. -/
theorem yes_cut (hT : TabR tab) {a b : AC} (hb : b.ok = true) {fr : Fr} {s : AS} {n t : Nat} {fl : List (Nat × AVal)} {os : List AObj} {m : List Nat} (h : okCut (Fast.exec tab n a fr s) fl os m = true) (k : Wp tab b (mkF fl) (mkS os) (Yes t)) : Wp tab (.seq a b) fr s (Yes t) := by
  rw [Fast.exec_eq] at h
  obtain ⟨fr1, s1, σ, e, hF, hS⟩ := okCut_inv h
  exact aw_seq ⟨n, _, fr1, s1, e, yes_lift hT hb k hF hS⟩
theorem yes_assoc {a b c : AC} {fr : Fr} {s : AS} {t : Nat} (h : Wp tab (.seq (.seq a b) c) fr s (Yes t)) : Wp tab (.seq a (.seq b c)) fr s (Yes t) := by
  obtain ⟨n, e, fr1, s1, h1, rfl, h2⟩ := h
  cases n with
  | zero => cases h1
  | succ n =>
    rw [exec_succ] at h1
    simp only [step] at h1
    cases hab : exec tab n (.seq a b) fr s with
    | none => rw [hab] at h1; cases h1
    | some r =>
      obtain ⟨e3, fr3, s3⟩ := r
      rw [hab] at h1
      cases n with
      | zero => cases hab
      | succ n =>
        rw [exec_succ] at hab
        simp only [step] at hab
        cases ha : exec tab n a fr s with
        | none => rw [ha] at hab; cases hab
        | some q =>
          obtain ⟨e4, fr4, s4⟩ := q
          rw [ha] at hab
          cases e4 <;> simp only at hab
          case nrm =>
            cases e3 <;> simp only at h1
            case nrm => exact aw_seq ⟨n, .nrm, fr4, s4, ha, aw_seq ⟨n, .nrm, fr3, s3, hab, n + 1, .ret, fr1, s1, h1, rfl, h2⟩⟩
            case ret =>
              have h1 := Option.some.inj h1
              injection h1 with _ h1
              injection h1 with q1 q2
              subst q1 q2
              exact aw_seq ⟨n, .nrm, fr4, s4, ha, aw_seq ⟨n, .ret, fr3, s3, hab, rfl, h2⟩⟩
            all_goals cases h1
          case ret =>
            have hab := Option.some.inj hab
            injection hab with q0 hab
            injection hab with q1 q2
            subst q0 q1 q2
            have h1 := Option.some.inj h1
            injection h1 with _ h1
            injection h1 with q1 q2
            subst q1 q2
            exact aw_seq ⟨n, .ret, fr4, s4, ha, rfl, h2⟩
          all_goals
            have hab := Option.some.inj hab
            injection hab with q0 hab
            subst q0
            cases h1
end

/-! ### tables whose code holds no numbers of things -/
def AFn.ok : AFn → Bool
  | .fn b _ => b.ok
  | .indexByte => true
  | .orc _ => false
def Tr.allB {α : Type} (f : α → Bool) : Tr α → Bool
  | .e => true
  | .n l v r => (match v with | none => true | some x => f x) && (l.allB f && r.allB f)
theorem Tr.allB_get {α : Type} {f : α → Bool} : ∀ {t : Tr α}, t.allB f = true → ∀ {k : Nat} {x : α}, t.get k = some x → f x = true
  | .e, _, _, _, h => by cases h
  | .n l v r, h, k, x, hx => by
    simp only [Tr.allB, Bool.and_eq_true] at h
    rw [Tr.get_n] at hx
    by_cases h1 : k = 0
    · rw [if_pos h1] at hx; subst hx; exact h.1
    · rw [if_neg h1] at hx
      by_cases h2 : k % 2 = 1
      · rw [if_pos h2] at hx; exact Tr.allB_get h.2.1 hx
      · rw [if_neg h2] at hx; exact Tr.allB_get h.2.2 hx
theorem tabR_of {t : Tr AFn} (h : t.allB AFn.ok = true) : TabR (fun f => t.get f) :=
  ⟨fun f body rs e => Tr.allB_get (x := .fn body rs) h e, fun f g e => by have := Tr.allB_get (x := .orc g) h e; cases this⟩
theorem yes_callR : CallR (fun _ => yes) := by
  intro σ f args args' s s' out s1 h ha hS
  cases ha with
  | cons => cases h
  | nil =>
    have h := Option.some.inj h
    injection h with q1 q2
    subst q1 q2
    exact ⟨_, _, rfl, .ret (.bool true), hS, .refl _⟩
theorem tabR_known {tab : Nat → Option AFn} (hT : TabR tab) (a : Nat) : TabR (known tab a) := by
  refine ⟨fun f body rs e => ?_, fun f g e => ?_⟩
  · rw [known_eq] at e
    split at e
    · cases e
    · exact hT.ok f body rs e
  · rw [known_eq] at e
    split at e
    · injection e with e; injection e with e; subst e; exact yes_callR
    · exact hT.orc f g e
end Go.Avm
