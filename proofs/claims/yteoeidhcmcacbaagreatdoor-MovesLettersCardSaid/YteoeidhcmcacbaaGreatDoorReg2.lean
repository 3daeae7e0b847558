/-
  Regions whose order is open: what the checks say.
-/
import Derived.Test.YteoeidhcmcacbaaGreatDoorReg1
set_option linter.unusedVariables false
set_option linter.unusedSimpArgs false
namespace Go.Avm
open Go.RowKit (Below)

theorem contains_iff {l : List Nat} {t : Nat} : l.contains t = true ↔ t ∈ l := by simp
theorem not_contains {l : List Nat} {t : Nat} (h : (!l.contains t) = true) : t ∉ l := by simpa using h

/-- What okPair says. -/
structure Pair (b : Array Nat) (x y : RI) : Prop where
  act : x.act = true → isBefore b x.i y.i = true
  wr : ∀ t, y.op.dst = some t → t ∈ x.op.looks ∨ x.op.dst = some t → y.act = true ∧ isBefore b x.i y.i = true
  rd : ∀ t, x.op.dst = some t → t ∈ y.op.looks → isBefore b x.i y.i = true
theorem okPair_ok {b : Array Nat} {x y : RI} (h : okPair b x y = true) : Pair b x y := by
  unfold okPair at h
  rw [Bool.and_eq_true, Bool.and_eq_true] at h
  obtain ⟨⟨h1, h2⟩, h3⟩ := h
  refine ⟨fun e => by rw [e] at h1; simpa using h1, fun t e hh => ?_, fun t e hh => ?_⟩
  · rw [e] at h2
    simp only [Bool.or_eq_true, Bool.not_eq_true', Bool.and_eq_true] at h2
    rcases h2 with h2 | h2
    · rw [Bool.or_eq_false_iff] at h2
      rcases hh with hh | hh
      · have := contains_iff.2 hh; rw [h2.1] at this; cases this
      · rw [hh] at h2; simp at h2
    · exact h2
  · rw [e] at h3
    simp only [Bool.or_eq_true, Bool.not_eq_true'] at h3
    rcases h3 with h3 | h3
    · have := contains_iff.2 hh; rw [h3] at this; cases this
    · exact h3

/-- What okOne says. -/
theorem okOne_ok {x : RI} (h : okOne x = true) (ha : x.act = false) : x.op.op.still = true ∧ ∀ t, x.op.dst = some t → t ∉ x.op.looks := by
  unfold okOne at h
  rw [ha, Bool.false_or, Bool.and_eq_true] at h
  refine ⟨h.1, fun t e => ?_⟩
  have h2 := h.2
  rw [e] at h2
  exact not_contains h2

theorem okPairs_ok {b : Array Nat} : ∀ {L : List RI}, okPairs b L = true → L.Pairwise (Pair b) ∧ ∀ x ∈ L, okOne x = true
  | [], _ => ⟨.nil, fun _ h => by cases h⟩
  | x :: l, h => by
    unfold okPairs at h
    rw [Bool.and_eq_true, Bool.and_eq_true] at h
    obtain ⟨⟨h1, h2⟩, h3⟩ := h
    obtain ⟨h4, h5⟩ := okPairs_ok h3
    refine ⟨.cons (fun y hy => okPair_ok (List.all_eq_true.1 h2 y hy)) h4, fun y hy => ?_⟩
    cases hy with
    | head => exact h1
    | tail _ hy => exact h5 y hy

/-- What okEdges says. -/
structure Edges (ops : Array Oper) (b : Array Nat) (p : List Nat) (y : RI) : Prop where
  edge : ∀ o, ops[y.i]? = some o → ∀ e ∈ o.after, Region.binds .any e = true → e.on ∈ p
  cert : ∀ o, ops[y.i]? = some o → ∀ i, i < ops.size → isBefore b i y.i = true → ∃ e ∈ o.after, Region.binds .any e = true ∧ (e.on = i ∨ isBefore b i e.on = true)
  new : y.i ∉ p
theorem okEdges_ok {ops : Array Oper} {b : Array Nat} : ∀ {L : List RI} {seen : List Nat}, okEdges ops b seen L = true → ∀ p y q, L = p ++ y :: q → Edges ops b (seen ++ p.map (·.i)) y
  | [], _, _, p, y, q, e => by cases p <;> cases e
  | z :: l, seen, h, p, y, q, e => by
    unfold okEdges at h
    rw [Bool.and_eq_true, Bool.and_eq_true] at h
    obtain ⟨⟨h1, h2⟩, h3⟩ := h
    cases p with
    | nil =>
      simp only [List.nil_append, List.cons.injEq] at e
      obtain ⟨rfl, rfl⟩ := e
      refine ⟨fun o ho e he hb => ?_, fun o ho i hi hb => ?_, by simpa using h2⟩
      · rw [ho] at h1
        rw [Bool.and_eq_true] at h1
        have := Array.all_eq_true_iff_forall_mem.1 h1.1 e he
        rw [hb] at this
        simpa using this
      · rw [ho] at h1
        rw [Bool.and_eq_true] at h1
        have := List.all_eq_true.1 h1.2 i (List.mem_range.2 hi)
        rw [hb] at this
        simp only [Bool.not_true, Bool.false_or] at this
        obtain ⟨e, he, h4⟩ := Array.any_eq_true'.1 this
        rw [Bool.and_eq_true, Bool.or_eq_true, beq_iff_eq] at h4
        exact ⟨e, he, h4.1, h4.2⟩
    | cons p0 p =>
      simp only [List.cons_append, List.cons.injEq] at e
      obtain ⟨rfl, rfl⟩ := e
      have ih := okEdges_ok h3 p y q rfl
      refine ⟨fun o ho e he hb => ?_, ih.cert, fun hm => ih.new ?_⟩
      · have := ih.edge o ho e he hb
        simp only [List.cons_append, List.mem_cons, List.mem_append, List.map_cons] at this ⊢
        rcases this with h | h | h
        · exact .inr (.inl h)
        · exact .inl h
        · exact .inr (.inr h)
      · simp only [List.cons_append, List.mem_cons, List.mem_append, List.map_cons] at hm ⊢
        rcases hm with h | h | h
        · exact .inr (.inl h)
        · exact .inl h
        · exact .inr (.inr h)

/-- The second looks. -/
def ChkOk (b : Array Nat) : List RI → List RI → Prop
  | _, [] => True
  | pre, y :: l => (y.act = true → ∀ x ∈ pre, isBefore b x.i y.i = false → (x.op.op.reads = true → (x.op.dst, x.op.op, x.op.guard) ∈ y.op.chk) ∧ ∀ t, x.op.dst = some t → t ∈ y.op.pend) ∧
    ChkOk b (if y.act then pre else y :: pre) l

theorem linD_ok {P : Program} {N : Nat} {ops : Array Oper} {b : Array Nat} : ∀ {l : List Nat} {pre L : List RI}, linD P N ops b pre l = some L →
    (∀ x ∈ L, ∃ o, ops[x.i]? = some o ∧ OpIs P N ops o x.op) ∧ ChkOk b pre L
  | [], pre, L, h => by
    obtain rfl := Option.some.inj h
    exact ⟨fun _ h => (by cases h), trivial⟩
  | i :: l, pre, L, h => by
    unfold linD at h
    split at h
    · rename_i o x ho hx
      obtain ⟨o', ho', hx', _⟩ := opAt_inv hx
      rw [ho] at ho'
      obtain rfl := Option.some.inj ho'
      split at h
      · split at h
        · rename_i r hr
          obtain rfl := Option.some.inj h
          obtain ⟨h1, h2⟩ := linD_ok hr
          refine ⟨fun y hy => ?_, fun _ y hy hb => ⟨fun hread => ?_, fun t ht => ?_⟩, h2⟩
          · cases hy with
            | head => exact ⟨o, ho, ⟨hx'.op, hx'.guard, hx'.dst, hx'.lt⟩⟩
            | tail _ hy => exact h1 y hy
          · refine List.mem_map.2 ⟨y, List.mem_filter.2 ⟨List.mem_filter.2 ⟨hy, ?_⟩, hread⟩, rfl⟩
            show (!isBefore b y.i i) = true
            rw [show isBefore b y.i i = false from hb]; rfl
          · refine List.mem_filterMap.2 ⟨y, List.mem_filter.2 ⟨hy, ?_⟩, ht⟩
            show (!isBefore b y.i i) = true
            rw [show isBefore b y.i i = false from hb]; rfl
        · cases h
      · split at h
        · rename_i r hr
          obtain rfl := Option.some.inj h
          obtain ⟨h1, h2⟩ := linD_ok hr
          refine ⟨fun y hy => ?_, fun e => (by cases e), h2⟩
          cases hy with
          | head => exact ⟨o, ho, hx'⟩
          | tail _ hy => exact h1 y hy
        · cases h
    · cases h

/-- All that is known of a region whose order is open. -/
structure LOk (P : Program) (N : Nat) (ops : Array Oper) (b : Array Nat) (L : List RI) : Prop where
  item : ∀ x ∈ L, ∃ o, ops[x.i]? = some o ∧ OpIs P N ops o x.op
  chk : ChkOk b [] L
  pair : L.Pairwise (Pair b)
  one : ∀ x ∈ L, okOne x = true
  edges : ∀ p y q, L = p ++ y :: q → Edges ops b (p.map (·.i)) y
  all : ∀ i, i < ops.size → ∃ x ∈ L, x.i = i

theorem compRegion_draw {P : Program} {N : Nat} {ops : Array Oper} {l : List AOper} (h : compRegion P N ops true = some l) : ∃ L, l = L.map (·.op) ∧ LOk P N ops (Region.before ops) L := by
  unfold compRegion at h
  simp only [if_true] at h
  split at h
  · rename_i L hL
    split at h
    · rename_i hc
      rw [Bool.and_eq_true, Bool.and_eq_true] at hc
      obtain ⟨⟨h1, h2⟩, h3⟩ := hc
      obtain rfl := Option.some.inj h
      obtain ⟨h4, h5⟩ := okPairs_ok h1
      obtain ⟨h6, h7⟩ := linD_ok hL
      refine ⟨L, rfl, h6, h7, h4, h5, fun p y q e => by simpa using okEdges_ok h2 p y q e, fun i hi => ?_⟩
      have := List.all_eq_true.1 h3 i (List.mem_range.2 hi)
      obtain ⟨x, hx, he⟩ := List.any_eq_true.1 this
      exact ⟨x, hx, eq_of_beq he⟩
    · cases h
  · cases h

section
variable {P : Program} {N : Nat} {ops : Array Oper} {b : Array Nat} {L : List RI}

/-- What lies before is done if all is done that an edge asks for. -/
theorem LOk.before (hL : LOk P N ops b L) {D : Nat → Prop} (hD : ∀ j o, D j → ops[j]? = some o → ∀ e ∈ o.after, Region.binds .any e = true → D e.on) :
    ∀ (n : Nat) (p : List RI) (x : RI) (q : List RI), p.length = n → L = p ++ x :: q → ∀ o, ops[x.i]? = some o → (∀ e ∈ o.after, Region.binds .any e = true → D e.on) → ∀ i, i < ops.size → isBefore b i x.i = true → D i := by
  intro n
  induction n using Nat.strongRecOn with
  | _ n ih =>
    intro p x q hn e o ho hd i hi hb
    have hE := hL.edges p x q e
    obtain ⟨ed, he, hbind, hh⟩ := hE.cert o ho i hi hb
    have hDe := hd ed he hbind
    rcases hh with rfl | hh
    · exact hDe
    · have hmem := hE.edge o ho ed he hbind
      obtain ⟨z, hz, hzi⟩ := List.mem_map.1 hmem
      obtain ⟨p1, p2, rfl⟩ := List.append_of_mem hz
      obtain ⟨oz, hoz, _⟩ := hL.item z (by rw [e]; simp)
      refine ih p1.length (by rw [← hn]; simp) p1 z (p2 ++ x :: q) rfl (by rw [e]; simp) oz hoz ?_ i hi (by rw [hzi]; exact hh)
      exact fun e' he' hb' => hD z.i oz (by rw [hzi]; exact hDe) hoz e' he' hb'

theorem LOk.lt (hL : LOk P N ops b L) {x : RI} (hx : x ∈ L) : x.i < ops.size := by
  obtain ⟨o, ho, _⟩ := hL.item x hx
  exact (Array.getElem?_eq_some_iff.1 ho).1

/-- No two have one number. -/
theorem LOk.uniq (hL : LOk P N ops b L) {x y : RI} (hx : x ∈ L) (hy : y ∈ L) (h : x.i = y.i) : x = y := by
  obtain ⟨p, q, e⟩ := List.append_of_mem hx
  have hE := hL.edges p x q e
  rw [e] at hy
  rcases List.mem_append.1 hy with hy' | hy'
  · exact absurd (List.mem_map.2 ⟨y, hy', h.symm⟩) hE.new
  · cases hy' with
    | head => rfl
    | tail _ hy' =>
      obtain ⟨q1, q2, e2⟩ := List.append_of_mem hy'
      have hE2 := hL.edges (p ++ x :: q1) y q2 (by rw [e, e2]; simp)
      exact absurd (List.mem_map.2 ⟨x, by simp, h⟩) hE2.new

theorem pairwise_or {α : Type} {R : α → α → Prop} : ∀ {l : List α}, l.Pairwise R → ∀ {x y : α}, x ∈ l → y ∈ l → x ≠ y → R x y ∨ R y x
  | _, .nil, x, y, h, _, _ => by cases h
  | _, .cons h1 h2, x, y, hx, hy, hne => by
    cases hx with
    | head => cases hy with
      | head => exact absurd rfl hne
      | tail _ hy => exact .inl (h1 _ hy)
    | tail _ hx => cases hy with
      | head => exact .inr (h1 _ hx)
      | tail _ hy => exact pairwise_or h2 hx hy hne
end
end Go.Avm
