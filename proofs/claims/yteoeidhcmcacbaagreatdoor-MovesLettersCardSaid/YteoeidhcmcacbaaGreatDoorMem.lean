/-
  What stores and appends do to memories that are alike.
-/
import Derived.Test.YteoeidhcmcacbaaGreatDoorRel
set_option linter.unusedVariables false
set_option linter.unusedSimpArgs false
namespace Go.Avm
open Go.RowKit (Below)

theorem setCells_heap (b : Nat) : ∀ (vs : List Value) (o : Nat) (w : World) (k : Nat), k ≠ b → (w.setCells b o vs).heap[k]? = w.heap[k]?
  | [], _, _, _, _ => rfl
  | v :: r, o, w, k, h => by
    rw [World.setCells, setCells_heap b r (o + 1) _ k h]
    exact Below.heap_setCell _ _ _ _ h
theorem setCell_size (w : World) (a : Addr) (v : Value) : (w.setCell a v).heap.size = w.heap.size := by simp [World.setCell]
theorem setCells_size (b : Nat) : ∀ (vs : List Value) (o : Nat) (w : World), (w.setCells b o vs).heap.size = w.heap.size
  | [], _, _ => rfl
  | v :: r, o, w => by rw [World.setCells, setCells_size b r, setCell_size]
theorem setCell_shape (w : World) (a : Addr) (v : Value) (k : Nat) : (w.setCell a v).shape? k = w.shape? k := by
  unfold World.shape? World.setCell
  simp only [Array.getElem?_modify]
  by_cases h : a.block = k
  · rw [if_pos h]
    cases hk : w.heap[k]? with
    | none => simp
    | some o => cases o <;> simp <;> split <;> simp
  · rw [if_neg h]
theorem setCells_shape (b : Nat) : ∀ (vs : List Value) (o : Nat) (w : World) (k : Nat), (w.setCells b o vs).shape? k = w.shape? k
  | [], _, _, _ => rfl
  | v :: r, o, w, k => by rw [World.setCells, setCells_shape b r, setCell_shape]
theorem setCells_below (b : Nat) {B : Nat} (hB : B ≤ b) : ∀ (vs : List Value) (o : Nat) (w : World), Below B w (w.setCells b o vs)
  | [], _, w => .refl _ _
  | v :: r, o, w => ((Below.refl B w).setCell (p := ⟨b, o, none⟩) hB v).trans (setCells_below b hB r (o + 1) _)

theorem cell_lt {w : World} {b o : Nat} {y : Value} (h : w.cell? ⟨b, o, none⟩ = some y) : b < w.heap.size := by
  unfold World.cell? at h
  cases hb : w.heap[b]? with
  | none => rw [hb] at h; cases h
  | some o => exact (Array.getElem?_eq_some_iff.1 hb).1
theorem cell_in {w : World} {b o n : Nat} {y : Value} {e : TypeId} (h : w.cell? ⟨b, o, none⟩ = some y) (hs : w.shape? b = some (e, n)) : o < n := by
  unfold World.cell? at h
  unfold World.shape? at hs
  cases hb : w.heap[b]? with
  | none => rw [hb] at h; cases h
  | some x =>
    rw [hb] at h hs
    cases x <;> simp at h hs
    rename_i c _ _
    obtain ⟨h1, h2⟩ := hs
    subst h2
    exact (Array.getElem?_eq_some_iff.1 h).1
theorem cell_of_shape {w : World} {b o n : Nat} {e : TypeId} (hs : w.shape? b = some (e, n)) (ho : o < n) : (w.cell? ⟨b, o, none⟩).isSome = true := by
  unfold World.cell?
  unfold World.shape? at hs
  cases hb : w.heap[b]? with
  | none => rw [hb] at hs; cases hs
  | some x =>
    rw [hb] at hs
    cases x <;> simp at hs
    rename_i c _ _
    obtain ⟨_, h2⟩ := hs
    subst h2
    simp [ho]
theorem cell_notmap {w : World} {k : Nat} {es : Array MapEntry} {ck : Nat} (h : w.heap[k]? = some (.map es ck)) (x : TypeId × Nat) : w.shape? k ≠ some x := by
  unfold World.shape?; rw [h]; simp

section
variable {B : Nat} {ρ : Emb} {s : AS} {w : World}

/-- Other rows lie in other blocks. -/
theorem Rel.apart (h : Rel B ρ s w) {g v g' v' : Nat} {L L' : Loc} (h1 : ρ.row g v = some L) (h2 : ρ.row g' v' = some L') (hne : g' ≠ g) : L'.b ≠ L.b :=
  fun e => hne (h.disj _ _ _ _ _ _ h2 h1 e).1
theorem Rel.mapApart (h : Rel B ρ s w) {g v r k : Nat} {L : Loc} (h1 : ρ.row g v = some L) (h2 : ρ.mp r = some k) : k ≠ L.b := by
  intro e
  obtain ⟨_, _, _, _, _, _, h3⟩ := h.row _ _ _ h1
  obtain ⟨_, h4⟩ := h3.shape
  obtain ⟨_, _, _, _, _, _, h5, _⟩ := h.mp _ _ h2
  exact cell_notmap (e ▸ h5) _ h4

/-- What a version of another row shows stays. -/
theorem RowAt.far {cs : List AVal} {cur v : Nat} {exts : List Nat} {ro : Bool} {L : Loc} (h : RowAt B ρ w cs cur exts ro v L) {w' : World} (e : w'.heap[L.b]? = w.heap[L.b]?) :
    RowAt B ρ w' cs cur exts ro v L := by
  refine ⟨h.ver, ?_, fun hro => ⟨(h.own hro).1, fun i hi => ?_⟩, h.le, fun x hx j h1 h2 => ?_⟩
  · simpa only [World.shape?, e] using h.shape
  · have := (h.own hro).2 i hi
    simpa only [World.frozen?, e] using this
  · obtain ⟨c, y, h3, h4, h5, h6⟩ := h.cells x hx j h1 h2
    exact ⟨c, y, h3, by simpa only [World.cell?, Loc.at, e] using h4, h5, h6⟩
theorem RowAt.mono {ρ' : Emb} {cs : List AVal} {cur v : Nat} {exts : List Nat} {ro : Bool} {L : Loc} (h : RowAt B ρ w cs cur exts ro v L) (e : Ext ρ ρ') : RowAt B ρ' w cs cur exts ro v L :=
  ⟨h.ver, h.shape, h.own, h.le, fun x hx j h1 h2 => by
    obtain ⟨c, y, h3, h4, h5, h6⟩ := h.cells x hx j h1 h2
    exact ⟨c, y, h3, h4, h5.mono e, h6⟩⟩

theorem splice_len {cs vs : List AVal} {x : Nat} (h : x + vs.length ≤ cs.length) : (splice cs x vs).length = cs.length := by
  simp [splice]; omega
theorem splice_at {cs vs : List AVal} {x : Nat} (h : x + vs.length ≤ cs.length) (i : Nat) :
    (splice cs x vs)[i]? = if x ≤ i ∧ i < x + vs.length then vs[i - x]? else cs[i]? := by
  simp only [splice, lapp_eq, ltake_eq, ldrop_eq, llen_eq]
  by_cases h1 : i < x
  · rw [if_neg (by omega), List.getElem?_append_left (by simp; omega), List.getElem?_take, if_pos h1]
  · by_cases h2 : i < x + vs.length
    · rw [if_pos ⟨by omega, h2⟩, List.getElem?_append_right (by simp; omega), List.getElem?_append_left (by simp; omega)]
      congr 1; simp; omega
    · rw [if_neg (by omega), List.getElem?_append_right (by simp; omega), List.getElem?_append_right (by simp; omega), List.getElem?_drop]
      congr 1; simp; omega

/-- A store into the last version of a row. -/
theorem Rel.put (h : Rel B ρ s w) {g x cur e0 : Nat} {cs : List AVal} {t : List Nat} (hg : s.get g = some (.row cs cur (e0 :: t) false)) {L : Loc} (hL : ρ.row g cur = some L) (hx : L.lo ≤ x)
    {vs : List AVal} {VS : List Value} (hv : Vs ρ vs VS) (hone : ∀ c ∈ vs, c.one = true) (hle : x + vs.length ≤ e0) :
    Rel B ρ (s.set g (.row (splice cs x vs) cur [e0] false)) (w.setCells L.b (L.o + (x - L.lo)) VS) ∧ Below B w (w.setCells L.b (L.o + (x - L.lo)) VS) := by
  obtain ⟨hlt, cs', cur', exts', ro', hg', hra⟩ := h.row _ _ _ hL
  rw [hg] at hg'
  injection hg' with hg'
  injection hg' with e1 e2 e3 e4
  subst e1 e2 e3 e4
  have hBl : B ≤ L.b := (hra.own rfl).1
  have he0 : e0 ≤ cs.length := hra.le e0 (by simp)
  have hlen := hv.length
  refine ⟨⟨?_, ?_, ?_, h.disj, h.mdisj⟩, setCells_below _ hBl _ _ _⟩
  · rw [setCells_size]; exact h.base
  · intro g' v' L' hL'
    obtain ⟨h1, cs', cur', exts', ro', h2, h3⟩ := h.row g' v' L' hL'
    refine ⟨h1, ?_⟩
    by_cases hgg : g' = g
    · subst hgg
      rw [hg] at h2
      injection h2 with h2
      injection h2 with e1 e2 e3 e4
      subst e1 e2 e3 e4
      refine ⟨_, _, _, _, AS.get_set_same _ _ h1, h3.ver, by simpa only [setCells_shape] using h3.shape, fun hro => ⟨(h3.own rfl).1, fun i hi => by rw [World.frozen?_setCells]; exact (h3.own rfl).2 i hi⟩, ?_, ?_⟩
      · intro e he
        rw [splice_len (by omega)]
        cases hz : cur - v' with
        | zero => rw [hz] at he; simp at he; omega
        | succ n => rw [hz] at he; simp at he
      · intro e he j hj1 hj2
        cases hz : cur - v' with
        | succ n => rw [hz] at he; simp at he
        | zero =>
          have hvv : v' = cur := by have := h3.ver; omega
          subst hvv
          rw [hL] at hL'
          obtain rfl := Option.some.inj hL'
          rw [hz] at he
          simp at he
          subst he
          rw [splice_at (by omega)]
          by_cases hin : x ≤ j ∧ j < x + vs.length
          · rw [if_pos hin]
            have hj' : j - x < vs.length := by omega
            have hj'' : j - x < VS.length := by omega
            refine ⟨vs[j - x], VS[j - x], by simp [hj'], ?_, hv.get (i := j - x) (by simp [hj']) (by simp [hj'']), hone _ (List.getElem_mem _)⟩
            have hin := World.cell?_setCells_in L.b VS (L.o + (x - L.lo)) w (fun i hi => by
              obtain ⟨c, y, _, h5, _⟩ := hra.cells e0 (by simp) (x + i) (by omega) (by omega)
              have : L.at (x + i) = ⟨L.b, L.o + (x - L.lo) + i, none⟩ := by unfold Loc.at; congr 1; omega
              rw [this] at h5; rw [h5]; rfl) (j - x) hj''
            have : L.at j = ⟨L.b, L.o + (x - L.lo) + (j - x), none⟩ := by unfold Loc.at; congr 1; omega
            rw [this]; exact hin
          · rw [if_neg hin]
            obtain ⟨c, y, h4, h5, h6, h7⟩ := h3.cells e0 (by simp) j hj1 hj2
            refine ⟨c, y, h4, ?_, h6, h7⟩
            rw [World.cell?_setCells_out]
            · exact h5
            · intro _ _
              show L.o + (j - L.lo) < _ ∨ _ ≤ L.o + (j - L.lo)
              omega
    · refine ⟨cs', cur', exts', ro', by rw [AS.get_set_ne _ _ hgg]; exact h2, h3.far ?_⟩
      exact setCells_heap _ _ _ _ _ (h.apart hL hL' hgg)
  · intro r k hk
    obtain ⟨h1, h2, es, Es, ck, h3, h4, h5⟩ := h.mp r k hk
    have hne := h.mapApart hL hk
    refine ⟨h1, h2, es, Es, ck, ?_, by rw [setCells_heap _ _ _ _ _ hne]; exact h4, h5⟩
    rw [AS.get_set_ne]
    · exact h3
    · intro e; subst e; rw [hg] at h3; cases h3

/-- The last version of a row is another one from now on: where it lies, L; what it shows, cs'. -/
theorem Rel.version (h : Rel B ρ s w) {g cur : Nat} {cs cs' : List AVal} {exts exts' : List Nat} (hg : s.get g = some (.row cs cur exts false)) (hm : ∃ v L, ρ.row g v = some L)
    {w' : World} {L : Loc} (hbase : B ≤ w'.heap.size)
    (hfar : ∀ g' v' L', ρ.row g' v' = some L' → g' ≠ g → w'.heap[L'.b]? = w.heap[L'.b]?)
    (hmap : ∀ r k, ρ.mp r = some k → w'.heap[k]? = w.heap[k]?)
    (hold : ∀ v' L', ρ.row g v' = some L' → RowAt B ρ w cs cur exts false v' L' → RowAt B ρ w' cs' (cur + 1) exts' false v' L')
    (hnew : RowAt B ρ w' cs' (cur + 1) exts' false (cur + 1) L)
    (hdis : ∀ g' v' L', ρ.row g' v' = some L' → L'.b = L.b → g' = g ∧ L'.o + L.lo = L.o + L'.lo) :
    ∃ ρ', Rel B ρ' (s.set g (.row cs' (cur + 1) exts' false)) w' ∧ Ext ρ ρ' ∧ (∀ k, Mapped ρ' k → Mapped ρ k) ∧ ρ'.row g (cur + 1) = some L := by
  obtain ⟨v0, L0, hL0⟩ := hm
  obtain ⟨hlt, _⟩ := h.row _ _ _ hL0
  have hno : ∀ v', cur < v' → ρ.row g v' = none := fun v' hv' => by
    cases e : ρ.row g v' with
    | none => rfl
    | some L' =>
      obtain ⟨_, cs1, cur1, exts1, ro1, h2, h3⟩ := h.row _ _ _ e
      rw [hg] at h2
      injection h2 with h2
      injection h2 with e1 e2 e3 e4
      subst e2
      have := h3.ver; omega
  let ρ' : Emb := { row := fun g' v => if g' = g ∧ v = cur + 1 then some L else ρ.row g' v, mp := ρ.mp }
  have hrow : ∀ g' v, ρ'.row g' v = if g' = g ∧ v = cur + 1 then some L else ρ.row g' v := fun _ _ => rfl
  have hex : Ext ρ ρ' := ⟨fun g' v L' hL' => by
    rw [hrow, if_neg (fun e => by obtain ⟨rfl, rfl⟩ := e; rw [hno _ (Nat.lt_succ_self _)] at hL'; cases hL')]; exact hL', fun _ _ h => h⟩
  refine ⟨ρ', ⟨hbase, ?_, ?_, ?_, h.mdisj⟩, hex, ?_, by rw [hrow, if_pos ⟨rfl, rfl⟩]⟩
  · intro g' v' L' hL'
    rw [hrow] at hL'
    by_cases e : g' = g ∧ v' = cur + 1
    · rw [if_pos e] at hL'
      obtain ⟨rfl, rfl⟩ := e
      obtain rfl := Option.some.inj hL'
      exact ⟨hlt, _, _, _, _, AS.get_set_same _ _ hlt, hnew.mono hex⟩
    · rw [if_neg e] at hL'
      obtain ⟨h1, cs1, cur1, exts1, ro1, h2, h3⟩ := h.row _ _ _ hL'
      refine ⟨h1, ?_⟩
      by_cases hgg : g' = g
      · subst hgg
        rw [hg] at h2
        injection h2 with h2
        injection h2 with e1 e2 e3 e4
        subst e1 e2 e3 e4
        exact ⟨_, _, _, _, AS.get_set_same _ _ h1, (hold _ _ hL' h3).mono hex⟩
      · exact ⟨cs1, cur1, exts1, ro1, by rw [AS.get_set_ne _ _ hgg]; exact h2, (h3.far (hfar _ _ _ hL' hgg)).mono hex⟩
  · intro r k hk
    obtain ⟨h1, h2, es, Es, ck, h3, h4, h5⟩ := h.mp r k hk
    refine ⟨h1, h2, es, Es, ck, ?_, by rw [hmap r k hk]; exact h4, h5.mono hex⟩
    rw [AS.get_set_ne]
    · exact h3
    · intro e; subst e; rw [hg] at h3; cases h3
  · intro g1 v1 L1 g2 v2 L2 h1 h2 hb
    rw [hrow] at h1 h2
    by_cases e1 : g1 = g ∧ v1 = cur + 1
    · rw [if_pos e1] at h1
      obtain rfl := Option.some.inj h1
      by_cases e2 : g2 = g ∧ v2 = cur + 1
      · rw [if_pos e2] at h2
        obtain rfl := Option.some.inj h2
        exact ⟨by rw [e1.1, e2.1], rfl⟩
      · rw [if_neg e2] at h2
        obtain ⟨h3, h4⟩ := hdis _ _ _ h2 hb.symm
        exact ⟨by rw [e1.1, h3], by omega⟩
    · rw [if_neg e1] at h1
      by_cases e2 : g2 = g ∧ v2 = cur + 1
      · rw [if_pos e2] at h2
        obtain rfl := Option.some.inj h2
        obtain ⟨h3, h4⟩ := hdis _ _ _ h1 hb
        exact ⟨by rw [e2.1, h3], by omega⟩
      · rw [if_neg e2] at h2
        exact h.disj _ _ _ _ _ _ h1 h2 hb
  · intro k hk
    rcases hk with ⟨v, L', hL'⟩ | hk
    · rw [hrow] at hL'
      by_cases e : k = g ∧ v = cur + 1
      · exact .inl ⟨v0, L0, e.1 ▸ hL0⟩
      · rw [if_neg e] at hL'; exact .inl ⟨v, L', hL'⟩
    · exact .inr hk
end
end Go.Avm
