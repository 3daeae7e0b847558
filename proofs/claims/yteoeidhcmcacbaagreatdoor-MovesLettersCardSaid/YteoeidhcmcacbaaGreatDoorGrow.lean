/-
  Appends, and entries of maps, in memories that are alike.
-/
import Derived.Test.YteoeidhcmcacbaaGreatDoorMem
set_option linter.unusedVariables false
set_option linter.unusedSimpArgs false
namespace Go.Avm
open Go.RowKit (Below)
section
variable {B : Nat} {ρ : Emb} {s : AS} {w : World}

/-- What growAt makes of a row. -/
structure Grown (cs : List AVal) (exts : List Nat) (x : Nat) (vs cs' : List AVal) (exts' : List Nat) : Prop where
  eq : cs' = cs.take x ++ vs
  le : x ≤ cs.length
  exts : (exts' = (x + vs.length) :: exts ∧ x = cs.length) ∨ exts' = [x + vs.length]

theorem Grown.len {cs vs cs' : List AVal} {exts exts' : List Nat} {x : Nat} (h : Grown cs exts x vs cs' exts') : cs'.length = x + vs.length := by
  rw [h.eq]; have := h.le; simp; omega
theorem Grown.low {cs vs cs' : List AVal} {exts exts' : List Nat} {x : Nat} (h : Grown cs exts x vs cs' exts') {j : Nat} (hj : j < x) : cs'[j]? = cs[j]? := by
  have := h.le
  rw [h.eq, List.getElem?_append_left (by simp; omega), List.getElem?_take, if_pos hj]
theorem Grown.high {cs vs cs' : List AVal} {exts exts' : List Nat} {x : Nat} (h : Grown cs exts x vs cs' exts') {j : Nat} (hj : x ≤ j) : cs'[j]? = vs[j - x]? := by
  have := h.le
  rw [h.eq, List.getElem?_append_right (by simp; omega)]
  congr 1; simp; omega
theorem Grown.head {cs vs cs' : List AVal} {exts exts' : List Nat} {x : Nat} (h : Grown cs exts x vs cs' exts') : exts'[0]? = some (x + vs.length) := by
  rcases h.exts with ⟨e, _⟩ | e <;> rw [e] <;> rfl

/-- Elder versions behind an append. -/
theorem RowAt.elder {cs vs cs' : List AVal} {cur v' x : Nat} {exts exts' : List Nat} {L' : Loc} (h : RowAt B ρ w cs cur exts false v' L') (hg : Grown cs exts x vs cs' exts') {w' : World}
    (hs : w'.shape? L'.b = w.shape? L'.b) (hf : ∀ i, w'.frozen? ⟨L'.b, i, none⟩ = w.frozen? ⟨L'.b, i, none⟩) (hc : ∀ j, L'.lo ≤ j → j < x → w'.cell? (L'.at j) = w.cell? (L'.at j)) :
    RowAt B ρ w' cs' (cur + 1) exts' false v' L' := by
  have hv := h.ver
  refine ⟨by omega, by rw [hs]; exact h.shape, fun _ => ⟨(h.own rfl).1, fun i hi => by rw [hf]; exact (h.own rfl).2 i hi⟩, ?_, ?_⟩
  · intro e he
    rw [show cur + 1 - v' = (cur - v') + 1 by omega] at he
    rcases hg.exts with ⟨e1, e2⟩ | e1
    · rw [e1] at he
      have := h.le e (by simpa using he)
      rw [hg.len]; omega
    · rw [e1] at he; simp at he
  · intro e he j h1 h2
    rw [show cur + 1 - v' = (cur - v') + 1 by omega] at he
    rcases hg.exts with ⟨e1, e2⟩ | e1
    · rw [e1] at he
      have he' : exts[cur - v']? = some e := by simpa using he
      have := h.le e he'
      obtain ⟨c, y, h3, h4, h5, h6⟩ := h.cells e he' j h1 h2
      exact ⟨c, y, by rw [hg.low (by omega)]; exact h3, by rw [hc j h1 (by omega)]; exact h4, h5, h6⟩
    · rw [e1] at he; simp at he

/-- An append in place. -/
theorem Rel.growIn (h : Rel B ρ s w) {g x v cur e : Nat} {cs cs' : List AVal} {exts exts' : List Nat} (hg : s.get g = some (.row cs cur exts false)) {L : Loc} (hL : ρ.row g v = some L) (hx : L.lo ≤ x)
    (he : exts[cur - v]? = some e) (hxe : x ≤ e) {vs : List AVal} {VS : List Value} (hv : Vs ρ vs VS) (hone : ∀ c ∈ vs, c.one = true) (hroom : L.o + (x - L.lo) + vs.length ≤ L.bs)
    (hgr : Grown cs exts x vs cs' exts') :
    ∃ ρ', Rel B ρ' (s.set g (.row cs' (cur + 1) exts' false)) (w.setCells L.b (L.o + (x - L.lo)) VS) ∧ Ext ρ ρ' ∧ (∀ k, Mapped ρ' k → Mapped ρ k) ∧ ρ'.row g (cur + 1) = some L ∧
      Below B w (w.setCells L.b (L.o + (x - L.lo)) VS) := by
  obtain ⟨hlt, cs1, cur1, exts1, ro1, hg', hra⟩ := h.row _ _ _ hL
  rw [hg] at hg'
  injection hg' with hg'
  injection hg' with e1 e2 e3 e4
  subst e1 e2 e3 e4
  have hBl : B ≤ L.b := (hra.own rfl).1
  have hlen := hv.length
  obtain ⟨et, hsh⟩ := hra.shape
  have hlow : ∀ v' L', ρ.row g v' = some L' → ∀ j, L'.lo ≤ j → j < x → (w.setCells L.b (L.o + (x - L.lo)) VS).cell? (L'.at j) = w.cell? (L'.at j) := by
    intro v' L' hL' j h1 h2
    rw [World.cell?_setCells_out]
    intro hb _
    have hb' : L'.b = L.b := hb
    have := (h.disj _ _ _ _ _ _ hL' hL hb').2
    left
    show L'.o + (j - L'.lo) < _
    omega
  obtain ⟨ρ', h1, h2, h3, h4⟩ := h.version (w' := w.setCells L.b (L.o + (x - L.lo)) VS) (L := L) (cs' := cs') (exts' := exts') hg ⟨v, L, hL⟩ (by rw [setCells_size]; exact h.base)
    (fun g' v' L' hL' hne => setCells_heap _ _ _ _ _ (h.apart hL hL' hne))
    (fun r k hk => setCells_heap _ _ _ _ _ (h.mapApart hL hk))
    (fun v' L' hL' hr => hr.elder hgr (setCells_shape _ _ _ _ _) (fun i => World.frozen?_setCells _ _ _ _ _) (hlow v' L' hL'))
    ⟨Nat.le_refl _, by simpa only [setCells_shape] using hra.shape, fun _ => ⟨hBl, fun i hi => by rw [World.frozen?_setCells]; exact (hra.own rfl).2 i hi⟩,
      fun e' he' => by rw [Nat.sub_self, hgr.head] at he'; obtain rfl := Option.some.inj he'; rw [hgr.len]; exact Nat.le_refl _,
      fun e' he' j hj1 hj2 => by
        rw [Nat.sub_self, hgr.head] at he'
        obtain rfl := Option.some.inj he'
        by_cases hjx : j < x
        · obtain ⟨c, y, h3, h4, h5, h6⟩ := hra.cells e he j hj1 (by omega)
          exact ⟨c, y, by rw [hgr.low hjx]; exact h3, by rw [hlow v L hL j hj1 hjx]; exact h4, h5, h6⟩
        · have hj' : j - x < vs.length := by omega
          have hj'' : j - x < VS.length := by omega
          refine ⟨vs[j - x], VS[j - x], by rw [hgr.high (by omega)]; simp [hj'], ?_, hv.get (i := j - x) (by simp [hj']) (by simp [hj'']), hone _ (List.getElem_mem _)⟩
          have hin := World.cell?_setCells_in L.b VS (L.o + (x - L.lo)) w (fun i hi => cell_of_shape hsh (by omega)) (j - x) hj''
          have : L.at j = ⟨L.b, L.o + (x - L.lo) + (j - x), none⟩ := by unfold Loc.at; congr 1; omega
          rw [this]; exact hin⟩
    (fun g' v' L' hL' hb => h.disj _ _ _ _ _ _ hL' hL hb)
  exact ⟨ρ', h1, h2, h3, h4, setCells_below _ hBl _ _ _⟩

/-- An append that moves. -/
theorem Rel.growMove (h : Rel B ρ s w) {g x v cur e off : Nat} {cs cs' : List AVal} {exts exts' : List Nat} (hg : s.get g = some (.row cs cur exts false)) {L : Loc} (hL : ρ.row g v = some L)
    (hlo : L.lo ≤ off) (hox : off ≤ x) (he : exts[cur - v]? = some e) (hxe : x ≤ e) {vs : List AVal} {VS : List Value} (hv : Vs ρ vs VS) (hone : ∀ c ∈ vs, c.one = true) (hgr : Grown cs exts x vs cs' exts')
    (C : Array Value) (et : TypeId) (hC1 : ∀ j y, off ≤ j → j < x → w.cell? (L.at j) = some y → C[j - off]? = some y) (hC2 : ∀ i y, VS[i]? = some y → C[x - off + i]? = some y) :
    ∃ ρ', Rel B ρ' (s.set g (.row cs' (cur + 1) exts' false)) (w.alloc (.cells C et)) ∧ Ext ρ ρ' ∧ (∀ k, Mapped ρ' k → Mapped ρ k) ∧ ρ'.row g (cur + 1) = some ⟨w.heap.size, 0, off, C.size⟩ ∧
      Below B w (w.alloc (.cells C et)) := by
  obtain ⟨hlt, cs1, cur1, exts1, ro1, hg', hra⟩ := h.row _ _ _ hL
  rw [hg] at hg'
  injection hg' with hg'
  injection hg' with e1 e2 e3 e4
  subst e1 e2 e3 e4
  have hlen := hv.length
  have hbase : ∀ g' v' L', ρ.row g' v' = some L' → L'.b < w.heap.size := fun g' v' L' hL' => by
    obtain ⟨_, _, _, _, _, _, h3⟩ := h.row g' v' L' hL'
    obtain ⟨_, h4⟩ := h3.shape
    exact shape_lt h4
  have hnew := heap_alloc_new w (.cells C et)
  obtain ⟨ρ', h1, h2, h3, h4⟩ := h.version (w' := w.alloc (.cells C et)) (L := ⟨w.heap.size, 0, off, C.size⟩) (cs' := cs') (exts' := exts') hg ⟨v, L, hL⟩
    (by show B ≤ (w.heap.push _).size; have := h.base; simp; omega)
    (fun g' v' L' hL' hne => heap_alloc_lt w _ (hbase _ _ _ hL'))
    (fun r k hk => by obtain ⟨_, _, _, _, _, _, h4, _⟩ := h.mp r k hk; exact heap_alloc_lt w _ (Array.getElem?_eq_some_iff.1 h4).1)
    (fun v' L' hL' hr => hr.elder hgr (by simp only [World.shape?, heap_alloc_lt w _ (hbase _ _ _ hL')]) (fun i => by simp only [World.frozen?, heap_alloc_lt w _ (hbase _ _ _ hL')])
      (fun j _ _ => by simp only [World.cell?, Loc.at, heap_alloc_lt w _ (hbase _ _ _ hL')]))
    ⟨Nat.le_refl _, ⟨et, by unfold World.shape?; rw [hnew]⟩, fun _ => ⟨h.base, fun i hi => by unfold World.frozen?; rw [hnew]; simp⟩,
      fun e' he' => by rw [Nat.sub_self, hgr.head] at he'; obtain rfl := Option.some.inj he'; rw [hgr.len]; exact Nat.le_refl _,
      fun e' he' j hj1 hj2 => by
        rw [Nat.sub_self, hgr.head] at he'
        obtain rfl := Option.some.inj he'
        have hj1' : off ≤ j := hj1
        have hat : ∀ y, C[j - off]? = some y → (w.alloc (.cells C et)).cell? (Loc.at ⟨w.heap.size, 0, off, C.size⟩ j) = some y := fun y hy => by
          unfold World.cell? Loc.at; rw [hnew]; simpa using hy
        by_cases hjx : j < x
        · obtain ⟨c, y, h3, h4, h5, h6⟩ := hra.cells e he j (by omega) (by omega)
          exact ⟨c, y, by rw [hgr.low hjx]; exact h3, hat y (hC1 j y hj1' hjx h4), h5, h6⟩
        · have hj' : j - x < vs.length := by omega
          have hj'' : j - x < VS.length := by omega
          refine ⟨vs[j - x], VS[j - x], by rw [hgr.high (by omega)]; simp [hj'], hat _ ?_, hv.get (i := j - x) (by simp [hj']) (by simp [hj'']), hone _ (List.getElem_mem _)⟩
          have := hC2 (j - x) VS[j - x] (by simp [hj''])
          rwa [show x - off + (j - x) = j - off by omega] at this⟩
    (fun g' v' L' hL' hb => by have := hbase _ _ _ hL'; rw [hb] at this; exact absurd this (Nat.lt_irrefl _))
  exact ⟨ρ', h1, h2, h3, h4, (Below.refl B w).alloc h.base _⟩

/-- A map's entries are others from now on. -/
theorem Rel.setMap (h : Rel B ρ s w) {r k : Nat} (hk : ρ.mp r = some k) {es : List (AVal × AVal)} {Es : Array MapEntry} (ck : Nat) (hE : Ms ρ es Es.toList) :
    Rel B ρ (s.set r (.map es)) { w with heap := w.heap.setIfInBounds k (.map Es ck) } ∧ Below B w { w with heap := w.heap.setIfInBounds k (.map Es ck) } := by
  obtain ⟨hlt, hBk, es0, Es0, ck0, hr0, hh0, _⟩ := h.mp r k hk
  have hkb : k < w.heap.size := (Array.getElem?_eq_some_iff.1 hh0).1
  have hne : ∀ j, j ≠ k → (w.heap.setIfInBounds k (.map Es ck))[j]? = w.heap[j]? := fun j hj => Array.getElem?_setIfInBounds_ne (fun e => hj e.symm)
  refine ⟨⟨?_, ?_, ?_, h.disj, h.mdisj⟩, ⟨rfl, rfl, rfl, by simp, fun j hj => hne j (by omega)⟩⟩
  · have := h.base; simpa using this
  · intro g v L hL
    obtain ⟨h1, cs, cur, exts, ro, h2, h3⟩ := h.row g v L hL
    refine ⟨h1, cs, cur, exts, ro, ?_, h3.far (hne _ (h.mapApart hL hk).symm)⟩
    rw [AS.get_set_ne]
    · exact h2
    · intro e; subst e; rw [hr0] at h2; cases h2
  · intro r' k' hk'
    obtain ⟨h1, h2, es1, Es1, ck1, h3, h4, h5⟩ := h.mp r' k' hk'
    refine ⟨h1, h2, ?_⟩
    by_cases e : r' = r
    · subst e
      rw [hk] at hk'
      obtain rfl := Option.some.inj hk'
      exact ⟨es, Es, ck, AS.get_set_same _ _ hlt, by show (w.heap.setIfInBounds k _)[k]? = _; simp [hkb], hE⟩
    · refine ⟨es1, Es1, ck1, by rw [AS.get_set_ne _ _ e]; exact h3, ?_, h5⟩
      show (w.heap.setIfInBounds k _)[k']? = _
      rw [hne _ (fun e2 => e (h.mdisj _ _ _ (e2 ▸ hk') hk))]
      exact h4

/-- A map has been made. -/
theorem Rel.allocMap (h : Rel B ρ s w) {g : Nat} (hg : s.get g = some (.map [])) (hlt : g < s.nx) (hm : ¬ Mapped ρ g) :
    ∃ ρ', Rel B ρ' s (w.alloc (.map #[] 0)) ∧ Ext ρ ρ' ∧ (∀ k, Mapped ρ' k → Mapped ρ k ∨ k = g) ∧ ρ'.mp g = some w.heap.size := by
  let ρ' : Emb := { row := ρ.row, mp := fun r => if r = g then some w.heap.size else ρ.mp r }
  have hmp : ∀ r, ρ'.mp r = if r = g then some w.heap.size else ρ.mp r := fun _ => rfl
  have hex : Ext ρ ρ' := ⟨fun _ _ _ h => h, fun r k hk => by
    rw [hmp, if_neg (show ¬ r = g from fun h0 => hm (.inr ⟨k, h0 ▸ hk⟩))]; exact hk⟩
  have hmb : ∀ r k, ρ.mp r = some k → k < w.heap.size := fun r k hk => by
    obtain ⟨_, _, _, _, _, _, h4, _⟩ := h.mp r k hk; exact (Array.getElem?_eq_some_iff.1 h4).1
  refine ⟨ρ', ⟨by show B ≤ (w.heap.push _).size; have := h.base; simp; omega, ?_, ?_, h.disj, ?_⟩, hex, ?_, by rw [hmp, if_pos rfl]⟩
  · intro g' v L hL
    obtain ⟨h1, cs, cur, exts, ro, h2, h3⟩ := h.row g' v L hL
    obtain ⟨_, hs⟩ := h3.shape
    exact ⟨h1, cs, cur, exts, ro, h2, (h3.far (heap_alloc_lt w _ (shape_lt hs))).mono hex⟩
  · intro r k hk
    rw [hmp] at hk
    by_cases e : r = g
    · subst e
      rw [if_pos rfl] at hk
      obtain rfl := Option.some.inj hk
      exact ⟨hlt, h.base, [], #[], 0, hg, heap_alloc_new w _, .nil⟩
    · rw [if_neg e] at hk
      obtain ⟨h1, h2, es, Es, ck, h3, h4, h5⟩ := h.mp r k hk
      exact ⟨h1, h2, es, Es, ck, h3, by rw [heap_alloc_lt w _ (hmb r k hk)]; exact h4, h5.mono hex⟩
  · intro r r' k h1 h2
    rw [hmp] at h1 h2
    by_cases e1 : r = g
    · by_cases e2 : r' = g
      · rw [e1, e2]
      · rw [if_pos e1] at h1; rw [if_neg e2] at h2
        obtain rfl := Option.some.inj h1
        exact absurd (hmb _ _ h2) (Nat.lt_irrefl _)
    · by_cases e2 : r' = g
      · rw [if_neg e1] at h1; rw [if_pos e2] at h2
        obtain rfl := Option.some.inj h2
        exact absurd (hmb _ _ h1) (Nat.lt_irrefl _)
      · rw [if_neg e1] at h1; rw [if_neg e2] at h2
        exact h.mdisj _ _ _ h1 h2
  · intro k hk
    rcases hk with hk | ⟨n, hk⟩
    · exact .inl (.inl hk)
    · rw [hmp] at hk
      by_cases e : k = g
      · exact .inr e
      · rw [if_neg e] at hk; exact .inl (.inr ⟨n, hk⟩)
end
end Go.Avm
