/-
  Regions whose order is open: every order ends alike.
-/
import Derived.Test.YteoeidhcmcacbaaGreatDoorReg3
set_option linter.unusedVariables false
set_option linter.unusedSimpArgs false
namespace Go.Avm
open Go.RowKit (Below)

theorem looks_mem {fr : Fr} {s : AS} : ∀ {l : List (Option Nat × AOp × Option (Nat × Bool))}, looks fr s l = true → ∀ p ∈ l, wanted fr p.2.2 = some true → ∃ v, pval fr s p.2.1 = some v ∧ ∀ t, p.1 = some t → fr.get t = v
  | [], _, p, hp, _ => by cases hp
  | q :: l, h, p, hp, hw => by
    have h' : ((match wanted fr q.2.2 with
      | some true => match pval fr s q.2.1 with
        | some v => Option.rec true (fun t => sameVal v (fr.get t)) q.1
        | none => false
      | some false => true
      | none => false) && looks fr s l) = true := h
    rw [Bool.and_eq_true] at h'
    cases hp with
    | tail _ hp => exact looks_mem h'.2 p hp hw
    | head =>
      have h1 := h'.1
      rw [hw] at h1
      cases hv : pval fr s q.2.1 with
      | none => rw [hv] at h1; cases h1
      | some v =>
        rw [hv] at h1
        refine ⟨v, rfl, fun t ht => ?_⟩
        rw [ht] at h1
        exact (sameVal_eq h1).symm

theorem junk_get (fr : Fr) (t : Nat) : ∀ l : List Nat, (fr.junk l).get t = if t ∈ l then .junk else fr.get t
  | [] => by simp [Fr.junk]
  | u :: l => by
    rw [show fr.junk (u :: l) = (fr.junk l).put (some u) .junk from rfl, Fr.get_put, junk_get fr t l]
    by_cases e : u = t
    · subst e; simp
    · rw [if_neg (by simpa using e)]
      by_cases e2 : t ∈ l
      · rw [if_pos e2, if_pos (by simp [e2])]
      · rw [if_neg e2, if_neg (by simp [e2]; exact fun e3 => e e3.symm)]
theorem junk_df (fr : Fr) : ∀ l : List Nat, (fr.junk l).df = fr.df
  | [] => rfl
  | u :: l => by rw [show fr.junk (u :: l) = (fr.junk l).put (some u) .junk from rfl, Fr.df_put, junk_df fr l]

theorem done_set {listed : Array Bool} {i : Nat} (hi : i < listed.size) (j : Nat) : done? (listed.setIfInBounds i true) j = if j = i then true else done? listed j := by
  by_cases e : j = i
  · subst e; simp [done?, hi]
  · rw [if_neg e]
    exact getD_set_ne false fun h => e h.symm
theorem not_done {listed : Array Bool} {i : Nat} (h : listed.getD i true = false) : done? listed i = false := by
  unfold done?
  rw [Array.getD_eq_getD_getElem?] at *
  cases hq : listed[i]? with
  | none => rfl
  | some v => rw [hq] at h; exact h

section
variable {P : Program} {N B : Nat} {ops : Array Oper} {b : Array Nat} {L : List RI} {call : Caller} {res : Ex × Fr × AS} {ρ0 : Emb} {s0 : AS} {w0 : World}

def Inv (P : Program) (N B : Nat) (ops : Array Oper) (b : Array Nat) (L : List RI) (call : Caller) (res : Ex × Fr × AS) (ρ0 : Emb) (s0 : AS) (w0 : World) (listed : Array Bool) (a : Act) (w : World) : Prop :=
  ∃ done rest pre fr fr0 s ρ num, St P N B ops b L call res ρ0 s0 w0 listed a w done rest pre fr fr0 s ρ num ∧ ∀ y l, rest = y :: l → y.act = true

variable {listed : Array Bool} {a : Act} {w : World} {done rest pre : List RI} {fr fr0 : Fr} {s : AS} {ρ : Emb} {num : Nat → Option Nat}

theorem St.apart (h : St P N B ops b L call res ρ0 s0 w0 listed a w done rest pre fr fr0 s ρ num) (hL : LOk P N ops b L) {x y : RI} (hx : x ∈ done) (hy : y ∈ rest) : x.i ≠ y.i := by
  intro e
  obtain ⟨p, q, hpq⟩ := List.append_of_mem hy
  have hE := hL.edges (done ++ p) y q (by rw [h.split, hpq]; simp)
  exact hE.new (List.mem_map.2 ⟨x, by simp [hx], e⟩)

/-- All is done. -/
theorem inv_done (hL : LOk P N ops b L) (h : Inv P N B ops b L call res ρ0 s0 w0 listed a w) (hr : Region.ready .any ops listed = []) {Q : Exit → Act → World → Prop} (hQ : ∀ e a1 w1, ExR N B ρ0 s0 w0 res e a1 w1 → Q e a1 w1) : Q .normal a w := by
  obtain ⟨done, rest, pre, fr, fr0, s, ρ, num, h, hact⟩ := h
  have hall : ∀ (q p : List RI), L = p ++ q → (∀ x ∈ p, done? listed x.i = true) → ∀ x ∈ q, done? listed x.i = true := by
    intro q
    induction q with
    | nil => intro p _ _ x hx; cases hx
    | cons y q ih =>
      intro p e hp
      have hy : done? listed y.i = true := by
        cases hd : done? listed y.i with
        | true => rfl
        | false =>
          exfalso
          have hE := hL.edges p y q e
          obtain ⟨o, ho, _⟩ := hL.item y (by rw [e]; simp)
          have : y.i ∈ Region.ready .any ops listed := by
            rw [mem_ready]
            refine ⟨?_, o, ho, fun ed he hb => ?_⟩
            · have hlt := (Array.getElem?_eq_some_iff.1 ho).1
              rw [← h.size] at hlt
              unfold done? at hd
              simp [hlt] at hd ⊢
              exact hd
            · obtain ⟨z, hz, hzi⟩ := List.mem_map.1 (hE.edge o ho ed he hb)
              rw [← hzi]; exact hp z hz
          rw [hr] at this
          cases this
      intro x hx
      cases hx with
      | head => exact hy
      | tail _ hx => exact ih (p ++ [y]) (by rw [e]; simp) (fun z hz => by
          rcases List.mem_append.1 hz with hz | hz
          · exact hp z hz
          · obtain rfl := List.mem_singleton.1 hz; exact hy) x hx
  have hall := hall L [] rfl (fun _ h => by cases h)
  have hrest : rest = [] := by
    cases hq : rest with
    | nil => rfl
    | cons y l =>
      have h1 := h.rest y (by rw [hq]; simp)
      rw [hall y (by rw [h.split, hq]; simp)] at h1
      cases h1
  subst hrest
  have hres : res = (.nrm, fr, s) := (Option.some.inj h.run).symm
  subst hres
  refine hQ _ _ _ ⟨ρ, h.rel, h.step, ⟨h.frame.size, fun t => ?_, h.df ▸ h.frame.df⟩, rfl⟩
  show V ρ (fr.get t) _
  rw [← h.same t fun x hx hd => by
    rw [hall x (by rw [h.split]; simp [hx])] at hd
    cases hd]
  exact h.frame.tm t

/-- One that the abstract machine has taken long since is done. -/
theorem inv_late (hL : LOk P N ops b L) (h : St P N B ops b L call res ρ0 s0 w0 listed a w done rest pre fr fr0 s ρ num) (hhead : ∀ y l, rest = y :: l → y.act = true) {x : RI} (hx : x ∈ done) {o : Oper} (ho : ops[x.i]? = some o) (hdst : o.dst = x.op.dst) (hlt : ∀ d, o.dst = some d → d < N)
    (hall : ∀ e ∈ o.after, Region.binds .any e = true → done? listed e.on = true) (hnd : done? listed x.i = false) {v' : Value} {val : AVal} {w' : World} {ρ' : Emb} (hR : Rel B ρ' s w') (hex : Ext ρ ρ')
    (hmap : ∀ k, Mapped ρ' k → Mapped ρ k ∨ (num x.i = some k ∧ s0.nx ≤ k)) (hb : Below B w w') (hv : V ρ' val v') (hval : ∀ t, x.op.dst = some t → fr.get t = val) :
    Inv P N B ops b L call res ρ0 s0 w0 (listed.setIfInBounds x.i true) (a.put o.dst v') w' := by
  have hi : x.i < listed.size := by rw [h.size]; exact (Array.getElem?_eq_some_iff.1 ho).1
  have hxL : x ∈ L := by rw [h.split]; simp [hx]
  have hset := fun j => done_set (listed := listed) hi j
  have hmono : ∀ j, done? listed j = true → done? (listed.setIfInBounds x.i true) j = true := fun j hj => by
    rw [hset]; split
    · rfl
    · exact hj
  have hback : ∀ j, done? (listed.setIfInBounds x.i true) j = false → j ≠ x.i ∧ done? listed j = false := fun j hj => by
    rw [hset] at hj
    split at hj
    · cases hj
    · exact ⟨by assumption, hj⟩
  refine ⟨done, rest, pre, fr, fr0.put x.op.dst val, s, ρ', num, St.mk h.split h.run h.chk h.pre (by simpa using h.size) ?_ ?_ (fun y hy hya => hmono _ (h.acts y hy hya)) hR ?_ ?_ ?_ (by rw [Fr.df_put]; exact h.df) ?_ h.uniq h.lt, hhead⟩
  · intro j oj hj hoj e he hbd
    rw [hset] at hj
    split at hj
    · rename_i e1
      subst e1
      rw [ho] at hoj
      obtain rfl := Option.some.inj hoj
      exact hmono _ (hall e he hbd)
    · exact hmono _ (h.closed j oj hj hoj e he hbd)
  · intro y hy
    rw [hset, if_neg (fun e => h.apart hL hx hy e.symm)]
    exact h.rest y hy
  · refine ⟨h.step.ext.trans hex, fun g hg => ?_, h.step.kept, h.step.nx, h.step.below.trans hb⟩
    rcases hmap g hg with h1 | ⟨_, h1⟩
    · exact h.step.dom g h1
    · exact .inr h1
  · rw [hdst] at hlt ⊢
    exact (h.frame.mono hex).put hlt hv
  · intro t ht
    rw [Fr.get_put]
    by_cases e : x.op.dst = some t
    · rw [if_pos e, hval t e]
    · rw [if_neg e]
      refine h.same t fun y hy hyd => ?_
      by_cases e2 : y.i = x.i
      · have := hL.uniq (by rw [h.split]; simp [hy]) hxL e2
        rw [this]; exact e
      · exact ht y hy (by rw [hset, if_neg e2]; exact hyd)
  · intro y hy hyd
    obtain ⟨hne, hyd'⟩ := hback _ hyd
    refine (h.pend y hy hyd').move (fun _ _ => rfl) (fun _ _ => rfl) (fun _ _ v h1 h2 => ⟨v, h1, h2⟩) (fun g o hg hm hs => ⟨hs, fun hmm => ?_⟩)
    rcases hmap g hmm with h1 | ⟨h1, _⟩
    · exact hm h1
    · exact hne (h.uniq _ _ _ hg h1)

/-- One that acts is done. -/
theorem inv_now (hL : LOk P N ops b L) {x : RI} (h : St P N B ops b L call res ρ0 s0 w0 listed a w done (x :: rest) pre fr fr0 s ρ num) (hxa : x.act = true) {o : Oper} (ho : ops[x.i]? = some o)
    (hall : ∀ e ∈ o.after, Region.binds .any e = true → done? listed e.on = true) (hbef : ∀ j, j < ops.size → isBefore b j x.i = true → done? listed j = true) {v : AVal} {F F0 : Fr} {s1 : AS} {ρ1 : Emb} {a1 : Act} {w1 : World}
    (hF : ∀ t, F.get t = fr.get t) (hF0 : ∀ t, F0.get t = fr0.get t) (hdf : F0.df = F.df) (hrun : runOps call (rest.map (·.op)) (F.put x.op.dst v) s1 = some res) (hR : Rel B ρ1 s1 w1) (hS : Step B ρ s w ρ1 s1 w1) (hFr : FrR N ρ1 (F0.put x.op.dst v) a1)
    (hp : ∀ y ∈ done, y.act = false → isBefore b y.i x.i = false → y.op.op.makes = false → wanted (F.put x.op.dst v) y.op.guard = some true → ∀ u, pval fr s y.op.op = some u → (∀ t ∈ y.op.looks, (F.put x.op.dst v).get t = fr.get t) → (∀ t, y.op.dst = some t → (F.put x.op.dst v).get t = u) →
      ∃ u', pval (F.put x.op.dst v) s1 y.op.op = some u' ∧ ∀ t, y.op.dst = some t → (F.put x.op.dst v).get t = u') :
    Inv P N B ops b L call res ρ0 s0 w0 (listed.setIfInBounds x.i true) a1 w1 := by
  have hi : x.i < listed.size := by rw [h.size]; exact (Array.getElem?_eq_some_iff.1 ho).1
  have hset := fun j => done_set (listed := listed) hi j
  have hmono : ∀ j, done? listed j = true → done? (listed.setIfInBounds x.i true) j = true := fun j hj => by
    rw [hset]; split
    · rfl
    · exact hj
  have hback : ∀ j, done? (listed.setIfInBounds x.i true) j = false → j ≠ x.i ∧ done? listed j = false := fun j hj => by
    rw [hset] at hj
    split at hj
    · cases hj
    · exact ⟨by assumption, hj⟩
  have hapart : ∀ y ∈ done, y.i ≠ x.i := fun y hy => h.apart hL hy (by simp)
  have hchk := h.chk
  unfold ChkOk at hchk
  rw [hxa] at hchk
  have hSt : St P N B ops b L call res ρ0 s0 w0 (listed.setIfInBounds x.i true) a1 w1 (done ++ [x]) rest pre (F.put x.op.dst v) (F0.put x.op.dst v) s1 ρ1 num := by
    refine St.mk (by rw [h.split]; simp) hrun hchk.2 ?_ (by simpa using h.size) ?_ ?_ ?_ hR (h.step.trans hS) hFr ?_ (by rw [Fr.df_put, Fr.df_put]; exact hdf) ?_ h.uniq (fun i g hg => Nat.lt_of_lt_of_le (h.lt i g hg) hS.nx)
    · intro y hy hya
      rcases List.mem_append.1 hy with hy | hy
      · exact h.pre y hy hya
      · obtain rfl := List.mem_singleton.1 hy; rw [hxa] at hya; cases hya
    · intro j oj hj hoj e he hbd
      rw [hset] at hj
      split at hj
      · rename_i e1
        subst e1
        rw [ho] at hoj
        obtain rfl := Option.some.inj hoj
        exact hmono _ (hall e he hbd)
      · exact hmono _ (h.closed j oj hj hoj e he hbd)
    · intro y hy
      have hne : y.i ≠ x.i := by
        intro e
        obtain ⟨p, q, hpq⟩ := List.append_of_mem hy
        have hE := hL.edges (done ++ x :: p) y q (by rw [h.split, hpq]; simp)
        exact hE.new (List.mem_map.2 ⟨x, by simp, e.symm⟩)
      rw [hset, if_neg hne]
      exact h.rest y (by simp [hy])
    · intro y hy hya
      rcases List.mem_append.1 hy with hy | hy
      · exact hmono _ (h.acts y hy hya)
      · obtain rfl := List.mem_singleton.1 hy; rw [hset, if_pos rfl]
    · intro t ht
      rw [Fr.get_put, Fr.get_put]
      by_cases e : x.op.dst = some t
      · rw [if_pos e, if_pos e]
      · rw [if_neg e, if_neg e, hF, hF0]
        exact h.same t fun y hy hyd => ht y (by simp [hy]) (by rw [hset, if_neg (hapart y hy)]; exact hyd)
    · intro y hy hyd
      obtain ⟨hne, hyd'⟩ := hback _ hyd
      rcases List.mem_append.1 hy with hy | hy
      · have hya : y.act = false := by
          cases hq : y.act with
          | false => rfl
          | true => have := h.acts y hy hq; rw [hyd'] at this; cases this
        have hyL : y ∈ L := by rw [h.split]; simp [hy]
        have hpair : Pair b y x := by
          have := hL.pair
          rw [h.split, List.pairwise_append] at this
          exact this.2.2 y hy x (by simp)
        have hnb : isBefore b y.i x.i = false := by
          cases hq : isBefore b y.i x.i with
          | false => rfl
          | true => have := hbef y.i (hL.lt hyL) hq; rw [hyd'] at this; cases this
        have hget : ∀ t, t ∈ y.op.looks ∨ y.op.dst = some t → (F.put x.op.dst v).get t = fr.get t := fun t ht => by
          rw [Fr.get_put, if_neg, hF]
          intro e
          have := (hpair.wr t e ht).2
          rw [hnb] at this; cases this
        refine (h.pend y hy hyd').move (fun t ht => hget t (.inl ht)) (fun t ht => hget t (.inr ht)) (fun hm hw u hu1 hu2 => hp y hy hya hnb hm hw u hu1 (fun t ht => hget t (.inl ht)) hu2) (fun g o hg hm hs => ?_)
        have hlt := h.lt _ _ hg
        refine ⟨by rw [hS.kept g hlt hm]; exact hs, fun hmm => ?_⟩
        rcases hS.dom g hmm with h1 | h1
        · exact hm h1
        · omega
      · obtain rfl := List.mem_singleton.1 hy; exact absurd rfl hne
  obtain ⟨done', rest', pre', fr', s', num', h1, h2⟩ := settle hL hSt
  exact ⟨done', rest', pre', fr', _, s', ρ1, num', h1, h2⟩

/-- Whatever comes next. -/
theorem inv_step (hcall : CallOk P call) (hL : LOk P N ops b L) (h : Inv P N B ops b L call res ρ0 s0 w0 listed a w) {Q : Exit → Act → World → Prop} (hQ : ∀ e a1 w1, ExR N B ρ0 s0 w0 res e a1 w1 → Q e a1 w1) {i : Nat} (hi : i ∈ Region.ready .any ops listed) :
    wpOp P ops Q i (fun a' w' => Inv P N B ops b L call res ρ0 s0 w0 (listed.setIfInBounds i true) a' w') a w := by
  obtain ⟨done, rest, pre, fr, fr0, s, ρ, num, h, hhead⟩ := h
  obtain ⟨hun, o, ho, hall⟩ := mem_ready.1 hi
  have hlt : i < ops.size := (Array.getElem?_eq_some_iff.1 ho).1
  obtain ⟨x, hxL, rfl⟩ := hL.all i hlt
  have hnd := not_done hun
  obtain ⟨o', ho', hx⟩ := hL.item x hxL
  rw [ho] at ho'
  obtain rfl := Option.some.inj ho'
  have hbef : ∀ j, j < ops.size → isBefore b j x.i = true → done? listed j = true := by
    obtain ⟨p, q, e⟩ := List.append_of_mem hxL
    exact hL.before (D := fun j => done? listed j = true) h.closed p.length p x q rfl e o ho hall
  -- what it looks at is at hand
  have hget : ∀ t ∈ x.op.looks, fr0.get t = fr.get t := by
    intro t ht
    refine h.same t fun y hy hyd e => ?_
    have hya : y.act = false := by
      cases hq : y.act with
      | false => rfl
      | true => have := h.acts y hy hq; rw [hyd] at this; cases this
    have hyL : y ∈ L := by rw [h.split]; simp [hy]
    by_cases e2 : y = x
    · subst e2
      exact (okOne_ok (hL.one y hyL) hya).2 t e ht
    · rcases pairwise_or hL.pair hyL hxL e2 with hp | hp
      · have := hbef y.i (hL.lt hyL) (hp.rd t e ht)
        rw [hyd] at this; cases this
      · have := (hp.wr t e (.inl ht)).1
        rw [hya] at this; cases this
  have hwant : wanted fr0 x.op.guard = wanted fr x.op.guard := wanted_cong fun t b e => hget t (mem_looks_guard e)
  unfold wpOp
  simp only [ho]
  have hxs : x ∈ done ∨ x ∈ rest := by rw [h.split] at hxL; exact List.mem_append.1 hxL
  rcases hxs with hxd | hxr
  · -- it has been taken long since
    have late := fun (v' : Value) (val : AVal) (w' : World) (ρ' : Emb) => inv_late (v' := v') (val := val) (w' := w') (ρ' := ρ') hL h hhead hxd ho hx.dst hx.lt hall hnd
    rcases h.pend x hxd hnd with ⟨h1, h2⟩ | ⟨h1, h2, v, h3, h4⟩ | ⟨h1, h2, obj, f, g, h3, h4, h5, h6, h7, h8⟩
    · rw [wanted_ok h.frame hx.guard (hwant.trans h1)]
      simp only [Bool.false_eq_true, if_false]
      exact late undef (.tuple []) w ρ h.rel (.refl _) (fun k hk => .inl hk) (.refl _ _) (.tuple' .nil) h2
    · rw [wanted_ok h.frame hx.guard (hwant.trans h1)]
      simp only [if_true]
      have h3' : pval fr0 s x.op.op = some v := by rw [pval_cong fun t ht => hget t (mem_looks_op ht)]; exact h3
      obtain ⟨v', h5, h6⟩ := pval_ok h.rel h.frame o hx.op h3'
      refine .inl ?_
      unfold Oper.wp
      rw [h5]
      exact late v' v w ρ h.rel (.refl _) (fun k hk => .inl hk) (.refl _ _) h6 h4
    · rw [wanted_ok h.frame hx.guard (hwant.trans h1)]
      simp only [if_true]
      have h3' : made fr0 x.op.op = some (obj, f) := by rw [made_cong fun t ht => hget t (mem_looks_op ht)]; exact h3
      obtain ⟨v', w', ρ', g1, g2, g3, g4, g5, g6⟩ := made_ok h.rel h.frame o hx.op h3' h6 (h.lt _ _ h4) h7
      refine .inl ?_
      unfold Oper.wp
      rw [g1]
      exact late v' (f g) w' ρ' g2 g3 (fun k hk => (g4 k hk).imp id fun e => by subst e; exact ⟨h4, h5⟩) g6 g5 h8
  · -- it is the next one that acts
    obtain ⟨y, l, rfl⟩ : ∃ y l, rest = y :: l := by
      cases rest with
      | nil => cases hxr
      | cons y l => exact ⟨y, l, rfl⟩
    have hya := hhead y l rfl
    have hyx : y = x := by
      cases hxr with
      | head => rfl
      | tail _ hxl =>
        exfalso
        have hp : Pair b y x := by
          have := hL.pair
          rw [h.split, List.pairwise_append] at this
          have h2 := this.2.1
          rw [List.pairwise_cons] at h2
          exact h2.1 x hxl
        have hyL : y ∈ L := by rw [h.split]; simp
        have h1 := hbef y.i (hL.lt hyL) (hp.act hya)
        rw [h.rest y (by simp)] at h1
        cases h1
    subst hyx
    have now := fun (v : AVal) (F F0 : Fr) (s1 : AS) (ρ1 : Emb) (a1 : Act) (w1 : World) => inv_now (v := v) (F := F) (F0 := F0) (s1 := s1) (ρ1 := ρ1) (a1 := a1) (w1 := w1) hL h hya ho hall hbef
    have hrun : oper call y.op (runOps call (l.map (·.op))) fr s = some res := h.run
    rw [oper_eq] at hrun
    -- what has been read may be read still
    have hstay : ∀ (F : Fr) (v : AVal), (∀ y' ∈ done, y'.act = false → isBefore b y'.i y.i = false → y'.op.op.makes = false → wanted (F.put y.op.dst v) y'.op.guard = some true → ∀ u, pval fr s y'.op.op = some u → (∀ t ∈ y'.op.looks, (F.put y.op.dst v).get t = fr.get t) →
        (∀ t, y'.op.dst = some t → (F.put y.op.dst v).get t = u) → ∃ u', pval (F.put y.op.dst v) s y'.op.op = some u' ∧ ∀ t, y'.op.dst = some t → (F.put y.op.dst v).get t = u') :=
      fun F v y' _ _ _ _ _ u hu1 hu2 hu3 => ⟨u, by rw [pval_cong fun t ht => hu2 t (mem_looks_op ht)]; exact hu1, hu3⟩
    have hchk := h.chk
    unfold ChkOk at hchk
    cases hw : wanted fr y.op.guard with
    | none => rw [hw] at hrun; cases hrun
    | some wb =>
      rw [hw] at hrun
      rw [wanted_ok h.frame hx.guard (hwant.trans hw)]
      cases wb with
      | false =>
        simp only [Bool.false_eq_true, if_false]
        refine now (.tuple []) fr fr0 s ρ _ w (fun _ => rfl) (fun _ => rfl) h.df hrun h.rel (.refl _ _ _ _) ?_ (hstay fr _)
        rw [← hx.dst]
        exact h.frame.put hx.lt (.tuple' .nil)
      | true =>
        simp only [if_true]
        simp only at hrun
        have hcong : act1 call y.op.op fr0 s = act1 call y.op.op fr s := act1_cong call fun t ht => hget t (mem_looks_op ht)
        cases hq : act1 call y.op.op fr s with
        | none => rw [hq] at hrun; cases hrun
        | some r =>
          rw [hq] at hrun
          refine .inl (act1_ok hcall h.rel h.frame o hx.op (hcong.trans hq) ?_)
          cases r with
          | val v s1 =>
            simp only at hrun
            intro v' w1 ρ1 h1 h2 h3
            have hlk := (bif_some hrun).1
            refine now v fr fr0 s1 ρ1 _ w1 (fun _ => rfl) (fun _ => rfl) h.df (bif_some hrun).2 h1 h2 ?_ ?_
            · rw [← hx.dst]
              exact (h.frame.mono h2.ext).put hx.lt h3
            · intro y' hy' hya' hnb hmk hwt u hu1 hu2 hu3
              cases hrd : y'.op.op.reads with
              | false => exact ⟨u, by rw [pval_still (s := s) hrd, pval_cong fun t ht => hu2 t (mem_looks_op ht)]; exact hu1, hu3⟩
              | true =>
                have hin := (hchk.1 hya y' (h.pre y' hy' hya') hnb).1 hrd
                exact looks_mem hlk _ hin hwt
          | dfr f A Bc args =>
            simp only at hrun
            intro A' B' ARGS hA hB hG
            refine now .junk { fr with df := (.func f A Bc, args) :: fr.df } { fr0 with df := (.func f A Bc, args) :: fr0.df } s ρ _ w (fun _ => rfl) (fun _ => rfl) (by rw [h.df]) hrun h.rel (.refl _ _ _ _) ?_ (hstay _ _)
            rw [← hx.dst]
            exact (h.frame.defer hA hB hG).put hx.lt (.junk _)
          | pan v s1 =>
            obtain rfl := Option.some.inj hrun
            intro v' w1 ρ1 h1 h2 h3
            refine hQ _ _ _ ⟨ρ1, h1, h.step.trans h2, ⟨h.frame.size, fun t => ?_, ?_⟩, v', rfl, h3⟩
            · show V ρ1 ((fr.junk y.op.pend).get t) _
              rw [junk_get]
              split
              · exact .junk _
              · rename_i hnp
                rw [← h.same t fun y' hy' hyd e => hnp ?_]
                · exact (h.frame.mono h2.ext).tm t
                · have hya' : y'.act = false := by
                    cases hq : y'.act with
                    | false => rfl
                    | true => have := h.acts y' hy' hq; rw [hyd] at this; cases this
                  have hyL : y' ∈ L := by rw [h.split]; simp [hy']
                  have hnb : isBefore b y'.i y.i = false := by
                    cases hq : isBefore b y'.i y.i with
                    | false => rfl
                    | true => have := hbef y'.i (hL.lt hyL) hq; rw [hyd] at this; cases this
                  exact (hchk.1 hya y' (h.pre y' hy' hya') hnb).2 t e
            · show Ds ρ1 (fr.junk y.op.pend).df _
              rw [junk_df, ← h.df]
              exact (h.frame.mono h2.ext).df

/-- A region whose order is open. -/
theorem wpAny_ok (hcall : CallOk P call) (hL : LOk P N ops b L) {Q : Exit → Act → World → Prop} (hQ : ∀ e a1 w1, ExR N B ρ0 s0 w0 res e a1 w1 → Q e a1 w1) : ∀ (fuel : Nat) (listed : Array Bool) (a : Act) (w : World) (unl : List Nat), unl.length ≤ fuel →
    (∀ i, listed.getD i true = false → i ∈ unl) → Inv P N B ops b L call res ρ0 s0 w0 listed a w → wpAny P .any ops Q fuel listed a w
  | 0, listed, a, w, unl, hlen, hu, h => by
    have hr : Region.ready .any ops listed = [] := by
      rw [List.eq_nil_iff_forall_not_mem]
      intro i hi
      have := hu i (mem_ready.1 hi).1
      have hn : unl = [] := List.eq_nil_of_length_eq_zero (by omega)
      rw [hn] at this
      cases this
    exact ⟨hr, inv_done hL h hr hQ⟩
  | fuel + 1, listed, a, w, unl, hlen, hu, h => by
    refine ⟨fun hr => inv_done hL h hr hQ, fun i hi => wpOp_mono (fun a' w' h' => ?_) (inv_step hcall hL h hQ hi)⟩
    have hi' := (mem_ready.1 hi).1
    refine wpAny_ok hcall hL hQ fuel _ a' w' (unl.erase i) ?_ (fun j hj => ?_) h'
    · have := List.length_erase_of_mem (hu i hi')
      have := List.length_pos_of_mem (hu i hi')
      omega
    · have hne : j ≠ i := by
        intro e
        subst e
        have hlt : j < listed.size := by
          rcases Nat.lt_or_ge j listed.size with h1 | h1
          · exact h1
          · simp [Array.getElem?_eq_none h1] at hi'
        simp [hlt] at hj
      rw [getD_set_ne true (fun e => hne e.symm)] at hj
      exact (List.mem_erase_of_ne hne).2 (hu j hj)

theorem region_draw (hm : P.follows .mixedOrders = true) (hcall : CallOk P call) {l : List AOper} (hc : compRegion P N ops true = some l) {fr : Fr} {a : Act} {ρ : Emb} {s : AS} {w : World} (hR : Rel B ρ s w) (hF : FrR N ρ fr a) (h : runOps call l fr s = some res)
    {Q : Exit → Act → World → Prop} (hQ : ∀ e a1 w1, ExR N B ρ s w res e a1 w1 → Q e a1 w1) {id : Nat} : (Code.region id ops true).wp P Q a w := by
  obtain ⟨L, rfl, hL⟩ := compRegion_draw hc
  refine wp_region_any hm ?_
  have hno : ∀ j, done? (Array.replicate ops.size false) j = false := fun j => by
    unfold done?
    rw [Array.getD_eq_getD_getElem?, Array.getElem?_replicate]
    split <;> rfl
  have hSt : St P N B ops (Region.before ops) L call res ρ s w (Array.replicate ops.size false) a { w with drawn := w.drawn + 1 } [] L [] fr fr s ρ (fun _ => none) := by
    refine St.mk rfl h hL.chk (fun _ h => by cases h) (by simp) (fun j o hj => by rw [hno] at hj; cases hj) (fun x _ => hno x.i) (fun _ h => by cases h) (hR.same rfl) ?_ hF (fun _ _ => rfl) rfl (fun _ h => by cases h) (fun _ _ _ h => by cases h) (fun _ _ h => by cases h)
    exact ⟨.refl _, fun _ h => .inl h, fun _ _ _ => rfl, Nat.le_refl _, (Below.refl B w).drew⟩
  obtain ⟨done', rest', pre', fr', s', num', h1, h2⟩ := settle hL hSt
  refine wpAny_ok hcall hL hQ ops.size _ a _ (List.range ops.size) (by simp) (fun i hi => ?_) ⟨done', rest', pre', fr', fr, s', ρ, num', h1, h2⟩
  rw [Array.getD_eq_getD_getElem?, Array.getElem?_replicate] at hi
  split at hi
  · exact List.mem_range.2 (by assumption)
  · cases hi
end
end Go.Avm
