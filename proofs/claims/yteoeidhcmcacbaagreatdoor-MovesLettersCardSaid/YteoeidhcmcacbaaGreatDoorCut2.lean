/-
  A run is cut in the midst of code whose memory is not known whole.
-/
import Derived.Test.YteoeidhcmcacbaaGreatDoorCut
set_option linter.unusedVariables false
set_option linter.unusedSimpArgs false
namespace Go.Avm

/-! ### one greater memory behind another -/
mutual
theorem Vr.comp {σ τ : Nat → Nat} : ∀ {x y z : AVal}, Vr σ x y → Vr τ y z → Vr (fun k => τ (σ k)) x z
  | _, _, _, .junk _, _ => .junk _
  | _, _, _, .bool b, h => by cases h; exact .bool b
  | _, _, _, .int k n, h => by cases h; exact .int k n
  | _, _, _, .str l, h => by cases h; exact .str l
  | _, _, _, .ptr g x v, h => by cases h; exact .ptr g x v
  | _, _, _, .nilptr, h => by cases h; exact .nilptr
  | _, _, _, .slice g o l z v c, h => by cases h; exact .slice g o l z v c
  | _, _, _, .nilslice, h => by cases h; exact .nilslice
  | _, _, _, .map r, h => by cases h; exact .map r
  | _, _, _, .nilmap, h => by cases h; exact .nilmap
  | _, _, _, .func f ha hb, h => by cases h with | func _ ha' hb' => exact .func f (Vrs.comp ha ha') (Vrs.comp hb hb')
  | _, _, _, .nilfunc, h => by cases h; exact .nilfunc
  | _, _, _, .iface t hv, h => by cases h with | iface _ hv' => exact .iface t (Vr.comp hv hv')
  | _, _, _, .niliface, h => by cases h; exact .niliface
  | _, _, _, .agg ha, h => by cases h with | agg ha' => exact .agg (Vrs.comp ha ha')
  | _, _, _, .tuple ha, h => by cases h with | tuple ha' => exact .tuple (Vrs.comp ha ha')
theorem Vrs.comp {σ τ : Nat → Nat} : ∀ {x y z : List AVal}, Vrs σ x y → Vrs τ y z → Vrs (fun k => τ (σ k)) x z
  | _, _, _, .nil, h => by cases h; exact .nil
  | _, _, _, .cons hx t, h => by cases h with | cons hx' t' => exact .cons (Vr.comp hx hx') (Vrs.comp t t')
end
theorem Mr.comp {σ τ : Nat → Nat} : ∀ {l m k : List (AVal × AVal)}, Mr σ l m → Mr τ m k → Mr (fun k => τ (σ k)) l k
  | _, _, _, .nil, h => by cases h; exact .nil
  | _, _, _, .cons hk hv t, h => by cases h with | cons hk' hv' t' => exact .cons (hk.comp hk') (hv.comp hv') (t.comp t')
theorem Or.comp {σ τ : Nat → Nat} {o p q : AObj} (h : Or σ o p) (k : Or τ p q) : Or (fun k => τ (σ k)) o q := by
  cases h with
  | row hc v ex hro => cases k with | row hc' _ _ hro' => exact .row (hc.comp hc') v ex (fun e => hro' (hro e))
  | map hm => cases k with | map hm' => exact .map (hm.comp hm')
theorem Sr.comp {σ τ : Nat → Nat} {s t u : AS} (h : Sr σ s t) (k : Sr τ t u) : Sr (fun k => τ (σ k)) s u := by
  refine ⟨fun a b e => h.inj _ _ (k.inj _ _ e), fun g o e => ?_, fun j => ?_⟩
  · obtain ⟨o1, h1, h2⟩ := h.obj g o e
    obtain ⟨o2, h3, h4⟩ := k.obj _ _ h1
    exact ⟨o2, h3, h2.comp h4⟩
  · show τ (σ (s.nx + j)) = _
    rw [h.nx, k.nx]
theorem Dr.comp {σ τ : Nat → Nat} : ∀ {l m k : List (AVal × List AVal)}, Dr σ l m → Dr τ m k → Dr (fun k => τ (σ k)) l k
  | _, _, _, .nil, h => by cases h; exact .nil
  | _, _, _, .cons hf ha t, h => by cases h with | cons hf' ha' t' => exact .cons (hf.comp hf') (ha.comp ha') (t.comp t')
theorem Frr.comp {σ τ : Nat → Nat} {f g h : Fr} (a : Frr σ f g) (b : Frr τ g h) : Frr (fun k => τ (σ k)) f h := ⟨fun t => (a.tm t).comp (b.tm t), a.df.comp b.df⟩

/-! ### temporaries that are not written stay -/
theorem oper_keep {c : Caller} {o : AOper} {nx : Fr → AS → Res} {t : Nat} (ht : o.dst ≠ some t) {fr0 : Fr} (hn : ∀ fr s fr' s', nx fr s = some (.nrm, fr', s') → fr.get t = fr0.get t → fr'.get t = fr0.get t) {fr fr' : Fr} {s s' : AS}
    (h : oper c o nx fr s = some (.nrm, fr', s')) (h0 : fr.get t = fr0.get t) : fr'.get t = fr0.get t := by
  have hp : ∀ v, (fr.put o.dst v).get t = fr0.get t := fun v => by rw [Fr.get_put, if_neg ht]; exact h0
  unfold oper at h
  cases hw : wanted fr o.guard with
  | none => rw [hw] at h; cases h
  | some b =>
    rw [hw] at h
    cases b with
    | false => exact hn _ _ _ _ h (hp _)
    | true =>
      simp only at h
      generalize o.op = op at h
      cases op
      case call f args =>
        simp only at h
        generalize fr.ev f = x at h
        cases x <;> simp only at h <;> try (cases h; done)
        rename_i g a b
        cases hc : c g (lapp a (lapp (lmap fr.ev args) b)) s with
        | none => rw [hc] at h; cases h
        | some p =>
          obtain ⟨out, s1⟩ := p
          rw [hc] at h
          cases out with
          | ret v => simp only at h; obtain ⟨_, h⟩ := bif_some h; exact hn _ _ _ _ h (hp _)
          | pan v => cases h
      case dfr f args =>
        simp only at h
        generalize fr.ev f = x at h
        cases x <;> simp only at h <;> try (cases h; done)
        refine hn _ _ _ _ h ?_
        rw [Fr.get_put, if_neg ht]
        exact h0
      case pan x =>
        simp only at h
        generalize fr.ev x = y at h
        cases y <;> simp only at h <;> cases h
      all_goals
        simp only at h
        split at h
        · obtain ⟨_, h⟩ := bif_some h; exact hn _ _ _ _ h (hp _)
        · cases h
theorem runOps_keep {c : Caller} {t : Nat} {fr0 : Fr} : ∀ {l : List AOper}, (∀ o ∈ l, o.dst ≠ some t) → ∀ {fr fr' : Fr} {s s' : AS}, runOps c l fr s = some (.nrm, fr', s') → fr.get t = fr0.get t → fr'.get t = fr0.get t
  | [], _, fr, fr', s, s', h, h0 => by
    have h := Option.some.inj (show some (Ex.nrm, fr, s) = some (.nrm, fr', s') from h)
    injection h with _ h
    injection h with q1 q2
    subst q1; exact h0
  | o :: l, hl, fr, fr', s, s', h, h0 => by
    rw [runOps_cons] at h
    exact oper_keep (hl o (by simp)) (fun fr s fr' s' h h0 => runOps_keep (fun o ho => hl o (by simp [ho])) h h0) h h0

/-- Which temporaries do operations write? -/
def dsts : List AOper → List Nat
  | [] => []
  | o :: l => match o.dst with | some t => t :: dsts l | none => dsts l
theorem dsts_ne {t : Nat} : ∀ {l : List AOper}, t ∉ dsts l → ∀ o ∈ l, o.dst ≠ some t
  | [], _, o, ho => by simp at ho
  | p :: l, h, o, ho => by
    rcases List.mem_cons.1 ho with rfl | ho
    · intro e; unfold dsts at h; rw [e] at h; simp at h
    · refine dsts_ne (l := l) (fun e => h ?_) o ho
      unfold dsts
      split
      · exact List.mem_cons_of_mem _ e
      · exact e

/-! ### cuts -/
section
variable {tab : Nat → Option AFn} {Q : Ex → Fr → AS → Prop}
/-- Operations are run in a small memory. m: where the things of the small memory behind them stand. -/
theorem ow_cut (hT : TabR tab) {l : List AOper} (hl : l.all AOper.ok = true) {fl fl' : List (Nat × AVal)} {os os' : List AObj} {m : List Nat} {n : Nat} (h : okCut (Fast.runOps (Fast.call tab n) l (mkF fl) (mkS os)) fl' os' m = true)
    {σ : Nat → Nat} {fr : Fr} {s : AS} (hF : Frr σ (mkF fl) fr) (hS : Sr σ (mkS os) s)
    (k : ∀ (fr' : Fr) (s' : AS) (τ : Nat → Nat), Frr (fun k => σ (τ k)) (mkF fl') fr' → Sr (fun k => σ (τ k)) (mkS os') s' → Far σ s s' → (∀ (k g : Nat), m[k]? = some g → τ k = g) → (∀ t, t ∉ dsts l → fr'.get t = fr.get t) → (∀ p ∈ fl', Vr (fun k => σ (τ k)) p.2 (fr'.get p.1)) → Q .nrm fr' s') : Ow tab l fr s Q := by
  rw [Fast.runOps_eq, Fast.call_eq] at h
  obtain ⟨fr1, s1, τ, e, hF1, hS1, hτ, hG⟩ := okCut_at h
  obtain ⟨⟨e', fr', s'⟩, h1, h2, h3, h4, h5⟩ := runOps_r (call_r hT n) hl e hF hS
  cases h2
  exact ⟨n, .nrm, fr', s', h1, k fr' s' τ (hF1.comp h3) (hS1.comp h4) h5 hτ (fun t ht => runOps_keep (fr0 := fr) (dsts_ne ht) h1 rfl) (fun p hp => (hG p hp).comp (h3.tm p.1))⟩
end
end Go.Avm
