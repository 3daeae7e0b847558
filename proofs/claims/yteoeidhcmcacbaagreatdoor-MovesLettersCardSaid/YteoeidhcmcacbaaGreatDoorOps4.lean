/-
  Reading, and putting together.
-/
import Derived.Test.YteoeidhcmcacbaaGreatDoorOps3
import Derived.Laws.Tables
set_option linter.unusedVariables false
set_option linter.unusedSimpArgs false
namespace Go.Avm
section
variable {P : Program} {B N : Nat} {ρ : Emb} {s : AS} {w : World} {fr : Fr} {a : Act}

/-! ### parts -/
theorem foldl_set (off : Nat) : ∀ (vs : List Value) (k : Nat) (C : Array Value), off + k + vs.length ≤ C.size →
    ((vs.zipIdx k).foldl (fun cs (p : Value × Nat) => cs.setIfInBounds (off + p.2) p.1) C).size = C.size ∧
    ∀ i, ((vs.zipIdx k).foldl (fun cs (p : Value × Nat) => cs.setIfInBounds (off + p.2) p.1) C)[i]? = if off + k ≤ i ∧ i < off + k + vs.length then vs[i - (off + k)]? else C[i]?
  | [], k, C, _ => ⟨rfl, fun i => by simp; intro h1 h2; omega⟩
  | v :: vs, k, C, h => by
    simp only [List.length_cons] at h
    obtain ⟨h1, h2⟩ := foldl_set off vs (k + 1) (C.setIfInBounds (off + k) v) (by rw [Array.size_setIfInBounds]; omega)
    simp only [List.zipIdx_cons, List.foldl_cons]
    refine ⟨by rw [h1]; simp, fun i => ?_⟩
    rw [h2]
    by_cases e : i = off + k
    · subst e
      rw [if_neg (by omega), if_pos (by simp), Array.getElem?_setIfInBounds_self_of_lt (by omega)]
      simp
    · by_cases h3 : off + k ≤ i ∧ i < off + k + (v :: vs).length
      · rw [if_pos h3, if_pos (by simp at h3; omega)]
        obtain ⟨j, rfl⟩ : ∃ j, i = off + (k + 1) + j := ⟨i - (off + (k + 1)), by omega⟩
        rw [show off + (k + 1) + j - (off + (k + 1)) = j by omega, show off + (k + 1) + j - (off + k) = j + 1 by omega]
        simp
      · rw [if_neg h3, if_neg (by simp at h3; omega), Array.getElem?_setIfInBounds_ne (by omega)]

/-- The parts are alike. -/
inductive Ps (ρ : Emb) (place : Nat → Option (Nat × Nat)) : List (Nat × Nat × AVal) → List (Nat × Value) → Prop
  | nil : Ps ρ place [] []
  | cons {o n i : Nat} {x : AVal} {y : Value} {l : List (Nat × Nat × AVal)} {L : List (Nat × Value)} (h : place i = some (o, n)) (hv : V ρ x y) (t : Ps ρ place l L) : Ps ρ place ((o, n, x) :: l) ((i, y) :: L)

theorem fillParts_cons (o n : Nat) (x : AVal) (ps : List (Nat × Nat × AVal)) (cs : List AVal) :
    fillParts ((o, n, x) :: ps) cs = bif x.known && Nat.beq (llen x.cells) n && Nat.ble (Nat.add o n) (llen cs) then fillParts ps (splice cs o x.cells) else none := rfl

theorem fill_ok {place : Nat → Option (Nat × Nat)} {ps : List (Nat × Nat × AVal)} {qs : List (Nat × Value)} (hp : Ps ρ place ps qs) : ∀ {cs cs' : List AVal} {C : Array Value},
    fillParts ps cs = some cs' → Vs ρ cs C.toList → ∃ C', Instr.fill place C qs = some C' ∧ Vs ρ cs' C'.toList ∧ C'.size = C.size := by
  induction hp with
  | nil => intro cs cs' C h hv; obtain rfl := Option.some.inj h; exact ⟨C, rfl, hv, rfl⟩
  | @cons o n i x y l L h hv t ih =>
    intro cs cs' C hf hc
    rw [fillParts_cons] at hf
    obtain ⟨h1, h2⟩ := bif_some hf
    rw [Bool.and_eq_true, Bool.and_eq_true, beqN_iff, ble_iff, llen_eq, llen_eq] at h1
    obtain ⟨⟨hk, hn⟩, hle⟩ := h1
    change o + n ≤ cs.length at hle
    have hcells := hv.cells' hk
    have hlen := hcells.length
    have hlc := hc.length
    simp only [Array.length_toList] at hlen hlc
    obtain ⟨g1, g2⟩ := foldl_set o y.cells.toList 0 C (by simp; omega)
    obtain ⟨C', h3, h4, h5⟩ := ih (C := y.cells.zipIdx.foldl (fun cs (p : Value × Nat) => cs.setIfInBounds (o + p.2) p.1) C) h2 (by
      rw [← Array.foldl_toList, Array.toList_zipIdx]
      refine .of ?_ fun j u v hu hv' => ?_
      · rw [splice_len (by omega), hlc]; exact g1.symm
      · rw [splice_at (by omega)] at hu
        rw [Array.getElem?_toList, g2] at hv'
        simp only [Nat.add_zero, Array.length_toList] at hv'
        by_cases hj : o ≤ j ∧ j < o + x.cells.length
        · rw [if_pos hj] at hu
          rw [if_pos (by omega)] at hv'
          exact hcells.get hu hv'
        · rw [if_neg hj] at hu
          rw [if_neg (by omega)] at hv'
          exact hc.get hu (by simpa using hv'))
    refine ⟨C', ?_, h4, ?_⟩
    · simp only [Instr.fill, h]
      rw [if_neg (by simp; omega)]
      exact h3
    · rw [h5, ← Array.foldl_toList, Array.toList_zipIdx, g1]

theorem places_ok (hF : FrR N ρ fr a) {pl : Nat → Option (Nat × Nat)} : ∀ {l : List (Nat × Operand)} {r : List (Nat × Nat × Opd)}, placesOf pl l = some r →
    Ps ρ pl (lmap (fun p => (p.1, p.2.1, fr.ev p.2.2)) r) (l.map fun (i, x) => (i, a.eval x))
  | [], r, h => by simp only [placesOf] at h; obtain rfl := Option.some.inj h; exact .nil
  | (i, x) :: l, r, h => by
    simp only [placesOf] at h
    cases hi : pl i with
    | none => rw [hi] at h; cases h
    | some on =>
      rw [hi] at h
      cases hr : placesOf pl l with
      | none => rw [hr] at h; cases h
      | some r' =>
        rw [hr] at h
        obtain rfl := Option.some.inj h
        exact .cons hi (hF.ev x) (places_ok hF hr)

theorem build_ok (hF : FrR N ρ fr a) {t : TypeId} {ps : Array (Nat × Operand)} {z : AVal} {r : List (Nat × Nat × Opd)} (hz : zeroT P t = some z)
    (hc : (∃ fs pl, P.underlying t = some (.struct fs) ∧ fieldPlaces P fs.toList = some pl ∧ placesOf (pl[·]?) ps.toList = some r) ∨
      (∃ len e n, P.underlying t = some (.array len e) ∧ sizeT P e = some n ∧ placesOf (fun i => some (i * n, n)) ps.toList = some r))
    {v : AVal} (h : pval fr s (.build z.cells r) = some v) : ∃ v', (Instr.build t (ps.map fun (i, x) => (i, a.eval x))).run P w = .ok v' w ∧ V ρ v v' := by
  simp only [pval] at h
  cases hf : fillParts (lmap (fun p => (p.1, p.2.1, fr.ev p.2.2)) r) z.cells with
  | none => rw [hf] at h; cases h
  | some cs =>
    rw [hf] at h
    obtain rfl := Option.some.inj h
    obtain ⟨i, zv, hi, hzv, _, rfl, hk⟩ := run_zero (w := w) hz
    have hzc := (compVal_ok ρ zv).cells' hk
    rcases hc with ⟨fs, pl, hu, hpl, hr⟩ | ⟨len, e, n, hu, hn, hr⟩
    · obtain ⟨C', h1, h2, _⟩ := fill_ok (places_ok hF hr) hf hzc
      refine ⟨.agg C', run_build w t _ C' ?_, .agg' h2⟩
      unfold Program.built
      simp only [hi, hu, hzv]
      unfold fieldPlaces at hpl
      rw [hpl]
      simpa using h1
    · obtain ⟨C', h1, h2, _⟩ := fill_ok (places_ok hF hr) hf hzc
      refine ⟨.agg C', run_build w t _ C' ?_, .agg' h2⟩
      unfold Program.built
      unfold sizeT at hn
      cases hie : P.info? e with
      | none => rw [hie] at hn; cases hn
      | some ie =>
        rw [hie] at hn
        simp only [hi, hu, hzv, hie]
        have hn' : ie.size = n := by simpa using hn
        subst hn'
        simpa using h1
end
end Go.Avm
