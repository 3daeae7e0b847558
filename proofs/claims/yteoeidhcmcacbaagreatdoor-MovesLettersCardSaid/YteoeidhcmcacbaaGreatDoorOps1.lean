/-
  What an operation gives that makes nothing, writes nothing and calls nothing.
-/
import Derived.Test.YteoeidhcmcacbaaGreatDoorGrow
import Derived.Test.YteoeidhcmcacbaaGreatDoorComp
import Derived.Laws.Cells
set_option linter.unusedVariables false
set_option linter.unusedSimpArgs false
namespace Go.Avm
open Go.RowKit (Below)

mutual
theorem compVal_ok (ρ : Emb) : ∀ v : Value, V ρ (compVal v) v
  | .bool b => .bool b
  | .int k n => .int k n
  | .string s => .str _ s rfl
  | .pointer none => .nilptr
  | .pointer (some _) => .junk _
  | .slice none 0 0 => .nilslice
  | .slice none 0 (_ + 1) => .junk _
  | .slice none (_ + 1) _ => .junk _
  | .slice (some _) _ _ => .junk _
  | .map none => .nilmap
  | .map (some _) => .junk _
  | .nilFunc => .nilfunc
  | .nilIface => .niliface
  | .agg cs => .agg' (compArr_ok ρ cs)
  | .tuple cs => .tuple' (compArr_ok ρ cs)
  | .iface t v => .iface t _ _ (compVal_ok ρ v)
  | .float _ _ => .junk _
  | .complex _ _ _ => .junk _
  | .chan _ => .junk _
  | .func _ _ _ => .junk _
theorem compArr_ok (ρ : Emb) : ∀ cs : Array Value, Vs ρ (compArr cs) cs.toList
  | ⟨l⟩ => compVals_ok ρ l
theorem compVals_ok (ρ : Emb) : ∀ l : List Value, Vs ρ (compVals l) l
  | [] => .nil
  | v :: l => .cons (compVal_ok ρ v) (compVals_ok ρ l)
end

/-- Deferred calls are alike. -/
inductive Ds (ρ : Emb) : List (AVal × List AVal) → List Deferred → Prop
  | nil : Ds ρ [] []
  | cons {f : Nat} {a b args : List AVal} {A Bc ARGS : List Value} {l : List (AVal × List AVal)} {L : List Deferred} (ha : Vs ρ a A) (hb : Vs ρ b Bc) (hargs : Vs ρ args ARGS) (t : Ds ρ l L) :
      Ds ρ ((.func f a b, args) :: l) ({ target := .fn (.func f) Bc.toArray, args := (A ++ ARGS).toArray } :: L)
theorem Ds.mono {ρ ρ' : Emb} (e : Ext ρ ρ') {l : List (AVal × List AVal)} {L : List Deferred} (h : Ds ρ l L) : Ds ρ' l L := by
  induction h with
  | nil => exact .nil
  | cons ha hb hargs _ ih => exact .cons (ha.mono e) (hb.mono e) (hargs.mono e) ih

/-- Frames are alike; N: how many temporaries there are, at least. -/
structure FrR (N : Nat) (ρ : Emb) (fr : Fr) (a : Act) : Prop where
  size : N ≤ a.tmps.size
  tm : ∀ t, V ρ (fr.get t) (a.tmps.getD t undef)
  df : Ds ρ fr.df a.defers
theorem FrR.mono {N : Nat} {ρ ρ' : Emb} {fr : Fr} {a : Act} (h : FrR N ρ fr a) (e : Ext ρ ρ') : FrR N ρ' fr a := ⟨h.size, fun t => (h.tm t).mono e, h.df.mono e⟩
theorem FrR.ev {N : Nat} {ρ : Emb} {fr : Fr} {a : Act} (h : FrR N ρ fr a) (x : Operand) : V ρ (fr.ev (compOpd x)) (a.eval x) := by
  cases x with
  | tmp t => exact h.tm t
  | const v => exact compVal_ok ρ v
  | func f => exact .func' .nil .nil
  | global g => exact .junk _
theorem FrR.evs {N : Nat} {ρ : Emb} {fr : Fr} {a : Act} (h : FrR N ρ fr a) : ∀ l : List Operand, Vs ρ ((l.map compOpd).map fr.ev) (l.map a.eval)
  | [] => .nil
  | x :: l => .cons (h.ev x) (h.evs l)
theorem FrR.put {N : Nat} {ρ : Emb} {fr : Fr} {a : Act} (h : FrR N ρ fr a) {d : Option Nat} (hd : ∀ t, d = some t → t < N) {v : AVal} {v' : Value} (hv : V ρ v v') : FrR N ρ (fr.put d v) (a.put d v') := by
  cases d with
  | none => exact h
  | some d =>
    have hlt : d < a.tmps.size := Nat.lt_of_lt_of_le (hd d rfl) h.size
    refine ⟨by simpa [Act.put] using h.size, fun t => ?_, by simpa [Act.put] using h.df⟩
    rw [Fr.get_put]
    by_cases e : some d = some t
    · rw [if_pos e]
      obtain rfl := Option.some.inj e
      simpa [Act.put, hlt] using hv
    · rw [if_neg e]
      have hne : d ≠ t := fun e2 => e (by rw [e2])
      have := h.tm t
      simpa [Act.put, Array.getElem?_setIfInBounds_ne hne] using this

section
variable {P : Program} {B N : Nat} {ρ : Emb} {s : AS} {w : World} {fr : Fr} {a : Act}

theorem run_under {t : TypeId} {d : TypeDesc} (h : P.underlying t = some d) : (underlying t).run P w = .ok d w := by simp [underlying, h]
theorem run_size {t : TypeId} {n : Nat} (h : sizeT P t = some n) : (sizeOf t).run P w = .ok n w := by
  unfold sizeT at h
  cases hi : P.info? t with
  | none => rw [hi] at h; cases h
  | some i => rw [hi] at h; simp [sizeOf, typeInfo, hi]; simpa using h
theorem run_agg {t : TypeId} {g : Bool} (h : isAggT P t = some g) : (isAgg t).run P w = .ok g w := by
  unfold isAggT at h
  cases hi : P.underlying t with
  | none => rw [hi] at h; cases h
  | some d =>
    rw [hi] at h
    simp [isAgg, run_under hi]
    cases d <;> simp at h ⊢ <;> exact h
theorem run_zero {t : TypeId} {z : AVal} (h : zeroT P t = some z) : ∃ i v, P.info? t = some i ∧ i.zero = some v ∧ (zeroValue t).run P w = .ok v w ∧ z = compVal v ∧ z.known = true := by
  unfold zeroT at h
  cases hi : P.info? t with
  | none => rw [hi] at h; cases h
  | some i =>
    rw [hi] at h
    cases hz : i.zero with
    | none => simp [hz] at h
    | some v =>
      simp only [hz] at h
      split at h
      · rename_i hk
        obtain rfl := Option.some.inj h
        exact ⟨i, v, rfl, hz, by simp [zeroValue, typeInfo, hi, hz], rfl, hk⟩
      · cases h
theorem V.cells' {x : AVal} {y : Value} (h : V ρ x y) (hk : x.known = true) : Vs ρ x.cells y.cells.toList := h.cells (fun e => by subst e; cases hk)

theorem Loc.at_add (L : Loc) {x : Nat} (h : L.lo ≤ x) (j : Nat) : (L.at x).add j = L.at (x + j) := by
  unfold Addr.add Loc.at
  by_cases e : j = 0
  · rw [if_pos e]; subst e; rfl
  · rw [if_neg e]; simp; omega

/-- What is read in a row lies in memory. -/
theorem cellsAt_ok (hR : Rel B ρ s w) {g x v n : Nat} {cs : List AVal} (h : cellsAt s g x v n = some cs) {L : Loc} (hL : ρ.row g v = some L) (hx : L.lo ≤ x) :
    ∃ CS : List Value, Vs ρ cs CS ∧ CS.length = n ∧ (∀ j y, CS[j]? = some y → w.cell? ((L.at x).add j) = some y) ∧ (∀ c ∈ cs, c.one = true) := by
  obtain ⟨_, cs0, cur, exts, ro, hg, hra⟩ := hR.row _ _ _ hL
  simp only [cellsAt, hg] at h
  rw [show Nat.ble v cur = true from ble_iff.2 hra.ver, cond_true, nth_eq] at h
  change (match exts[cur - v]? with | some e => bif Nat.ble (Nat.add x n) e then some (ltake (ldrop cs0 x) n) else none | none => none) = some cs at h
  cases he : exts[cur - v]? with
  | none => rw [he] at h; cases h
  | some e =>
    rw [he] at h
    simp only [ltake_eq, ldrop_eq] at h
    cases hb : Nat.ble (Nat.add x n) e with
    | false => rw [hb] at h; cases h
    | true =>
      rw [hb] at h
      have hle : x + n ≤ e := ble_iff.1 hb
      obtain rfl := Option.some.inj h
      have hcs := hra.le e he
      have hcell := hra.cells e he
      have hlen : ((cs0.drop x).take n).length = n := by simp; omega
      let CS : List Value := (List.range n).map fun j => (w.cell? (L.at (x + j))).getD undef
      have hCS : ∀ j, j < n → ∃ y, w.cell? (L.at (x + j)) = some y ∧ CS[j]? = some y := fun j hj => by
        obtain ⟨c, y, h1, h2, h3, h4⟩ := hcell (x + j) (by omega) (by omega)
        exact ⟨y, h2, by simp [CS, hj, h2]⟩
      refine ⟨CS, .of (by rw [hlen]; simp [CS]) fun j c y h1 h2 => ?_, by simp [CS], fun j y hy => ?_, fun c hc => ?_⟩
      · have hj : j < n := by
          have := (List.getElem?_eq_some_iff.1 h2).1
          simpa [CS] using this
        obtain ⟨c', y', h3, h4, h5, _⟩ := hcell (x + j) (by omega) (by omega)
        obtain ⟨y2, h6, h7⟩ := hCS j hj
        rw [List.getElem?_take, if_pos hj, List.getElem?_drop, h3] at h1
        obtain rfl := Option.some.inj h1
        rw [h7] at h2
        obtain rfl := Option.some.inj h2
        rw [h4] at h6
        obtain rfl := Option.some.inj h6
        exact h5
      · have hj : j < n := by
          have := (List.getElem?_eq_some_iff.1 hy).1
          simpa [CS] using this
        obtain ⟨y2, h6, h7⟩ := hCS j hj
        rw [h7] at hy
        obtain rfl := Option.some.inj hy
        rw [L.at_add hx]; exact h6
      · obtain ⟨j, hj1, hj2⟩ := List.getElem_of_mem hc
        have hj : j < n := by rw [hlen] at hj1; exact hj1
        obtain ⟨c', y', h3, _, _, h5⟩ := hcell (x + j) (by omega) (by omega)
        have : ((cs0.drop x).take n)[j]? = some c := by rw [List.getElem?_eq_getElem hj1, hj2]
        rw [List.getElem?_take, if_pos hj, List.getElem?_drop, h3] at this
        obtain rfl := Option.some.inj this
        exact h5
end
end Go.Avm
