/-
  What an operation writes.
-/
import Derived.Test.YteoeidhcmcacbaaGreatDoorMade
set_option linter.unusedVariables false
set_option linter.unusedSimpArgs false
namespace Go.Avm
open Go.RowKit (Below)
section
variable {P : Program} {B N : Nat} {ρ : Emb} {s : AS} {w : World} {fr : Fr} {a : Act}

theorem one_cell {x : AVal} {y : Value} (h : V ρ x y) (ho : x.one = true) : y.oneCell' = true := by
  cases h <;> first | rfl | cases ho
theorem one_cells {l : List AVal} {L : List Value} (h : Vs ρ l L) (ho : ∀ c ∈ l, c.one = true) : ∀ v ∈ L, v.oneCell' = true := by
  intro v hv
  obtain ⟨j, hj1, hj2⟩ := List.getElem_of_mem hv
  have hlen := h.length
  have hj : j < l.length := by omega
  exact one_cell (h.get (i := j) (x := l[j]) (y := v) (by simp [hj]) (by rw [List.getElem?_eq_getElem hj1, hj2])) (ho _ (List.getElem_mem hj))

/-- A step that changes one row, or map, that is known. -/
theorem Step.one {ρ' : Emb} {w' : World} {g : Nat} {o : AObj} (hex : Ext ρ ρ') (hdom : ∀ k, Mapped ρ' k → Mapped ρ k) (hg : Mapped ρ g) (hb : Below B w w') : Step B ρ s w ρ' (s.set g o) w' :=
  ⟨hex, fun k hk => .inl (hdom k hk), fun k _ hm => by rw [AS.get_set_ne]; exact fun e => hm (e ▸ hg), Nat.le_refl _, hb⟩

theorem put_ok (hR : Rel B ρ s w) {g x v : Nat} {vs : List AVal} {s' : AS} (h : putAt s g x v vs = some s') {L : Loc} (hL : ρ.row g v = some L) (hx : L.lo ≤ x) {VS : List Value} (hv : Vs ρ vs VS) (hone : ones vs = true) :
    ∃ w', (storeCells (L.at x) VS).run P w = .ok () w' ∧ Rel B ρ s' w' ∧ Step B ρ s w ρ s' w' := by
  obtain ⟨_, cs, cur, exts, ro, hg, hra⟩ := hR.row _ _ _ hL
  simp only [putAt, hg] at h
  cases exts with
  | nil => cases h
  | cons e t =>
    simp only at h
    obtain ⟨h1, h2⟩ := bif_some h
    rw [Bool.and_eq_true, Bool.and_eq_true, beqN_iff, ble_iff, llen_eq] at h1
    obtain ⟨⟨rfl, hro⟩, hle⟩ := h1
    have hro : ro = false := by simpa using hro
    subst hro
    change x + vs.length ≤ e at hle
    have hone' := (ones_iff vs).1 hone
    obtain ⟨hR', hb⟩ := hR.put hg hL hx hv hone' hle
    obtain rfl := Option.some.inj h2
    obtain ⟨et, hsh⟩ := hra.shape
    have hlen := hv.length
    have hcell : ∀ j, j < VS.length → ∃ y, w.cell? ⟨L.b, L.o + (x - L.lo) + 0 + j, none⟩ = some y := fun j hj => by
      obtain ⟨c, y, _, h4, _⟩ := hra.cells e (by simp) (x + j) (by omega) (by omega)
      have : L.at (x + j) = ⟨L.b, L.o + (x - L.lo) + 0 + j, none⟩ := by unfold Loc.at; congr 1; omega
      exact ⟨y, this ▸ h4⟩
    have hrun := run_storeCells_cells (P := P) L.b (L.o + (x - L.lo)) VS 0 w (fun j hj => by obtain ⟨y, hy⟩ := hcell j hj; rw [hy]; rfl)
      (fun j hj => by obtain ⟨y, hy⟩ := hcell j hj; exact (hra.own rfl).2 _ (cell_in hy hsh)) (one_cells hv hone')
    exact ⟨_, hrun, hR', Step.one (.refl ρ) (fun _ h => h) (.inl ⟨_, L, hL⟩) hb⟩

/-- What is known behind something that writes. -/
def WriteOk (P : Program) (B : Nat) (ρ : Emb) (s : AS) (w : World) (x : Sem Next) (v : AVal) (s' : AS) : Prop :=
  ∃ n v' w' ρ', x.run P w = .ok n w' ∧ (n = .value v' ∨ n = .skip ∧ v' = undef) ∧ Rel B ρ' s' w' ∧ Step B ρ s w ρ' s' w' ∧ V ρ' v v'

theorem store_ok (hR : Rel B ρ s w) (hF : FrR N ρ fr a) {t : TypeId} {n : Nat} (hn : sizeT P t = some n) {x y : Operand} {v : AVal} {s' : AS} (h : write fr s (.store n (compOpd x) (compOpd y)) = some (v, s')) :
    WriteOk P B ρ s w (do Instr.storeAt t (a.eval x) (a.eval y); Pure.pure .skip) v s' := by
  simp only [write] at h
  have hx := hF.ev x
  have hy := hF.ev y
  cases hq : fr.ev (compOpd x) <;> rw [hq] at h hx <;> try (cases h; done)
  rename_i g z ver
  simp only at h
  obtain ⟨h1, h2⟩ := bif_some h
  rw [Bool.and_eq_true, beqN_iff, llen_eq] at h1
  obtain ⟨hlen, hone⟩ := h1
  cases hp : putAt s g z ver (fr.ev (compOpd y)).cells with
  | none => rw [hp] at h2; cases h2
  | some s1 =>
    rw [hp] at h2
    have h2 := Option.some.inj h2
    injection h2 with e1 e2
    subst e1 e2
    generalize a.eval x = x' at hx
    cases hx with
    | ptr _ _ _ L hL hlo =>
      have hk : (fr.ev (compOpd y)).known = true := by
        cases hq2 : fr.ev (compOpd y) <;> first | rfl | (rw [hq2] at hone; cases hone)
      have hcells := hy.cells' hk
      obtain ⟨w', h3, h4, h5⟩ := put_ok (P := P) hR hp hL hlo hcells hone
      refine ⟨.skip, undef, w', ρ, ?_, .inr ⟨rfl, rfl⟩, h4, h5, .junk _⟩
      have hsz : (a.eval y).cells.size = n := by have := hcells.length; simp at this; omega
      simp [Instr.storeAt, Instr.sureAddr, storeVar, run_size hn, hsz, h3]

theorem setKey_found {ek : EK} (hk : ek = .kint ∨ ek = .kstr ∨ ∃ ks, ek = .flat ks) {k v : AVal} {k' v' : Value} (hkv : V ρ k k') (hvv : V ρ v v') {es : List (AVal × AVal)} {Es : List MapEntry} (hm : Ms ρ es Es) : ∀ {es' : List (AVal × AVal)}, setKey ek k v es = some es' →
    ∃ q, Found ρ ek k es Es q ∧ (∀ ck, q = none → Ms ρ es' (Es ++ [{ key := k', val := v', born := ck }])) ∧
      ∀ i u e, q = some (i, u, e) → Es[i]? = some e ∧ Instr.sameBits 10000 e.key k' = true ∧ Ms ρ es' (Es.modify i fun e => { e with key := k', val := v' }) := by
  induction hm with
  | nil =>
    intro es' h
    obtain rfl := Option.some.inj h
    exact ⟨none, .nil, fun ck _ => .cons hkv hvv .nil, fun _ _ _ h => by cases h⟩
  | @cons k1 v1 e1 l L hk1 hv1 t ih =>
    intro es' h
    have h' : (match isEq ek k k1 with | some true => some ((k, v) :: l) | some false => (match setKey ek k v l with | some r => some ((k1, v1) :: r) | none => none) | none => none) = some es' := h
    cases hq : isEq ek k k1 with
    | none => rw [hq] at h'; cases h'
    | some b =>
      rw [hq] at h'
      cases b with
      | true =>
        obtain rfl := Option.some.inj h'
        refine ⟨some (0, v1, e1), .here hq, fun _ h => (by cases h), fun i u e h => ?_⟩
        cases h
        exact ⟨rfl, sameBits_ok hk hq hkv hk1, .cons hkv hvv t⟩
      | false =>
        simp only at h'
        cases hs : setKey ek k v l with
        | none => rw [hs] at h'; cases h'
        | some r =>
          rw [hs] at h'
          obtain rfl := Option.some.inj h'
          obtain ⟨q, h1, h2, h3⟩ := ih hs
          refine ⟨_, .there hq h1, fun ck h => ?_, fun i u e h => ?_⟩
          · cases q with
            | none => exact .cons hk1 hv1 (h2 ck rfl)
            | some p => cases h
          · cases q with
            | none => cases h
            | some p =>
              cases h
              obtain ⟨h4, h5, h6⟩ := h3 _ _ _ rfl
              exact ⟨h4, h5, .cons hk1 hv1 h6⟩

theorem mset_ok (hR : Rel B ρ s w) (hF : FrR N ρ fr a) {t kt e : TypeId} {ek : EK} (hu : P.underlying t = some (.map kt e)) (hk : keyT P kt = some ek) {m k x : Operand} {v : AVal} {s' : AS}
    (h : write fr s (.mset ek (compOpd m) (compOpd k) (compOpd x)) = some (v, s')) : WriteOk P B ρ s w (do Instr.mapUpdate t (a.eval m) (a.eval k) (a.eval x); Pure.pure .skip) v s' := by
  simp only [write] at h
  have hm := hF.ev m
  have hkv := hF.ev k
  have hxv := hF.ev x
  cases hq : fr.ev (compOpd m) <;> rw [hq] at h hm <;> try (cases h; done)
  rename_i r
  simp only at h
  cases hg : s.get r with
  | none => simp only [hg] at h; cases h
  | some o =>
    cases o with
    | row => simp only [hg] at h; cases h
    | map es =>
      simp only [hg] at h
      obtain ⟨hfit, h⟩ := bif_some h
      cases hs : setKey ek (fr.ev (compOpd k)) (fr.ev (compOpd x)) es with
      | none => rw [hs] at h; cases h
      | some es' =>
        rw [hs] at h
        have h := Option.some.inj h
        injection h with e1 e2
        subst e1 e2
        generalize a.eval m = m' at hm
        cases hm with
        | map _ q hq =>
          obtain ⟨_, _, es0, Es, ck, h3, h4, h5⟩ := hR.mp _ _ hq
          rw [hg] at h3
          injection h3 with h3
          injection h3 with h3
          subst h3
          have hck := checkKey_ok (P := P) (w := w) hk hfit hkv false
          obtain ⟨p, h6, h7, h8⟩ := setKey_found (keyKind hk) hkv hxv h5 hs
          have hrun := findKey_ok (P := P) (w := w) hk hkv h6 h5
          cases p with
          | none =>
            obtain ⟨hR', hb⟩ := hR.setMap hq (Es := Es.push { key := a.eval k, val := a.eval x, born := ck }) (ck + 1) (by rw [Array.toList_push]; exact h7 ck rfl)
            refine ⟨.skip, undef, _, ρ, ?_, .inr ⟨rfl, rfl⟩, hR', Step.one (.refl ρ) (fun _ h => h) (.inr ⟨q, hq⟩) hb, .junk _⟩
            simp only [Option.map_none] at hrun
            simp [Instr.mapUpdate, run_under hu, getObj, Sem.run, h4, hck, hrun, setObj]
          | some p =>
            obtain ⟨i, u, en⟩ := p
            obtain ⟨h9, h10, h11⟩ := h8 i u en rfl
            simp only [Option.map_some] at hrun
            obtain ⟨hR', hb⟩ := hR.setMap hq (Es := Es.modify i fun e => { e with key := a.eval k, val := a.eval x }) ck (by rw [Array.toList_modify]; exact h11)
            refine ⟨.skip, undef, _, ρ, ?_, .inr ⟨rfl, rfl⟩, hR', Step.one (.refl ρ) (fun _ h => h) (.inr ⟨q, hq⟩) hb, .junk _⟩
            have hi : Es[i]? = some en := by simpa using h9
            simp [Instr.mapUpdate, run_under hu, getObj, Sem.run, h4, hck, hrun, setObj, hi, Instr.keyThatStays, h10]
end
end Go.Avm
