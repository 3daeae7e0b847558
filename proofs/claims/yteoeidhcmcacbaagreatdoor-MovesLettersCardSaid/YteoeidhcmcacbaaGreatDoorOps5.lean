/-
  What an operation gives that makes nothing, writes nothing and calls nothing.
-/
import Derived.Test.YteoeidhcmcacbaaGreatDoorOps4
set_option linter.unusedVariables false
set_option linter.unusedSimpArgs false
namespace Go.Avm
section
variable {P : Program} {B N : Nat} {ρ : Emb} {s : AS} {w : World} {fr : Fr} {a : Act}

theorem single_ok {cs : List AVal} {v : AVal} (h : single cs = some v) : cs = [v] := by
  unfold single at h; split at h
  · obtain rfl := Option.some.inj h; rfl
  · cases h
theorem loadVar_ok (hR : Rel B ρ s w) {t : TypeId} {g : Bool} {n : Nat} (hg : isAggT P t = some g) (hn : sizeT P t = some n) {gr x ver : Nat} {cs : List AVal} {v : AVal}
    (hc : cellsAt s gr x ver (if g then n else 1) = some cs) (hv : (bif g then some (.agg cs) else single cs) = some v) {L : Loc} (hL : ρ.row gr ver = some L) (hx : L.lo ≤ x) :
    ∃ v', (loadVar t (L.at x)).run P w = .ok v' w ∧ V ρ v v' := by
  obtain ⟨CS, h1, h2, h3, _⟩ := cellsAt_ok hR hc hL hx
  cases g with
  | true =>
    obtain rfl := Option.some.inj hv
    simp only [if_true] at h2
    refine ⟨.agg CS.toArray, ?_, .agg' h1⟩
    have := run_loadCells_list (P := P) w (L.at x) CS h3
    rw [h2] at this
    simp [loadVar, run_agg hg, run_size hn, this]
  | false =>
    have := single_ok (show single cs = some v from hv)
    subst this
    cases h1 with
    | @cons _ y _ _ hy t =>
      cases t
      have h4 := h3 0 y rfl
      simp only [Addr.add, if_true] at h4
      exact ⟨y, by simp [loadVar, run_agg hg, h4], hy⟩
theorem load_ok (hR : Rel B ρ s w) (hF : FrR N ρ fr a) {t : TypeId} {x : Operand} {g : Bool} {n : Nat} (hg : isAggT P t = some g) (hn : sizeT P t = some n) {v : AVal}
    (h : pval fr s (.load g (if g then n else 1) (compOpd x)) = some v) : ∃ v', (Instr.loadAt t (a.eval x)).run P w = .ok v' w ∧ V ρ v v' := by
  simp only [pval] at h
  have hx := hF.ev x
  cases hq : fr.ev (compOpd x) <;> rw [hq] at h <;> try (cases h; done)
  rename_i gr y ver
  rw [hq] at hx
  cases hc : cellsAt s gr y ver (if g then n else 1) with
  | none => simp only [hc] at h; cases h
  | some cs =>
    simp only [hc] at h
    generalize a.eval x = x' at hx
    cases hx with
    | ptr _ _ _ L hL hlo =>
      obtain ⟨v', h1, h2⟩ := loadVar_ok (P := P) hR hg hn hc h hL hlo
      exact ⟨v', by simp [Instr.loadAt, Instr.sureAddr, h1], h2⟩

theorem num_ok (hF : FrR N ρ fr a) {x : Option Operand} {y d n : Nat} (h : num fr (x.map compOpd) y d = some n) :
    (x = none ∧ n = d) ∨ ∃ o, x = some o ∧ n ≤ y ∧ ∀ Y, y ≤ Y → ∀ code, (Instr.sliceBound (a.eval o) Y code).run P w = .ok n w := by
  cases x with
  | none => exact .inl ⟨rfl, (Option.some.inj h).symm⟩
  | some o =>
    right
    simp only [num, Option.map_some] at h
    have hx := hF.ev o
    cases hq : fr.ev (compOpd o) <;> rw [hq] at h <;> try (cases h; done)
    rename_i k i
    rw [hq] at hx
    obtain ⟨rfl, h2⟩ := idx_some h
    refine ⟨o, rfl, by omega, fun Y hY code => ?_⟩
    generalize a.eval o = o' at hx
    cases hx
    simp only [Instr.sliceBound, asIntOf, Sem.run_bind, Sem.run_pure, Result.andThen_ok]
    rw [if_pos ⟨by omega, by omega⟩]
    simp

theorem sliceNums_ok (hF : FrR N ρ fr a) {len cap : Nat} {lo hi mx : Option Operand} {l h m : Nat} (hs : sliceNums fr len cap (lo.map compOpd) (hi.map compOpd) (mx.map compOpd) = some (l, h, m))
    (C : Nat) (hC : cap ≤ C) (is : Bool) :
    (Instr.sliceBounds is len C (lo.map a.eval) (hi.map a.eval) (mx.map a.eval)).run P w = .ok (l, h, match mx with | none => C | some _ => m) w ∧ l ≤ h ∧ m ≤ cap ∧
      (mx = none → m = cap) ∧ (mx ≠ none → h ≤ m) := by
  unfold sliceNums at hs
  cases hm : num fr (mx.map compOpd) cap cap with
  | none => simp only [hm] at hs; cases hs
  | some m' =>
    simp only [hm] at hs
    have hM := num_ok (P := P) (w := w) hF hm
    cases hh : hiNum fr (hi.map compOpd) (mx.map compOpd) m' len with
    | none => simp only [hh] at hs; cases hs
    | some h' =>
      simp only [hh] at hs
      cases hl : num fr (lo.map compOpd) h' 0 with
      | none => simp only [hl] at hs; cases hs
      | some l' =>
        simp only [hl] at hs
        have hs := Option.some.inj hs
        injection hs with e1 e2
        injection e2 with e2 e3
        subst e1 e2 e3
        have hLo := num_ok (P := P) (w := w) hF hl
        have hlh : l' ≤ h' := by rcases hLo with ⟨_, e⟩ | ⟨_, _, e, _⟩ <;> omega
        have hmc : m' ≤ cap := by rcases hM with ⟨_, e⟩ | ⟨_, _, e, _⟩ <;> omega
        rcases hM with ⟨rfl, rfl⟩ | ⟨om, rfl, hm1, hm2⟩
        · have hH := num_ok (P := P) (w := w) hF (show num fr (hi.map compOpd) m' len = some h' from hh)
          refine ⟨?_, hlh, hmc, fun _ => rfl, fun e => absurd rfl e⟩
          rcases hH with ⟨rfl, rfl⟩ | ⟨oh, rfl, _, hh2⟩ <;> rcases hLo with ⟨rfl, rfl⟩ | ⟨ol, rfl, _, hl2⟩
          · simp [Instr.sliceBounds]
          · simp [Instr.sliceBounds, hl2 _ (Nat.le_refl _)]
          · simp [Instr.sliceBounds, hh2 C hC]
          · simp [Instr.sliceBounds, hh2 C hC, hl2 _ (Nat.le_refl _)]
        · cases hi with
          | none => cases hh
          | some oh =>
            have hH := num_ok (P := P) (w := w) hF (show num fr ((some oh).map compOpd) m' len = some h' from hh)
            rcases hH with ⟨e, _⟩ | ⟨oh', e, hh1, hh2⟩
            · cases e
            · obtain rfl := Option.some.inj e
              refine ⟨?_, hlh, hmc, (fun e => by cases e), fun _ => hh1⟩
              rcases hLo with ⟨rfl, rfl⟩ | ⟨ol, rfl, _, hl2⟩
              · simp [Instr.sliceBounds, hm2 C hC, hh2 _ (Nat.le_refl _)]
              · simp [Instr.sliceBounds, hm2 C hC, hh2 _ (Nat.le_refl _), hl2 _ (Nat.le_refl _)]

theorem slice_ok (hF : FrR N ρ fr a) {t e : TypeId} {n : Nat} (hu : P.underlying t = some (.slice e)) (hn : sizeT P e = some (n + 1)) {x : Operand} {lo hi mx : Option Operand} {v : AVal}
    (h : pval fr s (.sl (n + 1) (compOpd x) (lo.map compOpd) (hi.map compOpd) (mx.map compOpd)) = some v) :
    ∃ v', (Instr.sliceAt t (a.eval x) (lo.map a.eval) (hi.map a.eval) (mx.map a.eval)).run P w = .ok v' w ∧ V ρ v v' := by
  simp only [pval] at h
  have hx := hF.ev x
  have fin : ∀ (a0 : Option Addr) (len c l hh m : Nat), (Instr.sliceBounds true len c (lo.map a.eval) (hi.map a.eval) (mx.map a.eval)).run P w = .ok (l, hh, m) w →
      (Instr.sliceAt t (.slice a0 len c) (lo.map a.eval) (hi.map a.eval) (mx.map a.eval)).run P w = .ok (.slice (if m = l then a0 else a0.map (·.add (l * (n + 1)))) (hh - l) (m - l)) w := by
    intro a0 len c l hh m hb
    simp [Instr.sliceAt, run_under hu, Instr.slice, hb, run_size hn]
  cases hq : fr.ev (compOpd x) <;> rw [hq] at h hx <;> try (cases h; done)
  case nilslice =>
    generalize a.eval x = x' at hx
    cases hx
    cases hs : sliceNums fr 0 0 (lo.map compOpd) (hi.map compOpd) (mx.map compOpd) with
    | none => simp only [hs] at h; cases h
    | some lhm =>
      obtain ⟨l, hh, m⟩ := lhm
      simp only [hs] at h
      obtain ⟨hz, h⟩ := bif_some h
      have hz : hh = 0 := beqN_iff.1 hz
      obtain rfl := Option.some.inj h
      obtain ⟨h1, h2, h3, h4, h5⟩ := sliceNums_ok (P := P) (w := w) hF hs 0 (Nat.le_refl _) true
      refine ⟨_, fin none 0 0 _ _ _ h1, ?_⟩
      have e3 : l = 0 := by omega
      have e1 : m = 0 := by omega
      subst hz e1 e3
      cases mx <;> exact .nilslice
  case slice g off len sz v' cap =>
    simp only at h
    replace h := bif_some h
    obtain ⟨hsz, h2⟩ := h
    have hsz : n + 1 = sz := beqN_iff.1 hsz
    subst hsz
    cases hs : sliceNums fr len (capOr cap len) (lo.map compOpd) (hi.map compOpd) (mx.map compOpd) with
    | none => simp only [hs] at h2; cases h2
    | some lhm =>
      obtain ⟨l, hh, m⟩ := lhm
      simp only [hs] at h2
      replace h2 := bif_some h2
      obtain ⟨hle, h3⟩ := h2
      have hle : hh ≤ len := ble_iff.1 hle
      obtain rfl := Option.some.inj h3
      generalize a.eval x = x' at hx
      have main : ∀ c, len ≤ c → (∀ k, cap = some k → c = k) → ∃ M, (Instr.sliceBounds true len c (lo.map a.eval) (hi.map a.eval) (mx.map a.eval)).run P w = .ok (l, hh, M) w ∧ l ≤ hh ∧ hh ≤ M ∧ M ≤ c ∧
          (∀ k, capOf cap (mx.map compOpd) (Nat.sub m l) = some k → M - l = k) := by
        intro c hlc hc
        have hcc : capOr cap len ≤ c := by
          cases cap with
          | none => exact hlc
          | some k => rw [hc k rfl]; exact Nat.le_refl _
        obtain ⟨h1, h2, h3, h4, h5⟩ := sliceNums_ok (P := P) (w := w) hF hs c hcc true
        refine ⟨_, h1, h2, ?_, ?_, ?_⟩
        · cases mx with
          | none => exact Nat.le_trans hle hlc
          | some om => exact h5 (by simp)
        · cases mx with
          | none => exact Nat.le_refl _
          | some om => show m ≤ c; omega
        · intro k hk
          cases mx with
          | none =>
            cases cap with
            | none => cases hk
            | some q =>
              have := h4 rfl
              have hq := hc q rfl
              have hk : m - l = k := Option.some.inj hk
              show c - l = k
              simp only [capOr] at this
              omega
          | some om =>
            cases cap <;> exact Option.some.inj hk
      cases hx with
      | slice _ _ _ _ _ _ L c hL hlo hl hc hr =>
        obtain ⟨M, h1, h2, h3, h4, h5⟩ := main c hl hc
        refine ⟨_, fin _ _ _ _ _ _ h1, ?_⟩
        change V ρ (.slice g (off + l * (n + 1)) (hh - l) (n + 1) v' _) _
        by_cases e : M = l
        · rw [if_pos e]
          have e1 : hh - l = 0 := by omega
          have e2 : M - l = 0 := by omega
          rw [e1, e2]
          exact .slice0 _ _ _ _ _ L _ hL (by omega) (fun k hk => by have := h5 k hk; omega)
        · rw [if_neg e, Option.map_some, L.at_add hlo]
          refine .slice _ _ _ _ _ _ L _ hL (by omega) (by omega) h5 ?_
          have : (M - l) * (n + 1) + l * (n + 1) ≤ c * (n + 1) := by rw [← Nat.add_mul]; exact Nat.mul_le_mul_right _ (by omega)
          omega
      | slice0 _ _ _ _ _ L a0 hL hlo hc =>
        obtain ⟨M, h1, h2, h3, h4, h5⟩ := main 0 (Nat.le_refl _) (fun k hk => (hc k hk).symm)
        refine ⟨_, fin _ _ _ _ _ _ h1, ?_⟩
        have e1 : hh - l = 0 := by omega
        have e2 : M - l = 0 := by omega
        change V ρ (.slice g (off + l * (n + 1)) (hh - l) (n + 1) v' _) _
        rw [if_pos (by omega), e1, e2]
        exact .slice0 _ _ _ _ _ L _ hL (by omega) (fun k hk => by have := h5 k hk; omega)
end
end Go.Avm
