/-
  Small memories with one row more, of plain values; operations that are run without it.
-/
import Derived.Test.YteoeidhcmcacbaaGreatDoorRe
set_option linter.unusedVariables false
set_option linter.unusedSimpArgs false
namespace Go.Avm

/-- A value's numbers of things lie below n. -/
def AVal.under (n : Nat) : Nat → AVal → Bool
  | 0, _ => false
  | _ + 1, .ptr g _ _ => Nat.blt g n
  | _ + 1, .slice g _ _ _ _ _ => Nat.blt g n
  | _ + 1, .map g => Nat.blt g n
  | k + 1, .func _ a b => a.all (AVal.under n k) && b.all (AVal.under n k)
  | k + 1, .iface _ v => AVal.under n k v
  | k + 1, .agg l => l.all (AVal.under n k)
  | k + 1, .tuple l => l.all (AVal.under n k)
  | _ + 1, _ => true
def AObj.under (n : Nat) : AObj → Bool
  | .row cs _ _ _ => cs.all (AVal.under n 9)
  | .map es => es.all fun p => p.1.under n 9 && p.2.under n 9
section
variable {σ τ : Nat → Nat} {n : Nat}
theorem Vrs.congr_of {f : AVal → Bool} (hf : ∀ x y, f x = true → Vr σ x y → Vr τ x y) : ∀ {l m : List AVal}, l.all f = true → Vrs σ l m → Vrs τ l m
  | [], _, _, h => by cases h; exact .nil
  | x :: l, _, ha, h => by
    rw [List.all_cons, Bool.and_eq_true] at ha
    cases h with
    | cons hx t => exact .cons (hf _ _ ha.1 hx) (Vrs.congr_of hf ha.2 t)
theorem Vr.congr (h : ∀ k, k < n → σ k = τ k) : ∀ (k : Nat) (x y : AVal), x.under n k = true → Vr σ x y → Vr τ x y
  | 0, _, _, hu, _ => by cases hu
  | k + 1, x, y, hu, hv => by
    have ih := Vr.congr h k
    cases hv with
    | junk => exact .junk _
    | bool b => exact .bool b
    | int j m => exact .int j m
    | str l => exact .str l
    | ptr g x v => rw [h g (blt_iff.1 hu)]; exact .ptr g x v
    | nilptr => exact .nilptr
    | slice g o l z v c => rw [h g (blt_iff.1 hu)]; exact .slice g o l z v c
    | nilslice => exact .nilslice
    | map g => rw [h g (blt_iff.1 hu)]; exact .map g
    | nilmap => exact .nilmap
    | func f ha hb =>
      rw [AVal.under, Bool.and_eq_true] at hu
      exact .func f (Vrs.congr_of ih hu.1 ha) (Vrs.congr_of ih hu.2 hb)
    | nilfunc => exact .nilfunc
    | iface t hw => exact .iface t (ih _ _ hu hw)
    | niliface => exact .niliface
    | agg ha => exact .agg (Vrs.congr_of ih hu ha)
    | tuple ha => exact .tuple (Vrs.congr_of ih hu ha)
theorem Mr.congr (h : ∀ k, k < n → σ k = τ k) : ∀ {l m : List (AVal × AVal)}, (l.all fun p => p.1.under n 9 && p.2.under n 9) = true → Mr σ l m → Mr τ l m
  | [], _, _, hm => by cases hm; exact .nil
  | (a, b) :: l, _, ha, hm => by
    rw [List.all_cons, Bool.and_eq_true, Bool.and_eq_true] at ha
    cases hm with
    | cons hk hv t => exact .cons (Vr.congr h 9 _ _ ha.1.1 hk) (Vr.congr h 9 _ _ ha.1.2 hv) (Mr.congr h ha.2 t)
theorem Or.congr (h : ∀ k, k < n → σ k = τ k) {o o' : AObj} (hu : o.under n = true) (ho : Or σ o o') : Or τ o o' := by
  cases ho with
  | row hc v ex hro => exact .row (Vrs.congr_of (Vr.congr h 9) hu hc) v ex hro
  | map hm => exact .map (Mr.congr h hu hm)

/-- One thing more. -/
theorem sr_put {P : List AObj} {s : AS} (hinj : ∀ a b, σ a = σ b → a = b) (hobj : ∀ (k : Nat) (o : AObj), P[k]? = some o → ∃ o', s.get (σ k) = some o' ∧ Or σ o o') (hP : (P.all (AObj.under P.length)) = true) {g : Nat} {o o' : AObj} (hg : s.get g = some o') (ho : ∀ τ, Or τ o o') (hne : ∀ k, σ k ≠ g) :
    ∃ τ, Sr τ (mkS (P ++ [o])) s ∧ (∀ k, k < P.length → σ k = τ k) ∧ τ P.length = g := by
  let τ : Nat → Nat := fun k => if k < P.length then σ k else if k = P.length then g else s.nx + (k - P.length - 1)
  have hlt : ∀ k, k < P.length → σ k < s.nx := fun k hk => by
    obtain ⟨o', h1, _⟩ := hobj k P[k] (by simp [hk])
    exact AS.lt_of_get h1
  have hτ1 : ∀ k, k < P.length → τ k = σ k := fun k hk => by show (if _ then _ else _) = _; rw [if_pos hk]
  have hτ2 : τ P.length = g := by show (if _ then _ else _) = _; rw [if_neg (by omega), if_pos rfl]
  have hτ3 : ∀ k, P.length < k → τ k = s.nx + (k - P.length - 1) := fun k hk => by show (if _ then _ else _) = _; rw [if_neg (by omega), if_neg (by omega)]
  have hgl := AS.lt_of_get hg
  refine ⟨τ, ⟨?_, ?_, ?_⟩, fun k hk => (hτ1 k hk).symm, hτ2⟩
  · intro a b e
    rcases Nat.lt_trichotomy a P.length with ha | ha | ha <;> rcases Nat.lt_trichotomy b P.length with hb | hb | hb
    · rw [hτ1 a ha, hτ1 b hb] at e; exact hinj _ _ e
    · rw [hτ1 a ha, hb, hτ2] at e; exact absurd e (hne a)
    · rw [hτ1 a ha, hτ3 b hb] at e; have := hlt a ha; omega
    · rw [hτ1 b hb, ha, hτ2] at e; exact absurd e.symm (hne b)
    · omega
    · rw [ha, hτ2, hτ3 b hb] at e; omega
    · rw [hτ1 b hb, hτ3 a ha] at e; have := hlt b hb; omega
    · rw [hb, hτ2, hτ3 a ha] at e; omega
    · rw [hτ3 a ha, hτ3 b hb] at e; omega
  · intro k x e
    rw [mkS_get] at e
    by_cases hk : k < P.length
    · rw [List.getElem?_append_left hk] at e
      obtain ⟨x', h1, h2⟩ := hobj k x e
      rw [hτ1 k hk]
      exact ⟨x', h1, Or.congr (fun j hj => (hτ1 j hj).symm) (List.all_eq_true.1 hP x (List.mem_of_getElem? e)) h2⟩
    · rw [List.getElem?_append_right (by omega)] at e
      have hq : k - P.length = 0 := by
        cases hq : k - P.length with
        | zero => rfl
        | succ q => rw [hq] at e; simp at e
      rw [hq] at e; simp at e; subst e
      obtain rfl : k = P.length := by omega
      rw [hτ2]
      exact ⟨o', hg, ho τ⟩
  · intro j
    show τ (llen _ + j) = _
    rw [llen_eq, hτ3 _ (by simp; omega)]
    simp; omega

theorem sr_add {P : List AObj} {s : AS} (hS : Sr σ (mkS P) s) (hP : (P.all (AObj.under P.length)) = true) {g : Nat} {o o' : AObj} (hg : s.get g = some o') (ho : ∀ τ, Or τ o o') (hne : ∀ k, σ k ≠ g) :
    ∃ τ, Sr τ (mkS (P ++ [o])) s ∧ (∀ k, k < P.length → σ k = τ k) ∧ τ P.length = g :=
  sr_put hS.inj (fun k o e => hS.obj k o (by rw [mkS_get]; exact e)) hP hg ho hne
/-- A memory in which the small one's things stand under their own numbers, and one thing more. -/
theorem sr_same {P : List AObj} {s : AS} (hobj : ∀ (k : Nat) (o : AObj), P[k]? = some o → s.get k = some o) (hP : (P.all (AObj.under P.length)) = true) {g : Nat} (hle : P.length ≤ g) {o o' : AObj} (hg : s.get g = some o') (ho : ∀ τ, Or τ o o') :
    ∃ τ, Sr τ (mkS (P ++ [o])) s ∧ (∀ k, k < P.length → τ k = k) ∧ τ P.length = g := by
  let σ : Nat → Nat := fun k => if k < P.length then k else k + g + 1
  have h1 : ∀ k, k < P.length → σ k = k := fun k hk => by show (if _ then _ else _) = _; rw [if_pos hk]
  have h2 : ∀ k, P.length ≤ k → σ k = k + g + 1 := fun k hk => by show (if _ then _ else _) = _; rw [if_neg (by omega)]
  obtain ⟨τ, h3, h4, h5⟩ := sr_put (σ := σ) (s := s) (P := P) (fun a b e => by
    by_cases ha : a < P.length <;> by_cases hb : b < P.length
    · rw [h1 a ha, h1 b hb] at e; exact e
    · rw [h1 a ha, h2 b (by omega)] at e; omega
    · rw [h2 a (by omega), h1 b hb] at e; omega
    · rw [h2 a (by omega), h2 b (by omega)] at e; omega) (fun k o e => by
      have hk : k < P.length := (List.getElem?_eq_some_iff.1 e).1
      rw [h1 k hk]
      exact ⟨o, hobj k o e, Or.congr (fun j hj => (h1 j hj).symm) (List.all_eq_true.1 hP o (List.mem_of_getElem? e)) (Or.refl o)⟩) hP hg ho (fun k e => by
      by_cases hk : k < P.length
      · rw [h1 k hk] at e; omega
      · rw [h2 k (by omega)] at e; omega)
  exact ⟨τ, h3, fun k hk => by rw [← h4 k hk, h1 k hk], h5⟩

/-- Rows of plain values. -/
theorem Vrs.plain {l : List AVal} (h : (l.all AVal.plain) = true) : Vrs σ l l := Vrs.refl_of fun x hx => by
  have := List.all_eq_true.1 h x hx
  cases x <;> first | (cases this; done) | exact .bool _ | exact .int _ _ | exact .str _
theorem Or.plain {cs : List AVal} (h : (cs.all AVal.plain) = true) (v : Nat) (ex : List Nat) (ro : Bool) : Or σ (.row cs v ex ro) (.row cs v ex ro) := .row (Vrs.plain h) v ex (fun e => e)

theorem gets_of {P : AVal → AVal → Prop} {fr : Fr} : ∀ {l : List (Nat × AVal)}, (∀ p ∈ l, Vr σ p.2 (fr.get p.1)) → Gets σ fr l
  | [], _ => trivial
  | (t, v) :: l, h => ⟨h (t, v) (by simp), gets_of (P := P) fun q hq => h q (by simp [hq])⟩
variable {tab : Nat → Option AFn} {Q : Ex → Fr → AS → Prop}
/-- Temporaries that operations do not write: what they hold, before and behind (the things may stand under other numbers then: those of m, and the row a, which is b then). -/
def Kept (fr : Fr) (l : List AOper) (m : List Nat) (a b : Nat) : List (Nat × AVal × AVal) → Prop
  | [] => True
  | (t, v, w) :: K => (fr.get t = v ∧ (dsts l).contains t = false ∧ ∀ ρ : Nat → Nat, ρ b = a → (∀ (k g : Nat), m[k]? = some g → k < b → g < a → ρ k = g) → Vr ρ w v) ∧ Kept fr l m a b K
theorem Kept.mem {fr : Fr} {l : List AOper} {m : List Nat} {a b : Nat} : ∀ {K : List (Nat × AVal × AVal)}, Kept fr l m a b K → ∀ p ∈ K, fr.get p.1 = p.2.1 ∧ (dsts l).contains p.1 = false ∧ ∀ ρ : Nat → Nat, ρ b = a → (∀ (k g : Nat), m[k]? = some g → k < b → g < a → ρ k = g) → Vr ρ p.2.2 p.2.1
  | [], _, p, hp => by simp at hp
  | (_, _, _) :: K, h, p, hp => by
    rcases List.mem_cons.1 hp with rfl | hp
    · exact h.1
    · exact h.2.mem p hp
/-- Operations are run in the small memory without the row; behind them it is there again. K: temporaries that they do not write. -/
theorem cut_row (hT : TabR tab) (hQ : LiftQ Q) {l : List AOper} (hl : l.all AOper.ok = true) {fl fl' : List (Nat × AVal)} {P P' : List AObj} {m : List Nat} {n : Nat} (h : okCut (Fast.runOps (Fast.call tab n) l (mkF fl) (mkS P)) fl' P' m = true)
    (hP : (P.all (AObj.under P.length)) = true) (hP' : (P'.all (AObj.under P'.length)) = true) (hfl : (fl.all fun p => p.2.under P.length 9) = true) (hfl' : (fl'.all fun p => p.2.under P'.length 9) = true)
    {row : AObj} (hrow : ∀ τ, Or τ row row) {fr : Fr} (hfr : Gets (fun k => k) fr fl) (hdf : fr.df = []) {K : List (Nat × AVal × AVal)} (hK : Kept fr l m P.length P'.length K)
    (k : Q .nrm (mkF (fl' ++ K.map fun (t, _, w) => (t, w))) (mkS (P' ++ [row]))) : Ow tab l fr (mkS (P ++ [row])) Q := by
  let σ0 : Nat → Nat := fun k => if k < P.length then k else k + 1
  have h1 : ∀ k, k < P.length → σ0 k = k := fun k hk => by show (if _ then _ else _) = _; rw [if_pos hk]
  have h2 : ∀ k, P.length ≤ k → σ0 k = k + 1 := fun k hk => by show (if _ then _ else _) = _; rw [if_neg (by omega)]
  have hne : ∀ k, σ0 k ≠ P.length := fun k e => by
    by_cases hk : k < P.length
    · rw [h1 k hk] at e; omega
    · rw [h2 k (by omega)] at e; omega
  have hS0 : Sr σ0 (mkS P) (mkS (P ++ [row])) := by
    refine ⟨fun a b e => ?_, fun g o e => ?_, fun j => ?_⟩
    · by_cases ha : a < P.length <;> by_cases hb : b < P.length
      · rw [h1 a ha, h1 b hb] at e; exact e
      · rw [h1 a ha, h2 b (by omega)] at e; omega
      · rw [h2 a (by omega), h1 b hb] at e; omega
      · rw [h2 a (by omega), h2 b (by omega)] at e; omega
    · rw [mkS_get] at e
      have hg : g < P.length := (List.getElem?_eq_some_iff.1 e).1
      rw [h1 g hg, mkS_get, List.getElem?_append_left hg]
      exact ⟨o, e, Or.congr (fun k hk => (h1 k hk).symm) (List.all_eq_true.1 hP o (List.mem_of_getElem? e)) (Or.refl o)⟩
    · show σ0 (llen P + j) = llen _ + j
      rw [llen_eq, llen_eq, h2 _ (by omega)]; simp; omega
  have hF0 : Frr σ0 (mkF fl) fr := (gets_of (P := fun _ _ => True) fun p hp => Vr.congr (fun k hk => (h1 k hk).symm) 9 _ _ (List.all_eq_true.1 hfl p hp) (hfr.mem p hp)).frr hdf
  refine ow_cut hT hl h hF0 hS0 fun fr' s' τ hF hS hfar hτ hkeep hG => ?_
  have hg : s'.get P.length = some row := by
    rw [hfar.get _ (by show _ < llen _; rw [llen_eq]; simp) hne, mkS_get]; simp
  obtain ⟨ρ, hS', hag, hr⟩ := sr_add hS hP' hg hrow (fun k => hne (τ k))
  have hdf' : fr'.df = [] := by
    have := hF.df
    generalize fr'.df = d at this
    have h0 : Dr (fun k => σ0 (τ k)) [] d := this
    cases h0; rfl
  refine hQ ρ _ _ _ _ _ _ k .nrm (Gets.frr (gets_of (P := fun _ _ => True) fun p hp => ?_) hdf') hS'
  rcases List.mem_append.1 hp with hp | hp
  · exact Vr.congr hag 9 _ _ (List.all_eq_true.1 hfl' p hp) (hG p hp)
  · obtain ⟨⟨t, x, w⟩, hq, rfl⟩ := List.mem_map.1 hp
    obtain ⟨e1, e2, e3⟩ := hK.mem _ hq
    show Vr ρ w (fr'.get t)
    rw [hkeep t (fun e => by rw [List.contains_iff_mem.2 e] at e2; cases e2), e1]
    exact e3 ρ hr (fun k g e hk hg => by rw [← hag k hk]; show σ0 (τ k) = g; rw [hτ k g e, h1 g hg])
/-- Temporaries of plain values that operations do not write. -/
def KeptP (fr : Fr) (l : List AOper) : List (Nat × AVal) → Prop
  | [] => True
  | (t, v) :: K => (fr.get t = v ∧ (dsts l).contains t = false ∧ v.plain = true) ∧ KeptP fr l K
theorem KeptP.mem {fr : Fr} {l : List AOper} : ∀ {K : List (Nat × AVal)}, KeptP fr l K → ∀ p ∈ K, fr.get p.1 = p.2 ∧ (dsts l).contains p.1 = false ∧ p.2.plain = true
  | [], _, p, hp => by simp at hp
  | (_, _) :: K, h, p, hp => by
    rcases List.mem_cons.1 hp with rfl | hp
    · exact h.1
    · exact h.2.mem p hp
/-- Operations are run in the small memory. -/
theorem cut_all (hT : TabR tab) (hQ : LiftQ Q) {l : List AOper} (hl : l.all AOper.ok = true) {fl fl' : List (Nat × AVal)} {P P' : List AObj} {m : List Nat} {n : Nat} (h : okCut (Fast.runOps (Fast.call tab n) l (mkF fl) (mkS P)) fl' P' m = true)
    {fr : Fr} (hfr : Gets (fun k => k) fr fl) (hdf : fr.df = []) {K : List (Nat × AVal)} (hK : KeptP fr l K)
    (k : Q .nrm (mkF (fl' ++ K)) (mkS P')) : Ow tab l fr (mkS P) Q := by
  refine ow_cut hT hl h (hfr.frr hdf) (Sr.refl _) fun fr' s' τ hF hS hfar hτ hkeep hG => ?_
  have hdf' : fr'.df = [] := by
    have := hF.df
    generalize fr'.df = d at this
    have h0 : Dr (fun k => τ k) [] d := this
    cases h0; rfl
  refine hQ (fun k => τ k) _ _ _ _ _ _ k .nrm (Gets.frr (gets_of (P := fun _ _ => True) fun p hp => ?_) hdf') hS
  rcases List.mem_append.1 hp with hp | hp
  · exact hG p hp
  · obtain ⟨e1, e2, e3⟩ := hK.mem p hp
    rw [hkeep p.1 (fun e => by rw [List.contains_iff_mem.2 e] at e2; cases e2), e1]
    generalize p.2 = x at e3
    cases x <;> first | (cases e3; done) | exact .bool _ | exact .int _ _ | exact .str _
theorem kept_plain {ρ : Nat → Nat} {x : AVal} (h : x.plain = true) : Vr ρ x x := by cases x <;> first | (cases h; done) | exact .bool _ | exact .int _ _ | exact .str _
theorem aw_true {c : Opd} {a b : AC} {fr : Fr} {s : AS} (hc : fr.ev c = .bool true) (h : Wp tab a fr s Q) : Wp tab (.cond c a b) fr s Q := aw_cond hc (by rw [if_pos rfl]; exact h)
theorem aw_false {c : Opd} {a b : AC} {fr : Fr} {s : AS} (hc : fr.ev c = .bool false) (h : Wp tab b fr s Q) : Wp tab (.cond c a b) fr s Q := aw_cond hc (by rw [if_neg (by simp)]; exact h)
theorem cw_yes {a : Nat} {s : AS} : Cw (known tab a) a [] s fun v s' => v = .bool true ∧ s' = s := by
  refine ⟨0, .bool true, s, ?_, rfl, rfl⟩
  show callW (known tab a) _ a [] s = _
  unfold callW
  rw [known_eq, if_pos rfl]
  rfl
theorem rets1 {fr : Fr} {s : AS} {a : Nat} {x : AVal} (hd : fr.df = []) (h1 : fr.get a = x) : Rets [(a, x)] .ret fr s := ⟨rfl, hd, by simpa using h1⟩
theorem rets2 {fr : Fr} {s : AS} {a b : Nat} {x y : AVal} (hd : fr.df = []) (h1 : fr.get a = x) (h2 : fr.get b = y) : Rets [(a, x), (b, y)] .ret fr s := ⟨rfl, hd, by simpa using ⟨h1, h2⟩⟩
end
end Go.Avm
