/-
  What functions do, told in memories that are not known whole.
-/
import Derived.Test.YteoeidhcmcacbaaGreatDoorRe2
set_option linter.unusedVariables false
set_option linter.unusedSimpArgs false
namespace Go.Avm

/-! ### values without holes -/
def AVal.solid : Nat → AVal → Bool
  | 0, _ => false
  | _ + 1, .junk => false
  | k + 1, .func _ a b => a.all (AVal.solid k) && b.all (AVal.solid k)
  | k + 1, .iface _ v => AVal.solid k v
  | k + 1, .agg l => l.all (AVal.solid k)
  | k + 1, .tuple l => l.all (AVal.solid k)
  | _ + 1, _ => true
theorem Vrs.eq_of {f : AVal → Bool} (hf : ∀ x y, f x = true → Vr (fun k => k) x y → y = x) : ∀ {l m : List AVal}, l.all f = true → Vrs (fun k => k) l m → m = l
  | [], _, _, h => by cases h; rfl
  | x :: l, _, ha, h => by
    rw [List.all_cons, Bool.and_eq_true] at ha
    cases h with
    | cons hx t => rw [hf _ _ ha.1 hx, Vrs.eq_of hf ha.2 t]
theorem Vr.eq_of : ∀ (k : Nat) (x y : AVal), x.solid k = true → Vr (fun k => k) x y → y = x
  | 0, _, _, h, _ => by cases h
  | k + 1, x, y, h, hv => by
    have ih := Vr.eq_of k
    cases hv with
    | junk => cases h
    | func f ha hb =>
      rw [AVal.solid, Bool.and_eq_true] at h
      rw [Vrs.eq_of ih h.1 ha, Vrs.eq_of ih h.2 hb]
    | iface t hw => rw [ih _ _ h hw]
    | agg ha => rw [Vrs.eq_of ih h ha]
    | tuple ha => rw [Vrs.eq_of ih h ha]
    | _ => rfl
def solids (l : List AVal) : Bool := l.all (AVal.solid 5)
theorem Vrs.solid {l m : List AVal} (h : solids l = true) (hv : Vrs (fun k => k) l m) : m = l := Vrs.eq_of (Vr.eq_of 5) h hv

/-! ### what was there is there still -/
def Keeps (s s' : AS) : Prop := ∀ g o, s.get g = some o → ∃ o', s'.get g = some o' ∧ Or (fun k => k) o o'
theorem Keeps.refl (s : AS) : Keeps s s := fun _ o h => ⟨o, h, Or.refl o⟩
theorem Keeps.trans {s t u : AS} (h : Keeps s t) (k : Keeps t u) : Keeps s u := fun g o e => by
  obtain ⟨o1, h1, h2⟩ := h g o e
  obtain ⟨o2, h3, h4⟩ := k g o1 h1
  exact ⟨o2, h3, h2.comp h4⟩
theorem Keeps.new (s : AS) (o : AObj) : Keeps s (s.new o) := fun g x e => ⟨x, by rw [AS.get_new, if_neg (fun h => by have := AS.lt_of_get e; omega)]; exact e, Or.refl x⟩
theorem Keeps.sr {s t u : AS} (h : Keeps s t) (k : Sr (fun k => k) t u) : Keeps s u := h.trans k.obj
theorem Keeps.cells {s s' : AS} (h : Keeps s s') {g x v n : Nat} {cs : List AVal} (e : cellsAt s g x v n = some cs) (hc : solids cs = true) : cellsAt s' g x v n = some cs := by
  unfold cellsAt at e ⊢
  cases hg : s.get g with
  | none => rw [hg] at e; cases e
  | some o =>
    obtain ⟨o', h1, h2⟩ := h g o hg
    rw [hg] at e
    rw [h1]
    cases h2 with
    | map => cases e
    | row hcs cur exts hro =>
      simp only at e ⊢
      cases hb : Nat.ble v cur with
      | false => rw [hb] at e; cases e
      | true =>
        rw [hb] at e
        simp only [cond_true] at e ⊢
        cases hn : nth exts (Nat.sub cur v) with
        | none => rw [hn] at e; cases e
        | some q =>
          rw [hn] at e
          simp only at e ⊢
          cases hb2 : Nat.ble (Nat.add x n) q with
          | false => rw [hb2] at e; cases e
          | true =>
            rw [hb2] at e
            simp only [cond_true, ltake_eq, ldrop_eq] at e ⊢
            have e := Option.some.inj e
            have hv := (hcs.drop x).take n
            rw [e] at hv
            rw [Vrs.solid hc hv]

/-! ### what holds on where more is known -/
def Lift1 (Q : Ex → Fr → AS → Prop) : Prop := ∀ (e : Ex) (fr : Fr) (s : AS) (e' : Ex) (fr' : Fr) (s' : AS), Q e fr s → Er (fun k => k) e e' → Frr (fun k => k) fr fr' → Sr (fun k => k) s s' → Q e' fr' s'
def LiftR (R : AVal → AS → Prop) : Prop := ∀ (v : AVal) (s : AS) (v' : AVal) (s' : AS), R v s → Vr (fun k => k) v v' → Sr (fun k => k) s s' → R v' s'
section
variable {tab : Nat → Option AFn} {Q : Ex → Fr → AS → Prop} {fr fr' : Fr} {s s' : AS} {R : AVal → AS → Prop}
theorem aw_re1 (hT : TabR tab) {c : AC} (hc : c.ok = true) (hQ : Lift1 Q) (hF : Frr (fun k => k) fr fr') (hS : Sr (fun k => k) s s') (h : Wp tab c fr s Q) : Wp tab c fr' s' Q := by
  obtain ⟨n, e, fr1, s1, h1, h2⟩ := h
  obtain ⟨⟨e', fr1', s1'⟩, h4, h5, h6, h7, h8⟩ := exec_r hT n _ c fr fr' s s' _ hc h1 hF hS
  exact ⟨n, e', fr1', s1', h4, hQ _ _ _ _ _ _ h2 h5 h6 h7⟩
/-- Temporaries that are read no more are forgotten. -/
theorem aw_lose (hT : TabR tab) {c : AC} (hc : c.ok = true) (hQ : Lift1 Q) {l : List (Nat × AVal)} (hl : Gets (fun k => k) fr l) (hd : fr.df = []) (h : Wp tab c (mkF l) s Q) : Wp tab c fr s Q :=
  aw_re1 hT hc hQ (hl.frr hd) (Sr.refl s) h
theorem Lift1.andThen (hT : TabR tab) {b : AC} (hb : b.ok = true) (hQ : Lift1 Q) : Lift1 (Then tab b Q) := by
  intro e fr s e' fr' s' h he hF hS
  cases he with
  | nrm => exact aw_re1 hT hb hQ hF hS h
  | exit i => exact hQ _ _ _ _ _ _ h (.exit i) hF hS
  | ret => exact hQ _ _ _ _ _ _ h .ret hF hS
  | pan hv => exact hQ _ _ _ _ _ _ h (.pan hv) hF hS
theorem Lift1.out (hQ : Lift1 Q) (id : Nat) : Lift1 (Out.of id Q) := by
  intro e fr s e' fr' s' h he hF hS
  cases he with
  | nrm => exact hQ _ _ _ _ _ _ h .nrm hF hS
  | exit i =>
    simp only [Out.of] at h ⊢
    split
    · rename_i hi; rw [if_pos hi] at h; exact hQ _ _ _ _ _ _ h .nrm hF hS
    · rename_i hi; rw [if_neg hi] at h; exact hQ _ _ _ _ _ _ h (.exit i) hF hS
  | ret => exact hQ _ _ _ _ _ _ h .ret hF hS
  | pan hv => exact hQ _ _ _ _ _ _ h (.pan hv) hF hS
theorem Lift1.res (hR : LiftR R) (rs : List ARes) : Lift1 (Res.of rs R) := by
  intro e fr s e' fr' s' h he hF hS
  have hgo : (fr.df = [] ∧ ∃ v, results rs fr s = some v ∧ R v s) → fr'.df = [] ∧ ∃ v, results rs fr' s' = some v ∧ R v s' := by
    rintro ⟨h1, v, h2, h3⟩
    obtain ⟨v', h4, h5⟩ := results_r hF hS h2
    refine ⟨?_, v', h4, hR _ _ _ _ h3 h5 hS⟩
    have := hF.df
    rw [h1] at this
    generalize fr'.df = d at this
    cases this; rfl
  cases he with
  | nrm => exact hgo h
  | exit i => exact h.elim
  | ret => exact hgo h
  | pan hv => exact h.elim
end

/-! ### rows of things of one size -/
def cellsW (f : Nat → List AVal) : Nat → List AVal
  | 0 => []
  | n + 1 => cellsW f n ++ f n
section
variable {f : Nat → List AVal} {w : Nat}
theorem cellsW_length (hf : ∀ j, (f j).length = w) : ∀ n, (cellsW f n).length = n * w
  | 0 => by simp [cellsW]
  | n + 1 => by rw [cellsW, List.length_append, cellsW_length hf n, hf, Nat.succ_mul]
theorem cellsW_at (hf : ∀ j, (f j).length = w) : ∀ {n i : Nat}, i < n → ((cellsW f n).drop (i * w)).take w = f i
  | n + 1, i, h => by
    have hl := cellsW_length hf n
    by_cases e : i = n
    · subst e
      rw [cellsW, List.drop_append, hl, Nat.sub_self, List.drop_of_length_le (by omega)]
      simp [← hf i]
    · have hi : i < n := by omega
      have h2 : i * w + w ≤ n * w := by
        have := Nat.mul_le_mul_right w (show i + 1 ≤ n from hi)
        rw [Nat.succ_mul] at this; exact this
      rw [cellsW, List.drop_append_of_le_length (by omega), List.take_append_of_le_length (by simp; omega)]
      exact cellsW_at hf hi
theorem cellsW_congr {g : Nat → List AVal} : ∀ {n : Nat}, (∀ j, j < n → f j = g j) → cellsW f n = cellsW g n
  | 0, _ => rfl
  | n + 1, h => by rw [cellsW, cellsW, cellsW_congr fun j hj => h j (by omega), h n (by omega)]
theorem cellsW_all {p : AVal → Bool} : ∀ {n : Nat}, (∀ j, j < n → ((f j).all p) = true) → ((cellsW f n).all p) = true
  | 0, _ => rfl
  | n + 1, h => by rw [cellsW, List.all_append, cellsW_all fun j hj => h j (by omega), h n (by omega)]; rfl
end
theorem cellsW_take {f : Nat → List AVal} {w : Nat} (hf : ∀ j, (f j).length = w) : ∀ {n i : Nat}, i ≤ n → (cellsW f n).take (i * w) = cellsW f i
  | 0, i, h => by obtain rfl : i = 0 := by omega
                  simp [cellsW]
  | n + 1, i, h => by
    by_cases e : i = n + 1
    · subst e; rw [List.take_of_length_le (by rw [cellsW_length hf]; exact Nat.le_refl _)]
    · have hl := cellsW_length hf n
      have h2 : i * w ≤ n * w := Nat.mul_le_mul_right w (by omega)
      rw [cellsW, List.take_append_of_le_length (by omega), cellsW_take hf (by omega)]
/-- Part of what a version of a row shows. -/
theorem cellsAt_part {s : AS} {g x v n : Nat} {cs : List AVal} (h : cellsAt s g x v n = some cs) {a b : Nat} (hab : a + b ≤ n) : cellsAt s g (x + a) v b = some ((cs.drop a).take b) := by
  unfold cellsAt at h ⊢
  cases hg : s.get g with
  | none => rw [hg] at h; cases h
  | some o =>
    rw [hg] at h
    cases o with
    | map => cases h
    | row c cur exts ro =>
      simp only at h ⊢
      cases hb : Nat.ble v cur with
      | false => rw [hb] at h; cases h
      | true =>
        rw [hb] at h
        simp only [cond_true] at h ⊢
        cases hn : nth exts (Nat.sub cur v) with
        | none => rw [hn] at h; cases h
        | some q =>
          rw [hn] at h
          simp only at h ⊢
          cases hb2 : Nat.ble (Nat.add x n) q with
          | false => rw [hb2] at h; cases h
          | true =>
            have hq : x + n ≤ q := ble_iff.1 hb2
            rw [hb2] at h
            simp only [cond_true, ltake_eq, ldrop_eq] at h ⊢
            have h := Option.some.inj h
            rw [ble_iff.2 (show Nat.add (x + a) b ≤ q by show x + a + b ≤ q; omega), cond_true, ← h, List.drop_take, List.take_take, List.drop_drop]
            congr 2
            omega
/-- A value is a slice of n things of w cells, thing j being f j. -/
def Sl (s : AS) (w : Nat) (x : AVal) (n : Nat) (f : Nat → List AVal) : Prop :=
  (x = .nilslice ∧ n = 0) ∨ ∃ g o v c, x = .slice g o n w v c ∧ cellsAt s g o v (n * w) = some (cellsW f n) ∧ ∀ k, c = some k → n ≤ k
section
variable {s s' : AS} {w n : Nat} {x : AVal} {f : Nat → List AVal}
theorem Sl.keeps (h : Sl s w x n f) (hf : ∀ j, j < n → solids (f j) = true) (k : Keeps s s') : Sl s' w x n f := by
  rcases h with h | ⟨g, o, v, c, h1, h2, h3⟩
  · exact .inl h
  · exact .inr ⟨g, o, v, c, h1, k.cells h2 (cellsW_all hf), h3⟩
theorem Sl.len (h : Sl s w x n f) {fr : Fr} {a : Opd} (ha : fr.ev a = x) : loud fr s (.len .slice a) = some (.int .i64 (.ofNat n), s) := by
  show (match (match (EK.slice : EK), fr.ev a with
    | .kstr, .str b => some (AVal.int .i64 (.ofNat (llen b)))
    | .slice, .nilslice => some (.int .i64 0)
    | .slice, .slice _ _ len _ _ _ => some (.int .i64 (.ofNat len))
    | .map, .nilmap => some (.int .i64 0)
    | .map, .map r => match s.get r with
      | some (.map es) => some (.int .i64 (.ofNat (llen es)))
      | _ => none
    | _, _ => none) with | some v => some (v, s) | none => none) = _
  rw [ha]
  rcases h with ⟨rfl, rfl⟩ | ⟨g, o, v, c, rfl, _, _⟩
  · rfl
  · rfl
/-- The place of a thing in a slice. -/
def At (s : AS) (w : Nat) (p : AVal) (cs : List AVal) : Prop := ∃ g x v, p = .ptr g x v ∧ cellsAt s g x v w = some cs
theorem Sl.at (h : Sl s w x n f) (hf : ∀ j, (f j).length = w) {fr : Fr} {a b : Opd} {i : Nat} (hi : i < n) (ha : fr.ev a = x) (hb : fr.ev b = .int .i64 (.ofNat i)) : ∃ p, loud fr s (.ixa w a b) = some (p, s) ∧ At s w p (f i) := by
  rcases h with ⟨_, rfl⟩ | ⟨g, o, v, c, rfl, h2, _⟩
  · omega
  · refine ⟨.ptr g (Nat.add o (Nat.mul i w)) v, ?_, g, _, v, rfl, ?_⟩
    · show (match (match fr.ev a, fr.ev b with
        | .slice g off len sz' v _, .int _ i => bif Nat.beq w sz' then match idx i len with
            | some n => some (AVal.ptr g (Nat.add off (Nat.mul n w)) v)
            | none => none
          else none
        | _, _ => none) with | some v => some (v, s) | none => none) = _
      rw [ha, hb]
      simp only [show Nat.beq w w = true from Nat.beq_refl w, cond_true, idx]
      rw [blt_iff.2 hi]
      rfl
    · have h3 := cellsAt_part h2 (a := i * w) (b := w) (by
        have := Nat.mul_le_mul_right w (show i + 1 ≤ n from hi)
        rw [Nat.succ_mul] at this; exact this)
      rw [cellsW_at hf hi] at h3
      exact h3
theorem At.load {p : AVal} {cs : List AVal} (h : At s w p cs) {fr : Fr} {a : Opd} (ha : fr.ev a = p) : loud fr s (.load true w a) = some (.agg cs, s) := by
  obtain ⟨g, x, v, rfl, h⟩ := h
  show (match (match fr.ev a with
    | .ptr g x v => match cellsAt s g x v w with
      | some cs => bif true then some (AVal.agg cs) else single cs
      | none => none
    | _ => none) with | some v => some (v, s) | none => none) = _
  rw [ha]
  simp only
  rw [h]
  rfl
theorem At.field {p : AVal} {cs : List AVal} (h : At s w p cs) {j : Nat} {y : AVal} (hy : cs[j]? = some y) (hl : cs.length = w) {fr : Fr} {a : Opd} (ha : fr.ev a = p) : ∃ q, loud fr s (.fla j a) = some (q, s) ∧ At s 1 q [y] := by
  obtain ⟨g, x, v, rfl, h⟩ := h
  have hj := (List.getElem?_eq_some_iff.1 hy).1
  refine ⟨.ptr g (Nat.add x j) v, ?_, g, _, v, rfl, ?_⟩
  · show (match (match fr.ev a with
      | .ptr g x v => some (AVal.ptr g (Nat.add x j) v)
      | _ => none) with | some v => some (v, s) | none => none) = _
    rw [ha]
  · have h3 := cellsAt_part h (a := j) (b := 1) (by omega)
    rw [List.drop_eq_getElem_cons hj, (List.getElem?_eq_some_iff.1 hy).2] at h3
    exact h3
theorem At.one {p y : AVal} (h : At s 1 p [y]) {fr : Fr} {a : Opd} (ha : fr.ev a = p) : loud fr s (.load false 1 a) = some (y, s) := by
  obtain ⟨g, x, v, rfl, h⟩ := h
  show (match (match fr.ev a with
    | .ptr g x v => match cellsAt s g x v 1 with
      | some cs => bif false then some (AVal.agg cs) else single cs
      | none => none
    | _ => none) with | some v => some (v, s) | none => none) = _
  rw [ha]
  simp only
  rw [h]
  rfl
theorem At.keeps {p : AVal} {cs : List AVal} (h : At s w p cs) (hc : solids cs = true) (k : Keeps s s') : At s' w p cs := by
  obtain ⟨g, x, v, rfl, h⟩ := h
  exact ⟨g, x, v, rfl, k.cells h hc⟩
/-- The first i things of a slice. -/
theorem Sl.pre (h : Sl s w x n f) (hf : ∀ j, (f j).length = w) {fr : Fr} {a b : Opd} {i : Nat} (hi : i ≤ n) (ha : fr.ev a = x) (hb : fr.ev b = .int .i64 (.ofNat i)) : ∃ y, loud fr s (.sl w a none (some b) none) = some (y, s) ∧ Sl s w y i f := by
  have hnum : ∀ m, i ≤ m → num fr (some b) m 0 = some i := fun m hm => by
    show (match fr.ev b with | .int _ q => idx q (Nat.succ m) | _ => none) = _
    rw [hb]
    show (bif Nat.blt i (Nat.succ m) then some i else none) = _
    rw [blt_iff.2 (by omega)]; rfl
  have hnum2 : ∀ m d, i ≤ m → num fr (some b) m d = some i := fun m d hm => hnum m hm
  rcases h with ⟨rfl, rfl⟩ | ⟨g, o, v, c, rfl, h2, h3⟩
  · obtain rfl : i = 0 := by omega
    refine ⟨.nilslice, ?_, .inl ⟨rfl, rfl⟩⟩
    show (match (match fr.ev a with
      | .nilslice => match sliceNums fr 0 0 none (some b) none with
        | some (_, h, _) => bif Nat.beq h 0 then some AVal.nilslice else none
        | none => none
      | .slice g off len sz' v cap =>
        bif Nat.beq w sz' then
          match sliceNums fr len (capOr cap len) none (some b) none with
          | some (l, h, m) => bif Nat.ble h len then some (.slice g (Nat.add off (Nat.mul l w)) (Nat.sub h l) w v (capOf cap none (Nat.sub m l))) else none
          | none => none
        else none
      | _ => none) with | some v => some (v, s) | none => none) = _
    rw [ha]
    simp only
    have : sliceNums fr 0 0 none (some b) none = some (0, 0, 0) := by
      show (match num fr (some b) 0 0 with | none => none | some h => some (0, h, 0)) = _
      rw [hnum 0 (by omega)]
    rw [this]
    rfl
  · have hcap : n ≤ capOr c n := by
      cases c with
      | none => exact Nat.le_refl n
      | some k => exact h3 k rfl
    refine ⟨.slice g o i w v (capOf c none (capOr c n)), ?_, .inr ⟨g, o, v, _, rfl, ?_, ?_⟩⟩
    · show (match (match fr.ev a with
        | .nilslice => match sliceNums fr 0 0 none (some b) none with
          | some (_, h, _) => bif Nat.beq h 0 then some AVal.nilslice else none
          | none => none
        | .slice g off len sz' v cap =>
          bif Nat.beq w sz' then
            match sliceNums fr len (capOr cap len) none (some b) none with
            | some (l, h, m) => bif Nat.ble h len then some (.slice g (Nat.add off (Nat.mul l w)) (Nat.sub h l) w v (capOf cap none (Nat.sub m l))) else none
            | none => none
          else none
        | _ => none) with | some v => some (v, s) | none => none) = _
      rw [ha]
      simp only [show Nat.beq w w = true from Nat.beq_refl w, cond_true]
      have : sliceNums fr n (capOr c n) none (some b) none = some (0, i, capOr c n) := by
        show (match num fr (some b) (capOr c n) n with | none => none | some h => some (0, h, capOr c n)) = _
        rw [hnum2 _ _ (by omega)]
      rw [this]
      simp only
      rw [ble_iff.2 hi]
      show some (AVal.slice g (Nat.add o (Nat.mul 0 w)) (Nat.sub i 0) w v (capOf c none (Nat.sub (capOr c n) 0)), s) = _
      rw [show Nat.add o (Nat.mul 0 w) = o by show o + 0 * w = o; omega]
      rfl
    · have h4 := cellsAt_part h2 (a := 0) (b := i * w) (by rw [Nat.zero_add]; exact Nat.mul_le_mul_right w hi)
      rw [Nat.add_zero, List.drop_zero, cellsW_take hf hi] at h4
      exact h4
    · intro k hk
      cases c with
      | none => cases hk
      | some q =>
        have := h3 q rfl
        obtain rfl : q = k := by simpa [capOf, capOr] using hk
        omega
end
end Go.Avm
