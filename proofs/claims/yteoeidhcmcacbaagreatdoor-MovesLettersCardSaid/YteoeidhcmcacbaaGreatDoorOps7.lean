/-
  Maps' keys.
-/
import Derived.Test.YteoeidhcmcacbaaGreatDoorOps6
set_option linter.unusedVariables false
set_option linter.unusedSimpArgs false
namespace Go.Avm
section
variable {P : Program} {B N : Nat} {ρ : Emb} {s : AS} {w : World} {fr : Fr} {a : Act}

theorem keyT_inv {t : TypeId} {ek : EK} (ht : keyT P t = some ek) :
    (ek = .kint ∧ ∃ k, P.underlying t = some (.int k)) ∨ (ek = .kstr ∧ P.underlying t = some .string) ∨
    (∃ ks fs, ek = .flat ks ∧ P.underlying t = some (.struct fs) ∧ P.stoodInHeld t = false ∧ flatFs P fs.toList 0 = some ks) := by
  unfold keyT at ht
  split at ht <;> simp at ht <;> (try subst ht) <;> (try (simp_all; done))
  rename_i fs hu
  obtain ⟨h1, ks, h2, rfl⟩ := ht
  exact .inr (.inr ⟨ks, fs, rfl, hu, h1, h2⟩)

/-- What a comparison of keys that tells says. -/
theorem keyEq_inv {ek : EK} (hk : ek = .kint ∨ ek = .kstr ∨ ∃ ks, ek = .flat ks) {x y : AVal} {b : Bool} (h : isEq ek x y = some b) :
    (ek = .kint ∧ ∃ j n m, x = .int j n ∧ y = .int j m ∧ b = beqI n m) ∨ (ek = .kstr ∧ ∃ s t, x = .str s ∧ y = .str t ∧ b = beqL s t) ∨
    (∃ ks l m, ek = .flat ks ∧ x = .agg l ∧ y = .agg m ∧ beqFlat ks l m = some b) := by
  rcases hk with rfl | rfl | ⟨ks, rfl⟩
  · unfold isEq at h
    split at h <;> try (cases ‹EK.kint = _›; done)
    · obtain ⟨h1, h2⟩ := bif_some h
      rw [beqK_eq, decide_eq_true_iff] at h1
      subst h1
      exact .inl ⟨rfl, _, _, _, rfl, rfl, (Option.some.inj h2).symm⟩
    · cases h
  · unfold isEq at h
    split at h <;> try (cases ‹EK.kstr = _›; done)
    · exact .inr (.inl ⟨rfl, _, _, rfl, rfl, (Option.some.inj h).symm⟩)
    · cases h
  · unfold isEq at h
    split at h <;> try (cases ‹EK.flat ks = _›; done)
    · rename_i heq
      injection heq with heq
      subst heq
      exact .inr (.inr ⟨_, _, _, rfl, rfl, rfl, h⟩)
    · cases h

theorem keyKind {t : TypeId} {ek : EK} (ht : keyT P t = some ek) : ek = .kint ∨ ek = .kstr ∨ ∃ ks, ek = .flat ks := by
  rcases keyT_inv ht with ⟨h, _⟩ | ⟨h, _⟩ | ⟨ks, _, h, _⟩
  · exact .inl h
  · exact .inr (.inl h)
  · exact .inr (.inr ⟨ks, h⟩)

/-- Two keys are compared as their type has it. -/
theorem keyEq_ok {t : TypeId} {ek : EK} (ht : keyT P t = some ek) {x y : AVal} {x' y' : Value} {b : Bool} (h : isEq ek x y = some b) (hx : V ρ x x') (hy : V ρ y y') :
    (Op.equal t x' y').run P w = .ok b w := by
  rcases keyEq_inv (keyKind ht) h with ⟨rfl, j, n, m, rfl, rfl, rfl⟩ | ⟨rfl, s1, s2, rfl, rfl, rfl⟩ | ⟨ks, l, m, rfl, rfl, rfl, hf⟩
  · obtain ⟨k, hu⟩ : ∃ k, P.underlying t = some (.int k) := by simpa using keyT_inv ht
    cases hx; cases hy
    have := run_equalIn_int (P := P) w 9999 t j k n m hu
    rw [int_beq] at this
    exact this
  · have hu : P.underlying t = some .string := by simpa using keyT_inv ht
    cases hx with
    | str _ b1 h1 => cases hy with
      | str _ b2 h2 =>
        have := run_equalIn_string (P := P) w 9999 t b1 b2 hu
        rw [str_eq h1 h2] at this
        exact this
  · obtain ⟨fs, hu, hst, hfs⟩ : ∃ fs, P.underlying t = some (.struct fs) ∧ P.stoodInHeld t = false ∧ flatFs P fs.toList 0 = some ks := by simpa using keyT_inv ht
    obtain ⟨X, rfl, hX⟩ := hx.cells_agg
    obtain ⟨Y, rfl, hY⟩ := hy.cells_agg
    exact flat_equal hu hst hfs hf hX hY 9998

theorem sameBits_prim {k : PK} {x y : AVal} {x' y' : Value} (h : beqPrim k x y = some true) (hx : V ρ x x') (hy : V ρ y y') (n : Nat) : Instr.sameBits n y' x' = true := by
  cases k with
  | b =>
    cases x <;> cases y <;> simp [beqPrim] at h
    cases hx; cases hy; subst h; cases n <;> simp [Instr.sameBits]
  | i =>
    cases x <;> cases y <;> simp [beqPrim] at h
    obtain ⟨h1, h2⟩ := bif_some h
    rw [beqK_eq, decide_eq_true_iff] at h1
    have h2 := Option.some.inj h2
    rw [beqI_eq, decide_eq_true_iff] at h2
    cases hx; cases hy; subst h1 h2; cases n <;> simp [Instr.sameBits]
  | s =>
    cases x <;> cases y <;> simp [beqPrim] at h
    cases hx with
    | str _ b1 h1 => cases hy with
      | str _ b2 h2 =>
        have : (b2 == b1) = true := by
          rw [beq_toListBytes, str_eq h2 h1]
          rw [beqL_eq, decide_eq_true_iff] at h ⊢
          exact h.symm
        cases n <;> simpa [Instr.sameBits] using this
theorem sameBits_flat (n : Nat) : ∀ (ks : List PK) (l m : List AVal) (X Y : List Value), beqFlat ks l m = some true → Vs ρ l X → Vs ρ m Y → X.length = Y.length ∧ ((Y.zip X).all fun (x, y) => Instr.sameBits n x y) = true := by
  intro ks
  induction ks with
  | nil =>
    intro l m X Y h hl hm
    rw [beqFlat_nil] at h
    cases l <;> cases m <;> simp at h
    cases hl; cases hm
    exact ⟨rfl, rfl⟩
  | cons k ks ih =>
    intro l m X Y h hl hm
    rw [beqFlat_cons] at h
    cases hl with
    | nil => cases m <;> simp at h
    | cons hx hl =>
      cases hm with
      | nil => simp at h
      | @cons y y' m M hy hm =>
        simp only at h
        split at h
        · rename_i hb
          obtain ⟨h1, h2⟩ := ih _ _ _ _ h hl hm
          exact ⟨by simp [h1], by simp only [List.zip_cons_cons, List.all_cons, h2, Bool.and_true]; exact sameBits_prim hb hx hy n⟩
        · cases h
        · cases h
theorem sameBits_ok {ek : EK} (hk : ek = .kint ∨ ek = .kstr ∨ ∃ ks, ek = .flat ks) {x y : AVal} {x' y' : Value} (h : isEq ek x y = some true) (hx : V ρ x x') (hy : V ρ y y') : Instr.sameBits 10000 y' x' = true := by
  rcases keyEq_inv hk h with ⟨rfl, j, n, m, rfl, rfl, hb⟩ | ⟨rfl, s1, s2, rfl, rfl, hb⟩ | ⟨ks, l, m, rfl, rfl, rfl, hf⟩
  · exact sameBits_prim (k := .i) (by simp [beqPrim, beqK_eq, ← hb]) hx hy 10000
  · exact sameBits_prim (k := .s) (by simp [beqPrim, ← hb]) hx hy 10000
  · obtain ⟨X, rfl, hX⟩ := hx.cells_agg
    obtain ⟨Y, rfl, hY⟩ := hy.cells_agg
    obtain ⟨h1, h2⟩ := sameBits_flat 9999 ks l m X.toList Y.toList hf hX hY
    show (Y.size == X.size && (Y.toList.zip X.toList).all fun (x, y) => Instr.sameBits 9999 x y) = true
    rw [h2, Bool.and_true, beq_iff_eq]
    simpa using h1.symm

/-- Where a key is found. -/
inductive Found (ρ : Emb) (ek : EK) (k : AVal) : List (AVal × AVal) → List MapEntry → Option (Nat × AVal × MapEntry) → Prop
  | nil : Found ρ ek k [] [] none
  | here {k' v : AVal} {e : MapEntry} {l : List (AVal × AVal)} {L : List MapEntry} (h : isEq ek k k' = some true) : Found ρ ek k ((k', v) :: l) (e :: L) (some (0, v, e))
  | there {k' v : AVal} {e : MapEntry} {l : List (AVal × AVal)} {L : List MapEntry} {r : Option (Nat × AVal × MapEntry)} (h : isEq ek k k' = some false) (t : Found ρ ek k l L r) :
      Found ρ ek k ((k', v) :: l) (e :: L) (r.map fun (i, v, e) => (i + 1, v, e))

theorem sameNow_ok {t : TypeId} {ek : EK} (ht : keyT P t = some ek) {d : TypeDesc} (hu : P.underlying t = some d) {x y : AVal} {x' y' : Value} {b : Bool} (h : isEq ek x y = some b) (hx : V ρ x x') (hy : V ρ y y') :
    Instr.sameNow d x' y' = some b ∨ Instr.sameNow d x' y' = none := by
  rcases keyEq_inv (keyKind ht) h with ⟨rfl, j, n, m, rfl, rfl, rfl⟩ | ⟨rfl, s1, s2, rfl, rfl, rfl⟩ | ⟨ks, l, m, rfl, rfl, rfl, hf⟩
  · obtain ⟨k, hu'⟩ : ∃ k, P.underlying t = some (.int k) := by simpa using keyT_inv ht
    rw [hu] at hu'
    obtain rfl := Option.some.inj hu'
    cases hx; cases hy
    left; simp [Instr.sameNow, int_beq]
  · have hu' : P.underlying t = some .string := by simpa using keyT_inv ht
    rw [hu] at hu'
    obtain rfl := Option.some.inj hu'
    cases hx with
    | str _ b1 h1 => cases hy with
      | str _ b2 h2 => left; simp only [Instr.sameNow, beq_toListBytes, str_eq h1 h2]
  · obtain ⟨X, rfl, hX⟩ := hx.cells_agg
    right; cases d <;> rfl

theorem findNow_ok {t : TypeId} {ek : EK} (ht : keyT P t = some ek) {d : TypeDesc} (hu : P.underlying t = some d) {k : AVal} {k' : Value} (hk : V ρ k k') {es : List (AVal × AVal)} {Es : List MapEntry} {r : Option (Nat × AVal × MapEntry)}
    (hf : Found ρ ek k es Es r) : ∀ (hm : Ms ρ es Es) (i : Nat), Instr.findNow d k' Es i = some (r.map fun (j, _, e) => (i + j, e.val)) ∨ Instr.findNow d k' Es i = none := by
  induction hf with
  | nil => intro _ i; exact .inl rfl
  | here h =>
    intro hm i
    cases hm with
    | cons hk' hv t =>
      rcases sameNow_ok (P := P) ht hu h hk hk' with h1 | h1
      · left; simp [Instr.findNow, h1]
      · right; simp [Instr.findNow, h1]
  | @there _ _ e _ _ r h t ih =>
    intro hm i
    cases hm with
    | cons hk' hv t =>
      rcases sameNow_ok (P := P) ht hu h hk hk' with h1 | h1
      · rcases ih t (i + 1) with h2 | h2
        · left
          simp only [Instr.findNow, h1, h2]
          cases r with
          | none => rfl
          | some q => simp; omega
        · right; simp [Instr.findNow, h1, h2]
      · right; simp [Instr.findNow, h1]
theorem findAsking_ok {t : TypeId} {ek : EK} (ht : keyT P t = some ek) {k : AVal} {k' : Value} (hk : V ρ k k') {es : List (AVal × AVal)} {Es : List MapEntry} {r : Option (Nat × AVal × MapEntry)}
    (hf : Found ρ ek k es Es r) : ∀ (hm : Ms ρ es Es) (i : Nat), (Instr.findAsking t k' Es i).run P w = .ok (r.map fun (j, _, e) => (i + j, e.val)) w := by
  induction hf with
  | nil => intro _ i; rfl
  | here h =>
    intro hm i
    cases hm with
    | cons hk' hv t => simp [Instr.findAsking, keyEq_ok (P := P) (w := w) ht h hk hk']
  | @there _ _ e _ _ r h t ih =>
    intro hm i
    cases hm with
    | cons hk' hv t =>
      simp only [Instr.findAsking, Sem.run_bind, keyEq_ok (P := P) (w := w) ht h hk hk', Result.andThen_ok, Bool.false_eq_true, if_false, ih t (i + 1)]
      cases r with
      | none => rfl
      | some q => simp; omega
theorem findKey_ok {t : TypeId} {ek : EK} (ht : keyT P t = some ek) {k : AVal} {k' : Value} (hk : V ρ k k') {es : List (AVal × AVal)} {Es : List MapEntry} {r : Option (Nat × AVal × MapEntry)}
    (hf : Found ρ ek k es Es r) (hm : Ms ρ es Es) : (Instr.findKey t k' Es).run P w = .ok (r.map fun (j, _, e) => (j, e.val)) w := by
  obtain ⟨d, hu⟩ : ∃ d, P.underlying t = some d := by
    rcases keyT_inv ht with ⟨_, k, h⟩ | ⟨_, h⟩ | ⟨_, _, _, h, _⟩ <;> exact ⟨_, h⟩
  unfold Instr.findKey
  rw [Sem.run_bind, run_under hu, Result.andThen_ok]
  rcases findNow_ok (P := P) ht hu hk hf hm 0 with h | h
  · rw [h]; simp
  · rw [h]; simpa using findAsking_ok (P := P) (w := w) ht hk hf hm 0

/-- Looking a key up tells where it is. -/
theorem findKey_found {ek : EK} {k : AVal} {es : List (AVal × AVal)} {Es : List MapEntry} (hm : Ms ρ es Es) : ∀ {r : Option AVal}, findKey ek k es = some r →
    ∃ q, Found ρ ek k es Es q ∧ r = q.map (·.2.1) ∧ ∀ i v e, q = some (i, v, e) → V ρ v e.val := by
  induction hm with
  | nil => intro r h; obtain rfl := Option.some.inj h; exact ⟨none, .nil, rfl, fun _ _ _ h => by cases h⟩
  | @cons k1 v1 e1 l L hk hv t ih =>
    intro r h
    have h' : (match isEq ek k k1 with | some true => some (some v1) | some false => findKey ek k l | none => none) = some r := h
    cases hq : isEq ek k k1 with
    | none => rw [hq] at h'; cases h'
    | some b =>
      rw [hq] at h'
      cases b with
      | true =>
        obtain rfl := Option.some.inj h'
        exact ⟨some (0, v1, e1), .here hq, rfl, fun _ _ _ h => by cases h; exact hv⟩
      | false =>
        obtain ⟨q, h1, h2, h3⟩ := ih h'
        refine ⟨_, .there hq h1, by rw [h2]; cases q <;> rfl, fun i v e h => ?_⟩
        cases q with
        | none => cases h
        | some p => cases h; exact h3 _ _ _ rfl

theorem keyFits_inv {ek : EK} {k : AVal} (h : keyFits ek k = true) : (ek = .kint ∧ ∃ j n, k = .int j n) ∨ (ek = .kstr ∧ ∃ b, k = .str b) ∨ ∃ ks l, ek = .flat ks ∧ k = .agg l ∧ l.length = ks.length := by
  unfold keyFits at h
  split at h
  · exact .inl ⟨rfl, _, _, rfl⟩
  · exact .inr (.inl ⟨rfl, _, rfl⟩)
  · exact .inr (.inr ⟨_, _, rfl, rfl, by simpa using beqN_iff.1 h⟩)
  · cases h
theorem checkKey_ok {t : TypeId} {ek : EK} (ht : keyT P t = some ek) {k : AVal} {k' : Value} (hf : keyFits ek k = true) (hk : V ρ k k') (em : Bool) : (Instr.checkKey em 10000 t k').run P w = .ok () w := by
  suffices h : ∀ n, (Instr.checkKey em (n + 2) t k').run P w = .ok () w from h 9998
  intro n
  rcases keyFits_inv hf with ⟨rfl, j, m, rfl⟩ | ⟨rfl, b, rfl⟩ | ⟨ks, l, rfl, rfl, hlen⟩
  · obtain ⟨k, hu⟩ : ∃ k, P.underlying t = some (.int k) := by simpa using keyT_inv ht
    cases hk
    simp [Instr.checkKey, run_under hu]
  · have hu : P.underlying t = some .string := by simpa using keyT_inv ht
    cases hk
    simp [Instr.checkKey, run_under hu]
  · obtain ⟨fs, hu, hst, hfs⟩ : ∃ fs, P.underlying t = some (.struct fs) ∧ P.stoodInHeld t = false ∧ flatFs P fs.toList 0 = some ks := by simpa using keyT_inv ht
    obtain ⟨C, rfl, hC⟩ := hk.cells_agg
    have hsz : ks.length = C.size := by have := hC.length; simp at this; omega
    rw [Instr.checkKey]
    simp only [Sem.run_bind, run_under hu, Result.andThen_ok]
    rw [← Array.forIn_toList]
    have hle : 0 + ks.length ≤ C.size := by omega
    clear hu hst hC hlen hsz hf ht hk
    generalize fs.toList = gs at hfs
    generalize 0 = i at hfs hle
    clear fs
    induction gs generalizing ks i with
    | nil => rfl
    | cons f fs ih =>
      simp only [flatFs] at hfs
      split at hfs
      · rename_i hc
        rw [Bool.and_eq_true] at hc
        obtain ⟨ho, hn⟩ := hc
        have ho : f.offset = i := by simpa using ho
        have hn : f.name ≠ "_" := by simpa using hn
        cases hp : primT P f.type with
        | none => rw [hp] at hfs; cases hfs
        | some k =>
          rw [hp] at hfs
          cases hr : flatFs P fs (i + 1) with
          | none => rw [hr] at hfs; cases hfs
          | some ks' =>
            rw [hr] at hfs
            obtain rfl := Option.some.inj hfs
            simp only [List.length_cons] at hle
            have hi : i < C.size := by omega
            have hpart := part_one (P := P) (w := w) hp (C := C) (i := f.offset) (v := C[i]) (by rw [ho]; simp [hi])
            have hck : (Instr.checkKey em (n + 1) f.type C[i]).run P w = .ok () w := by
              cases k with
              | b => simp [Instr.checkKey, run_under (prim_b hp)]
              | i => obtain ⟨k, hk⟩ := prim_i hp; simp [Instr.checkKey, run_under hk]
              | s => simp [Instr.checkKey, run_under (prim_s hp)]
            simp only [List.forIn_cons, Sem.run_bind, hn, ne_eq, not_false_eq_true, if_true, hpart, Result.andThen_ok, hck, Sem.run_pure]
            exact ih ks' (i + 1) hr (by omega)
      · cases hfs

/-- A value is looked up. -/
theorem look_ok (hR : Rel B ρ s w) (hF : FrR N ρ fr a) {t kt e : TypeId} {ek : EK} {z : AVal} (hu : P.underlying t = some (.map kt e)) (hk : keyT P kt = some ek) (hz : zeroT P e = some z) {m k : Operand} {ok : Bool} {v : AVal}
    (h : pval fr s (.look ek z (compOpd m) (compOpd k) ok) = some v) : ∃ v', (Instr.lookup t (a.eval m) (a.eval k) ok).run P w = .ok v' w ∧ V ρ v v' := by
  simp only [pval] at h
  have hm := hF.ev m
  have hkv := hF.ev k
  obtain ⟨_, zv, _, _, hzr, rfl, _⟩ := run_zero (w := w) hz
  cases hq : fr.ev (compOpd m) <;> rw [hq] at h hm <;> try (cases h; done)
  rename_i r
  cases hg : s.get r with
  | none => simp only [hg] at h; cases h
  | some o =>
    cases o with
    | row => simp only [hg] at h; cases h
    | map es =>
      simp only [hg] at h
      cases hfit : keyFits ek (fr.ev (compOpd k)) with
      | false => simp only [hfit, cond_false] at h; cases h
      | true =>
        simp only [hfit, cond_true] at h
        generalize a.eval m = m' at hm
        cases hm with
        | map _ q hq =>
          obtain ⟨_, _, es', Es, ck, h3, h4, h5⟩ := hR.mp _ _ hq
          rw [hg] at h3
          injection h3 with h3
          injection h3 with h3
          subst h3
          have hck := checkKey_ok (P := P) (w := w) hk hfit hkv Es.isEmpty
          cases hfd : findKey ek (fr.ev (compOpd k)) es with
          | none => rw [hfd] at h; cases h
          | some r' =>
            rw [hfd] at h
            obtain ⟨q', h6, h7, h8⟩ := findKey_found h5 hfd
            have hrun := findKey_ok (P := P) (w := w) hk hkv h6 h5
            cases q' with
            | none =>
              simp only [Option.map_none] at h7
              subst h7
              simp only at h
              obtain rfl := Option.some.inj h
              simp only [Option.map_none] at hrun
              refine ⟨if ok then .tuple #[zv, .bool false] else zv, ?_, ?_⟩
              · simp [Instr.lookup, run_under hu, getObj, Sem.run, h4, hck, hrun, hzr]
              · cases ok with
                | true => exact .tuple' (.cons (compVal_ok ρ zv) (.cons (.bool false) .nil))
                | false => exact compVal_ok ρ zv
            | some p =>
              obtain ⟨i, v1, e1⟩ := p
              simp only [Option.map_some] at h7
              subst h7
              simp only at h
              obtain rfl := Option.some.inj h
              simp only [Option.map_some] at hrun
              have hv1 := h8 i v1 e1 rfl
              refine ⟨if ok then .tuple #[e1.val, .bool true] else e1.val, ?_, ?_⟩
              · simp [Instr.lookup, run_under hu, getObj, Sem.run, h4, hck, hrun]
              · cases ok with
                | true => exact .tuple' (.cons hv1 (.cons (.bool true) .nil))
                | false => exact hv1
end
end Go.Avm
