/-
  A run lifts to a greater memory: operations.
-/
import Derived.Test.YteoeidhcmcacbaaGreatDoorEquiv
set_option linter.unusedVariables false
set_option linter.unusedSimpArgs false
namespace Go.Avm
section
variable {σ : Nat → Nat} {s s' : AS} {fr fr' : Fr}

/-- A look into a map. -/
noncomputable def lookIn (s : AS) (ek : EK) (m k : AVal) : Option (Option AVal) :=
  match m with
  | .map r => match s.get r with
    | some (.map es) => bif keyFits ek k then findKey ek k es else none
    | _ => none
  | _ => none
theorem pval_look (fr : Fr) (s : AS) (ek : EK) (z : AVal) (m k : Opd) (ok : Bool) : pval fr s (.look ek z m k ok) =
    match lookIn s ek (fr.ev m) (fr.ev k) with
    | some (some v) => some (bif ok then .tuple [v, .bool true] else v)
    | some none => some (bif ok then .tuple [z, .bool false] else z)
    | none => none := rfl
theorem look_r (hS : Sr σ s s') {ek : EK} {m m' k k' : AVal} (hm : Vr σ m m') (hk : Vr σ k k') {r : Option AVal} (h : lookIn s ek m k = some r) :
    ∃ r', lookIn s' ek m' k' = some r' ∧ (r = none ∧ r' = none ∨ ∃ v v', r = some v ∧ r' = some v' ∧ Vr σ v v') := by
  unfold lookIn at h ⊢
  cases hm <;> simp only at h ⊢ <;> try (cases h; done)
  rename_i g
  cases hg : s.get g with
  | none => rw [hg] at h; cases h
  | some o =>
    obtain ⟨o', h1, h2⟩ := hS.obj g o hg
    rw [hg] at h
    rw [h1]
    cases h2 with
    | row => cases h
    | map hes =>
      simp only at h ⊢
      obtain ⟨hk1, h⟩ := bif_some h
      rw [keyFits_r hk hk1]
      exact findKey_r hk hes h

theorem plook_r (hS : Sr σ s s') (hF : Frr σ fr fr') {ek : EK} {z : AVal} {m k : Opd} {ok : Bool} (ho : (AOp.look ek z m k ok).ok = true) {v : AVal} (h : pval fr s (.look ek z m k ok) = some v) : ∃ v', pval fr' s' (.look ek z m k ok) = some v' ∧ Vr σ v v' := by
  simp only [AOp.ok, Bool.and_eq_true] at ho
  have hz := Vr.ok (σ := σ) ho.1
  rw [pval_look] at h ⊢
  cases hq : lookIn s ek (fr.ev m) (fr.ev k) with
  | none => rw [hq] at h; cases h
  | some q =>
    rw [hq] at h
    obtain ⟨r', h1, h2⟩ := look_r hS (hF.ev ho.2.1) (hF.ev ho.2.2) hq
    rw [h1]
    rcases h2 with ⟨rfl, rfl⟩ | ⟨w, w', rfl, rfl, h3⟩
    · obtain rfl := Option.some.inj h
      refine ⟨_, rfl, ?_⟩
      cases ok
      · exact hz
      · exact .tuple (.cons hz (.cons (.bool false) .nil))
    · obtain rfl := Option.some.inj h
      refine ⟨_, rfl, ?_⟩
      cases ok
      · exact h3
      · exact .tuple (.cons h3 (.cons (.bool true) .nil))
theorem pval_r (hS : Sr σ s s') (hF : Frr σ fr fr') {op : AOp} (ho : op.ok = true) {v : AVal} (h : pval fr s op = some v) : ∃ v', pval fr' s' op = some v' ∧ Vr σ v v' := by
  by_cases hlk : ∃ ek z m k ok, op = .look ek z m k ok
  · obtain ⟨ek, z, m, k, ok, rfl⟩ := hlk
    exact plook_r hS hF ho h
  cases op <;> simp only [pval] at h ⊢ <;> try (cases h; done)
  case mov x => obtain rfl := Option.some.inj h; exact ⟨_, rfl, hF.ev ho⟩
  case pick c a b =>
    simp only [AOp.ok, Bool.and_eq_true] at ho
    have hc := hF.ev ho.1
    generalize fr.ev c = x at h hc
    generalize fr'.ev c = x' at hc
    cases hc <;> simp only at h ⊢ <;> try (cases h; done)
    rename_i t
    obtain rfl := Option.some.inj h
    refine ⟨_, rfl, ?_⟩
    cases t
    · exact hF.ev ho.2.2
    · exact hF.ev ho.2.1
  case build z ps =>
    simp only [AOp.ok, Bool.and_eq_true] at ho
    cases hf : fillParts (lmap (fun p => (p.1, p.2.1, fr.ev p.2.2)) ps) z with
    | none => rw [hf] at h; cases h
    | some cs =>
      obtain ⟨cs', h1, h2⟩ := fillParts_r hF ho.2 (Vrs.oks ho.1) hf
      rw [hf] at h
      rw [h1]
      obtain rfl := Option.some.inj h
      exact ⟨_, rfl, .agg h2⟩
  case load g sz a =>
    have ha := hF.ev (x := a) ho
    generalize fr.ev a = x at h ha
    generalize fr'.ev a = x' at ha
    cases ha <;> simp only at h ⊢ <;> try (cases h; done)
    rename_i q x v0
    cases hc : cellsAt s q x v0 sz with
    | none => rw [hc] at h; cases h
    | some cs =>
      obtain ⟨cs', h1, h2⟩ := cellsAt_r hS hc
      rw [hc] at h
      rw [h1]
      exact cellsVal_r h2 h
  case nilchk x =>
    have ha := hF.ev (x := x) ho
    generalize fr.ev x = a at h ha
    generalize fr'.ev x = a' at ha
    cases ha <;> simp only at h ⊢ <;> try (cases h; done)
    · obtain rfl := Option.some.inj h; exact ⟨_, rfl, .ptr _ _ _⟩
    · rename_i ha hb; obtain rfl := Option.some.inj h; exact ⟨_, rfl, .func _ ha hb⟩
  case bin op ek x y =>
    simp only [AOp.ok, Bool.and_eq_true] at ho
    obtain ⟨h1, h2⟩ := binop_r (hF.ev ho.1) (hF.ev ho.2) h
    exact ⟨_, h1, h2⟩
  case un op x =>
    obtain ⟨h1, h2⟩ := unop_r (hF.ev (x := x) ho) h
    exact ⟨_, h1, h2⟩
  case conv k x =>
    have ha := hF.ev (x := x) ho
    generalize fr.ev x = a at h ha
    generalize fr'.ev x = a' at ha
    cases ha <;> simp only at h ⊢ <;> try (cases h; done)
    obtain rfl := Option.some.inj h; exact ⟨_, rfl, .int _ _⟩
  case same x =>
    have ha := hF.ev (x := x) ho
    generalize fr.ev x = a at h ha
    generalize fr'.ev x = a' at ha
    cases ha <;> simp only at h ⊢ <;> try (cases h; done)
    obtain rfl := Option.some.inj h; exact ⟨_, rfl, .str _⟩
  case b2s x =>
    have ha := hF.ev (x := x) ho
    generalize fr.ev x = a at h ha
    generalize fr'.ev x = a' at ha
    cases ha <;> simp only at h ⊢ <;> try (cases h; done)
    · rename_i g off len sz w c
      obtain ⟨hb, h⟩ := bif_some h
      rw [hb]
      simp only [cond_true]
      cases hc : cellsAt s g off w len with
      | none => rw [hc] at h; cases h
      | some cs =>
        obtain ⟨cs', h1, h2⟩ := cellsAt_r hS hc
        rw [hc] at h
        rw [h1]
        simp only at h ⊢
        cases hbs : bytesOf cs with
        | none => rw [hbs] at h; cases h
        | some b =>
          rw [hbs] at h
          rw [bytesOf_r h2 hbs]
          obtain rfl := Option.some.inj h
          exact ⟨_, rfl, .str _⟩
    · obtain rfl := Option.some.inj h; exact ⟨_, rfl, .str _⟩
  case mkif t x => obtain rfl := Option.some.inj h; exact ⟨_, rfl, .iface t (hF.ev ho)⟩
  case fn f a b =>
    simp only [AOp.ok, Bool.and_eq_true] at ho
    obtain rfl := Option.some.inj h
    exact ⟨_, rfl, .func f (hF.evs ho.1) (hF.evs ho.2)⟩
  case sl sz x lo hi mx =>
    simp only [AOp.ok, Bool.and_eq_true] at ho
    have ha := hF.ev ho.1
    generalize fr.ev x = a at h ha
    generalize fr'.ev x = a' at ha
    cases ha <;> simp only at h ⊢ <;> try (cases h; done)
    · rename_i g off len sz' w c
      obtain ⟨hb, h⟩ := bif_some h
      rw [hb]
      simp only [cond_true]
      cases hn : sliceNums fr len (capOr c len) lo hi mx with
      | none => rw [hn] at h; cases h
      | some r =>
        rw [hn] at h
        rw [sliceNums_r hF ho.2.1 ho.2.2.1 ho.2.2.2 hn]
        simp only at h ⊢
        obtain ⟨hb2, h⟩ := bif_some h
        rw [hb2]
        obtain rfl := Option.some.inj h
        exact ⟨_, rfl, .slice _ _ _ _ _ _⟩
    · cases hn : sliceNums fr 0 0 lo hi mx with
      | none => rw [hn] at h; cases h
      | some r =>
        rw [hn] at h
        rw [sliceNums_r hF ho.2.1 ho.2.2.1 ho.2.2.2 hn]
        simp only at h ⊢
        obtain ⟨hb2, h⟩ := bif_some h
        rw [hb2]
        obtain rfl := Option.some.inj h
        exact ⟨_, rfl, .nilslice⟩
  case sub x lo hi =>
    simp only [AOp.ok, Bool.and_eq_true] at ho
    have ha := hF.ev ho.1
    generalize fr.ev x = a at h ha
    generalize fr'.ev x = a' at ha
    cases ha <;> simp only at h ⊢ <;> try (cases h; done)
    rename_i b
    cases hn : sliceNums fr (llen b) (llen b) lo hi none with
    | none => rw [hn] at h; cases h
    | some r =>
      rw [hn] at h
      rw [sliceNums_r hF ho.2.1 ho.2.2 rfl hn]
      obtain rfl := Option.some.inj h
      exact ⟨_, rfl, .str _⟩
  case fla off x =>
    have ha := hF.ev (x := x) ho
    generalize fr.ev x = a at h ha
    generalize fr'.ev x = a' at ha
    cases ha <;> simp only at h ⊢ <;> try (cases h; done)
    obtain rfl := Option.some.inj h; exact ⟨_, rfl, .ptr _ _ _⟩
  case fld g off sz x =>
    have ha := hF.ev (x := x) ho
    generalize fr.ev x = a at h ha
    generalize fr'.ev x = a' at ha
    cases ha <;> simp only at h ⊢ <;> try (cases h; done)
    rename_i l l' hl
    obtain ⟨hb, h⟩ := bif_some h
    rw [show llen l' = llen l by simp [hl.length], hb]
    simp only [cond_true]
    cases g with
    | true =>
      obtain rfl := Option.some.inj h
      exact ⟨_, rfl, .agg (by simp only [ltake_eq, ldrop_eq]; exact (hl.drop _).take _)⟩
    | false =>
      simp only [cond_false, nth_eq] at h ⊢
      exact hl.get h
  case ixa sz x i =>
    simp only [AOp.ok, Bool.and_eq_true] at ho
    have ha := hF.ev ho.1
    have hi := hF.ev ho.2
    generalize fr.ev x = a at h ha
    generalize fr'.ev x = a' at ha
    generalize fr.ev i = j at h hi
    generalize fr'.ev i = j' at hi
    cases ha <;> cases hi <;> simp only at h ⊢ <;> try (cases h; done)
    rename_i g o l z w c k n
    obtain ⟨hb, h⟩ := bif_some h
    rw [hb]
    simp only [cond_true]
    cases hx : idx n l with
    | none => rw [hx] at h; cases h
    | some m => rw [hx] at h; obtain rfl := Option.some.inj h; exact ⟨_, rfl, .ptr _ _ _⟩
  case ixp n sz x i =>
    simp only [AOp.ok, Bool.and_eq_true] at ho
    have ha := hF.ev ho.1
    have hi := hF.ev ho.2
    generalize fr.ev x = a at h ha
    generalize fr'.ev x = a' at ha
    generalize fr.ev i = j at h hi
    generalize fr'.ev i = j' at hi
    cases ha <;> cases hi <;> simp only at h ⊢ <;> try (cases h; done)
    rename_i g x w k q
    cases hx : idx q n with
    | none => rw [hx] at h; cases h
    | some m => rw [hx] at h; obtain rfl := Option.some.inj h; exact ⟨_, rfl, .ptr _ _ _⟩
  case ixs x i =>
    simp only [AOp.ok, Bool.and_eq_true] at ho
    have ha := hF.ev ho.1
    have hi := hF.ev ho.2
    generalize fr.ev x = a at h ha
    generalize fr'.ev x = a' at ha
    generalize fr.ev i = j at h hi
    generalize fr'.ev i = j' at hi
    cases ha <;> cases hi <;> try (cases h; done)
    rename_i b k q
    refine ⟨v, h, ?_⟩
    cases q with
    | negSucc q => cases h
    | ofNat q =>
      simp only at h
      cases hx : nth b q with
      | none => rw [hx] at h; cases h
      | some m => rw [hx] at h; obtain rfl := Option.some.inj h; exact .int _ _
  case ixg g n sz x i =>
    simp only [AOp.ok, Bool.and_eq_true] at ho
    have ha := hF.ev ho.1
    have hi := hF.ev ho.2
    generalize fr.ev x = a at h ha
    generalize fr'.ev x = a' at ha
    generalize fr.ev i = j at h hi
    generalize fr'.ev i = j' at hi
    cases ha <;> cases hi <;> simp only at h ⊢ <;> try (cases h; done)
    rename_i l l' hl k q
    cases hx : idx q n with
    | none => rw [hx] at h; cases h
    | some m =>
      rw [hx] at h
      simp only at h ⊢
      obtain ⟨hb, h⟩ := bif_some h
      rw [show llen l' = llen l by simp [hl.length], hb]
      simp only [cond_true]
      cases g with
      | true =>
        obtain rfl := Option.some.inj h
        exact ⟨_, rfl, .agg (by simp only [ltake_eq, ldrop_eq]; exact (hl.drop _).take _)⟩
      | false =>
        simp only [cond_false, nth_eq] at h ⊢
        exact hl.get h
  case look ek z m k ok => exact absurd ⟨_, _, _, _, _, rfl⟩ hlk
  case tas T z x ok =>
    simp only [AOp.ok, Bool.and_eq_true] at ho
    have hz := Vr.ok (σ := σ) ho.1
    have ha := hF.ev ho.2
    generalize fr.ev x = a at h ha
    generalize fr'.ev x = a' at ha
    cases ha <;> simp only at h ⊢ <;> try (cases h; done)
    · rename_i t w w' hw
      cases hb : Nat.beq t T with
      | true =>
        rw [hb] at h
        obtain rfl := Option.some.inj h
        refine ⟨_, rfl, ?_⟩
        cases ok
        · exact hw
        · exact .tuple (.cons hw (.cons (.bool true) .nil))
      | false =>
        rw [hb] at h
        simp only [cond_false] at h ⊢
        obtain ⟨hk, h⟩ := bif_some h
        rw [hk]
        obtain rfl := Option.some.inj h
        exact ⟨_, rfl, .tuple (.cons hz (.cons (.bool false) .nil))⟩
    · obtain ⟨hk, h⟩ := bif_some h
      rw [hk]
      obtain rfl := Option.some.inj h
      exact ⟨_, rfl, .tuple (.cons hz (.cons (.bool false) .nil))⟩
  case ext x i =>
    have ha := hF.ev (x := x) ho
    generalize fr.ev x = a at h ha
    generalize fr'.ev x = a' at ha
    cases ha <;> simp only at h ⊢ <;> try (cases h; done)
    rename_i hl
    rw [nth_eq] at h ⊢
    exact hl.get h
  case len k x =>
    have ha := hF.ev (x := x) ho
    generalize fr.ev x = a at h ha
    generalize fr'.ev x = a' at ha
    cases k <;> cases ha <;> simp only at h ⊢ <;> try (cases h; done)
    all_goals first
      | (obtain rfl := Option.some.inj h; exact ⟨_, rfl, .int _ _⟩)
      | skip
    rename_i g
    cases hg : s.get g with
    | none => rw [hg] at h; cases h
    | some o =>
      obtain ⟨o', h1, h2⟩ := hS.obj g o hg
      rw [hg] at h
      rw [h1]
      cases h2 with
      | row => cases h
      | map hes =>
        simp only at h ⊢
        obtain rfl := Option.some.inj h
        rw [llen_eq, llen_eq, hes.length]
        exact ⟨_, rfl, .int _ _⟩
  case max x y =>
    simp only [AOp.ok, Bool.and_eq_true] at ho
    have ha := hF.ev ho.1
    have hi := hF.ev ho.2
    generalize fr.ev x = a at h ha
    generalize fr'.ev x = a' at ha
    generalize fr.ev y = j at h hi
    generalize fr'.ev y = j' at hi
    cases ha <;> cases hi <;> simp only at h ⊢ <;> try (cases h; done)
    obtain ⟨hb, h⟩ := bif_some h
    rw [hb]
    obtain rfl := Option.some.inj h
    exact ⟨_, rfl, .int _ _⟩

theorem oneRow_r {l m : List AVal} (h : Vrs σ l m) : Or σ (oneRow l) (oneRow m) := by
  unfold oneRow
  rw [llen_eq, llen_eq, h.length]
  exact .row h _ _ (fun e => e)
theorem reps_r {z : List AVal} (hz : Vrs σ z z) : ∀ n, Vrs σ (reps z n) (reps z n)
  | 0 => .nil
  | n + 1 => by
    show Vrs σ (lapp z (reps z n)) (lapp z (reps z n))
    rw [lapp_eq]
    exact hz.append (reps_r hz n)
theorem bytes_r (l : List Nat) : Vrs σ (lmap (fun (n : Nat) => AVal.int .u8 (.ofNat n)) l) (lmap (fun (n : Nat) => AVal.int .u8 (.ofNat n)) l) := by
  rw [lmap_eq]
  exact Vrs.map fun _ _ => .int _ _

theorem made_r (hF : Frr σ fr fr') {op : AOp} (ho : op.ok = true) {o : AObj} {f : Nat → AVal} (h : made fr op = some (o, f)) : ∃ o' f', made fr' op = some (o', f') ∧ Or σ o o' ∧ ∀ g, Vr σ (f g) (f' (σ g)) := by
  cases op <;> simp only [made] at h ⊢ <;> try (cases h; done)
  case new z =>
    obtain ⟨hz, h⟩ := bif_some h
    rw [hz]
    have h := Option.some.inj h
    injection h with h1 h2
    subst h1 h2
    exact ⟨_, _, rfl, oneRow_r (Vrs.oks ho), fun g => .ptr _ _ _⟩
  case box x =>
    have ha := hF.ev (x := x) ho
    obtain ⟨hz, h⟩ := bif_some h
    have hc := ha.cells (known_of_ones hz)
    rw [hc.ones hz]
    have h := Option.some.inj h
    injection h with h1 h2
    subst h1 h2
    exact ⟨_, _, rfl, oneRow_r hc, fun g => .ptr _ _ _⟩
  case lit len sz z ps =>
    simp only [AOp.ok, Bool.and_eq_true] at ho
    cases hf : fillParts (lmap (fun p => (p.1, p.2.1, fr.ev p.2.2)) ps) z with
    | none => rw [hf] at h; cases h
    | some cs =>
      obtain ⟨cs', h1, h2⟩ := fillParts_r hF ho.2 (Vrs.oks ho.1) hf
      rw [hf] at h
      rw [h1]
      simp only at h ⊢
      obtain ⟨hz, h⟩ := bif_some h
      rw [Bool.and_eq_true] at hz
      rw [h2.ones hz.1, show llen cs' = llen cs by simp [h2.length], hz.2]
      have h := Option.some.inj h
      injection h with h3 h4
      subst h3 h4
      exact ⟨_, _, rfl, oneRow_r h2, fun g => .slice _ _ _ _ _ _⟩
  case s2b x =>
    have ha := hF.ev (x := x) ho
    generalize fr.ev x = a at h ha
    generalize fr'.ev x = a' at ha
    cases ha <;> simp only at h ⊢ <;> try (cases h; done)
    obtain ⟨hz, h⟩ := bif_some h
    rw [hz]
    have h := Option.some.inj h
    injection h with h3 h4
    subst h3 h4
    exact ⟨_, _, rfl, oneRow_r (bytes_r _), fun g => .slice _ _ _ _ _ _⟩
  case mkmap =>
    have h := Option.some.inj h
    injection h with h3 h4
    subst h3 h4
    exact ⟨_, _, rfl, .map .nil, fun g => .map _⟩
  case mks sz z l c =>
    simp only [AOp.ok, Bool.and_eq_true] at ho
    have ha := hF.ev ho.2.1
    have hi := hF.ev ho.2.2
    generalize fr.ev l = a at h ha
    generalize fr'.ev l = a' at ha
    generalize fr.ev c = j at h hi
    generalize fr'.ev c = j' at hi
    cases ha <;> cases hi <;> first | (cases h; done) | (simp at h; done) | skip
    rename_i k1 n1 k2 n2
    cases n1 <;> cases n2 <;> simp only at h ⊢ <;> try (cases h; done)
    obtain ⟨hz, h⟩ := bif_some h
    rw [hz]
    have h := Option.some.inj h
    injection h with h3 h4
    subst h3 h4
    exact ⟨_, _, rfl, oneRow_r (reps_r (Vrs.oks ho.1) _), fun g => .slice _ _ _ _ _ _⟩

/-- What a piece of a run comes to in the greater memory. -/
def Lift (σ : Nat → Nat) (s' : AS) (r' : Option (AVal × AS)) (v : AVal) (s1 : AS) : Prop := ∃ v' s1', r' = some (v', s1') ∧ Vr σ v v' ∧ Sr σ s1 s1' ∧ Far σ s' s1'

theorem quiet_r (hS : Sr σ s s') (hF : Frr σ fr fr') {op : AOp} (ho : op.ok = true) {v : AVal} {s1 : AS} (h : quiet fr s op = some (v, s1)) : Lift σ s' (quiet fr' s' op) v s1 := by
  unfold quiet at h ⊢
  cases hm : op.makes with
  | true =>
    rw [hm] at h
    simp only [cond_true] at h ⊢
    cases hq : made fr op with
    | none => rw [hq] at h; cases h
    | some p =>
      obtain ⟨o, f⟩ := p
      rw [hq] at h
      have h := Option.some.inj h
      injection h with h1 h2
      subst h1 h2
      obtain ⟨o', f', h3, h4, h5⟩ := made_r hF ho hq
      rw [h3]
      obtain ⟨h6, h7⟩ := hS.new h4
      exact ⟨_, _, rfl, by rw [← hS.at]; exact h5 _, h6, h7⟩
  | false =>
    rw [hm] at h
    simp only [cond_false] at h ⊢
    cases hq : pval fr s op with
    | none => rw [hq] at h; cases h
    | some p =>
      rw [hq] at h
      have h := Option.some.inj h
      injection h with h1 h2
      subst h1 h2
      obtain ⟨v', h3, h4⟩ := pval_r hS hF ho hq
      rw [h3]
      exact ⟨_, _, rfl, h4, hS, .refl _⟩

theorem putAt_r (hS : Sr σ s s') {g x v : Nat} {vs vs' : List AVal} (hv : Vrs σ vs vs') {s1 : AS} (h : putAt s g x v vs = some s1) : ∃ s1', putAt s' (σ g) x v vs' = some s1' ∧ Sr σ s1 s1' ∧ Far σ s' s1' := by
  unfold putAt at h ⊢
  cases hg : s.get g with
  | none => rw [hg] at h; cases h
  | some o =>
    obtain ⟨o', h1, h2⟩ := hS.obj g o hg
    rw [hg] at h
    rw [h1]
    cases h2 with
    | map => cases h
    | @row cs cs' hc cur exts ro ro' hro =>
      simp only at h ⊢
      cases exts with
      | nil => cases h
      | cons e l =>
        simp only at h ⊢
        obtain ⟨hb, h⟩ := bif_some h
        rw [Bool.and_eq_true, Bool.and_eq_true] at hb
        have hro' : ro' = false := hro (by simpa using hb.1.2)
        subst hro'
        rw [hb.1.1, show llen vs' = llen vs by simp [hv.length], hb.2]
        obtain rfl := Option.some.inj h
        obtain ⟨h3, h4⟩ := hS.set hg (o := .row (splice cs x vs) cur [e] false) (o' := .row (splice cs' x vs') cur [e] false) (.row (splice_r hc hv x) _ _ (fun e => e))
        exact ⟨_, rfl, h3, h4⟩
theorem growAt_r (hS : Sr σ s s') {g x v : Nat} {vs vs' : List AVal} (hv : Vrs σ vs vs') {s1 : AS} {w : Nat} (h : growAt s g x v vs = some (s1, w)) : ∃ s1', growAt s' (σ g) x v vs' = some (s1', w) ∧ Sr σ s1 s1' ∧ Far σ s' s1' := by
  unfold growAt at h ⊢
  cases hg : s.get g with
  | none => rw [hg] at h; cases h
  | some o =>
    obtain ⟨o', h1, h2⟩ := hS.obj g o hg
    rw [hg] at h
    rw [h1]
    cases h2 with
    | map => cases h
    | @row cs cs' hc cur exts ro ro' hro =>
      simp only at h ⊢
      obtain ⟨hb, h⟩ := bif_some h
      rw [Bool.and_eq_true] at hb
      have hro' : ro' = false := hro (by simpa using hb.1)
      subst hro'
      rw [hb.2]
      simp only [Bool.not_false, Bool.true_and, cond_true]
      cases hn : nth exts (Nat.sub cur v) with
      | none => rw [hn] at h; cases h
      | some e =>
        rw [hn] at h
        simp only at h ⊢
        obtain ⟨hb2, h⟩ := bif_some h
        rw [hb2]
        simp only [cond_true, show llen cs' = llen cs by simp [hc.length], show llen vs' = llen vs by simp [hv.length]]
        cases hb3 : Nat.beq v cur && Nat.beq x (llen cs) with
        | true =>
          rw [hb3] at h
          have h := Option.some.inj h
          injection h with e1 e2
          subst e1 e2
          obtain ⟨h3, h4⟩ := hS.set hg (o := .row (lapp cs vs) (Nat.succ cur) (Nat.add x (llen vs) :: exts) false) (o' := .row (lapp cs' vs') (Nat.succ cur) (Nat.add x (llen vs) :: exts) false)
            (.row (by rw [lapp_eq, lapp_eq]; exact hc.append hv) _ _ (fun e => e))
          exact ⟨_, rfl, h3, h4⟩
        | false =>
          rw [hb3] at h
          have h := Option.some.inj h
          injection h with e1 e2
          subst e1 e2
          obtain ⟨h3, h4⟩ := hS.set hg (o := .row (lapp (ltake cs x) vs) (Nat.succ cur) [Nat.add x (llen vs)] false) (o' := .row (lapp (ltake cs' x) vs') (Nat.succ cur) [Nat.add x (llen vs)] false)
            (.row (by rw [lapp_eq, lapp_eq, ltake_eq, ltake_eq]; exact (hc.take x).append hv) _ _ (fun e => e))
          exact ⟨_, rfl, h3, h4⟩
theorem append_r (hS : Sr σ s s') {r sz : Nat} {x x' : AVal} {vs vs' : List AVal} (hx : Vr σ x x') (hv : Vrs σ vs vs') {v : AVal} {s1 : AS} (h : append s r sz x vs = some (v, s1)) : Lift σ s' (append s' r sz x' vs') v s1 := by
  have hl : llen vs' = llen vs := by simp [hv.length]
  unfold append at h ⊢
  simp only [hl] at h ⊢
  cases hx <;> simp only at h ⊢ <;> try (cases h; done)
  · rename_i g off len sz' w c
    cases hb : !Nat.beq sz sz' with
    | true => rw [hb] at h; cases h
    | false =>
      rw [hb] at h
      simp only [cond_false] at h ⊢
      cases hb1 : Nat.beq (Nat.div (llen vs) sz) 0 with
      | true =>
        rw [hb1] at h
        have h := Option.some.inj h
        injection h with e1 e2
        subst e1 e2
        exact ⟨_, _, rfl, .slice _ _ _ _ _ _, hS, .refl _⟩
      | false =>
        rw [hb1] at h
        simp only [cond_false] at h ⊢
        obtain ⟨hb2, h⟩ := bif_none h
        rw [hb2]
        simp only [cond_false]
        cases hc : cellsAt s g off w (Nat.mul len sz) with
        | none => rw [hc] at h; cases h
        | some old =>
          obtain ⟨old', h1, h2⟩ := cellsAt_r hS hc
          rw [hc] at h
          rw [h1]
          simp only at h ⊢
          cases hb3 : capBelow c (Nat.add len (Nat.div (llen vs) sz)) with
          | true =>
            rw [hb3] at h
            have h := Option.some.inj h
            injection h with e1 e2
            subst e1 e2
            obtain ⟨h6, h7⟩ := hS.new (oneRow_r (l := lapp old vs) (m := lapp old' vs') (by rw [lapp_eq, lapp_eq]; exact h2.append hv))
            exact ⟨_, _, rfl, by rw [← hS.at]; exact .slice _ _ _ _ _ _, h6, h7⟩
          | false =>
            rw [hb3] at h
            simp only [cond_false] at h ⊢
            cases hgr : growAt s g (Nat.add off (Nat.mul len sz)) w vs with
            | none => rw [hgr] at h; cases h
            | some p =>
              obtain ⟨s2, w2⟩ := p
              obtain ⟨s2', h3, h4, h5⟩ := growAt_r hS hv hgr
              rw [hgr] at h
              rw [h3]
              have h := Option.some.inj h
              injection h with e1 e2
              subst e1 e2
              exact ⟨_, _, rfl, .slice _ _ _ _ _ _, h4, h5⟩
  · cases hb1 : Nat.beq (Nat.div (llen vs) sz) 0 with
    | true =>
      rw [hb1] at h
      have h := Option.some.inj h
      injection h with e1 e2
      subst e1 e2
      exact ⟨_, _, rfl, .nilslice, hS, .refl _⟩
    | false =>
      rw [hb1] at h
      simp only [cond_false] at h ⊢
      obtain ⟨hb2, h⟩ := bif_some h
      rw [hb2]
      have h := Option.some.inj h
      injection h with e1 e2
      subst e1 e2
      obtain ⟨h6, h7⟩ := hS.new (oneRow_r hv)
      exact ⟨_, _, rfl, by rw [← hS.at]; exact .slice _ _ _ _ _ _, h6, h7⟩

theorem write_r (hS : Sr σ s s') (hF : Frr σ fr fr') {op : AOp} (ho : op.ok = true) {v : AVal} {s1 : AS} (h : write fr s op = some (v, s1)) : Lift σ s' (write fr' s' op) v s1 := by
  cases op <;> simp only [write] at h ⊢ <;> try (cases h; done)
  case store sz a x =>
    simp only [AOp.ok, Bool.and_eq_true] at ho
    have ha := hF.ev ho.1
    have hx := hF.ev ho.2
    generalize fr.ev a = p at h ha
    generalize fr'.ev a = p' at ha
    cases ha <;> simp only at h ⊢ <;> try (cases h; done)
    obtain ⟨hb, h⟩ := bif_some h
    rw [Bool.and_eq_true] at hb
    have hc := hx.cells (known_of_ones hb.2)
    rw [show llen (fr'.ev x).cells = llen (fr.ev x).cells by simp [hc.length], hb.1, hc.ones hb.2]
    simp only [Bool.true_and, cond_true]
    split at h
    · rename_i s2 hp
      obtain ⟨s2', h1, h2, h3⟩ := putAt_r hS hc hp
      rw [h1]
      have h := Option.some.inj h
      injection h with e1 e2
      subst e1 e2
      exact ⟨_, _, rfl, .junk _, h2, h3⟩
    · cases h
  case mset ek m k x =>
    simp only [AOp.ok, Bool.and_eq_true] at ho
    have hm := hF.ev ho.1
    have hk := hF.ev ho.2.1
    have hx := hF.ev ho.2.2
    generalize fr.ev m = p at h hm
    generalize fr'.ev m = p' at hm
    cases hm <;> simp only at h ⊢ <;> try (cases h; done)
    rename_i g
    cases hg : s.get g with
    | none => rw [hg] at h; cases h
    | some o =>
      obtain ⟨o', h1, h2⟩ := hS.obj g o hg
      rw [hg] at h
      rw [h1]
      cases h2 with
      | row => cases h
      | map hes =>
        simp only at h ⊢
        obtain ⟨hk1, h⟩ := bif_some h
        rw [keyFits_r hk hk1]
        simp only [cond_true]
        split at h
        · rename_i es2 hq
          obtain ⟨r', h3, h4⟩ := setKey_r hk hx hes hq
          rw [h3]
          have h := Option.some.inj h
          injection h with e1 e2
          subst e1 e2
          obtain ⟨h5, h6⟩ := hS.set hg (o := .map es2) (o' := .map r') (.map h4)
          exact ⟨_, _, rfl, .junk _, h5, h6⟩
        · cases h
  case app sz x y =>
    simp only [AOp.ok, Bool.and_eq_true] at ho
    have hx := hF.ev ho.1
    have hy := hF.ev ho.2
    generalize fr.ev y = p at h hy
    generalize fr'.ev y = p' at hy
    cases hy <;> simp only at h ⊢ <;> try (cases h; done)
    · obtain ⟨hb, h⟩ := bif_some h
      rw [hb]
      exact append_r hS hx (bytes_r _) h
    · rename_i g off len sz' w c
      obtain ⟨hb, h⟩ := bif_some h
      rw [hb]
      simp only [cond_true]
      cases hc : cellsAt s g off w (Nat.mul len (cellsA sz)) with
      | none => rw [hc] at h; cases h
      | some vs =>
        obtain ⟨vs', h1, h2⟩ := cellsAt_r hS hc
        rw [hc] at h
        rw [h1]
        exact append_r hS hx h2 h
    · exact append_r hS hx .nil h
  case cpy sz d x =>
    simp only [AOp.ok, Bool.and_eq_true] at ho
    have hx := hF.ev ho.1
    have hy := hF.ev ho.2
    generalize fr.ev d = q at h hx
    generalize fr'.ev d = q' at hx
    generalize fr.ev x = p at h hy
    generalize fr'.ev x = p' at hy
    cases hx <;> cases hy <;> simp only at h ⊢ <;> try (cases h; done)
    obtain ⟨hb, h⟩ := bif_some h
    rw [hb]
    simp only [cond_true]
    split at h
    · rename_i vs hc
      obtain ⟨vs', h1, h2⟩ := cellsAt_r hS hc
      rw [h1]
      simp only at h ⊢
      split at h
      · rename_i s2 hp
        obtain ⟨s2', h3, h4, h5⟩ := putAt_r hS h2 hp
        rw [h3]
        have h := Option.some.inj h
        injection h with e1 e2
        subst e1 e2
        exact ⟨_, _, rfl, .int _ _, h4, h5⟩
      · cases h
    · cases h
  case clr sz z x =>
    simp only [AOp.ok, Bool.and_eq_true] at ho
    have hx := hF.ev ho.2
    generalize fr.ev x = q at h hx
    generalize fr'.ev x = q' at hx
    cases hx <;> simp only at h ⊢ <;> try (cases h; done)
    · rename_i g off len sz' w c
      obtain ⟨hb, h⟩ := bif_some h
      rw [hb]
      simp only [cond_true]
      cases hb1 : Nat.beq len 0 with
      | true =>
        rw [hb1] at h
        have h := Option.some.inj h
        injection h with e1 e2
        subst e1 e2
        exact ⟨_, _, rfl, .junk _, hS, .refl _⟩
      | false =>
        rw [hb1] at h
        simp only [cond_false] at h ⊢
        split at h
        · rename_i s2 hp
          obtain ⟨s2', h3, h4, h5⟩ := putAt_r hS (reps_r (Vrs.oks ho.1) len) hp
          rw [h3]
          have h := Option.some.inj h
          injection h with e1 e2
          subst e1 e2
          exact ⟨_, _, rfl, .junk _, h4, h5⟩
        · cases h
    · have h := Option.some.inj h
      injection h with e1 e2
      subst e1 e2
      exact ⟨_, _, rfl, .junk _, hS, .refl _⟩

theorem loud_r (hS : Sr σ s s') (hF : Frr σ fr fr') {op : AOp} (ho : op.ok = true) {v : AVal} {s1 : AS} (h : loud fr s op = some (v, s1)) : Lift σ s' (loud fr' s' op) v s1 := by
  unfold loud at h ⊢
  cases hw : op.writes with
  | true => rw [hw] at h; exact write_r hS hF ho h
  | false => rw [hw] at h; exact quiet_r hS hF ho h

theorem wanted_r (hF : Frr σ fr fr') {g : Option (Nat × Bool)} {b : Bool} (h : wanted fr g = some b) : wanted fr' g = some b := by
  unfold wanted at h ⊢
  cases g with
  | none => exact h
  | some p =>
    obtain ⟨t, w⟩ := p
    have ht := hF.tm t
    simp only at h ⊢
    generalize fr.get t = x at h ht
    generalize fr'.get t = x' at ht
    cases ht <;> try (cases h; done)
    · exact h
    · rename_i hl
      split at h
      · cases ‹AVal.tuple _ = _›
      · rename_i e
        injection e with e
        subst e
        cases hl
        exact h
      · cases h

theorem sameOne_r (hi : ∀ a b, σ a = σ b → a = b) {x y x' y' : AVal} (hx : Vr σ x x') (hy : Vr σ y y') (h : sameOne x y = true) : sameOne x' y' = true := by
  have hb : ∀ {a b : Nat}, Nat.beq a b = true → Nat.beq (σ a) (σ b) = true := fun h => by rw [beqN_iff] at h ⊢; rw [h]
  unfold sameOne at h
  split at h
  all_goals try (cases h; done)
  · cases hx; cases hy; exact h
  · cases hx; cases hy; exact h
  · cases hx; cases hy; exact h
  · cases hx; cases hy; simp only [sameOne, Bool.and_eq_true] at h ⊢; exact ⟨⟨hb h.1.1, h.1.2⟩, h.2⟩
  · cases hx; cases hy; exact h
  · cases hx; cases hy; simp only [sameOne, Bool.and_eq_true] at h ⊢; exact ⟨⟨⟨⟨hb h.1.1.1.1, h.1.1.1.2⟩, h.1.1.2⟩, h.1.2⟩, h.2⟩
  · cases hx; cases hy; simp only [sameOne, Bool.and_eq_true] at h ⊢; exact ⟨⟨⟨⟨⟨hb h.1.1.1.1.1, h.1.1.1.1.2⟩, h.1.1.1.2⟩, h.1.1.2⟩, h.1.2⟩, h.2⟩
  · cases hx; cases hy; exact h
  · cases hx; cases hy; exact hb h
  · cases hx; cases hy; exact h
  · cases hx with | func _ a1 a2 => cases hy with | func _ b1 b2 => cases a1; cases a2; cases b1; cases b2; exact h
  · cases hx; cases hy; exact h
  · cases hx; cases hy; exact h
theorem sameList_r (hi : ∀ a b, σ a = σ b → a = b) : ∀ {l m l' m' : List AVal}, Vrs σ l l' → Vrs σ m m' → sameList l m = true → sameList l' m' = true
  | [], [], _, _, hl, hm, h => by cases hl; cases hm; exact h
  | [], _ :: _, _, _, _, _, h => by cases h
  | _ :: _, [], _, _, _, _, h => by cases h
  | a :: l, b :: m, _, _, hl, hm, h => by
    cases hl with
    | cons ha tl =>
      cases hm with
      | cons hb tm =>
        have h' : (sameOne a b && sameList l m) = true := h
        rw [Bool.and_eq_true] at h'
        show (sameOne _ _ && sameList _ _) = true
        rw [Bool.and_eq_true]
        exact ⟨sameOne_r hi ha hb h'.1, sameList_r hi tl tm h'.2⟩
theorem sameVal_r (hi : ∀ a b, σ a = σ b → a = b) {x y x' y' : AVal} (hx : Vr σ x x') (hy : Vr σ y y') (h : sameVal x y = true) : sameVal x' y' = true := by
  unfold sameVal at h
  split at h
  · cases hx with | agg a => cases hy with | agg b => exact sameList_r hi a b h
  · cases hx with | tuple a => cases hy with | tuple b => exact sameList_r hi a b h
  · cases hx with
    | func _ a1 a2 =>
      cases hy with
      | func _ b1 b2 =>
        simp only [Bool.and_eq_true] at h
        show (_ && _ && _) = true
        simp only [Bool.and_eq_true]
        exact ⟨⟨h.1.1, sameList_r hi a1 b1 h.1.2⟩, sameList_r hi a2 b2 h.2⟩
  · cases hx with
    | iface _ a =>
      cases hy with
      | iface _ b =>
        simp only [Bool.and_eq_true] at h
        show (_ && _) = true
        simp only [Bool.and_eq_true]
        exact ⟨h.1, sameOne_r hi a b h.2⟩
  · rename_i q1 q2 q3 q4
    have h2 := sameOne_r hi hx hy h
    cases hx <;> cases hy <;> first | exact h2 | (cases h; done) | (simp [sameOne] at h; done) | exact (q3 _ _ _ _ _ _ rfl rfl).elim
theorem looks_r (hS : Sr σ s s') (hF : Frr σ fr fr') : ∀ {l : List (Option Nat × AOp × Option (Nat × Bool))}, (l.all fun p => p.2.1.ok) = true → looks fr s l = true → looks fr' s' l = true
  | [], _, _ => rfl
  | (d, op, g) :: l, ho, h => by
    rw [List.all_cons, Bool.and_eq_true] at ho
    have h' : ((match wanted fr g with
      | some true => match pval fr s op with
        | some v => Option.rec true (fun t => sameVal v (fr.get t)) d
        | none => false
      | some false => true
      | none => false) && looks fr s l) = true := h
    rw [Bool.and_eq_true] at h'
    show ((match wanted fr' g with
      | some true => match pval fr' s' op with
        | some v => Option.rec true (fun t => sameVal v (fr'.get t)) d
        | none => false
      | some false => true
      | none => false) && looks fr' s' l) = true
    rw [Bool.and_eq_true]
    refine ⟨?_, looks_r hS hF ho.2 h'.2⟩
    have h1 := h'.1
    cases hw : wanted fr g with
    | none => rw [hw] at h1; cases h1
    | some b =>
      rw [hw] at h1
      rw [wanted_r hF hw]
      cases b with
      | false => rfl
      | true =>
        simp only at h1 ⊢
        cases hp : pval fr s op with
        | none => rw [hp] at h1; cases h1
        | some v =>
          rw [hp] at h1
          obtain ⟨v', h2, h3⟩ := pval_r hS hF ho.1 hp
          rw [h2]
          cases d with
          | none => rfl
          | some t => exact sameVal_r hS.inj h3 (hF.tm t) h1
end
end Go.Avm
