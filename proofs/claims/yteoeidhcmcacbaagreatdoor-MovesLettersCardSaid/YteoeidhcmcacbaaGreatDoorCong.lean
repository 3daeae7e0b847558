/-
  What the abstract machine's operations hang on.
-/
import Derived.Test.YteoeidhcmcacbaaGreatDoorBase
set_option linter.unusedVariables false
set_option linter.unusedSimpArgs false
namespace Go.Avm

theorem sameOne_eq {x y : AVal} (h : sameOne x y = true) : x = y := by
  unfold sameOne at h
  split at h <;> first
    | rfl
    | (cases h; done)
    | skip
  · simpa using h
  · rw [Bool.and_eq_true, beqK_eq, beqI_eq] at h; rw [of_decide_eq_true h.1, of_decide_eq_true h.2]
  · rw [beqL_eq] at h; rw [of_decide_eq_true h]
  · simp only [Bool.and_eq_true, beqN_iff] at h; obtain ⟨⟨rfl, rfl⟩, rfl⟩ := h; rfl
  · simp only [Bool.and_eq_true, beqN_iff] at h; obtain ⟨⟨⟨⟨rfl, rfl⟩, rfl⟩, rfl⟩, rfl⟩ := h; rfl
  · simp only [Bool.and_eq_true, beqN_iff] at h; obtain ⟨⟨⟨⟨⟨rfl, rfl⟩, rfl⟩, rfl⟩, rfl⟩, rfl⟩ := h; rfl
  · rw [beqN_iff] at h; rw [h]
  · rw [beqN_iff] at h; rw [h]
theorem sameList_eq : ∀ {l m : List AVal}, sameList l m = true → l = m
  | [], [], _ => rfl
  | [], _ :: _, h => by cases h
  | _ :: _, [], h => by cases h
  | a :: l, b :: m, h => by
    have h' : (sameOne a b && sameList l m) = true := h
    rw [Bool.and_eq_true] at h'
    rw [sameOne_eq h'.1, sameList_eq h'.2]
theorem sameVal_eq {x y : AVal} (h : sameVal x y = true) : x = y := by
  unfold sameVal at h
  split at h
  · rw [sameList_eq h]
  · rw [sameList_eq h]
  · simp only [Bool.and_eq_true, beqN_iff] at h; rw [h.1.1, sameList_eq h.1.2, sameList_eq h.2]
  · simp only [Bool.and_eq_true, beqN_iff] at h; rw [h.1, sameOne_eq h.2]
  · exact sameOne_eq h

section
variable {fr fr' : Fr} {s s' : AS}

theorem ev_cong {x : Opd} (h : ∀ t ∈ x.tmps, fr'.get t = fr.get t) : fr'.ev x = fr.ev x := by
  cases x with
  | t n => exact h n (by simp [Opd.tmps])
  | c v => rfl
theorem evs_cong : ∀ {l : List Opd}, (∀ t ∈ l.flatMap Opd.tmps, fr'.get t = fr.get t) → l.map fr'.ev = l.map fr.ev
  | [], _ => rfl
  | x :: l, h => by
    simp only [List.flatMap_cons, List.mem_append] at h
    rw [List.map_cons, List.map_cons, ev_cong fun t ht => h t (.inl ht), evs_cong fun t ht => h t (.inr ht)]
theorem parts_cong : ∀ {l : List (Nat × Nat × Opd)}, (∀ t ∈ l.flatMap fun p => p.2.2.tmps, fr'.get t = fr.get t) → l.map (fun p => (p.1, p.2.1, fr'.ev p.2.2)) = l.map fun p => (p.1, p.2.1, fr.ev p.2.2)
  | [], _ => rfl
  | x :: l, h => by
    simp only [List.flatMap_cons, List.mem_append] at h
    rw [List.map_cons, List.map_cons, ev_cong fun t ht => h t (.inl ht), parts_cong fun t ht => h t (.inr ht)]
theorem num_cong {x : Option Opd} (h : ∀ t ∈ otmps x, fr'.get t = fr.get t) (y d : Nat) : num fr' x y d = num fr x y d := by
  cases x with
  | none => rfl
  | some o => simp only [num]; rw [ev_cong h]
theorem hiNum_cong {x mx : Option Opd} (h : ∀ t ∈ otmps x, fr'.get t = fr.get t) (m n : Nat) : hiNum fr' x mx m n = hiNum fr x mx m n := by
  unfold hiNum; rw [num_cong h]
theorem sliceNums_cong {lo hi mx : Option Opd} (h1 : ∀ t ∈ otmps lo, fr'.get t = fr.get t) (h2 : ∀ t ∈ otmps hi, fr'.get t = fr.get t) (h3 : ∀ t ∈ otmps mx, fr'.get t = fr.get t) (m n : Nat) :
    sliceNums fr' m n lo hi mx = sliceNums fr m n lo hi mx := by
  unfold sliceNums
  rw [num_cong h3]
  cases num fr mx n n with
  | none => rfl
  | some k =>
    dsimp only
    rw [hiNum_cong h2]
    cases hiNum fr hi mx k m with
    | none => rfl
    | some j => dsimp only; rw [num_cong h1]

theorem wanted_cong {g : Option (Nat × Bool)} (h : ∀ t b, g = some (t, b) → fr'.get t = fr.get t) : wanted fr' g = wanted fr g := by
  cases g with
  | none => rfl
  | some p => obtain ⟨t, b⟩ := p; simp only [wanted]; rw [h t b rfl]

/-- An operation looks at its own temporaries alone. -/
theorem pval_cong {op : AOp} (h : ∀ t ∈ op.tmps, fr'.get t = fr.get t) : pval fr' s op = pval fr s op := by
  cases op <;> simp only [AOp.tmps, List.mem_append] at h <;> simp only [pval] <;> first
    | rfl
    | (rw [ev_cong h]; done)
    | (rw [ev_cong fun t ht => h t (.inl ht), ev_cong fun t ht => h t (.inr ht)]; done)
    | skip
  case pick => rw [ev_cong fun t ht => h t (.inl ht), ev_cong fun t ht => h t (.inr (.inl ht)), ev_cong fun t ht => h t (.inr (.inr ht))]
  case build => rw [lmap_eq, lmap_eq, parts_cong h]
  case fn => rw [lmap_eq, lmap_eq, lmap_eq, lmap_eq, evs_cong fun t ht => h t (.inl ht), evs_cong fun t ht => h t (.inr ht)]
  case sl => 
    rw [ev_cong fun t ht => h t (.inl ht)]
    simp only [sliceNums_cong (fr := fr) (fr' := fr') (fun t ht => h t (.inr (.inl ht))) (fun t ht => h t (.inr (.inr (.inl ht)))) (fun t ht => h t (.inr (.inr (.inr ht))))]
  case sub =>
    rw [ev_cong fun t ht => h t (.inl ht)]
    simp only [sliceNums_cong (fr := fr) (fr' := fr') (mx := none) (fun t ht => h t (.inr (.inl ht))) (fun t ht => h t (.inr (.inr ht))) (fun t ht => by cases ht)]
theorem made_cong {op : AOp} (h : ∀ t ∈ op.tmps, fr'.get t = fr.get t) : made fr' op = made fr op := by
  cases op <;> simp only [AOp.tmps, List.mem_append] at h <;> simp only [made] <;> first
    | rfl
    | (rw [ev_cong h]; done)
    | (rw [ev_cong fun t ht => h t (.inl ht), ev_cong fun t ht => h t (.inr ht)]; done)
    | (rw [lmap_eq, lmap_eq, parts_cong h]; done)
theorem write_cong {op : AOp} (h : ∀ t ∈ op.tmps, fr'.get t = fr.get t) : write fr' s op = write fr s op := by
  cases op <;> simp only [AOp.tmps, List.mem_append] at h <;> simp only [write] <;> first
    | rfl
    | (rw [ev_cong h]; done)
    | (rw [ev_cong fun t ht => h t (.inl ht), ev_cong fun t ht => h t (.inr ht)]; done)
    | (rw [ev_cong fun t ht => h t (.inl ht), ev_cong fun t ht => h t (.inr (.inl ht)), ev_cong fun t ht => h t (.inr (.inr ht))]; done)

/-- .. and at memory only where it says so. -/
theorem pval_still {op : AOp} (h : op.reads = false) : pval fr s' op = pval fr s op := by
  cases op <;> first
    | rfl
    | (cases h; done)
    | skip
  case len k x => cases k <;> first | (cases h; done) | rfl | (simp only [pval]; cases fr.ev x <;> rfl)

/-- New things change nothing that was there. -/
theorem get_new_old {o : AObj} {g : Nat} {x : AObj} (h : s.get g = some x) : (s.new o).get g = some x := by
  rw [AS.get_new, if_neg]
  · exact h
  · intro e; have := AS.lt_of_get h; omega
theorem cellsAt_new {o : AObj} {g x v n : Nat} {cs : List AVal} (h : cellsAt s g x v n = some cs) : cellsAt (s.new o) g x v n = some cs := by
  unfold cellsAt at *
  cases hg : s.get g with
  | none => rw [hg] at h; cases h
  | some y => rw [get_new_old hg]; rw [hg] at h; exact h
theorem pval_new {op : AOp} {v : AVal} (o : AObj) (h : pval fr s op = some v) : pval fr (s.new o) op = some v := by
  cases hr : op.reads with
  | false => rw [pval_still (s := s) hr]; exact h
  | true =>
    cases op <;> first | (cases hr; done) | skip
    case load g sz x =>
      simp only [pval] at h ⊢
      cases he : fr.ev x <;> rw [he] at h <;> try (cases h; done)
      rename_i a b c
      simp only at h ⊢
      cases hc : cellsAt s a b c sz with
      | none => rw [hc] at h; cases h
      | some cs => rw [cellsAt_new hc]; rw [hc] at h; exact h
    case b2s x =>
      simp only [pval] at h ⊢
      cases he : fr.ev x <;> rw [he] at h <;> try (cases h; done)
      · rename_i a b c d e f
        simp only at h ⊢
        cases hd : Nat.beq d 1 with
        | false => rw [hd] at h; cases h
        | true =>
          rw [hd] at h
          rw [cond_true] at h ⊢
          cases hc : cellsAt s a b e c with
          | none => rw [hc] at h; cases h
          | some cs => rw [cellsAt_new hc]; rw [hc] at h; exact h
      · exact h
    case look ek z m k ok =>
      simp only [pval] at h ⊢
      cases he : fr.ev m <;> rw [he] at h <;> try (cases h; done)
      rename_i r
      simp only at h ⊢
      cases hg : s.get r with
      | none => simp only [hg] at h; cases h
      | some y => rw [get_new_old hg]; rw [hg] at h; exact h
    case len k x =>
      cases k <;> first | (cases hr; done) | skip
      simp only [pval] at h ⊢
      cases he : fr.ev x <;> rw [he] at h <;> try (cases h; done)
      · rename_i r
        simp only at h ⊢
        cases hg : s.get r with
        | none => simp only [hg] at h; cases h
        | some y => rw [get_new_old hg]; rw [hg] at h; exact h
      · exact h
end

/-! ### one operation's own doing -/
inductive A1 where
  | val (v : AVal) (s : AS)
  | dfr (f : Nat) (a b args : List AVal)
  | pan (v : AVal) (s : AS)
noncomputable def act1 (call : Caller) (op : AOp) (fr : Fr) (s : AS) : Option A1 :=
  match op with
  | .call f args => match fr.ev f with
    | .func f a b => match call f (lapp a (lapp (lmap fr.ev args) b)) s with
      | some (.ret v, s) => some (.val v s)
      | some (.pan v, s) => some (.pan v s)
      | none => none
    | _ => none
  | .dfr f args => match fr.ev f with
    | .func f a b => some (.dfr f a b (lmap fr.ev args))
    | _ => none
  | .pan x => match fr.ev x with
    | .iface t v => some (.pan (.iface t v) s)
    | _ => none
  | op => match loud fr s op with
    | some (v, s) => some (.val v s)
    | none => none
theorem oper_eq (call : Caller) (o : AOper) (next : Fr → AS → Res) (fr : Fr) (s : AS) :
    oper call o next fr s = match wanted fr o.guard with
      | none => none
      | some false => next (fr.put o.dst (.tuple [])) s
      | some true => match act1 call o.op fr s with
        | some (.val v s) => bif looks (fr.put o.dst v) s o.chk then next (fr.put o.dst v) s else none
        | some (.dfr f a b args) => next ({ fr with df := (.func f a b, args) :: fr.df }.put o.dst .junk) s
        | some (.pan v s) => some (.pan v, fr.junk o.pend, s)
        | none => none := by
  unfold oper
  cases wanted fr o.guard with
  | none => rfl
  | some b =>
    cases b with
    | false => rfl
    | true =>
      dsimp only
      cases o.op <;> simp only [act1] <;> first
        | (split <;> rename_i h <;> simp only [h]; done)
        | skip
      case call f args =>
        cases fr.ev f <;> first | rfl | skip
        rename_i f a b
        dsimp only
        cases call f (lapp a (lapp (lmap fr.ev args) b)) s with
        | none => rfl
        | some p => obtain ⟨r, s1⟩ := p; cases r <;> rfl
theorem act1_cong (call : Caller) {op : AOp} {fr fr' : Fr} {s : AS} (h : ∀ t ∈ op.tmps, fr'.get t = fr.get t) : act1 call op fr' s = act1 call op fr s := by
  have hl : loud fr' s op = loud fr s op := by
    unfold loud quiet
    rw [write_cong h, pval_cong h, made_cong h]
  cases op <;> simp only [act1] <;> first
    | (rw [hl]; done)
    | skip
  case call f args =>
    simp only [AOp.tmps, List.mem_append] at h
    rw [ev_cong fun t ht => h t (.inl ht), lmap_eq, lmap_eq, evs_cong fun t ht => h t (.inr ht)]
  case dfr f args =>
    simp only [AOp.tmps, List.mem_append] at h
    rw [ev_cong fun t ht => h t (.inl ht), lmap_eq, lmap_eq, evs_cong fun t ht => h t (.inr ht)]
  case pan x => rw [ev_cong h]
end Go.Avm
