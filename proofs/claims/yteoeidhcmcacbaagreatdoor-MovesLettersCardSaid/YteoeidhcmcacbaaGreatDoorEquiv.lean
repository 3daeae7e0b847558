/-
  A run lifts to a greater memory: its things stand there under other numbers, there are more of them, and more is known of values.
-/
import Derived.Test.YteoeidhcmcacbaaGreatDoorRun
set_option linter.unusedVariables false
set_option linter.unusedSimpArgs false
namespace Go.Avm

/-! ### values, things and frames that are alike -/
mutual
inductive Vr (σ : Nat → Nat) : AVal → AVal → Prop
  | junk (y : AVal) : Vr σ .junk y
  | bool (b : Bool) : Vr σ (.bool b) (.bool b)
  | int (k : IntKind) (n : Int) : Vr σ (.int k n) (.int k n)
  | str (l : List Nat) : Vr σ (.str l) (.str l)
  | ptr (g x v : Nat) : Vr σ (.ptr g x v) (.ptr (σ g) x v)
  | nilptr : Vr σ .nilptr .nilptr
  | slice (g o l z v : Nat) (c : Option Nat) : Vr σ (.slice g o l z v c) (.slice (σ g) o l z v c)
  | nilslice : Vr σ .nilslice .nilslice
  | map (r : Nat) : Vr σ (.map r) (.map (σ r))
  | nilmap : Vr σ .nilmap .nilmap
  | func (f : Nat) {a b A B : List AVal} (ha : Vrs σ a A) (hb : Vrs σ b B) : Vr σ (.func f a b) (.func f A B)
  | nilfunc : Vr σ .nilfunc .nilfunc
  | iface (t : Nat) {v v' : AVal} (h : Vr σ v v') : Vr σ (.iface t v) (.iface t v')
  | niliface : Vr σ .niliface .niliface
  | agg {a A : List AVal} (h : Vrs σ a A) : Vr σ (.agg a) (.agg A)
  | tuple {a A : List AVal} (h : Vrs σ a A) : Vr σ (.tuple a) (.tuple A)
inductive Vrs (σ : Nat → Nat) : List AVal → List AVal → Prop
  | nil : Vrs σ [] []
  | cons {x y : AVal} {l m : List AVal} (h : Vr σ x y) (t : Vrs σ l m) : Vrs σ (x :: l) (y :: m)
end

section
variable {σ : Nat → Nat}
theorem Vrs.length {l m : List AVal} (h : Vrs σ l m) : l.length = m.length := by
  induction l generalizing m with
  | nil => cases h; rfl
  | cons x l ih => cases h with | cons _ t => simp [ih t]
theorem Vrs.append {l m l' m' : List AVal} (h : Vrs σ l m) (h' : Vrs σ l' m') : Vrs σ (l ++ l') (m ++ m') := by
  induction l generalizing m with
  | nil => cases h; exact h'
  | cons x l ih => cases h with | cons hx t => exact .cons hx (ih t)
theorem Vrs.take {l m : List AVal} (h : Vrs σ l m) (n : Nat) : Vrs σ (l.take n) (m.take n) := by
  induction l generalizing m n with
  | nil => cases h; simp; exact .nil
  | cons x l ih =>
    cases h with
    | cons hx t =>
      cases n with
      | zero => exact .nil
      | succ n => simp only [List.take_succ_cons]; exact .cons hx (ih t n)
theorem Vrs.drop {l m : List AVal} (h : Vrs σ l m) (n : Nat) : Vrs σ (l.drop n) (m.drop n) := by
  induction l generalizing m n with
  | nil => cases h; simp; exact .nil
  | cons x l ih =>
    cases h with
    | cons hx t =>
      cases n with
      | zero => exact .cons hx t
      | succ n => simp only [List.drop_succ_cons]; exact ih t n
theorem Vrs.get {l m : List AVal} (h : Vrs σ l m) : ∀ {i : Nat} {x : AVal}, l[i]? = some x → ∃ y, m[i]? = some y ∧ Vr σ x y := by
  induction l generalizing m with
  | nil => intro i x e; simp at e
  | cons a l ih =>
    intro i x e
    cases h with
    | cons hx t =>
      cases i with
      | zero => simp at e; subst e; exact ⟨_, rfl, hx⟩
      | succ i => simp only [List.getElem?_cons_succ] at e ⊢; exact ih t e
theorem Vrs.map {α : Type} {f g : α → AVal} : ∀ {l : List α}, (∀ x ∈ l, Vr σ (f x) (g x)) → Vrs σ (l.map f) (l.map g)
  | [], _ => .nil
  | x :: l, h => .cons (h x (by simp)) (Vrs.map fun y hy => h y (by simp [hy]))
theorem Vr.cells {x y : AVal} (h : Vr σ x y) (hj : x ≠ .junk) : Vrs σ x.cells y.cells := by
  cases h with
  | junk => exact absurd rfl hj
  | agg h => exact h
  | bool b => exact .cons (.bool b) .nil
  | int k n => exact .cons (.int k n) .nil
  | str l => exact .cons (.str l) .nil
  | ptr g x v => exact .cons (.ptr g x v) .nil
  | nilptr => exact .cons .nilptr .nil
  | slice g o l z v c => exact .cons (.slice g o l z v c) .nil
  | nilslice => exact .cons .nilslice .nil
  | map r => exact .cons (.map r) .nil
  | nilmap => exact .cons .nilmap .nil
  | func f ha hb => exact .cons (.func f ha hb) .nil
  | nilfunc => exact .cons .nilfunc .nil
  | iface t h => exact .cons (.iface t h) .nil
  | niliface => exact .cons .niliface .nil
  | tuple h => exact .cons (.tuple h) .nil
theorem Vr.one {x y : AVal} (h : Vr σ x y) (ho : x.one = true) : y.one = true := by
  cases h <;> first | rfl | cases ho
theorem Vrs.ones {l m : List AVal} (h : Vrs σ l m) (ho : ones l = true) : ones m = true := by
  induction l generalizing m with
  | nil => cases h; rfl
  | cons x l ih =>
    cases h with
    | cons hx t =>
      have ho' : (x.one && Go.Avm.ones l) = true := ho
      rw [Bool.and_eq_true] at ho'
      show (_ && _) = true
      rw [Bool.and_eq_true]
      exact ⟨hx.one ho'.1, ih t ho'.2⟩
/-- Values whose cells are all known are known. -/
theorem known_of_ones {x : AVal} (h : ones x.cells = true) : x ≠ .junk := by rintro rfl; cases h

/-- Constants hold no numbers of things. -/
def AVal.clean : Nat → AVal → Bool
  | 0, _ => false
  | _ + 1, .junk | _ + 1, .bool _ | _ + 1, .int _ _ | _ + 1, .str _ | _ + 1, .nilptr | _ + 1, .nilslice | _ + 1, .nilmap | _ + 1, .nilfunc | _ + 1, .niliface => true
  | _ + 1, .ptr _ _ _ | _ + 1, .slice _ _ _ _ _ _ | _ + 1, .map _ => false
  | n + 1, .func _ a b => a.all (AVal.clean n) && b.all (AVal.clean n)
  | n + 1, .iface _ v => AVal.clean n v
  | n + 1, .agg l => l.all (AVal.clean n)
  | n + 1, .tuple l => l.all (AVal.clean n)
theorem Vrs.refl_of {l : List AVal} (h : ∀ x ∈ l, Vr σ x x) : Vrs σ l l := by
  induction l with
  | nil => exact .nil
  | cons x l ih => exact .cons (h x (by simp)) (ih fun y hy => h y (by simp [hy]))
theorem Vr.clean : ∀ (n : Nat) {x : AVal}, x.clean n = true → Vr σ x x
  | 0, _, h => by cases h
  | n + 1, x, h => by
    have hl : ∀ {l : List AVal}, l.all (AVal.clean n) = true → Vrs σ l l := fun h => Vrs.refl_of fun x hx => Vr.clean n (List.all_eq_true.1 h x hx)
    cases x with
    | junk => exact .junk _
    | bool b => exact .bool b
    | int k m => exact .int k m
    | str l => exact .str l
    | ptr g x v => cases h
    | nilptr => exact .nilptr
    | slice g o l z v c => cases h
    | nilslice => exact .nilslice
    | map r => cases h
    | nilmap => exact .nilmap
    | func f a b => rw [AVal.clean, Bool.and_eq_true] at h; exact .func f (hl h.1) (hl h.2)
    | nilfunc => exact .nilfunc
    | iface t v => exact .iface t (Vr.clean n (x := v) h)
    | niliface => exact .niliface
    | agg l => exact .agg (hl h)
    | tuple l => exact .tuple (hl h)

def AVal.ok (v : AVal) : Bool := v.clean 5
def oks (l : List AVal) : Bool := l.all AVal.ok
theorem Vr.ok {x : AVal} (h : x.ok = true) : Vr σ x x := Vr.clean 5 h
theorem Vrs.oks {l : List AVal} (h : oks l = true) : Vrs σ l l := Vrs.refl_of fun x hx => Vr.ok (List.all_eq_true.1 h x hx)
def Opd.ok : Opd → Bool
  | .t _ => true
  | .c v => v.ok
def ook : Option Opd → Bool
  | none => true
  | some o => o.ok
def pok (ps : List (Nat × Nat × Opd)) : Bool := ps.all fun p => p.2.2.ok
def AOp.ok : AOp → Bool
  | .mov x | .box x | .nilchk x | .un _ x | .conv _ x | .same x | .s2b x | .b2s x | .mkif _ x | .fla _ x | .fld _ _ _ x | .ext x _ | .len _ x | .pan x | .load _ _ x => x.ok
  | .pick c a b => c.ok && (a.ok && b.ok)
  | .new z => oks z
  | .mkmap | .recov => true
  | .build z ps | .lit _ _ z ps => oks z && pok ps
  | .store _ x y | .bin _ _ x y | .ixa _ x y | .ixp _ _ x y | .ixs x y | .ixg _ _ _ x y | .app _ x y | .cpy _ x y | .max x y => x.ok && y.ok
  | .mks _ z x y => oks z && (x.ok && y.ok)
  | .look _ z x y _ => z.ok && (x.ok && y.ok)
  | .tas _ z x _ => z.ok && x.ok
  | .clr _ z x => oks z && x.ok
  | .mset _ x y z => x.ok && (y.ok && z.ok)
  | .fn _ a b => a.all Opd.ok && b.all Opd.ok
  | .sl _ x lo hi mx => x.ok && (ook lo && (ook hi && ook mx))
  | .sub x lo hi => x.ok && (ook lo && ook hi)
  | .call f args | .dfr f args => f.ok && args.all Opd.ok
def AOper.ok (o : AOper) : Bool := o.op.ok && o.chk.all fun p => p.2.1.ok
def AC.ok : AC → Bool
  | .skip | .exit _ | .ret | .bad => true
  | .reg l | .rcv l => l.all AOper.ok
  | .seq a b => a.ok && b.ok
  | .cond c a b => c.ok && (a.ok && b.ok)
  | .block _ c | .loop c => c.ok

inductive Mr (σ : Nat → Nat) : List (AVal × AVal) → List (AVal × AVal) → Prop
  | nil : Mr σ [] []
  | cons {k v k' v' : AVal} {l m : List (AVal × AVal)} (hk : Vr σ k k') (hv : Vr σ v v') (t : Mr σ l m) : Mr σ ((k, v) :: l) ((k', v') :: m)
theorem Mr.length {l m : List (AVal × AVal)} (h : Mr σ l m) : l.length = m.length := by
  induction h with
  | nil => rfl
  | cons _ _ _ ih => simp [ih]
inductive Or (σ : Nat → Nat) : AObj → AObj → Prop
  | row {cs cs' : List AVal} (h : Vrs σ cs cs') (v : Nat) (exts : List Nat) {ro ro' : Bool} (hro : ro = false → ro' = false) : Or σ (.row cs v exts ro) (.row cs' v exts ro')
  | map {es es' : List (AVal × AVal)} (h : Mr σ es es') : Or σ (.map es) (.map es')
/-- Memories: the first one's things stand in the second one. -/
structure Sr (σ : Nat → Nat) (s s' : AS) : Prop where
  inj : ∀ a b, σ a = σ b → a = b
  obj : ∀ g o, s.get g = some o → ∃ o', s'.get (σ g) = some o' ∧ Or σ o o'
  nx : ∀ j, σ (s.nx + j) = s'.nx + j
/-- What else is there stays. -/
structure Far (σ : Nat → Nat) (s s' : AS) : Prop where
  nx : s.nx ≤ s'.nx
  get : ∀ g, g < s.nx → (∀ k, σ k ≠ g) → s'.get g = s.get g
theorem Far.refl (s : AS) : Far σ s s := ⟨Nat.le_refl _, fun _ _ _ => rfl⟩
theorem Far.trans {s s' s'' : AS} (h : Far σ s s') (k : Far σ s' s'') : Far σ s s'' :=
  ⟨Nat.le_trans h.nx k.nx, fun g hg hk => (k.get g (Nat.lt_of_lt_of_le hg h.nx) hk).trans (h.get g hg hk)⟩
theorem Sr.at {s s' : AS} (h : Sr σ s s') : σ s.nx = s'.nx := h.nx 0
theorem Sr.lt {s s' : AS} (h : Sr σ s s') {g : Nat} {o : AObj} (e : s.get g = some o) : σ g < s'.nx := by
  obtain ⟨o', h1, _⟩ := h.obj g o e
  exact AS.lt_of_get h1
theorem Sr.new {s s' : AS} (h : Sr σ s s') {o o' : AObj} (ho : Or σ o o') : Sr σ (s.new o) (s'.new o') ∧ Far σ s' (s'.new o') := by
  refine ⟨⟨h.inj, fun g x e => ?_, fun j => ?_⟩, Nat.le_succ _, fun g hg _ => ?_⟩
  · rw [AS.get_new] at e
    by_cases hg : g = s.nx
    · rw [if_pos hg] at e
      obtain rfl := Option.some.inj e
      exact ⟨o', by rw [hg, h.at, AS.get_new, if_pos rfl], ho⟩
    · rw [if_neg hg] at e
      obtain ⟨x', h1, h2⟩ := h.obj g x e
      exact ⟨x', by rw [AS.get_new, if_neg (fun e => hg (h.inj _ _ (e.trans h.at.symm)))]; exact h1, h2⟩
  · have := h.nx (j + 1)
    simp only [AS.nx_new]
    rw [show s.nx + 1 + j = s.nx + (j + 1) by omega, this]; omega
  · rw [AS.get_new, if_neg (by omega)]
theorem Sr.set {s s' : AS} (h : Sr σ s s') {g : Nat} {p o o' : AObj} (hg : s.get g = some p) (ho : Or σ o o') : Sr σ (s.set g o) (s'.set (σ g) o') ∧ Far σ s' (s'.set (σ g) o') := by
  have hlt := h.lt hg
  refine ⟨⟨h.inj, fun k x e => ?_, fun j => h.nx j⟩, Nat.le_refl _, fun k hk hne => ?_⟩
  · by_cases hk : k = g
    · subst hk
      rw [AS.get_set_same _ _ (AS.lt_of_get hg)] at e
      obtain rfl := Option.some.inj e
      exact ⟨o', AS.get_set_same _ _ hlt, ho⟩
    · rw [AS.get_set_ne _ _ hk] at e
      obtain ⟨x', h1, h2⟩ := h.obj k x e
      exact ⟨x', by rw [AS.get_set_ne _ _ (fun e => hk (h.inj _ _ e))]; exact h1, h2⟩
  · exact AS.get_set_ne _ _ (fun e => hne g e.symm)

inductive Dr (σ : Nat → Nat) : List (AVal × List AVal) → List (AVal × List AVal) → Prop
  | nil : Dr σ [] []
  | cons {f f' : AVal} {a a' : List AVal} {l m : List (AVal × List AVal)} (hf : Vr σ f f') (ha : Vrs σ a a') (t : Dr σ l m) : Dr σ ((f, a) :: l) ((f', a') :: m)
structure Frr (σ : Nat → Nat) (fr fr' : Fr) : Prop where
  tm : ∀ t, Vr σ (fr.get t) (fr'.get t)
  df : Dr σ fr.df fr'.df
theorem Frr.put {fr fr' : Fr} (h : Frr σ fr fr') {v v' : AVal} (hv : Vr σ v v') (d : Option Nat) : Frr σ (fr.put d v) (fr'.put d v') := by
  refine ⟨fun t => ?_, by simpa using h.df⟩
  rw [Fr.get_put, Fr.get_put]
  split
  · exact hv
  · exact h.tm t
theorem Frr.ev {fr fr' : Fr} (h : Frr σ fr fr') {x : Opd} (hx : x.ok = true) : Vr σ (fr.ev x) (fr'.ev x) := by
  cases x with
  | t n => exact h.tm n
  | c v => exact Vr.ok hx
theorem Frr.evs {fr fr' : Fr} (h : Frr σ fr fr') {l : List Opd} (hl : l.all Opd.ok = true) : Vrs σ (lmap fr.ev l) (lmap fr'.ev l) := by
  rw [lmap_eq, lmap_eq]
  exact Vrs.map fun x hx => h.ev (List.all_eq_true.1 hl x hx)
theorem Frr.junk {fr fr' : Fr} (h : Frr σ fr fr') (l : List Nat) : Frr σ (fr.junk l) (fr'.junk l) := by
  induction l with
  | nil => exact h
  | cons t l ih => exact ih.put (v := .junk) (v' := .junk) (.junk _) (some t)

/-! ### operations -/
variable {s s' : AS} {fr fr' : Fr}

theorem cellsAt_r (hS : Sr σ s s') {g x v n : Nat} {cs : List AVal} (h : cellsAt s g x v n = some cs) : ∃ cs', cellsAt s' (σ g) x v n = some cs' ∧ Vrs σ cs cs' := by
  unfold cellsAt at h ⊢
  cases hg : s.get g with
  | none => rw [hg] at h; cases h
  | some o =>
    obtain ⟨o', h1, h2⟩ := hS.obj g o hg
    rw [hg] at h
    rw [h1]
    cases h2 with
    | map => cases h
    | row hc cur exts hro =>
      simp only at h ⊢
      cases hb : Nat.ble v cur with
      | false => rw [hb] at h; cases h
      | true =>
        rw [hb] at h
        simp only [cond_true] at h ⊢
        cases hn : nth exts (Nat.sub cur v) with
        | none => rw [hn] at h; cases h
        | some e =>
          rw [hn] at h
          simp only at h ⊢
          cases hb2 : Nat.ble (Nat.add x n) e with
          | false => rw [hb2] at h; cases h
          | true =>
            rw [hb2] at h
            simp only [cond_true, ltake_eq, ldrop_eq] at h ⊢
            obtain rfl := Option.some.inj h
            exact ⟨_, rfl, (hc.drop x).take n⟩

theorem beqPrim_r {k : PK} {x y x' y' : AVal} {b : Bool} (hx : Vr σ x x') (hy : Vr σ y y') (h : beqPrim k x y = some b) : beqPrim k x' y' = some b := by
  unfold beqPrim at h
  split at h
  · cases hx; cases hy; exact h
  · cases hx; cases hy; exact h
  · cases hx; cases hy; exact h
  · cases h
theorem beqFlat_r : ∀ {ks : List PK} {l m l' m' : List AVal} {b : Bool}, Vrs σ l l' → Vrs σ m m' → beqFlat ks l m = some b → beqFlat ks l' m' = some b
  | [], [], [], _, _, _, hl, hm, h => by cases hl; cases hm; exact h
  | [], [], _ :: _, _, _, _, _, _, h => by cases h
  | [], _ :: _, _, _, _, _, _, _, h => by cases h
  | _ :: _, [], _, _, _, _, _, _, h => by cases h
  | _ :: _, _ :: _, [], _, _, _, _, _, h => by cases h
  | k :: ks, a :: l, c :: m, _, _, b, hl, hm, h => by
    cases hl with
    | @cons _ a' _ l' ha tl =>
      cases hm with
      | @cons _ c' _ m' hb tm =>
        have h' : (match beqPrim k a c with | some true => beqFlat ks l m | some false => some false | none => none) = some b := h
        show (match beqPrim k a' c' with | some true => beqFlat ks l' m' | some false => some false | none => none) = some b
        cases hp : beqPrim k a c with
        | none => rw [hp] at h'; cases h'
        | some q =>
          rw [hp] at h'
          rw [beqPrim_r ha hb hp]
          cases q with
          | true => exact beqFlat_r tl tm h'
          | false => exact h'
theorem isEq_r {ek : EK} {x y x' y' : AVal} {b : Bool} (hx : Vr σ x x') (hy : Vr σ y y') (h : isEq ek x y = some b) : isEq ek x' y' = some b := by
  unfold isEq at h
  split at h <;> first
    | (cases h; done)
    | (cases hx with | agg hx => cases hy with | agg hy => exact beqFlat_r hx hy h)
    | (cases hx; cases hy; exact h)
theorem binop_r {op : BinOp} {ek : EK} {x y x' y' v : AVal} (hx : Vr σ x x') (hy : Vr σ y y') (h : binop op ek x y = some v) : binop op ek x' y' = some v ∧ Vr σ v v := by
  have heq : ∀ (g : Bool → Bool), (match isEq ek x y with | some b => some (AVal.bool (g b)) | none => none) = some v → (match isEq ek x' y' with | some b => some (AVal.bool (g b)) | none => none) = some v ∧ Vr σ v v := by
    intro g h
    cases he : isEq ek x y with
    | none => rw [he] at h; cases h
    | some b =>
      rw [he] at h
      rw [isEq_r hx hy he]
      obtain rfl := Option.some.inj h
      exact ⟨rfl, .bool _⟩
  cases op
  case eql => exact heq (fun b => b) h
  case neq => exact heq (fun b => !b) h
  all_goals
    have h0 := h
    simp only [binop] at h
    split at h
    · cases hx; cases hy
      refine ⟨h0, ?_⟩
      first
        | (cases h; done)
        | (split at h <;> first | (cases h; done) | skip)
        | skip
      all_goals first
        | (obtain rfl := Option.some.inj h; first | exact .int _ _ | exact .bool _ | exact .str _)
        | (obtain ⟨_, h⟩ := bif_some h; obtain rfl := Option.some.inj h; first | exact .int _ _ | exact .bool _ | exact .str _)
        | (obtain ⟨_, h⟩ := bif_none h; obtain rfl := Option.some.inj h; first | exact .int _ _ | exact .bool _ | exact .str _)
    · cases hx; cases hy
      refine ⟨h0, ?_⟩
      first
        | (cases h; done)
        | (obtain rfl := Option.some.inj h; first | exact .int _ _ | exact .bool _ | exact .str _)
        | (obtain ⟨_, h⟩ := bif_some h; obtain rfl := Option.some.inj h; first | exact .int _ _ | exact .bool _ | exact .str _)
    · cases h
theorem unop_r {op : UnOp} {x x' v : AVal} (hx : Vr σ x x') (h : unop op x = some v) : unop op x' = some v ∧ Vr σ v v := by
  unfold unop at h
  split at h
  · cases hx; obtain rfl := Option.some.inj h; exact ⟨rfl, .bool _⟩
  · cases hx; obtain rfl := Option.some.inj h; exact ⟨rfl, .int _ _⟩
  · cases h

theorem num_r (hF : Frr σ fr fr') {x : Option Opd} (hx : ook x = true) {y d n : Nat} (h : num fr x y d = some n) : num fr' x y d = some n := by
  unfold num at h ⊢
  cases x with
  | none => exact h
  | some o =>
    have he := hF.ev (x := o) hx
    simp only at h ⊢
    generalize fr.ev o = v at h he
    generalize fr'.ev o = v' at he
    cases he <;> first | (cases h; done) | exact h
theorem sliceNums_r (hF : Frr σ fr fr') {lo hi mx : Option Opd} (hl : ook lo = true) (hh : ook hi = true) (hm : ook mx = true) {len cap : Nat} {r : Nat × Nat × Nat} (h : sliceNums fr len cap lo hi mx = some r) : sliceNums fr' len cap lo hi mx = some r := by
  unfold sliceNums at h ⊢
  cases h1 : num fr mx cap cap with
  | none => rw [h1] at h; cases h
  | some m =>
    rw [h1] at h
    rw [num_r hF hm h1]
    simp only at h ⊢
    have hhi : ∀ {q : Nat}, hiNum fr hi mx m len = some q → hiNum fr' hi mx m len = some q := by
      intro q e
      unfold hiNum at e ⊢
      cases mx with
      | none => exact num_r hF hh e
      | some _ =>
        cases hi with
        | none => cases e
        | some _ => exact num_r hF hh e
    cases h2 : hiNum fr hi mx m len with
    | none => rw [h2] at h; cases h
    | some q =>
      rw [h2] at h
      rw [hhi h2]
      simp only at h ⊢
      cases h3 : num fr lo q 0 with
      | none => rw [h3] at h; cases h
      | some l =>
        rw [h3] at h
        rw [num_r hF hl h3]
        exact h

theorem splice_r {cs cs' vs vs' : List AVal} (hc : Vrs σ cs cs') (hv : Vrs σ vs vs') (x : Nat) : Vrs σ (splice cs x vs) (splice cs' x vs') := by
  unfold splice
  simp only [lapp_eq, ltake_eq, ldrop_eq, llen_eq, hv.length]
  exact (hc.take x).append (hv.append (hc.drop _))
theorem fillParts_r (hF : Frr σ fr fr') : ∀ {ps : List (Nat × Nat × Opd)} (hp : pok ps = true) {cs cs' r : List AVal}, Vrs σ cs cs' → fillParts (lmap (fun p => (p.1, p.2.1, fr.ev p.2.2)) ps) cs = some r →
    ∃ r', fillParts (lmap (fun p => (p.1, p.2.1, fr'.ev p.2.2)) ps) cs' = some r' ∧ Vrs σ r r'
  | [], _, cs, cs', r, hc, h => by
    obtain rfl := Option.some.inj (show some cs = some r from h)
    exact ⟨cs', rfl, hc⟩
  | (off, sz, o) :: ps, hp, cs, cs', r, hc, h => by
    have hp' : (o.ok && pok ps) = true := hp
    rw [Bool.and_eq_true] at hp'
    have he := hF.ev hp'.1
    have h' : (bif (fr.ev o).known && Nat.beq (llen (fr.ev o).cells) sz && Nat.ble (Nat.add off sz) (llen cs) then fillParts (lmap (fun p => (p.1, p.2.1, fr.ev p.2.2)) ps) (splice cs off (fr.ev o).cells) else none) = some r := h
    obtain ⟨hk, h'⟩ := bif_some h'
    rw [Bool.and_eq_true, Bool.and_eq_true] at hk
    have hj : fr.ev o ≠ .junk := by intro e; rw [e] at hk; cases hk.1.1
    have hcl := he.cells hj
    obtain ⟨r', h1, h2⟩ := fillParts_r hF hp'.2 (splice_r hc hcl off) h'
    refine ⟨r', ?_, h2⟩
    show (bif (fr'.ev o).known && Nat.beq (llen (fr'.ev o).cells) sz && Nat.ble (Nat.add off sz) (llen cs') then fillParts (lmap (fun p => (p.1, p.2.1, fr'.ev p.2.2)) ps) (splice cs' off (fr'.ev o).cells) else none) = some r'
    have hkn : (fr'.ev o).known = true := by
      generalize fr.ev o = v at he hj
      generalize fr'.ev o = v' at he
      cases he <;> first | rfl | exact absurd rfl hj
    rw [hkn, show llen (fr'.ev o).cells = llen (fr.ev o).cells by simp [hcl.length], hk.1.2, show llen cs' = llen cs by simp [hc.length], hk.2]
    exact h1

theorem findKey_r {ek : EK} {k k' : AVal} (hk : Vr σ k k') : ∀ {es es' : List (AVal × AVal)} {r : Option AVal}, Mr σ es es' → findKey ek k es = some r → ∃ r', findKey ek k' es' = some r' ∧ (r = none ∧ r' = none ∨ ∃ v v', r = some v ∧ r' = some v' ∧ Vr σ v v')
  | [], _, r, hm, h => by
    cases hm
    obtain rfl := Option.some.inj (show some none = some r from h)
    exact ⟨none, rfl, .inl ⟨rfl, rfl⟩⟩
  | (a, b) :: es, _, r, hm, h => by
    cases hm with
    | @cons _ _ a' b' _ m ha hb t =>
      have h' : (match isEq ek k a with | some true => some (some b) | some false => findKey ek k es | none => none) = some r := h
      show ∃ r', (match isEq ek k' a' with | some true => some (some b') | some false => findKey ek k' m | none => none) = some r' ∧ _
      cases he : isEq ek k a with
      | none => rw [he] at h'; cases h'
      | some q =>
        rw [he] at h'
        rw [isEq_r hk ha he]
        cases q with
        | true =>
          obtain rfl := Option.some.inj h'
          exact ⟨_, rfl, .inr ⟨_, _, rfl, rfl, hb⟩⟩
        | false => exact findKey_r hk t h'
theorem setKey_r {ek : EK} {k k' v v' : AVal} (hk : Vr σ k k') (hv : Vr σ v v') : ∀ {es es' r : List (AVal × AVal)}, Mr σ es es' → setKey ek k v es = some r → ∃ r', setKey ek k' v' es' = some r' ∧ Mr σ r r'
  | [], _, r, hm, h => by
    cases hm
    obtain rfl := Option.some.inj (show some [(k, v)] = some r from h)
    exact ⟨_, rfl, .cons hk hv .nil⟩
  | (a, b) :: es, _, r, hm, h => by
    cases hm with
    | @cons _ _ a' b' _ m ha hb t =>
      have h' : (match isEq ek k a with | some true => some ((k, v) :: es) | some false => (match setKey ek k v es with | some l => some ((a, b) :: l) | none => none) | none => none) = some r := h
      show ∃ r', (match isEq ek k' a' with | some true => some ((k', v') :: m) | some false => (match setKey ek k' v' m with | some l => some ((a', b') :: l) | none => none) | none => none) = some r' ∧ _
      cases he : isEq ek k a with
      | none => rw [he] at h'; cases h'
      | some q =>
        rw [he] at h'
        rw [isEq_r hk ha he]
        cases q with
        | true =>
          obtain rfl := Option.some.inj h'
          exact ⟨_, rfl, .cons hk hv t⟩
        | false =>
          simp only at h' ⊢
          cases hs : setKey ek k v es with
          | none => rw [hs] at h'; cases h'
          | some l =>
            rw [hs] at h'
            obtain ⟨l', h1, h2⟩ := setKey_r hk hv t hs
            rw [h1]
            obtain rfl := Option.some.inj h'
            exact ⟨_, rfl, .cons ha hb h2⟩
theorem keyFits_r {ek : EK} {k k' : AVal} (hk : Vr σ k k') (h : keyFits ek k = true) : keyFits ek k' = true := by
  unfold keyFits at h
  split at h
  · cases hk; rfl
  · cases hk; rfl
  · cases hk with
    | agg hl => show Nat.beq _ _ = true; rw [llen_eq, ← hl.length]; simpa using h
  · cases h
theorem bytesOf_r : ∀ {l m : List AVal} {b : List Nat}, Vrs σ l m → bytesOf l = some b → bytesOf m = some b
  | [], _, _, h, e => by cases h; exact e
  | x :: l, _, b, h, e => by
    cases h with
    | cons hx t =>
      have e' : (match (generalizing := false) x, bytesOf l with | .int .u8 (.ofNat n), some t => bif Nat.blt n 256 then some (n :: t) else none | _, _ => none) = some b := e
      split at e'
      · rename_i n t' hq
        cases hx
        show (match (AVal.int .u8 (.ofNat n)), bytesOf _ with | .int .u8 (.ofNat n), some t => bif Nat.blt n 256 then some (n :: t) else none | _, _ => none) = some b
        rw [bytesOf_r t hq]
        exact e'
      · cases e'
theorem single_r {l m : List AVal} {v : AVal} (h : Vrs σ l m) (e : single l = some v) : ∃ v', single m = some v' ∧ Vr σ v v' := by
  unfold single at e
  split at e
  · cases h with
    | cons hx t => cases t; obtain rfl := Option.some.inj e; exact ⟨_, rfl, hx⟩
  · cases e
theorem cellsVal_r {agg : Bool} {l m : List AVal} {v : AVal} (h : Vrs σ l m) (e : (bif agg then some (AVal.agg l) else single l) = some v) : ∃ v', (bif agg then some (AVal.agg m) else single m) = some v' ∧ Vr σ v v' := by
  cases agg with
  | true => obtain rfl := Option.some.inj e; exact ⟨_, rfl, .agg h⟩
  | false => exact single_r h e
end
end Go.Avm
