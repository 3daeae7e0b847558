/-
  What the abstract machine's memory says of the model's: where things lie, which values are alike.
-/
import Derived.Test.YteoeidhcmcacbaaGreatDoorBase
import Derived.Below
import Derived.Laws.IdiomCopy
import Derived.Laws.IdiomStrings
set_option linter.unusedVariables false
set_option linter.unusedSimpArgs false
namespace Go.Avm
open Go.RowKit (Below)

/-- Where a version of a row lies: its block, the cell where lo lies, and the block's size. -/
structure Loc where
  b : Nat
  o : Nat
  lo : Nat
  bs : Nat

def Loc.at (L : Loc) (x : Nat) : Addr := ⟨L.b, L.o + (x - L.lo), none⟩

/-- Where things lie. -/
structure Emb where
  row : Nat → Nat → Option Loc
  mp : Nat → Option Nat

/-- Values are alike. -/
inductive V (ρ : Emb) : AVal → Value → Prop
  | junk (v : Value) : V ρ .junk v
  | bool (b : Bool) : V ρ (.bool b) (.bool b)
  | int (k : IntKind) (n : Int) : V ρ (.int k n) (.int k n)
  | str (s : List Nat) (b : ByteArray) (h : b.data.toList.map (·.toNat) = s) : V ρ (.str s) (.string b)
  | ptr (g x v : Nat) (L : Loc) (h : ρ.row g v = some L) (hx : L.lo ≤ x) : V ρ (.ptr g x v) (.pointer (some (L.at x)))
  | nilptr : V ρ .nilptr (.pointer none)
  | slice (g off len sz v : Nat) (cap : Option Nat) (L : Loc) (c : Nat) (h : ρ.row g v = some L) (hx : L.lo ≤ off) (hl : len ≤ c) (hc : ∀ k, cap = some k → c = k)
      (hr : L.o + (off - L.lo) + c * sz ≤ L.bs) : V ρ (.slice g off len sz v cap) (.slice (some (L.at off)) len c)
  | slice0 (g off sz v : Nat) (cap : Option Nat) (L : Loc) (a : Addr) (h : ρ.row g v = some L) (hx : L.lo ≤ off) (hc : ∀ k, cap = some k → k = 0) : V ρ (.slice g off 0 sz v cap) (.slice (some a) 0 0)
  | nilslice : V ρ .nilslice (.slice none 0 0)
  | map (r k : Nat) (h : ρ.mp r = some k) : V ρ (.map r) (.map (some k))
  | nilmap : V ρ .nilmap (.map none)
  | func (f : Nat) (a b : List AVal) (A B : Array Value) (ha : a.length = A.size) (hb : b.length = B.size)
      (hA : ∀ (i : Nat) (x : AVal) (y : Value), a[i]? = some x → A[i]? = some y → V ρ x y) (hB : ∀ (i : Nat) (x : AVal) (y : Value), b[i]? = some x → B[i]? = some y → V ρ x y) : V ρ (.func f a b) (.func (.func f) A B)
  | nilfunc : V ρ .nilfunc .nilFunc
  | iface (t : Nat) (v : AVal) (v' : Value) (h : V ρ v v') : V ρ (.iface t v) (.iface t v')
  | niliface : V ρ .niliface .nilIface
  | agg (cs : List AVal) (C : Array Value) (hl : cs.length = C.size) (h : ∀ (i : Nat) (x : AVal) (y : Value), cs[i]? = some x → C[i]? = some y → V ρ x y) : V ρ (.agg cs) (.agg C)
  | tuple (cs : List AVal) (C : Array Value) (hl : cs.length = C.size) (h : ∀ (i : Nat) (x : AVal) (y : Value), cs[i]? = some x → C[i]? = some y → V ρ x y) : V ρ (.tuple cs) (.tuple C)

/-- Rows of values are alike. -/
inductive Vs (ρ : Emb) : List AVal → List Value → Prop
  | nil : Vs ρ [] []
  | cons {x : AVal} {y : Value} {l : List AVal} {L : List Value} (h : V ρ x y) (t : Vs ρ l L) : Vs ρ (x :: l) (y :: L)

section
variable {ρ ρ' : Emb}
theorem Vs.length {l : List AVal} {L : List Value} (h : Vs ρ l L) : l.length = L.length := by
  induction h with
  | nil => rfl
  | cons _ _ ih => simp [ih]
theorem Vs.get {l : List AVal} {L : List Value} (h : Vs ρ l L) : ∀ {i : Nat} {x : AVal} {y : Value}, l[i]? = some x → L[i]? = some y → V ρ x y := by
  induction h with
  | nil => intro i x y h1; simp at h1
  | cons hh _ ih =>
    intro i x y h1 h2
    cases i with
    | zero => simp at h1 h2; subst h1; subst h2; exact hh
    | succ i => exact ih (by simpa using h1) (by simpa using h2)
theorem Vs.of : ∀ {l : List AVal} {L : List Value}, l.length = L.length → (∀ (i : Nat) (x : AVal) (y : Value), l[i]? = some x → L[i]? = some y → V ρ x y) → Vs ρ l L
  | [], [], _, _ => .nil
  | [], _ :: _, h, _ => by simp at h
  | _ :: _, [], h, _ => by simp at h
  | x :: l, y :: L, h, hh => .cons (hh 0 x y rfl rfl) (Vs.of (by simpa using h) fun i a b h1 h2 => hh (i + 1) a b (by simpa using h1) (by simpa using h2))
theorem Vs.append {l m : List AVal} {L M : List Value} (h : Vs ρ l L) (k : Vs ρ m M) : Vs ρ (l ++ m) (L ++ M) := by
  induction h with
  | nil => exact k
  | cons hh _ ih => exact .cons hh ih
theorem Vs.take {l : List AVal} {L : List Value} (h : Vs ρ l L) : ∀ n, Vs ρ (l.take n) (L.take n) := by
  induction h with
  | nil => intro n; simp; exact .nil
  | cons hh _ ih => intro n; cases n with
    | zero => exact .nil
    | succ n => exact .cons hh (ih n)
theorem Vs.drop {l : List AVal} {L : List Value} (h : Vs ρ l L) : ∀ n, Vs ρ (l.drop n) (L.drop n) := by
  induction h with
  | nil => intro n; simp; exact .nil
  | cons hh t ih => intro n; cases n with
    | zero => exact .cons hh t
    | succ n => exact ih n
theorem V.agg' {cs : List AVal} {C : Array Value} (h : Vs ρ cs C.toList) : V ρ (.agg cs) (.agg C) :=
  .agg _ _ (by simpa using h.length) fun i x y h1 h2 => h.get h1 (by simpa using h2)
theorem V.tuple' {cs : List AVal} {C : Array Value} (h : Vs ρ cs C.toList) : V ρ (.tuple cs) (.tuple C) :=
  .tuple _ _ (by simpa using h.length) fun i x y h1 h2 => h.get h1 (by simpa using h2)
theorem V.func' {f : Nat} {a b : List AVal} {A B : Array Value} (ha : Vs ρ a A.toList) (hb : Vs ρ b B.toList) : V ρ (.func f a b) (.func (.func f) A B) :=
  .func _ _ _ _ _ (by simpa using ha.length) (by simpa using hb.length) (fun i x y h1 h2 => ha.get h1 (by simpa using h2)) (fun i x y h1 h2 => hb.get h1 (by simpa using h2))
theorem V.cells_agg {cs : List AVal} {v : Value} (h : V ρ (.agg cs) v) : ∃ C : Array Value, v = .agg C ∧ Vs ρ cs C.toList := by
  cases h with
  | agg _ C hl h => exact ⟨C, rfl, .of (by simpa using hl) fun i x y h1 h2 => h i x y h1 (by simpa using h2)⟩
theorem V.cells_tuple {cs : List AVal} {v : Value} (h : V ρ (.tuple cs) v) : ∃ C : Array Value, v = .tuple C ∧ Vs ρ cs C.toList := by
  cases h with
  | tuple _ C hl h => exact ⟨C, rfl, .of (by simpa using hl) fun i x y h1 h2 => h i x y h1 (by simpa using h2)⟩
theorem V.parts_func {f : Nat} {a b : List AVal} {v : Value} (h : V ρ (.func f a b) v) : ∃ A B : Array Value, v = .func (.func f) A B ∧ Vs ρ a A.toList ∧ Vs ρ b B.toList := by
  cases h with
  | func _ _ _ A B ha hb hA hB =>
    exact ⟨A, B, rfl, .of (by simpa using ha) fun i x y h1 h2 => hA i x y h1 (by simpa using h2), .of (by simpa using hb) fun i x y h1 h2 => hB i x y h1 (by simpa using h2)⟩

/-- All that lies somewhere lies there still. -/
structure Ext (ρ ρ' : Emb) : Prop where
  row : ∀ g v L, ρ.row g v = some L → ρ'.row g v = some L
  mp : ∀ r k, ρ.mp r = some k → ρ'.mp r = some k
theorem Ext.refl (ρ : Emb) : Ext ρ ρ := ⟨fun _ _ _ h => h, fun _ _ h => h⟩
theorem Ext.trans {ρ'' : Emb} (h : Ext ρ ρ') (k : Ext ρ' ρ'') : Ext ρ ρ'' := ⟨fun g v L e => k.row g v L (h.row g v L e), fun r n e => k.mp r n (h.mp r n e)⟩
theorem V.mono (e : Ext ρ ρ') {x : AVal} {y : Value} (h : V ρ x y) : V ρ' x y := by
  induction h with
  | junk v => exact .junk v
  | bool b => exact .bool b
  | int k n => exact .int k n
  | str s b h => exact .str s b h
  | ptr g x v L h hx => exact .ptr g x v L (e.row _ _ _ h) hx
  | nilptr => exact .nilptr
  | slice g off len sz v cap L c h hx hl hc hr => exact .slice g off len sz v cap L c (e.row _ _ _ h) hx hl hc hr
  | slice0 g off sz v cap L a h hx hc => exact .slice0 g off sz v cap L a (e.row _ _ _ h) hx hc
  | nilslice => exact .nilslice
  | map r k h => exact .map r k (e.mp _ _ h)
  | nilmap => exact .nilmap
  | func f a b A B ha hb _ _ iA iB => exact .func f a b A B ha hb iA iB
  | nilfunc => exact .nilfunc
  | iface t v v' _ ih => exact .iface t v v' ih
  | niliface => exact .niliface
  | agg cs C hl _ ih => exact .agg cs C hl ih
  | tuple cs C hl _ ih => exact .tuple cs C hl ih
theorem Vs.mono (e : Ext ρ ρ') {l : List AVal} {L : List Value} (h : Vs ρ l L) : Vs ρ' l L := by
  induction h with
  | nil => exact .nil
  | cons h _ ih => exact .cons (h.mono e) ih

/-- The cells of values that are alike are alike, but for what is not known. -/
theorem V.cells {x : AVal} {y : Value} (h : V ρ x y) (hj : x ≠ .junk) : Vs ρ x.cells y.cells.toList := by
  cases h with
  | junk v => exact absurd rfl hj
  | agg cs C hl h => exact .of (by simpa [AVal.cells, Value.cells] using hl) fun i x y h1 h2 => h i x y h1 (by simpa [Value.cells] using h2)
  | bool b => exact .cons (.bool b) .nil
  | int k n => exact .cons (.int k n) .nil
  | str s b h => exact .cons (.str s b h) .nil
  | ptr g x v L h hx => exact .cons (.ptr g x v L h hx) .nil
  | nilptr => exact .cons .nilptr .nil
  | slice g off len sz v cap L c h hx hl hc hr => exact .cons (.slice g off len sz v cap L c h hx hl hc hr) .nil
  | slice0 g off sz v cap L a h hx hc => exact .cons (.slice0 g off sz v cap L a h hx hc) .nil
  | nilslice => exact .cons .nilslice .nil
  | map r k h => exact .cons (.map r k h) .nil
  | nilmap => exact .cons .nilmap .nil
  | func f a b A B ha hb hA hB => exact .cons (.func f a b A B ha hb hA hB) .nil
  | nilfunc => exact .cons .nilfunc .nil
  | iface t v v' h => exact .cons (.iface t v v' h) .nil
  | niliface => exact .cons .niliface .nil
  | tuple cs C hl h => exact .cons (.tuple cs C hl h) .nil
end

/-- The entries of maps are alike. -/
inductive Ms (ρ : Emb) : List (AVal × AVal) → List MapEntry → Prop
  | nil : Ms ρ [] []
  | cons {k v : AVal} {e : MapEntry} {l : List (AVal × AVal)} {L : List MapEntry} (hk : V ρ k e.key) (hv : V ρ v e.val) (t : Ms ρ l L) : Ms ρ ((k, v) :: l) (e :: L)
theorem Ms.mono {ρ ρ' : Emb} (e : Ext ρ ρ') {l : List (AVal × AVal)} {L : List MapEntry} (h : Ms ρ l L) : Ms ρ' l L := by
  induction h with
  | nil => exact .nil
  | cons hk hv _ ih => exact .cons (hk.mono e) (hv.mono e) ih
theorem Ms.length {ρ : Emb} {l : List (AVal × AVal)} {L : List MapEntry} (h : Ms ρ l L) : l.length = L.length := by
  induction h with
  | nil => rfl
  | cons _ _ _ ih => simp [ih]

/-- What is known of a version of a row. B: the first block that may be written. -/
structure RowAt (B : Nat) (ρ : Emb) (w : World) (cs : List AVal) (cur : Nat) (exts : List Nat) (ro : Bool) (v : Nat) (L : Loc) : Prop where
  ver : v ≤ cur
  shape : ∃ e, w.shape? L.b = some (e, L.bs)
  own : ro = false → B ≤ L.b ∧ ∀ i, i < L.bs → w.frozen? ⟨L.b, i, none⟩ = false
  le : ∀ e, exts[cur - v]? = some e → e ≤ cs.length
  cells : ∀ e, exts[cur - v]? = some e → ∀ x, L.lo ≤ x → x < e → ∃ c y, cs[x]? = some c ∧ w.cell? (L.at x) = some y ∧ V ρ c y ∧ c.one = true

/-- The memories are alike. -/
structure Rel (B : Nat) (ρ : Emb) (s : AS) (w : World) : Prop where
  base : B ≤ w.heap.size
  row : ∀ g v L, ρ.row g v = some L → g < s.nx ∧ ∃ cs cur exts ro, s.get g = some (.row cs cur exts ro) ∧ RowAt B ρ w cs cur exts ro v L
  mp : ∀ r k, ρ.mp r = some k → r < s.nx ∧ B ≤ k ∧ ∃ es Es ck, s.get r = some (.map es) ∧ w.heap[k]? = some (.map Es ck) ∧ Ms ρ es Es.toList
  disj : ∀ g v L g' v' L', ρ.row g v = some L → ρ.row g' v' = some L' → L.b = L'.b → g = g' ∧ L.o + L'.lo = L'.o + L.lo
  mdisj : ∀ r r' k, ρ.mp r = some k → ρ.mp r' = some k → r = r'

def Mapped (ρ : Emb) (g : Nat) : Prop := (∃ v L, ρ.row g v = some L) ∨ ∃ k, ρ.mp g = some k

/-- What a piece of a run does. -/
structure Step (B : Nat) (ρ : Emb) (s : AS) (w : World) (ρ' : Emb) (s' : AS) (w' : World) : Prop where
  ext : Ext ρ ρ'
  dom : ∀ g, Mapped ρ' g → Mapped ρ g ∨ s.nx ≤ g
  kept : ∀ g, g < s.nx → ¬ Mapped ρ g → s'.get g = s.get g
  nx : s.nx ≤ s'.nx
  below : Below B w w'

theorem Step.refl (B : Nat) (ρ : Emb) (s : AS) (w : World) : Step B ρ s w ρ s w :=
  ⟨.refl ρ, fun _ h => .inl h, fun _ _ _ => rfl, Nat.le_refl _, .refl _ _⟩
theorem Step.trans {B : Nat} {ρ ρ' ρ'' : Emb} {s s' s'' : AS} {w w' w'' : World} (h : Step B ρ s w ρ' s' w') (k : Step B ρ' s' w' ρ'' s'' w'') : Step B ρ s w ρ'' s'' w'' := by
  refine ⟨h.ext.trans k.ext, fun g hg => ?_, fun g hg hm => ?_, Nat.le_trans h.nx k.nx, h.below.trans k.below⟩
  · rcases k.dom g hg with h1 | h1
    · exact h.dom g h1
    · exact .inr (Nat.le_trans h.nx h1)
  · have hm' : ¬ Mapped ρ' g := fun e => (h.dom g e).elim hm (fun e => absurd hg (Nat.not_lt.2 e))
    rw [k.kept g (Nat.lt_of_lt_of_le hg h.nx) hm', h.kept g hg hm]

theorem Rel.lt {B : Nat} {ρ : Emb} {s : AS} {w : World} (h : Rel B ρ s w) {g : Nat} (m : Mapped ρ g) : g < s.nx := by
  rcases m with ⟨v, L, e⟩ | ⟨k, e⟩
  · exact (h.row _ _ _ e).1
  · exact (h.mp _ _ e).1

/-- The world may draw. -/
theorem Rel.same {B : Nat} {ρ : Emb} {s : AS} {w w' : World} (h : Rel B ρ s w) (e : w'.heap = w.heap) : Rel B ρ s w' := by
  refine ⟨e ▸ h.base, fun g v L hL => ?_, fun r k hk => ?_, h.disj, h.mdisj⟩
  · obtain ⟨h1, cs, cur, exts, ro, h2, h3⟩ := h.row g v L hL
    refine ⟨h1, cs, cur, exts, ro, h2, h3.ver, ?_, ?_, h3.le, ?_⟩
    · simpa [World.shape?, e] using h3.shape
    · simpa [World.frozen?, e] using h3.own
    · simpa [World.cell?, e] using h3.cells
  · rw [e]; exact h.mp r k hk

/-- A thing that is not known of yet is put down. -/
theorem Rel.new {B : Nat} {ρ : Emb} {s : AS} {w : World} (h : Rel B ρ s w) (o : AObj) : Rel B ρ (s.new o) w := by
  refine ⟨h.base, fun g v L hL => ?_, fun r k hk => ?_, h.disj, h.mdisj⟩
  · obtain ⟨h1, cs, cur, exts, ro, h2, h3⟩ := h.row g v L hL
    exact ⟨Nat.lt_succ_of_lt h1, cs, cur, exts, ro, by rw [AS.get_new, if_neg (by omega)]; exact h2, h3⟩
  · obtain ⟨h1, h2, es, Es, ck, h3, h4⟩ := h.mp r k hk
    exact ⟨Nat.lt_succ_of_lt h1, h2, es, Es, ck, by rw [AS.get_new, if_neg (by omega)]; exact h3, h4⟩

theorem heap_alloc_lt (w : World) (o : Obj) {k : Nat} (h : k < w.heap.size) : (w.alloc o).heap[k]? = w.heap[k]? := by
  show (w.heap.push o)[k]? = _
  rw [Array.getElem?_push, if_neg (by omega)]
theorem heap_alloc_new (w : World) (o : Obj) : (w.alloc o).heap[w.heap.size]? = some o := by
  show (w.heap.push o)[w.heap.size]? = _
  rw [Array.getElem?_push, if_pos rfl]
theorem shape_lt {w : World} {b : Nat} {x : TypeId × Nat} (h : w.shape? b = some x) : b < w.heap.size := by
  unfold World.shape? at h
  cases hb : w.heap[b]? with
  | none => rw [hb] at h; cases h
  | some o => exact (Array.getElem?_eq_some_iff.1 hb).1

/-- A row of cells has been made. -/
theorem Rel.alloc {B : Nat} {ρ : Emb} {s : AS} {w : World} (h : Rel B ρ s w) {g : Nat} {cs : List AVal} (hg : s.get g = some (oneRow cs)) (hlt : g < s.nx) (hm : ¬ Mapped ρ g)
    (C : Array Value) (e : TypeId) (fr : Nat × Nat) (hfr : ∀ i, i < C.size → (fr.1 ≤ i ∧ i < fr.2) = False) (hle : cs.length ≤ C.size) (hone : ∀ c ∈ cs, c.one = true)
    (hC : ∀ (i : Nat) (x : AVal) (y : Value), cs[i]? = some x → C[i]? = some y → V ρ x y) :
    ∃ ρ', Rel B ρ' s (w.alloc (.cells C e fr)) ∧ Ext ρ ρ' ∧ (∀ k, Mapped ρ' k → Mapped ρ k ∨ k = g) ∧ ρ'.row g 0 = some ⟨w.heap.size, 0, 0, C.size⟩ := by
  let L0 : Loc := ⟨w.heap.size, 0, 0, C.size⟩
  let ρ' : Emb := { row := fun g' v => if g' = g then (if v = 0 then some L0 else none) else ρ.row g' v, mp := ρ.mp }
  have hex : Ext ρ ρ' := ⟨fun g' v L hL => by
    show (if g' = g then _ else _) = _
    rw [if_neg (show ¬ g' = g from fun h0 => hm (.inl ⟨v, L, h0 ▸ hL⟩))]; exact hL, fun _ _ h => h⟩
  have hnew : ∀ v L, ρ'.row g v = some L → v = 0 ∧ L = L0 := fun v L hL => by
    have hL' : (if g = g then (if v = 0 then some L0 else none) else ρ.row g v) = some L := hL
    rw [if_pos rfl] at hL'
    by_cases hv : v = 0
    · rw [if_pos hv] at hL'; exact ⟨hv, (Option.some.inj hL').symm⟩
    · rw [if_neg hv] at hL'; cases hL'
  have hold : ∀ g' v L, g' ≠ g → ρ'.row g' v = some L → ρ.row g' v = some L := fun g' v L hne hL => by
    have hL' : (if g' = g then (if v = 0 then some L0 else none) else ρ.row g' v) = some L := hL
    rw [if_neg hne] at hL'; exact hL'
  have hob : ∀ g' v L, ρ.row g' v = some L → L.b < w.heap.size := fun g' v L hL => by
    obtain ⟨_, _, _, _, _, _, h3⟩ := h.row g' v L hL
    obtain ⟨_, h4⟩ := h3.shape
    exact shape_lt h4
  refine ⟨ρ', ⟨?_, ?_, ?_, ?_, h.mdisj⟩, hex, ?_, ?_⟩
  · show B ≤ (w.heap.push _).size
    have := h.base; simp; omega
  · intro g' v L hL
    by_cases hgg : g' = g
    · subst hgg
      obtain ⟨rfl, rfl⟩ := hnew v L hL
      refine ⟨hlt, cs, 0, [cs.length], false, by rw [hg]; simp [oneRow], Nat.le_refl _, ⟨e, ?_⟩, fun _ => ⟨h.base, fun i hi => ?_⟩, fun x hx => ?_, fun x hx j h1 h2 => ?_⟩
      · show World.shape? _ w.heap.size = _
        unfold World.shape?; rw [heap_alloc_new]
      · show World.frozen? _ ⟨w.heap.size, i, none⟩ = false
        have := hfr i hi
        unfold World.frozen?; rw [heap_alloc_new]
        simpa using this
      · simp at hx; omega
      · simp at hx; subst hx
        obtain ⟨c, hc⟩ : ∃ c, cs[j]? = some c := ⟨cs[j], by simp⟩
        have hj : j < C.size := by omega
        refine ⟨c, C[j], hc, ?_, (hC j c C[j] hc (by simp [hj])).mono hex, hone c (List.mem_of_getElem? hc)⟩
        show World.cell? _ ⟨w.heap.size, 0 + (j - 0), none⟩ = _
        unfold World.cell?; rw [heap_alloc_new]; simp [hj]
    · have hL0 := hold g' v L hgg hL
      obtain ⟨h1, cs', cur, exts, ro, h2, h3⟩ := h.row g' v L hL0
      have hb := hob g' v L hL0
      refine ⟨h1, cs', cur, exts, ro, h2, h3.ver, ?_, fun hro => ⟨(h3.own hro).1, fun i hi => ?_⟩, h3.le, fun x hx j h4 h5 => ?_⟩
      · simpa only [World.shape?, heap_alloc_lt w _ hb] using h3.shape
      · have := (h3.own hro).2 i hi
        simpa only [World.frozen?, heap_alloc_lt w _ hb] using this
      · obtain ⟨c, y, h6, h7, h8, h9⟩ := h3.cells x hx j h4 h5
        exact ⟨c, y, h6, by simpa only [World.cell?, Loc.at, heap_alloc_lt w _ hb] using h7, h8.mono hex, h9⟩
  · intro r k hk
    obtain ⟨h1, h2, es, Es, ck, h3, h4, h5⟩ := h.mp r k hk
    have hkb : k < w.heap.size := (Array.getElem?_eq_some_iff.1 h4).1
    exact ⟨h1, h2, es, Es, ck, h3, by rw [heap_alloc_lt w _ hkb]; exact h4, h5.mono hex⟩
  · intro g1 v1 L1 g2 v2 L2 h1 h2 hb
    by_cases e1 : g1 = g
    · subst e1
      obtain ⟨rfl, rfl⟩ := hnew _ _ h1
      by_cases e2 : g2 = g1
      · subst e2
        obtain ⟨rfl, rfl⟩ := hnew _ _ h2
        exact ⟨rfl, rfl⟩
      · have := hob _ _ _ (hold _ _ _ e2 h2)
        rw [← hb] at this; exact absurd this (Nat.lt_irrefl _)
    · by_cases e2 : g2 = g
      · subst e2
        obtain ⟨rfl, rfl⟩ := hnew _ _ h2
        have := hob _ _ _ (hold _ _ _ e1 h1)
        rw [hb] at this; exact absurd this (Nat.lt_irrefl _)
      · exact h.disj _ _ _ _ _ _ (hold _ _ _ e1 h1) (hold _ _ _ e2 h2) hb
  · intro k hk
    rcases hk with ⟨v, L, hL⟩ | hk
    · by_cases e : k = g
      · exact .inr e
      · exact .inl (.inl ⟨v, L, hold _ _ _ e hL⟩)
    · exact .inl (.inr hk)
  · show (if g = g then (if (0 : Nat) = 0 then some L0 else none) else _) = _
    simp [L0]
end Go.Avm
