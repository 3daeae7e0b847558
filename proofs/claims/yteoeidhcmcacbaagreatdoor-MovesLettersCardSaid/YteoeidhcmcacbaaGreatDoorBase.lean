/-
  Plain facts on the abstract machine's words: trees, lists, numbers.
-/
import Derived.Test.YteoeidhcmcacbaaGreatDoorAvm
set_option linter.unusedVariables false
set_option linter.unusedSimpArgs false
namespace Go.Avm
namespace Tr
variable {α : Type}
theorem get_e (k : Nat) : (Tr.e : Tr α).get k = none := rfl
theorem get_n (l r : Tr α) (v : Option α) (k : Nat) :
    (Tr.n l v r).get k = if k = 0 then v else if k % 2 = 1 then l.get (k / 2) else r.get (k / 2 - 1) := by
  show (Bool.rec (Bool.rec (r.get (k / 2 - 1)) (l.get (k / 2)) (Nat.beq (k % 2) 1)) v (Nat.beq k 0) : Option α) = _
  by_cases h : k = 0
  · subst h; rfl
  · rw [if_neg h, show Nat.beq k 0 = false from Bool.eq_false_iff.2 (fun e => h (Nat.eq_of_beq_eq_true e))]
    by_cases h2 : k % 2 = 1
    · rw [if_pos h2, h2]; rfl
    · rw [if_neg h2, show Nat.beq (k % 2) 1 = false from Bool.eq_false_iff.2 (fun e => h2 (Nat.eq_of_beq_eq_true e))]
theorem one_zero (k : Nat) (x : α) : one 0 k x = .n .e (some x) .e := rfl
theorem one_succ (d k : Nat) (x : α) :
    one (d + 1) k x = if k = 0 then .n .e (some x) .e else if k % 2 = 1 then .n (one d (k / 2) x) none .e else .n .e none (one d (k / 2 - 1) x) := by
  show (Bool.rec (Bool.rec (.n .e none (one d (k / 2 - 1) x)) (.n (one d (k / 2) x) none .e) (Nat.beq (k % 2) 1)) (.n .e (some x) .e) (Nat.beq k 0) : Tr α) = _
  by_cases h : k = 0
  · subst h; rfl
  · rw [if_neg h, show Nat.beq k 0 = false from Bool.eq_false_iff.2 (fun e => h (Nat.eq_of_beq_eq_true e))]
    by_cases h2 : k % 2 = 1
    · rw [if_pos h2, h2]; rfl
    · rw [if_neg h2, show Nat.beq (k % 2) 1 = false from Bool.eq_false_iff.2 (fun e => h2 (Nat.eq_of_beq_eq_true e))]
theorem set_e (k : Nat) (x : α) : (Tr.e : Tr α).set k x = one k k x := rfl
theorem set_n (l r : Tr α) (v : Option α) (k : Nat) (x : α) :
    (Tr.n l v r).set k x = if k = 0 then .n l (some x) r else if k % 2 = 1 then .n (l.set (k / 2) x) v r else .n l v (r.set (k / 2 - 1) x) := by
  show (Bool.rec (Bool.rec (.n l v (r.set (k / 2 - 1) x)) (.n (l.set (k / 2) x) v r) (Nat.beq (k % 2) 1)) (.n l (some x) r) (Nat.beq k 0) : Tr α) = _
  by_cases h : k = 0
  · subst h; rfl
  · rw [if_neg h, show Nat.beq k 0 = false from Bool.eq_false_iff.2 (fun e => h (Nat.eq_of_beq_eq_true e))]
    by_cases h2 : k % 2 = 1
    · rw [if_pos h2, h2]; rfl
    · rw [if_neg h2, show Nat.beq (k % 2) 1 = false from Bool.eq_false_iff.2 (fun e => h2 (Nat.eq_of_beq_eq_true e))]
theorem get_one (d : Nat) : ∀ (k : Nat) (x : α) (j : Nat), k ≤ d → (one d k x).get j = if j = k then some x else none := by
  induction d with
  | zero =>
    intro k x j h
    obtain rfl : k = 0 := by omega
    rw [one_zero, get_n]
    by_cases hj : j = 0
    · rw [if_pos hj, if_pos hj]
    · rw [if_neg hj, if_neg hj]; split <;> rfl
  | succ d ih =>
    intro k x j h
    rw [one_succ]
    by_cases hk : k = 0
    · subst hk
      rw [if_pos rfl, get_n]
      by_cases hj : j = 0
      · rw [if_pos hj, if_pos hj]
      · rw [if_neg hj, if_neg hj]; split <;> rfl
    · rw [if_neg hk]
      by_cases h2 : k % 2 = 1
      · rw [if_pos h2, get_n]
        by_cases hj : j = 0
        · rw [if_pos hj, if_neg (by omega)]
        · rw [if_neg hj]
          by_cases hj2 : j % 2 = 1
          · rw [if_pos hj2, ih _ _ _ (by omega)]
            by_cases e : j = k
            · subst e; simp
            · rw [if_neg e, if_neg (by omega)]
          · rw [if_neg hj2, get_e, if_neg (by omega)]
      · rw [if_neg h2, get_n]
        by_cases hj : j = 0
        · rw [if_pos hj, if_neg (by omega)]
        · rw [if_neg hj]
          by_cases hj2 : j % 2 = 1
          · rw [if_pos hj2, get_e, if_neg (by omega)]
          · rw [if_neg hj2, ih _ _ _ (by omega)]
            by_cases e : j = k
            · subst e; simp
            · rw [if_neg e, if_neg (by omega)]
theorem get_set (t : Tr α) : ∀ (k : Nat) (x : α) (j : Nat), (t.set k x).get j = if j = k then some x else t.get j := by
  induction t with
  | e => intro k x j; rw [set_e, get_one k k x j (Nat.le_refl _), get_e]
  | n l v r il ir =>
    intro k x j
    rw [set_n]
    by_cases hk : k = 0
    · subst hk
      rw [if_pos rfl, get_n, get_n]
      by_cases hj : j = 0
      · simp [hj]
      · simp [hj]
    · rw [if_neg hk]
      by_cases h2 : k % 2 = 1
      · rw [if_pos h2, get_n, get_n]
        by_cases hj : j = 0
        · rw [if_pos hj, if_neg (by omega), if_pos hj]
        · rw [if_neg hj, if_neg hj]
          by_cases hj2 : j % 2 = 1
          · rw [if_pos hj2, if_pos hj2, il]
            by_cases e : j = k
            · subst e; simp
            · rw [if_neg e, if_neg (by omega)]
          · rw [if_neg hj2, if_neg hj2, if_neg (by omega)]
      · rw [if_neg h2, get_n, get_n]
        by_cases hj : j = 0
        · rw [if_pos hj, if_neg (by omega), if_pos hj]
        · rw [if_neg hj, if_neg hj]
          by_cases hj2 : j % 2 = 1
          · rw [if_pos hj2, if_pos hj2, if_neg (by omega)]
          · rw [if_neg hj2, if_neg hj2, ir]
            by_cases e : j = k
            · subst e; simp
            · rw [if_neg e, if_neg (by omega)]
end Tr

section
variable {α β : Type}
@[simp] theorem nth_eq (l : List α) : ∀ n, nth l n = l[n]? := by
  induction l with
  | nil => intro n; simp [nth]
  | cons a l ih =>
    intro n
    cases n with
    | zero => rfl
    | succ n => show nth l n = _; rw [ih]; simp
@[simp] theorem ldrop_eq (l : List α) : ∀ n, ldrop l n = l.drop n := by
  induction l with
  | nil => intro n; simp [ldrop]
  | cons a l ih =>
    intro n
    cases n with
    | zero => rfl
    | succ n => show ldrop l n = _; rw [ih]; simp
@[simp] theorem ltake_eq (l : List α) : ∀ n, ltake l n = l.take n := by
  induction l with
  | nil => intro n; simp [ltake]
  | cons a l ih =>
    intro n
    cases n with
    | zero => rfl
    | succ n => show a :: ltake l n = _; rw [ih]; simp
@[simp] theorem lapp_eq (l m : List α) : lapp l m = l ++ m := by
  induction l with
  | nil => rfl
  | cons a l ih => show a :: lapp l m = _; rw [ih]; rfl
theorem llen_go (l : List α) : ∀ n, (List.rec (motive := fun _ => Nat → Nat) (fun n => n) (fun _ _ ih n => ih (Nat.succ n)) l n : Nat) = l.length + n := by
  induction l with
  | nil => intro n; simp
  | cons a l ih =>
    intro n
    show (List.rec (motive := fun _ => Nat → Nat) (fun n => n) (fun _ _ ih n => ih (Nat.succ n)) l (n + 1) : Nat) = _
    rw [ih]; simp; omega
@[simp] theorem llen_eq (l : List α) : llen l = l.length := llen_go l 0
@[simp] theorem lmap_eq (f : α → β) (l : List α) : lmap f l = l.map f := by
  induction l with
  | nil => rfl
  | cons a l ih => show f a :: lmap f l = _; rw [ih]; rfl
end
theorem ble_iff {a b : Nat} : Nat.ble a b = true ↔ a ≤ b := by rw [Nat.ble_eq]
theorem blt_iff {a b : Nat} : Nat.blt a b = true ↔ a < b := by rw [Nat.blt_eq]
theorem beqN_iff {a b : Nat} : Nat.beq a b = true ↔ a = b := ⟨Nat.eq_of_beq_eq_true, fun h => by subst h; exact Nat.beq_refl a⟩
theorem bif_some {α : Type} {c : Bool} {x : Option α} {y : α} (h : (bif c then x else none) = some y) : c = true ∧ x = some y := by cases c <;> simp_all
theorem bif_none {α : Type} {c : Bool} {x : Option α} {y : α} (h : (bif c then none else x) = some y) : c = false ∧ x = some y := by cases c <;> simp_all
theorem ones_iff (l : List AVal) : ones l = true ↔ ∀ c ∈ l, c.one = true := by
  induction l with
  | nil => simp [ones]
  | cons a l ih => show (a.one && ones l) = true ↔ _; rw [Bool.and_eq_true, ih]; simp
theorem beqL_eq (l : List Nat) : ∀ m, beqL l m = decide (l = m) := by
  induction l with
  | nil => intro m; cases m <;> simp [beqL]
  | cons a l ih =>
    intro m
    cases m with
    | nil => simp [beqL]
    | cons b m =>
      show (Bool.rec false (beqL l m) (Nat.beq a b) : Bool) = _
      rw [ih]
      by_cases h : a = b
      · subst h; simp [Nat.beq_refl]
      · rw [show Nat.beq a b = false from Bool.eq_false_iff.2 (fun e => h (Nat.eq_of_beq_eq_true e))]; simp [h]
theorem beqI_eq (a b : Int) : beqI a b = decide (a = b) := by
  have hb : ∀ m n : Nat, Nat.beq m n = decide (m = n) := fun m n => by
    by_cases h : m = n
    · subst h; simp [Nat.beq_refl]
    · rw [show Nat.beq m n = false from Bool.eq_false_iff.2 (fun e => h (Nat.eq_of_beq_eq_true e))]; simp [h]
  cases a with
  | ofNat a => cases b with
    | ofNat b => show Nat.beq a b = _; rw [hb]; simp only [decide_eq_decide, Int.ofNat_eq_natCast]; omega
    | negSucc b => simp [beqI]
  | negSucc a => cases b with
    | ofNat b => simp [beqI]
    | negSucc b => show Nat.beq a b = _; rw [hb]; simp
theorem bltI_eq (a b : Int) : bltI a b = decide (a < b) := by
  rw [Bool.eq_iff_iff, decide_eq_true_iff]
  cases a <;> cases b <;> simp [bltI, Nat.blt_eq] <;> omega
theorem beqK_eq (a b : IntKind) : beqK a b = decide (a = b) := by cases a <;> cases b <;> rfl
theorem idx_some {i : Int} {n m : Nat} (h : idx i n = some m) : i = (m : Int) ∧ m < n := by
  cases i with
  | ofNat k =>
    simp only [idx] at h
    cases hb : Nat.blt k n with
    | true => simp [hb] at h; subst h; exact ⟨rfl, by simpa [Nat.blt_eq] using hb⟩
    | false => simp [hb] at h
  | negSucc k => simp [idx] at h
theorem wrap_i64_in {n : Int} (h : -9223372036854775808 ≤ n ∧ n < 9223372036854775808) : IntKind.i64.wrap n = n := by
  have e64 : (2 : Int) ^ IntKind.i64.bits = 18446744073709551616 := by decide
  have e63 : (2 : Int) ^ (IntKind.i64.bits - 1) = 9223372036854775808 := by decide
  unfold IntKind.wrap
  simp only [e64, e63, IntKind.signed, Bool.true_and]
  split
  · rename_i h2; have := of_decide_eq_true h2; omega
  · rename_i h2; have : ¬ (n % 18446744073709551616 ≥ 9223372036854775808) := fun e => h2 (decide_eq_true e); omega
theorem wrap_u8 (m : Nat) : IntKind.u8.wrap (Int.ofNat m) = Int.ofNat (m % 256) := by
  have e : (2 : Int) ^ IntKind.u8.bits = 256 := by decide
  unfold IntKind.wrap
  simp only [e, IntKind.signed, Bool.false_and, Bool.false_eq_true, if_false]
  simp
theorem wrapF_eq : ∀ (k : IntKind) (n : Int), wrapF k n = k.wrap n
  | .i64, .ofNat m => by
    show (bif Nat.blt m 9223372036854775808 then Int.ofNat m else IntKind.i64.wrap (Int.ofNat m)) = _
    cases hb : Nat.blt m 9223372036854775808 with
    | true =>
      have hm : m < 9223372036854775808 := by simpa only [Nat.blt_eq] using hb
      rw [cond_true]
      exact (wrap_i64_in ⟨by simp only [Int.ofNat_eq_natCast]; omega, by simp only [Int.ofNat_eq_natCast]; omega⟩).symm
    | false => rw [cond_false]
  | .i64, .negSucc m => by
    show (bif Nat.blt m 9223372036854775808 then Int.negSucc m else IntKind.i64.wrap (Int.negSucc m)) = _
    cases hb : Nat.blt m 9223372036854775808 with
    | true =>
      have hm : m < 9223372036854775808 := by simpa only [Nat.blt_eq] using hb
      rw [cond_true]
      exact (wrap_i64_in ⟨by omega, by omega⟩).symm
    | false => rw [cond_false]
  | .u8, .ofNat m => (wrap_u8 m).symm
  | .u8, .negSucc _ => by unfold wrapF; rfl
  | .i8, .ofNat _ => by unfold wrapF; rfl
  | .i8, .negSucc _ => by unfold wrapF; rfl
  | .i16, .ofNat _ => by unfold wrapF; rfl
  | .i16, .negSucc _ => by unfold wrapF; rfl
  | .i32, .ofNat _ => by unfold wrapF; rfl
  | .i32, .negSucc _ => by unfold wrapF; rfl
  | .u16, .ofNat _ => by unfold wrapF; rfl
  | .u16, .negSucc _ => by unfold wrapF; rfl
  | .u32, .ofNat _ => by unfold wrapF; rfl
  | .u32, .negSucc _ => by unfold wrapF; rfl
  | .u64, .ofNat _ => by unfold wrapF; rfl
  | .u64, .negSucc _ => by unfold wrapF; rfl
theorem AS.get_eq (s : AS) (g : Nat) : s.get g = if g < s.nx then s.h.get g else none := by
  show (Bool.rec none (s.h.get g) (Nat.blt g s.nx) : Option AObj) = _
  by_cases h : g < s.nx
  · rw [blt_iff.2 h, if_pos h]
  · have : Nat.blt g s.nx = false := by
      cases hb : Nat.blt g s.nx with
      | false => rfl
      | true => exact absurd (blt_iff.1 hb) h
    rw [this, if_neg h]
theorem AS.lt_of_get {s : AS} {g : Nat} {o : AObj} (h : s.get g = some o) : g < s.nx := by
  rw [AS.get_eq] at h
  split at h
  · assumption
  · cases h
theorem AS.get_set_same (s : AS) {g : Nat} (o : AObj) (h : g < s.nx) : (s.set g o).get g = some o := by
  rw [AS.get_eq]
  show (if g < s.nx then (s.h.set g o).get g else none) = _
  rw [if_pos h, Tr.get_set, if_pos rfl]
theorem AS.get_set_ne (s : AS) {g : Nat} (o : AObj) {j : Nat} (h : ¬ j = g) : (s.set g o).get j = s.get j := by
  rw [AS.get_eq, AS.get_eq]
  show (if j < s.nx then (s.h.set g o).get j else none) = _
  rw [Tr.get_set, if_neg h]
theorem AS.get_new (s : AS) (o : AObj) (j : Nat) : (s.new o).get j = if j = s.nx then some o else s.get j := by
  rw [AS.get_eq, AS.get_eq]
  show (if j < s.nx + 1 then (s.h.set s.nx o).get j else none) = _
  rw [Tr.get_set]
  by_cases h : j = s.nx
  · rw [if_pos h, if_pos h, if_pos (by omega)]
  · rw [if_neg h, if_neg h]
    by_cases h2 : j < s.nx
    · rw [if_pos h2, if_pos (by omega)]
    · rw [if_neg h2, if_neg (by omega)]
@[simp] theorem AS.nx_set (s : AS) (g : Nat) (o : AObj) : (s.set g o).nx = s.nx := rfl
@[simp] theorem AS.nx_new (s : AS) (o : AObj) : (s.new o).nx = s.nx + 1 := rfl
theorem Fr.get_put (fr : Fr) (d : Option Nat) (v : AVal) (t : Nat) : (fr.put d v).get t = if d = some t then v else fr.get t := by
  cases d with
  | none => simp [Fr.put]
  | some d =>
    show (Option.rec .junk (fun v => v) ((fr.tm.set d v).get t) : AVal) = _
    rw [Tr.get_set]
    by_cases h : t = d
    · subst h; simp
    · rw [if_neg h, if_neg (by simpa using fun e => h e.symm)]; rfl
@[simp] theorem Fr.df_put (fr : Fr) (d : Option Nat) (v : AVal) : (fr.put d v).df = fr.df := by cases d <;> rfl
@[simp] theorem Fr.ev_t (fr : Fr) (n : Nat) : fr.ev (.t n) = fr.get n := rfl
@[simp] theorem Fr.ev_c (fr : Fr) (v : AVal) : fr.ev (.c v) = v := rfl
end Go.Avm
