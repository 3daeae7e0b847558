/-
  What the functions that MovesLetters reaches do, in the abstract machine: names, declarations, rows, sorts, copies.
-/
import Derived.Test.YteoeidhcmcacbaaGreatDoorSpec
import Derived.Test.YteoeidhcmcacbaaGreatDoorTableR
set_option maxRecDepth 100000
set_option maxHeartbeats 2000000
set_option linter.unusedVariables false
set_option linter.unusedSimpArgs false
/-
  Names: both ways of looking at them say the same.
-/
namespace Go.Proofs.YteoeidhcmcacbaaGreatDoor.movesLetters
open Go Go.Avm

/-! ### the code -/
def bodyOf : AFn → AC | .fn c _ => c | _ => .bad
def ops (c : AC) : List AOper := match c with | .reg l => l | _ => []
def hd (c : AC) : AC := match c with | .seq a _ => a | c => c
def tl (c : AC) : AC := match c with | .seq _ b => b | _ => .bad
/-- What follows n pieces of a row. -/
def aft : Nat → AC → AC
  | 0, c => c
  | n + 1, c => aft n (tl c)
/-- What lies in a block; in a loop; the ways of a test. -/
def inn (c : AC) : AC := match c with | .block _ c => c | .loop c => c | c => c
def yesOf (c : AC) : AC := match c with | .cond _ a _ => a | c => c
def noOf (c : AC) : AC := match c with | .cond _ _ a => a | c => c

/-! ### plain results -/
/-- A function returns a plain value, and leaves what was there as it was. -/
def Gives (s0 : AS) (v : AVal) : AVal → AS → Prop := fun r s => r = v ∧ Keeps s0 s
theorem Gives.lift {s0 : AS} {v : AVal} (hv : v.plain = true) : LiftR (Gives s0 v) := fun _ _ _ _ h hv' hS => by
  obtain ⟨rfl, h⟩ := h
  exact ⟨hv'.plain hv, h.sr hS⟩
theorem Gives.of {s0 s : AS} {fr : Fr} {t : Nat} {v : AVal} (hd : fr.df = []) (hv : fr.get t = v) (hk : Keeps s0 s) : Res.of [.tmp t] (Gives s0 v) .ret fr s := by
  refine ⟨hd, v, ?_, rfl, hk⟩
  show (match some [fr.get t] with | some [v] => some v | some vs => some (.tuple vs) | none => none) = _
  rw [hv]

/-! ### numbers -/
theorem wrap_nat {m : Nat} (h : m < 9223372036854775808) : wrapF .i64 (.ofNat m) = .ofNat m := by
  show (bif Nat.blt m 9223372036854775808 then Int.ofNat m else _) = _
  rw [blt_iff.2 h]; rfl
theorem ltI {n m : Nat} : bltI (.ofNat n) (.ofNat m) = decide (n < m) := by rw [bltI_eq, decide_eq_decide]; simp only [Int.ofNat_eq_natCast]; omega
theorem eqI {n m : Nat} : beqI (.ofNat n) (.ofNat m) = decide (n = m) := by rw [beqI_eq, decide_eq_decide]; simp only [Int.ofNat_eq_natCast]; omega
theorem add_nat {fr : Fr} {s : AS} {x : Opd} {n : Nat} {q : Int} {k : Nat} (hx : fr.ev x = .int .i64 (.ofNat n)) (hq : q = .ofNat k) (h : n + k < 9223372036854775808) : loud fr s (.bin .add .prim x (.c (.int .i64 q))) = some (.int .i64 (.ofNat (n + k)), s) := by
  subst hq
  show (match (match fr.ev x, AVal.int .i64 (.ofNat k) with
    | .int k a, .int k' b => bif beqK k k' then some (AVal.int k (wrapF k (a + b))) else none
    | .str a, .str b => bif Nat.ble (Nat.add (llen a) (llen b)) 1099511627776 then some (.str (lapp a b)) else none
    | _, _ => none) with | some v => some (v, s) | none => none) = _
  rw [hx]
  show some (AVal.int .i64 (wrapF .i64 (.ofNat (n + k))), s) = _
  rw [wrap_nat h]
theorem lss_nat {fr : Fr} {s : AS} {x y : Opd} {n m : Nat} {b : Bool} (hx : fr.ev x = .int .i64 (.ofNat n)) (hy : fr.ev y = .int .i64 (.ofNat m)) (hb : decide (n < m) = b) : loud fr s (.bin .lss .prim x y) = some (.bool b, s) := by
  show (match (match fr.ev x, fr.ev y with
    | .int k a, .int k' b => bif beqK k k' then some (AVal.bool (bltI a b)) else none
    | .str a, .str b => some (.bool (bytesLt a b))
    | _, _ => none) with | some v => some (v, s) | none => none) = _
  rw [hx, hy]
  show some (AVal.bool (bltI (.ofNat n) (.ofNat m)), s) = _
  rw [ltI, hb]
theorem gtr_nat {fr : Fr} {s : AS} {x y : Opd} {n m : Nat} {b : Bool} (hx : fr.ev x = .int .i64 (.ofNat n)) (hy : fr.ev y = .int .i64 (.ofNat m)) (hb : decide (m < n) = b) : loud fr s (.bin .gtr .prim x y) = some (.bool b, s) := by
  show (match (match fr.ev x, fr.ev y with
    | .int k a, .int k' b => bif beqK k k' then some (AVal.bool (bltI b a)) else none
    | .str a, .str b => some (.bool (!(bytesLt a b || beqL a b)))
    | _, _ => none) with | some v => some (v, s) | none => none) = _
  rw [hx, hy]
  show some (AVal.bool (bltI (.ofNat m) (.ofNat n)), s) = _
  rw [ltI, hb]
theorem eql_int {fr : Fr} {s : AS} {x y : Opd} {k : IntKind} {a b : Int} {q : Bool} (hx : fr.ev x = .int k a) (hy : fr.ev y = .int k b) (hq : decide (a = b) = q) : loud fr s (.bin .eql .prim x y) = some (.bool q, s) := by
  show (match (match isEq .prim (fr.ev x) (fr.ev y) with | some b => some (AVal.bool b) | none => none) with | some v => some (v, s) | none => none) = _
  rw [hx, hy]
  show (match (match (bif beqK k k then some (beqI a b) else none) with | some b => some (AVal.bool b) | none => none) with | some v => some (v, s) | none => none) = _
  rw [show beqK k k = true by cases k <;> rfl, beqI_eq, hq]
  rfl
theorem eql_str {fr : Fr} {s : AS} {x y : Opd} {a b : List Nat} {q : Bool} (hx : fr.ev x = .str a) (hy : fr.ev y = .str b) (hq : decide (a = b) = q) : loud fr s (.bin .eql .prim x y) = some (.bool q, s) := by
  show (match (match isEq .prim (fr.ev x) (fr.ev y) with | some b => some (AVal.bool b) | none => none) with | some v => some (v, s) | none => none) = _
  rw [hx, hy]
  show (match (match some (beqL a b) with | some b => some (AVal.bool b) | none => none) with | some v => some (v, s) | none => none) = _
  rw [beqL_eq, hq]
theorem len_str {fr : Fr} {s : AS} {x : Opd} {a : List Nat} (hx : fr.ev x = .str a) : loud fr s (.len .kstr x) = some (.int .i64 (.ofNat a.length), s) := by
  show (match (match (EK.kstr : EK), fr.ev x with
    | .kstr, .str b => some (AVal.int .i64 (.ofNat (llen b)))
    | .slice, .nilslice => some (.int .i64 0)
    | .slice, .slice _ _ len _ _ _ => some (.int .i64 (.ofNat len))
    | .map, .nilmap => some (.int .i64 0)
    | .map, .map r => match s.get r with
      | some (.map es) => some (.int .i64 (.ofNat (llen es)))
      | _ => none
    | _, _ => none) with | some v => some (v, s) | none => none) = _
  rw [hx]
  show some (AVal.int .i64 (.ofNat (llen a)), s) = _
  rw [llen_eq]
theorem byte_at {fr : Fr} {s : AS} {x y : Opd} {a : List Nat} {i c : Nat} (hx : fr.ev x = .str a) (hy : fr.ev y = .int .i64 (.ofNat i)) (hc : a[i]? = some c) : loud fr s (.ixs x y) = some (.int .u8 (.ofNat c), s) := by
  show (match (match fr.ev x, fr.ev y with
    | .str b, .int _ (.ofNat n) => match nth b n with | some c => some (AVal.int .u8 (.ofNat c)) | none => none
    | _, _ => none) with | some v => some (v, s) | none => none) = _
  rw [hx, hy]
  simp only [nth_eq]
  rw [hc]
theorem lss_u8 {fr : Fr} {s : AS} {x y : Opd} {n m : Nat} {b : Bool} (hx : fr.ev x = .int .u8 (.ofNat n)) (hy : fr.ev y = .int .u8 (.ofNat m)) (hb : decide (n < m) = b) : loud fr s (.bin .lss .prim x y) = some (.bool b, s) := by
  show (match (match fr.ev x, fr.ev y with
    | .int k a, .int k' b => bif beqK k k' then some (AVal.bool (bltI a b)) else none
    | .str a, .str b => some (.bool (bytesLt a b))
    | _, _ => none) with | some v => some (v, s) | none => none) = _
  rw [hx, hy]
  show some (AVal.bool (bltI (.ofNat n) (.ofNat m)), s) = _
  rw [ltI, hb]
theorem gtr_u8 {fr : Fr} {s : AS} {x y : Opd} {n m : Nat} {b : Bool} (hx : fr.ev x = .int .u8 (.ofNat n)) (hy : fr.ev y = .int .u8 (.ofNat m)) (hb : decide (m < n) = b) : loud fr s (.bin .gtr .prim x y) = some (.bool b, s) := by
  show (match (match fr.ev x, fr.ev y with
    | .int k a, .int k' b => bif beqK k k' then some (AVal.bool (bltI b a)) else none
    | .str a, .str b => some (.bool (!(bytesLt a b || beqL a b)))
    | _, _ => none) with | some v => some (v, s) | none => none) = _
  rw [hx, hy]
  show some (AVal.bool (bltI (.ofNat m) (.ofNat n)), s) = _
  rw [ltI, hb]

/-! ### the words that are no names -/
def kws : List (List Nat) := [[115,107,105,112], [115,116,111,112], [102,97,117,108,116], [105,102], [119,104,105,108,101], [110,101,119], [112,114,111,99], [98,108,111,99,107], [101,120,105,116], [100,111], [99,111,109], [101,120,112], [118,97,108]]
def letter (c : Nat) : Bool := decide (97 ≤ c) && decide (c ≤ 122)
/-- Is it a name? -/
def okName (l : List Nat) : Bool := decide (1 ≤ l.length) && (decide (l.length ≤ 8) && (l.all letter && !kws.contains l))

section
variable {tab : Nat → Option AFn} {Q : Ex → Fr → AS → Prop}
/-- One of the words. -/
theorem word {a b d : Nat} {w l : List Nat} {c : AC} {fr : Fr} {s : AS} (hl : fr.get a = .str l) (hd : b ≠ d) (h1 : l = w → ∀ v, Q .nrm ((fr.put (some d) v).put (some b) (.bool true)) s) (h2 : l ≠ w → ∀ v, Wp tab c ((fr.put (some d) v).put (some b) (.bool false)) s Q) :
    Wp tab (.seq (.reg [⟨some d, .bin .eql .prim (.t a) (.c (.str w)), none, [], []⟩, ⟨some b, .mov (.t d), none, [], []⟩]) (.cond (.t b) .skip c)) fr s Q := by
  have hm : ∀ v, (fr.put (some d) v).ev (.t d) = v := fun v => by rw [Fr.ev_t, Fr.get_put, if_pos rfl]
  by_cases e : l = w
  · refine aw_seq (aw_reg (ow_loud (eql_str (by rw [Fr.ev_t, hl]) rfl (decide_eq_true e)) rfl rfl (ow_loud (v := .bool true) (s' := s) (by show some ((fr.put (some d) (.bool true)).ev (.t d), s) = _; rw [hm]) rfl rfl (ow_nil ?_))))
    exact aw_true (by rw [Fr.ev_t, Fr.get_put, if_pos rfl]) (aw_skip (h1 e _))
  · refine aw_seq (aw_reg (ow_loud (eql_str (by rw [Fr.ev_t, hl]) rfl (decide_eq_false e)) rfl rfl (ow_loud (v := .bool false) (s' := s) (by show some ((fr.put (some d) (.bool false)).ev (.t d), s) = _; rw [hm]) rfl rfl (ow_nil ?_))))
    exact aw_false (by rw [Fr.ev_t, Fr.get_put, if_pos rfl]) (h2 e _)
/-- The words, as the code has them. -/
def nest (a b : Nat) : Nat → List (List Nat) → AC
  | _, [] => .skip
  | d, [w] => .reg [⟨some d, .bin .eql .prim (.t a) (.c (.str w)), none, [], []⟩, ⟨some b, .mov (.t d), none, [], []⟩]
  | d, w :: x :: l => .seq (.reg [⟨some d, .bin .eql .prim (.t a) (.c (.str w)), none, [], []⟩, ⟨some b, .mov (.t d), none, [], []⟩]) (.cond (.t b) .skip (nest a b (d + 1) (x :: l)))
theorem nest_ok {a b : Nat} {l : List Nat} {s : AS} : ∀ (ws : List (List Nat)) (d : Nat) (fr : Fr), ws ≠ [] → fr.get a = .str l → a ≠ b → a < d → b < d → fr.df = [] →
    (∀ fr' : Fr, fr'.get b = .bool (ws.contains l) → (∀ t, t ≠ b → t < d → fr'.get t = fr.get t) → fr'.df = [] → Q .nrm fr' s) → Wp tab (nest a b d ws) fr s Q
  | [], _, _, h, _, _, _, _, _, _ => absurd rfl h
  | [w], d, fr, _, hl, hab, had, hbd, hdf, k => by
    refine aw_reg (ow_loud (eql_str (by rw [Fr.ev_t, hl]) rfl rfl) rfl rfl (ow_loud (v := .bool (decide (l = w))) (s' := s) (by
      show some ((fr.put (some d) (.bool (decide (l = w)))).ev (.t d), s) = _; rw [Fr.ev_t, Fr.get_put, if_pos rfl]) rfl rfl (ow_nil (k _ ?_ ?_ ?_))))
    · rw [Fr.get_put, if_pos rfl]; simp
    · intro t h1 h2
      rw [Fr.get_put, if_neg (fun e => h1 (Option.some.inj e).symm), Fr.get_put, if_neg (fun e => by have := Option.some.inj e; omega)]
    · simpa using hdf
  | w :: x :: ws, d, fr, _, hl, hab, had, hbd, hdf, k => by
    refine word hl (by omega) (fun e v => k _ ?_ ?_ ?_) (fun e v => nest_ok (l := l) (x :: ws) (d + 1) _ (by simp) ?_ hab (by omega) (by omega) ?_ (fun fr' h1 h2 h3 => k fr' ?_ ?_ h3))
    · rw [Fr.get_put, if_pos rfl]; simp [e]
    · intro t h1 h2
      rw [Fr.get_put, if_neg (fun e => h1 (Option.some.inj e).symm), Fr.get_put, if_neg (fun e => by have := Option.some.inj e; omega)]
    · simpa using hdf
    · rw [Fr.get_put, if_neg (fun e => hab (Option.some.inj e).symm), Fr.get_put, if_neg (fun e => by have := Option.some.inj e; omega)]; exact hl
    · simpa using hdf
    · rw [h1]; simp [e]
    · intro t h4 h5
      rw [h2 t h4 (by omega), Fr.get_put, if_neg (fun e => h4 (Option.some.inj e).symm), Fr.get_put, if_neg (fun e => by have := Option.some.inj e; omega)]
end

/-! ### R1.IsName -/
def b48 : AC := bodyOf T.a48
def l48 : AC := inn (inn (tl (hd (aft 2 b48))))
theorem ok48l : (AC.loop l48).ok = true := by decide +kernel
theorem ok48_3 : (aft 3 b48).ok = true := by decide +kernel
theorem nest48 : hd (inn (tl (hd (aft 3 b48)))) = nest 28 29 30 kws := rfl
/-- The words behind the letters. -/
theorem words48 {l : List Nat} {s0 s : AS} {b : Bool} {i : Nat} (hk : Keeps s0 s) (hb : b = !kws.contains l) : Wp T.tab (aft 3 b48) (mkF [(0, .str l), (3, .int .i64 (.ofNat i))]) s (Res.of [.tmp 2] (Gives s0 (.bool b))) := by
  show Wp T.tab (.seq (.seq (.reg (ops (hd (hd (aft 3 b48))))) (.block 2 (.seq (nest 28 29 30 kws) (.cond (.t 29) (.seq (.reg (ops (hd (yesOf (tl (inn (tl (hd (aft 3 b48))))))))) .ret) .skip)))) (.seq (.reg (ops (hd (aft 4 b48)))) .ret)) _ _ _
  refine aw_seq (aw_seq (aw_reg (ow_loud rfl rfl rfl (ow_nil (aw_block (aw_seq (nest_ok kws 30 _ (by simp [kws]) rfl (by omega) (by omega) (by omega) rfl fun fr' h1 h2 h3 => ?_)))))))
  cases hc : kws.contains l with
  | true =>
    rw [hc] at h1 hb
    subst hb
    refine aw_true (by rw [Fr.ev_t, h1]) (aw_seq (aw_reg (ow_loud rfl rfl rfl (ow_nil ?_))))
    exact aw_ret (Gives.of (by simpa using h3) (by rw [Fr.get_put]; rfl) hk)
  | false =>
    rw [hc] at h1 hb
    subst hb
    refine aw_false (by rw [Fr.ev_t, h1]) (aw_skip (aw_seq (aw_reg (ow_loud rfl rfl rfl (ow_nil ?_)))))
    exact aw_ret (Gives.of (by simpa using h3) (by rw [Fr.get_put]; rfl) hk)
theorem letters48 {l : List Nat} {s0 : AS} (hlen : l.length ≤ 8) {b : Bool} (hb : b = (l.all letter && !kws.contains l)) : ∀ (n i : Nat) (s : AS), i + n = l.length → (∀ j, j < i → ∀ c, l[j]? = some c → letter c = true) → Keeps s0 s →
    Wp T.tab (.loop l48) (mkF [(0, .str l), (3, .int .i64 (.ofNat i))]) s (Out.of 0 (Then T.tab (aft 3 b48) (Res.of [.tmp 2] (Gives s0 (.bool b))))) := by
  have hQ : Lift1 (Out.of 0 (Then T.tab (aft 3 b48) (Res.of [.tmp 2] (Gives s0 (.bool b))))) := Lift1.out (Lift1.andThen T.tabR ok48_3 (Lift1.res (Gives.lift rfl) _)) 0
  intro n
  induction n with
  | zero =>
    intro i s hi hp hk
    refine aw_loop_step ?_
    show Wp T.tab (.seq (.seq (.reg (ops (hd (hd l48)))) (tl (hd l48))) (tl l48)) _ _ _
    refine aw_seq (aw_seq (aw_reg (ow_loud rfl rfl rfl (ow_loud rfl rfl rfl (ow_loud (len_str (a := l) rfl) rfl rfl (ow_loud (lss_nat (n := i) (m := l.length) rfl rfl (decide_eq_false (by omega))) rfl rfl (ow_nil ?_)))))))
    refine aw_false rfl (aw_exit ?_)
    have hall : l.all letter = true := by
      rw [List.all_eq_true]
      intro c hc
      obtain ⟨j, hj, e⟩ := List.getElem_of_mem hc
      exact hp j (by omega) c (by simp [hj, e])
    refine aw_lose T.tabR ok48_3 (Lift1.res (Gives.lift rfl) _) (l := [(0, .str l), (3, .int .i64 (.ofNat i))]) ⟨Vr.refl _, Vr.refl _, trivial⟩ rfl (words48 hk (by rw [hb, hall]; rfl))
  | succ n ih =>
    intro i s hi hp hk
    obtain ⟨c, hc⟩ : ∃ c, l[i]? = some c := ⟨l[i]'(by omega), by simp⟩
    refine aw_loop_step ?_
    show Wp T.tab (.seq (.seq (.reg (ops (hd (hd l48)))) (tl (hd l48))) (.seq (.block 1 (inn (hd (tl l48)))) (.reg (ops (tl (tl l48)))))) _ _ _
    refine aw_seq (aw_seq (aw_reg (ow_loud rfl rfl rfl (ow_loud rfl rfl rfl (ow_loud (len_str (a := l) rfl) rfl rfl (ow_loud (lss_nat (n := i) (m := l.length) rfl rfl (decide_eq_true (by omega))) rfl rfl (ow_nil ?_)))))))
    refine aw_true rfl (aw_skip (aw_seq (aw_block ?_)))
    show Wp T.tab (.seq (.reg (ops (hd (inn (hd (tl l48)))))) (tl (inn (hd (tl l48))))) _ _ _
    refine aw_seq (aw_reg (ow_loud rfl rfl rfl (ow_loud rfl rfl rfl (ow_loud (byte_at (a := l) (i := i) rfl rfl hc) rfl rfl ?_))))
    by_cases h1 : c < 97
    · refine ow_loud (lss_u8 (n := c) (m := 97) rfl rfl (decide_eq_true h1)) rfl rfl (ow_loud rfl rfl rfl (ow_skip rfl (ow_skip rfl (ow_skip rfl (ow_skip rfl (ow_loud rfl rfl rfl (ow_nil ?_)))))))
      refine aw_true rfl (aw_seq (aw_reg (ow_loud rfl rfl rfl (ow_nil ?_))))
      have hno : l.all letter = false := by
        rw [List.all_eq_false]
        exact ⟨c, List.mem_of_getElem? hc, by unfold letter; simp; omega⟩
      rw [hno, Bool.false_and] at hb
      exact aw_ret (Gives.of rfl (by rw [hb]; rfl) hk)
    · refine ow_loud (lss_u8 (n := c) (m := 97) rfl rfl (decide_eq_false h1)) rfl rfl (ow_loud rfl rfl rfl (ow_loud rfl rfl rfl (ow_loud rfl rfl rfl (ow_loud (byte_at (a := l) (i := i) rfl rfl hc) rfl rfl ?_))))
      by_cases h2 : 122 < c
      · refine ow_loud (gtr_u8 (n := c) (m := 122) rfl rfl (decide_eq_true h2)) rfl rfl (ow_loud rfl rfl rfl (ow_nil ?_))
        refine aw_true rfl (aw_seq (aw_reg (ow_loud rfl rfl rfl (ow_nil ?_))))
        have hno : l.all letter = false := by
          rw [List.all_eq_false]
          exact ⟨c, List.mem_of_getElem? hc, by unfold letter; simp; omega⟩
        rw [hno, Bool.false_and] at hb
        exact aw_ret (Gives.of rfl (by rw [hb]; rfl) hk)
      · refine ow_loud (gtr_u8 (n := c) (m := 122) rfl rfl (decide_eq_false h2)) rfl rfl (ow_loud rfl rfl rfl (ow_nil ?_))
        refine aw_false rfl (aw_skip ?_)
        refine aw_reg (ow_loud rfl rfl rfl (ow_loud (add_nat (n := i) (k := 1) rfl rfl (by omega)) rfl rfl (ow_loud rfl rfl rfl (ow_nil ?_))))
        refine aw_lose T.tabR ok48l hQ (l := [(0, .str l), (3, .int .i64 (.ofNat (i + 1)))]) ⟨Vr.refl _, Vr.refl _, trivial⟩ rfl (ih (i + 1) s (by omega) (fun j hj d hd => ?_) hk)
        by_cases e : j = i
        · subst e; rw [hc] at hd; obtain rfl := Option.some.inj hd
          unfold letter; simp; omega
        · exact hp j (by omega) d hd
theorem isName48 (l : List Nat) (s : AS) : Cw T.tab 48 [.str l] s (Gives s (.bool (okName l))) := by
  refine cw_of (body := b48) (rs := [.tmp 2]) rfl ?_
  show Wp T.tab (.seq (.reg (ops (hd b48))) (.seq (.seq (.reg (ops (hd (hd (aft 1 b48))))) (tl (hd (aft 1 b48)))) (.seq (.seq (.reg (ops (hd (hd (aft 2 b48))))) (.block 0 (.loop l48))) (aft 3 b48)))) _ _ _
  refine aw_seq (aw_reg (ow_loud rfl rfl rfl (ow_nil ?_)))
  refine aw_seq (aw_seq (aw_reg (ow_loud rfl rfl rfl (ow_loud (len_str (a := l) rfl) rfl rfl ?_))))
  by_cases h1 : l.length < 1
  · refine ow_loud (lss_nat (n := l.length) (m := 1) rfl rfl (decide_eq_true h1)) rfl rfl (ow_loud rfl rfl rfl (ow_skip rfl (ow_skip rfl (ow_skip rfl (ow_loud rfl rfl rfl (ow_nil ?_))))))
    refine aw_true rfl (aw_seq (aw_reg (ow_loud rfl rfl rfl (ow_nil ?_))))
    exact aw_ret (Gives.of rfl (by rw [show okName l = false by unfold okName; rw [decide_eq_false (by omega), Bool.false_and]]; rfl) (.refl s))
  · refine ow_loud (lss_nat (n := l.length) (m := 1) rfl rfl (decide_eq_false h1)) rfl rfl (ow_loud rfl rfl rfl (ow_loud rfl rfl rfl (ow_loud (len_str (a := l) rfl) rfl rfl ?_)))
    by_cases h2 : 8 < l.length
    · refine ow_loud (gtr_nat (n := l.length) (m := 8) rfl rfl (decide_eq_true h2)) rfl rfl (ow_loud rfl rfl rfl (ow_nil ?_))
      refine aw_true rfl (aw_seq (aw_reg (ow_loud rfl rfl rfl (ow_nil ?_))))
      exact aw_ret (Gives.of rfl (by rw [show okName l = false by unfold okName; rw [decide_eq_false (p := l.length ≤ 8) (by omega), Bool.false_and, Bool.and_false]]; rfl) (.refl s))
    · refine ow_loud (gtr_nat (n := l.length) (m := 8) rfl rfl (decide_eq_false h2)) rfl rfl (ow_loud rfl rfl rfl (ow_nil ?_))
      refine aw_false rfl (aw_skip (aw_seq (aw_seq (aw_reg (ow_loud rfl rfl rfl (ow_nil (aw_block ?_)))))))
      have hQ : Lift1 (Out.of 0 (Then T.tab (aft 3 b48) (Res.of [.tmp 2] (Gives s (.bool (okName l)))))) := Lift1.out (Lift1.andThen T.tabR ok48_3 (Lift1.res (Gives.lift rfl) _)) 0
      refine aw_lose T.tabR ok48l hQ (l := [(0, .str l), (3, .int .i64 (.ofNat 0))]) ⟨Vr.refl _, Vr.refl _, trivial⟩ rfl (letters48 (by omega) ?_ l.length 0 s (by omega) (fun j hj => by omega) (.refl s))
      unfold okName
      rw [decide_eq_true (by omega), decide_eq_true (by omega), Bool.true_and, Bool.true_and]
end Go.Proofs.YteoeidhcmcacbaaGreatDoor.movesLetters
/-
  Types; names, the program's way.
-/
namespace Go.Proofs.YteoeidhcmcacbaaGreatDoor.movesLetters
open Go Go.Avm

/-- Is it the type of a term? Of an argument? -/
def isT (x : Int) : Bool := decide (x = 0) || decide (x = 1)
def isA (x : Int) : Bool := isT x || decide (x = 2)
theorem isType49 (x : Int) (s : AS) : Cw T.tab 49 [.int .i64 x] s (Gives s (.bool (isT x))) := by
  refine cw_of (body := bodyOf T.a49) (rs := [.tmp 2]) rfl ?_
  show Wp T.tab (.seq (.reg (ops (hd (bodyOf T.a49)))) (.seq (.reg (ops (hd (aft 1 (bodyOf T.a49))))) .ret)) _ _ _
  refine aw_seq (aw_reg (ow_loud rfl rfl rfl (ow_nil ?_)))
  by_cases h0 : x = 0
  · refine aw_seq (aw_reg (ow_loud rfl rfl rfl (ow_loud (eql_int (k := .i64) (a := x) (b := 0) rfl rfl (decide_eq_true h0)) rfl rfl (ow_loud rfl rfl rfl (ow_skip rfl (ow_skip rfl (ow_loud rfl rfl rfl (ow_loud rfl rfl rfl (ow_nil ?_)))))))))
    exact aw_ret (Gives.of rfl (by unfold isT; rw [decide_eq_true h0]; rfl) (.refl s))
  · refine aw_seq (aw_reg (ow_loud rfl rfl rfl (ow_loud (eql_int (k := .i64) (a := x) (b := 0) rfl rfl (decide_eq_false h0)) rfl rfl (ow_loud rfl rfl rfl (ow_loud rfl rfl rfl (ow_loud (eql_int (k := .i64) (a := x) (b := 1) rfl rfl rfl) rfl rfl (ow_loud rfl rfl rfl (ow_loud rfl rfl rfl (ow_nil ?_)))))))))
    exact aw_ret (Gives.of rfl (by unfold isT; rw [decide_eq_false h0, Bool.false_or]; rfl) (.refl s))
theorem isType97 (x : Int) (s : AS) : Cw T.tab 97 [.int .i64 x] s (Gives s (.bool (isT x))) := by
  obtain ⟨n, v, s', h, hR⟩ := isType49 x s
  have e : ∀ m, call T.tab m 97 [.int .i64 x] s = call T.tab m 49 [.int .i64 x] s := fun m => by
    show callW T.tab _ 97 _ _ = callW T.tab _ 49 _ _
    unfold callW
    rw [show T.tab 97 = T.tab 49 from rfl]
  exact ⟨n, v, s', by rw [e]; exact h, hR⟩
theorem isArg_of {g : Nat} (hg : ∀ x s, Cw T.tab g [.int .i64 x] s (Gives s (.bool (isT x)))) (x : Int) (s : AS) {b : AC} {f : Nat} (hf : T.tab f = some (.fn b [.tmp 2]))
    (hb : b = .seq (.reg [⟨some 2, .mov (.c (.bool false)), none, [], []⟩]) (.seq (.reg [⟨some 3, .mov (.t 0), none, [], []⟩, ⟨some 4, .call (.c (.func g [] [])) [.t 3], none, [], []⟩, ⟨some 5, .mov (.t 4), none, [], []⟩, ⟨some 6, .mov (.t 0), some (5, false), [], []⟩,
      ⟨some 7, .bin .eql .prim (.t 6) (.c (.int .i64 2)), some (5, false), [], []⟩, ⟨some 8, .pick (.t 5) (.c (.bool true)) (.t 7), none, [], []⟩, ⟨some 2, .mov (.t 8), none, [], []⟩]) .ret)) : Cw T.tab f [.int .i64 x] s (Gives s (.bool (isA x))) := by
  subst hb
  refine cw_of hf ?_
  refine aw_seq (aw_reg (ow_loud rfl rfl rfl (ow_nil ?_)))
  refine aw_seq (aw_reg (ow_loud rfl rfl rfl (ow_call rfl rfl rfl ((hg x s).mono fun v s1 hv => ⟨rfl, ?_⟩))))
  obtain ⟨rfl, hk⟩ := hv
  cases h : isT x with
  | true =>
    refine ow_loud rfl rfl rfl (ow_skip rfl (ow_skip rfl (ow_loud rfl rfl rfl (ow_loud rfl rfl rfl (ow_nil ?_)))))
    exact aw_ret (Gives.of rfl (by unfold isA; rw [h]; rfl) hk)
  | false =>
    refine ow_loud rfl rfl rfl (ow_loud rfl rfl rfl (ow_loud (eql_int (k := .i64) (a := x) (b := 2) rfl rfl rfl) rfl rfl (ow_loud rfl rfl rfl (ow_loud rfl rfl rfl (ow_nil ?_)))))
    exact aw_ret (Gives.of rfl (by unfold isA; rw [h, Bool.false_or]; rfl) hk)
theorem isArg50 (x : Int) (s : AS) : Cw T.tab 50 [.int .i64 x] s (Gives s (.bool (isA x))) := isArg_of isType49 x s rfl rfl
theorem isArg100 (x : Int) (s : AS) : Cw T.tab 100 [.int .i64 x] s (Gives s (.bool (isA x))) := isArg_of isType97 x s rfl rfl

/-! ### letters, by a search -/
theorem indexOf_inv (c : Nat) : ∀ (l : List Nat) (i : Nat), (∃ k : Nat, indexOf c l i = .ofNat k ∧ l.contains c = true) ∨ (indexOf c l i = -1 ∧ l.contains c = false)
  | [], i => .inr ⟨rfl, rfl⟩
  | b :: l, i => by
    have h : indexOf c (b :: l) i = (Bool.rec (indexOf c l (Nat.succ i)) (Int.ofNat i) (Nat.beq b c) : Int) := rfl
    rw [h]
    by_cases e : b = c
    · rw [beqN_iff.2 e]
      exact .inl ⟨i, rfl, by simp [e]⟩
    · rw [show Nat.beq b c = false from Bool.eq_false_iff.2 (fun h => e (beqN_iff.1 h))]
      rcases indexOf_inv c l (i + 1) with ⟨k, h1, h2⟩ | ⟨h1, h2⟩
      · exact .inl ⟨k, h1, by simp only [List.contains_cons, h2, Bool.or_true]⟩
      · exact .inr ⟨h1, by rw [List.contains_cons, h2, Bool.or_false]; simpa using fun h => e h.symm⟩
def abc : List Nat := [97,98,99,100,101,102,103,104,105,106,107,108,109,110,111,112,113,114,115,116,117,118,119,120,121,122]
theorem abc_letter (c : Nat) : abc.contains c = letter c := by
  unfold letter
  by_cases h : 97 ≤ c ∧ c ≤ 122
  · rw [decide_eq_true h.1, decide_eq_true h.2]
    have : ∀ k : Fin 26, abc.contains (97 + k.val) = true := by decide
    have h2 := this ⟨c - 97, by omega⟩
    simp only at h2
    rwa [show 97 + (c - 97) = c by omega] at h2
  · have h1 : (decide (97 ≤ c) && decide (c ≤ 122)) = false := by simp; omega
    rw [h1]
    cases hc : abc.contains c with
    | false => rfl
    | true =>
      exfalso
      have hm : c ∈ abc := List.contains_iff_mem.1 hc
      have hall : ∀ x ∈ abc, 97 ≤ x ∧ x ≤ 122 := by decide
      exact h (hall c hm)
theorem index191 {a : List Nat} {c : Nat} (hc : c < 256) (s : AS) : Cw T.tab 191 [.str a, .int .u8 (.ofNat c)] s fun v s' => v = .int .i64 (indexOf c a 0) ∧ s' = s := by
  refine ⟨0, _, s, ?_, rfl, rfl⟩
  show callW T.tab _ 191 _ s = _
  unfold callW
  rw [show T.tab 191 = some .indexByte from rfl]
  show (bif Nat.blt c 256 then some (Out.ret (.int .i64 (indexOf c a 0)), s) else none) = _
  rw [blt_iff.2 hc]; rfl
theorem index139 {a : List Nat} {c : Nat} (hc : c < 256) (s : AS) : Cw T.tab 139 [.str a, .int .u8 (.ofNat c)] s fun v s' => v = .int .i64 (indexOf c a 0) ∧ s' = s := by
  refine cw_of (body := bodyOf T.a139) (rs := [.tmp 4]) rfl ?_
  show Wp T.tab (.seq (.reg (ops (hd (bodyOf T.a139)))) (.seq (.reg (ops (hd (aft 1 (bodyOf T.a139))))) .ret)) _ _ _
  refine aw_seq (aw_reg (ow_loud rfl rfl rfl (ow_nil ?_)))
  refine aw_seq (aw_reg (ow_loud rfl rfl rfl (ow_loud rfl rfl rfl (ow_call rfl rfl rfl ((index191 hc s).mono fun v s1 hv => ⟨rfl, ?_⟩)))))
  obtain ⟨rfl, rfl⟩ := hv
  refine ow_loud rfl rfl rfl (ow_nil (aw_ret ⟨rfl, _, rfl, rfl, rfl⟩))
theorem index77 {a : List Nat} {c : Nat} (hc : c < 256) (s : AS) : Cw T.tab 77 [.str a, .int .u8 (.ofNat c)] s fun v s' => v = .int .i64 (indexOf c a 0) ∧ s' = s := by
  refine cw_of (body := bodyOf T.a77) (rs := [.tmp 4]) rfl ?_
  show Wp T.tab (.seq (.reg (ops (hd (bodyOf T.a77)))) (.seq (.reg (ops (hd (aft 1 (bodyOf T.a77))))) .ret)) _ _ _
  refine aw_seq (aw_reg (ow_loud rfl rfl rfl (ow_nil ?_)))
  refine aw_seq (aw_reg (ow_loud rfl rfl rfl (ow_loud rfl rfl rfl (ow_call rfl rfl rfl ((index139 hc s).mono fun v s1 hv => ⟨rfl, ?_⟩)))))
  obtain ⟨rfl, rfl⟩ := hv
  refine ow_loud rfl rfl rfl (ow_nil (aw_ret ⟨rfl, _, rfl, rfl, rfl⟩))

/-- How many letters begin a text. -/
def lead : List Nat → Nat
  | [] => 0
  | c :: l => if letter c then lead l + 1 else 0
theorem lead_le : ∀ l : List Nat, lead l ≤ l.length
  | [] => Nat.le_refl 0
  | c :: l => by unfold lead; split; have := lead_le l; simp; omega; simp
theorem lead_all : ∀ l : List Nat, decide (lead l = l.length) = l.all letter
  | [] => rfl
  | c :: l => by
    unfold lead
    rw [List.all_cons, ← lead_all l]
    cases h : letter c with
    | true => rw [if_pos rfl, Bool.true_and, decide_eq_decide]; simp
    | false => rw [if_neg (by simp), Bool.false_and, decide_eq_false (by simp)]
theorem lead_at {l : List Nat} : ∀ {i : Nat}, (∀ j, j < i → ∀ c, l[j]? = some c → letter c = true) → i ≤ l.length → (∀ c, l[i]? = some c → letter c = false) → lead l = i := by
  induction l with
  | nil => intro i _ h _; simp at h; subst h; rfl
  | cons c l ih =>
    intro i h1 h2 h3
    cases i with
    | zero => unfold lead; rw [h3 c rfl]; rfl
    | succ i =>
      unfold lead
      rw [if_pos (h1 0 (by omega) c rfl), ih (i := i) (fun j hj d hd => h1 (j + 1) (by omega) d (by simpa using hd)) (by simpa using h2) (fun d hd => h3 d (by simpa using hd))]

/-! ### lang.lettered, lang.isName -/
def b78 : AC := bodyOf T.a78
def l78 : AC := inn (inn (hd (aft 2 b78)))
theorem ok78l : (AC.loop l78).ok = true := by decide +kernel
theorem ok78_3 : (aft 3 b78).ok = true := by decide +kernel
theorem loop78 {l : List Nat} {s0 : AS} (hb : ∀ c ∈ l, c < 256) (hlen : l.length < 100) : ∀ (n i : Nat) (s : AS), i + n = l.length → (∀ j, j < i → ∀ c, l[j]? = some c → letter c = true) → Keeps s0 s →
    Wp T.tab (.loop l78) (mkF [(0, .str l), (3, .int .i64 (.ofNat i))]) s (Out.of 0 (Then T.tab (aft 3 b78) (Res.of [.tmp 2] (Gives s0 (.int .i64 (.ofNat (lead l))))))) := by
  have hQ : Lift1 (Out.of 0 (Then T.tab (aft 3 b78) (Res.of [.tmp 2] (Gives s0 (.int .i64 (.ofNat (lead l))))))) := Lift1.out (Lift1.andThen T.tabR ok78_3 (Lift1.res (Gives.lift rfl) _)) 0
  intro n
  induction n with
  | zero =>
    intro i s hi hp hk
    refine aw_loop_step ?_
    show Wp T.tab (.seq (.seq (.reg (ops (hd (hd l78)))) (tl (hd l78))) (tl l78)) _ _ _
    refine aw_seq (aw_seq (aw_reg (ow_loud rfl rfl rfl (ow_loud rfl rfl rfl (ow_loud (len_str (a := l) rfl) rfl rfl (ow_loud (lss_nat (n := i) (m := l.length) rfl rfl (decide_eq_false (by omega))) rfl rfl
      (ow_loud rfl rfl rfl (ow_skip rfl (ow_skip rfl (ow_skip rfl (ow_skip rfl (ow_skip rfl (ow_loud rfl rfl rfl (ow_nil ?_))))))))))))))
    refine aw_false rfl (aw_exit ?_)
    have hl : lead l = i := lead_at hp (by omega) (fun c hc => by have := (List.getElem?_eq_some_iff.1 hc).1; omega)
    show Wp T.tab (.seq (.reg (ops (hd (aft 3 b78)))) .ret) _ _ _
    refine aw_seq (aw_reg (ow_loud rfl rfl rfl (ow_loud rfl rfl rfl (ow_nil ?_))))
    exact aw_ret (Gives.of rfl (by rw [hl]; rfl) hk)
  | succ n ih =>
    intro i s hi hp hk
    obtain ⟨c, hc⟩ : ∃ c, l[i]? = some c := ⟨l[i]'(by omega), by simp⟩
    have hc2 := hb c (List.mem_of_getElem? hc)
    refine aw_loop_step ?_
    show Wp T.tab (.seq (.seq (.reg (ops (hd (hd l78)))) (tl (hd l78))) (.block 1 (.reg (ops (inn (tl l78)))))) _ _ _
    refine aw_seq (aw_seq (aw_reg (ow_loud rfl rfl rfl (ow_loud rfl rfl rfl (ow_loud (len_str (a := l) rfl) rfl rfl (ow_loud (lss_nat (n := i) (m := l.length) rfl rfl (decide_eq_true (by omega))) rfl rfl
      (ow_loud rfl rfl rfl (ow_loud rfl rfl rfl (ow_loud rfl rfl rfl (ow_loud (byte_at (a := l) (i := i) rfl rfl hc) rfl rfl (ow_call rfl rfl rfl ((index77 (a := abc) hc2 s).mono fun v s1 hv => ⟨rfl, ?_⟩))))))))))))
    obtain ⟨rfl, rfl⟩ := hv
    rcases indexOf_inv c abc 0 with ⟨k, h1, h2⟩ | ⟨h1, h2⟩
    · rw [abc_letter] at h2
      rw [h1]
      refine ow_loud (v := .bool true) (s' := s1) (by show some (AVal.bool (!bltI (.ofNat k) (.ofNat 0)), s1) = _; rw [ltI]; rfl) rfl rfl (ow_loud rfl rfl rfl (ow_nil ?_))
      refine aw_true rfl (aw_skip (aw_block (aw_reg (ow_loud rfl rfl rfl (ow_loud (add_nat (n := i) (k := 1) rfl rfl (by omega)) rfl rfl (ow_loud rfl rfl rfl (ow_nil ?_)))))))
      refine aw_lose T.tabR ok78l hQ (l := [(0, .str l), (3, .int .i64 (.ofNat (i + 1)))]) ⟨Vr.refl _, Vr.refl _, trivial⟩ rfl (ih (i + 1) s1 (by omega) (fun j hj d hd => ?_) hk)
      by_cases e : j = i
      · subst e; rw [hc] at hd; obtain rfl := Option.some.inj hd; exact h2
      · exact hp j (by omega) d hd
    · rw [abc_letter] at h2
      rw [h1]
      refine ow_loud (v := .bool false) (s' := s1) rfl rfl rfl (ow_loud rfl rfl rfl (ow_nil ?_))
      refine aw_false rfl (aw_exit ?_)
      have hl : lead l = i := lead_at hp (by omega) (fun d hd => by rw [hc] at hd; obtain rfl := Option.some.inj hd; exact h2)
      show Wp T.tab (.seq (.reg (ops (hd (aft 3 b78)))) .ret) _ _ _
      refine aw_seq (aw_reg (ow_loud rfl rfl rfl (ow_loud rfl rfl rfl (ow_nil ?_))))
      exact aw_ret (Gives.of rfl (by rw [hl]; rfl) hk)
theorem lettered78 {l : List Nat} (hb : ∀ c ∈ l, c < 256) (hlen : l.length < 100) (s : AS) : Cw T.tab 78 [.str l] s (Gives s (.int .i64 (.ofNat (lead l)))) := by
  refine cw_of (body := b78) (rs := [.tmp 2]) rfl ?_
  show Wp T.tab (.seq (.reg (ops (hd b78))) (.seq (.reg (ops (hd (aft 1 b78)))) (.seq (.block 0 (.loop l78)) (aft 3 b78)))) _ _ _
  refine aw_seq (aw_reg (ow_loud rfl rfl rfl (ow_nil (aw_seq (aw_reg (ow_loud rfl rfl rfl (ow_nil (aw_seq (aw_block ?_)))))))))
  have hQ : Lift1 (Out.of 0 (Then T.tab (aft 3 b78) (Res.of [.tmp 2] (Gives s (.int .i64 (.ofNat (lead l))))))) := Lift1.out (Lift1.andThen T.tabR ok78_3 (Lift1.res (Gives.lift rfl) _)) 0
  exact aw_lose T.tabR ok78l hQ (l := [(0, .str l), (3, .int .i64 (.ofNat 0))]) ⟨Vr.refl _, Vr.refl _, trivial⟩ rfl (loop78 hb hlen l.length 0 s (by omega) (fun j hj => by omega) (.refl s))

def b96 : AC := bodyOf T.a96
theorem isName96 {l : List Nat} (hb : ∀ c ∈ l, c < 256) (s : AS) : Cw T.tab 96 [.str l] s (Gives s (.bool (okName l))) := by
  refine cw_of (body := b96) (rs := [.tmp 2]) rfl ?_
  show Wp T.tab (.seq (.reg (ops (hd b96))) (.seq (.seq (.reg (ops (hd (hd (aft 1 b96))))) (.block 0 (.seq (nest 3 4 5 kws) (.cond (.t 4) (.seq (.reg (ops (hd (yesOf (tl (inn (tl (hd (aft 1 b96))))))))) .ret) .skip)))) (.seq (.reg (ops (hd (aft 2 b96)))) .ret))) _ _ _
  refine aw_seq (aw_reg (ow_loud rfl rfl rfl (ow_nil ?_)))
  refine aw_seq (aw_seq (aw_reg (ow_loud rfl rfl rfl (ow_nil (aw_block (aw_seq (nest_ok kws 5 _ (by simp [kws]) rfl (by omega) (by omega) (by omega) rfl fun fr' h1 h2 h3 => ?_)))))))
  cases hc : kws.contains l with
  | true =>
    rw [hc] at h1
    refine aw_true (by rw [Fr.ev_t, h1]) (aw_seq (aw_reg (ow_loud rfl rfl rfl (ow_nil ?_))))
    exact aw_ret (Gives.of (by simpa using h3) (by rw [Fr.get_put, if_pos rfl]; unfold okName; rw [hc]; simp) (.refl s))
  | false =>
    rw [hc] at h1
    refine aw_false (by rw [Fr.ev_t, h1]) (aw_skip ?_)
    have ok2 : (AC.seq (.reg (ops (hd (aft 2 b96)))) .ret).ok = true := by decide +kernel
    have h0 : fr'.get 0 = .str l := by rw [h2 0 (by omega) (by omega)]; rfl
    refine aw_lose T.tabR ok2 (Lift1.res (Gives.lift rfl) _) (l := [(0, .str l)]) ⟨by rw [h0]; exact Vr.refl _, trivial⟩ h3 ?_
    refine aw_seq (aw_reg (ow_loud rfl rfl rfl (ow_loud (len_str (a := l) rfl) rfl rfl ?_)))
    by_cases e1 : 1 ≤ l.length
    · refine ow_loud (v := .bool true) (s' := s) (by show some (AVal.bool (!bltI (.ofNat l.length) (.ofNat 1)), s) = _; rw [ltI, decide_eq_false (by omega)]; rfl) rfl rfl (ow_loud rfl rfl rfl (ow_loud rfl rfl rfl (ow_loud (len_str (a := l) rfl) rfl rfl ?_)))
      by_cases e2 : l.length ≤ 8
      · refine ow_loud (v := .bool true) (s' := s) (by show some (AVal.bool (!bltI (.ofNat 8) (.ofNat l.length)), s) = _; rw [ltI, decide_eq_false (by omega)]; rfl) rfl rfl (ow_loud rfl rfl rfl (ow_loud rfl rfl rfl (ow_loud rfl rfl rfl ?_)))
        refine ow_call rfl rfl rfl ((lettered78 hb (by omega) s).mono fun v s1 hv => ⟨rfl, ?_⟩)
        obtain ⟨rfl, hk⟩ := hv
        refine ow_loud rfl rfl rfl (ow_loud (len_str (a := l) rfl) rfl rfl (ow_loud (eql_int (k := .i64) (a := .ofNat (lead l)) (b := .ofNat l.length) (q := l.all letter) rfl rfl ?_) rfl rfl (ow_loud rfl rfl rfl (ow_loud rfl rfl rfl (ow_nil ?_)))))
        · rw [← lead_all, decide_eq_decide]; simp only [Int.ofNat_eq_natCast]; omega
        · exact aw_ret (Gives.of rfl (by unfold okName; rw [decide_eq_true e1, decide_eq_true e2, hc]; simp; rfl) hk)
      · refine ow_loud (v := .bool false) (s' := s) (by show some (AVal.bool (!bltI (.ofNat 8) (.ofNat l.length)), s) = _; rw [ltI, decide_eq_true (by omega)]; rfl) rfl rfl (ow_loud rfl rfl rfl (ow_loud rfl rfl rfl (ow_skip rfl (ow_skip rfl (ow_skip rfl (ow_skip rfl (ow_skip rfl (ow_loud rfl rfl rfl (ow_loud rfl rfl rfl (ow_nil ?_))))))))))
        exact aw_ret (Gives.of rfl (by unfold okName; rw [decide_eq_true e1, decide_eq_false e2]; rfl) (.refl s))
    · refine ow_loud (v := .bool false) (s' := s) (by show some (AVal.bool (!bltI (.ofNat l.length) (.ofNat 1)), s) = _; rw [ltI, decide_eq_true (by omega)]; rfl) rfl rfl (ow_loud rfl rfl rfl (ow_skip rfl (ow_skip rfl (ow_skip rfl (ow_loud rfl rfl rfl (ow_loud rfl rfl rfl (ow_skip rfl (ow_skip rfl (ow_skip rfl (ow_skip rfl (ow_skip rfl (ow_loud rfl rfl rfl (ow_loud rfl rfl rfl (ow_nil ?_))))))))))))))
      exact aw_ret (Gives.of rfl (by unfold okName; rw [decide_eq_false e1]; rfl) (.refl s))
end Go.Proofs.YteoeidhcmcacbaaGreatDoor.movesLetters
/-
  Declarations: both ways of looking at them say the same.
-/
namespace Go.Proofs.YteoeidhcmcacbaaGreatDoor.movesLetters
open Go Go.Avm

section
variable {tab : Nat → Option AFn} {Q : Ex → Fr → AS → Prop} {fr : Fr} {s : AS}
theorem ow_ex {o : AOper} {l : List AOper} {X : AVal → Prop} (h : ∃ p, loud fr s o.op = some (p, s) ∧ X p) (hg : wanted fr o.guard = some true) (hk : ∀ p, looks (fr.put o.dst p) s o.chk = true) (k : ∀ p, X p → Ow tab l (fr.put o.dst p) s Q) : Ow tab (o :: l) fr s Q := by
  obtain ⟨p, h1, h2⟩ := h
  exact ow_loud h1 hg (hk p) (k p h2)
/-- A new thing, and what is stored in it. -/
theorem ow_fresh {o1 o2 : AOper} {l : List AOper} {z cs : List AVal} {w d : Nat} {y : Opd} (h1 : o1.op = .new z) (h2 : o2.op = .store w (.t d) y) (hd1 : o1.dst = some d) (hg1 : o1.guard = none) (hg2 : o2.guard = none) (hc1 : o1.chk = []) (hc2 : o2.chk = []) (hd2 : o2.dst = none)
    (hz : ones z = true) (hzl : z.length = w) (hc : ones cs = true) (hcl : cs.length = w) (hy : (fr.put (some d) (.ptr s.nx 0 0)).ev y = .agg cs)
    (k : ∀ s', Keeps s s' → At s' w (.ptr s.nx 0 0) cs → s.nx < s'.nx → Ow tab l (fr.put (some d) (.ptr s.nx 0 0)) s' Q) : Ow tab (o1 :: o2 :: l) fr s Q := by
  have hlt : s.nx < (s.new (oneRow z)).nx := Nat.lt_succ_self _
  refine ow_loud (v := .ptr s.nx 0 0) (s' := s.new (oneRow z)) (by
    rw [h1]
    show (match (bif ones z then some (oneRow z, fun g => AVal.ptr g 0 0) else none) with | some (o, f) => some (f s.nx, s.new o) | none => none) = _
    rw [hz]; rfl) (by rw [hg1]; rfl) (by rw [hc1]; rfl) ?_
  rw [hd1]
  have hget : (s.new (oneRow z)).get s.nx = some (oneRow z) := by rw [AS.get_new, if_pos rfl]
  refine ow_loud (v := .junk) (s' := (s.new (oneRow z)).set s.nx (.row (splice z 0 cs) 0 [z.length] false)) (by
    rw [h2]
    show (match (fr.put (some d) (.ptr s.nx 0 0)).get d with
      | .ptr g x w' => bif Nat.beq (llen ((fr.put (some d) (.ptr s.nx 0 0)).ev y).cells) w && ones ((fr.put (some d) (.ptr s.nx 0 0)).ev y).cells then
          match putAt (s.new (oneRow z)) g x w' ((fr.put (some d) (.ptr s.nx 0 0)).ev y).cells with
          | some s => some (AVal.junk, s)
          | none => none
        else none
      | _ => none) = _
    rw [Fr.get_put, if_pos rfl, hy]
    show (bif Nat.beq (llen cs) w && ones cs then match putAt (s.new (oneRow z)) s.nx 0 0 cs with | some s => some (AVal.junk, s) | none => none else none) = _
    rw [hc, llen_eq, hcl, beqN_iff.2 rfl]
    have hp : putAt (s.new (oneRow z)) s.nx 0 0 cs = some ((s.new (oneRow z)).set s.nx (.row (splice z 0 cs) 0 [z.length] false)) := by
      unfold putAt
      rw [hget]
      show (bif Nat.beq 0 0 && !false && Nat.ble (Nat.add 0 (llen cs)) (llen z) then some ((s.new (oneRow z)).set s.nx (.row (splice z 0 cs) 0 [llen z] false)) else none) = _
      rw [llen_eq, llen_eq, hcl, hzl, ble_iff.2 (by show 0 + w ≤ w; omega)]; rfl
    rw [hp]; rfl) (by rw [hg2]; rfl) (by rw [hc2]; rfl) ?_
  rw [hd2]
  have hsp : splice z 0 cs = cs := by
    unfold splice
    simp only [lapp_eq, ltake_eq, ldrop_eq, llen_eq, List.take_zero, List.nil_append]
    rw [List.drop_of_length_le (by show z.length ≤ 0 + cs.length; omega), List.append_nil]
  refine k _ (fun g o e => ?_) ⟨s.nx, 0, 0, rfl, ?_⟩ hlt
  · have hg := AS.lt_of_get e
    exact ⟨o, by rw [AS.get_set_ne _ _ (by omega), AS.get_new, if_neg (by omega)]; exact e, Or.refl o⟩
  · unfold cellsAt
    rw [AS.get_set_same _ _ hlt]
    show (bif Nat.ble 0 0 then match nth [z.length] (Nat.sub 0 0) with
      | some e => bif Nat.ble (Nat.add 0 w) e then some (ltake (ldrop (splice z 0 cs) 0) w) else none
      | none => none else none) = _
    show (bif Nat.ble (Nat.add 0 w) z.length then some (ltake (ldrop (splice z 0 cs) 0) w) else none) = _
    rw [ble_iff.2 (by show 0 + w ≤ z.length; omega), cond_true, hsp, ltake_eq, ldrop_eq, List.drop_zero, List.take_of_length_le (by omega)]
end

/-! ### declarations -/
/-- n declarations: names, numbers of arguments, arguments, results. -/
structure DS where
  n : Nat
  nm : Nat → List Nat
  al : Nat → Nat
  ar : Nat → Nat → Int
  rs : Nat → Int
def DS.cell (D : DS) (a : Nat → AVal) (j : Nat) : List AVal := [.str (D.nm j), a j, .int .i64 (D.rs j)]
def argCell (f : Nat → Int) (k : Nat) : List AVal := [.int .i64 (f k)]
/-- They stand in memory. -/
structure Decls (s : AS) (x : AVal) (D : DS) (a : Nat → AVal) : Prop where
  row : Sl s 3 x D.n (D.cell a)
  args : ∀ j, j < D.n → Sl s 1 (a j) (D.al j) (argCell (D.ar j))
theorem Sl.solid {s : AS} {w : Nat} {x : AVal} {n : Nat} {f : Nat → List AVal} (h : Sl s w x n f) : x.solid 5 = true ∧ x.one = true := by
  rcases h with ⟨rfl, _⟩ | ⟨g, o, v, c, rfl, _, _⟩ <;> exact ⟨rfl, rfl⟩
theorem Decls.keeps {s s' : AS} {x : AVal} {D : DS} {a : Nat → AVal} (h : Decls s x D a) (k : Keeps s s') : Decls s' x D a :=
  ⟨h.row.keeps (fun j hj => by unfold DS.cell solids; simp only [List.all_cons, List.all_nil, (Sl.solid (h.args j hj)).1]; rfl) k, fun j hj => (h.args j hj).keeps (fun _ _ => rfl) k⟩
theorem Decls.ones {s : AS} {x : AVal} {D : DS} {a : Nat → AVal} (h : Decls s x D a) {j : Nat} (hj : j < D.n) : ones (D.cell a j) = true := by
  rw [ones_iff]
  intro c hc
  simp only [DS.cell, List.mem_cons, List.mem_nil_iff, or_false] at hc
  rcases hc with rfl | rfl | rfl
  · rfl
  · exact (Sl.solid (h.args j hj)).2
  · rfl
theorem Decls.solidCell {s : AS} {x : AVal} {D : DS} {a : Nat → AVal} (h : Decls s x D a) {j : Nat} (hj : j < D.n) : solids (D.cell a j) = true := by
  unfold DS.cell solids; simp only [List.all_cons, List.all_nil, (Sl.solid (h.args j hj)).1]; rfl
/-- Are they declarations of a text? -/
def dOk (D : DS) (j : Nat) : Bool := okName (D.nm j) && (decide (D.al j ≤ 3) && (isT (D.rs j) && ((List.range (D.al j)).all (fun k => isA (D.ar j k)) && (List.range j).all (fun i => !decide (D.nm i = D.nm j)))))
def valid (D : DS) : Bool := decide (D.n ≤ 4) && (List.range D.n).all (dOk D)
theorem valid_false {D : DS} {j : Nat} (hj : j < D.n) (h : dOk D j = false) : valid D = false := by
  unfold valid
  rw [show (List.range D.n).all (dOk D) = false from List.all_eq_false.2 ⟨j, List.mem_range.2 hj, by rw [h]; simp⟩, Bool.and_false]
theorem valid_true {D : DS} (hn : D.n ≤ 4) (h : ∀ j, j < D.n → dOk D j = true) : valid D = true := by
  unfold valid
  rw [decide_eq_true hn, Bool.true_and, List.all_eq_true]
  exact fun j hj => h j (List.mem_range.1 hj)
theorem dOk_args {D : DS} {j k : Nat} (hk : k < D.al j) (h : isA (D.ar j k) = false) : dOk D j = false := by
  unfold dOk
  rw [show (List.range (D.al j)).all (fun k => isA (D.ar j k)) = false from List.all_eq_false.2 ⟨k, List.mem_range.2 hk, by rw [h]; simp⟩]
  simp
theorem dOk_same {D : DS} {j i : Nat} (hi : i < j) (h : D.nm i = D.nm j) : dOk D j = false := by
  unfold dOk
  rw [show (List.range j).all (fun i => !decide (D.nm i = D.nm j)) = false from List.all_eq_false.2 ⟨i, List.mem_range.2 hi, by rw [decide_eq_true h]; simp⟩]
  simp
theorem dOk_true {D : DS} {j : Nat} (h1 : okName (D.nm j) = true) (h2 : D.al j ≤ 3) (h3 : isT (D.rs j) = true) (h4 : ∀ k, k < D.al j → isA (D.ar j k) = true) (h5 : ∀ i, i < j → D.nm i ≠ D.nm j) : dOk D j = true := by
  unfold dOk
  rw [h1, decide_eq_true h2, h3, List.all_eq_true.2 (fun k hk => h4 k (List.mem_range.1 hk)), List.all_eq_true.2 (fun i hi => by rw [decide_eq_false (h5 i (List.mem_range.1 hi))]; rfl)]
  rfl

/-! ### R1.Declared -/
def b19 : AC := bodyOf T.a19
def l19 : AC := inn (inn (tl (hd (aft 2 b19))))
/-- The round; its loops. -/
def r19 : AC := inn (hd (tl l19))
def la19 : AC := inn (inn (tl (hd (aft 2 r19))))
def lb19 : AC := inn (inn (tl (aft 3 r19)))
theorem ok19 : (AC.loop l19).ok = true := by decide +kernel
theorem ok19a : (AC.loop la19).ok = true := by decide +kernel
theorem ok19b : (AC.loop lb19).ok = true := by decide +kernel
theorem ok19_3 : (aft 3 b19).ok = true := by decide +kernel
theorem ok19r3 : (aft 3 r19).ok = true := by decide +kernel
theorem ok19i : (tl (tl l19)).ok = true := by decide +kernel
section
variable {D : DS} {x : AVal} {a : Nat → AVal} {s0 : AS}
def Q19 (s0 : AS) (D : DS) : Ex → Fr → AS → Prop := Res.of [.tmp 2] (Gives s0 (.bool (valid D)))
theorem lift19 : Lift1 (Q19 s0 D) := Lift1.res (Gives.lift rfl) _
/-- What follows the outer loop; a round. -/
def QL19 (s0 : AS) (D : DS) : Ex → Fr → AS → Prop := Out.of 0 (Then T.tab (aft 3 b19) (Q19 s0 D))
theorem liftL19 : Lift1 (QL19 s0 D) := Lift1.out (Lift1.andThen T.tabR ok19_3 lift19) 0
def QR19 (s0 : AS) (D : DS) : Ex → Fr → AS → Prop := Out.of 1 (Then T.tab (tl (tl l19)) (Then T.tab (.loop l19) (QL19 s0 D)))
theorem liftR19 : Lift1 (QR19 s0 D) := Lift1.out (Lift1.andThen T.tabR ok19i (Lift1.andThen T.tabR ok19 liftL19)) 1
/-- The names ahead. -/
theorem same19 {j : Nat} (hj : j < D.n) (hn : D.n ≤ 4) {p : AVal} {sB : AS} (hD : Decls sB x D a) (hp : At sB 3 p (D.cell a j)) (hB : Keeps s0 sB)
    (hend : ∀ s, Keeps sB s → (∀ i, i < j → D.nm i ≠ D.nm j) → ∀ fr : Fr, fr.df = [] → fr.get 0 = x → fr.get 3 = .int .i64 (.ofNat j) → QR19 s0 D .nrm fr s) : ∀ (n i : Nat) (s : AS), i + n = j → Keeps sB s → (∀ k, k < i → D.nm k ≠ D.nm j) →
    Wp T.tab (.loop lb19) (mkF [(0, x), (3, .int .i64 (.ofNat j)), (4, p), (6, .int .i64 (.ofNat i))]) s (Out.of 4 (QR19 s0 D)) := by
  intro n
  induction n with
  | zero =>
    intro i s hi hk hne
    refine aw_loop_step ?_
    show Wp T.tab (.seq (.seq (.reg (ops (hd (hd lb19)))) (tl (hd lb19))) (tl lb19)) _ _ _
    refine aw_seq (aw_seq (aw_reg (ow_loud rfl rfl rfl (ow_loud rfl rfl rfl (ow_loud (lss_nat (n := i) (m := j) rfl rfl (decide_eq_false (by omega))) rfl rfl (ow_nil ?_))))))
    refine aw_false rfl (aw_exit ?_)
    exact hend s hk (fun k hk => hne k (by omega)) _ rfl rfl rfl
  | succ n ih =>
    intro i s hi hk hne
    have hD' := hD.keeps hk
    have hp' := hp.keeps (hD.solidCell hj) hk
    refine aw_loop_step ?_
    show Wp T.tab (.seq (.seq (.reg (ops (hd (hd lb19)))) (tl (hd lb19))) (.seq (.block 5 (.seq (.reg (ops (hd (inn (hd (tl lb19)))))) (tl (inn (hd (tl lb19)))))) (.reg (ops (tl (tl lb19)))))) _ _ _
    refine aw_seq (aw_seq (aw_reg (ow_loud rfl rfl rfl (ow_loud rfl rfl rfl (ow_loud (lss_nat (n := i) (m := j) rfl rfl (decide_eq_true (by omega))) rfl rfl (ow_nil ?_))))))
    refine aw_true rfl (aw_skip (aw_seq (aw_block (aw_seq (aw_reg (ow_loud rfl rfl rfl (ow_loud rfl rfl rfl ?_)))))))
    refine ow_ex (hD'.row.at (i := i) (fun _ => rfl) (by omega) rfl rfl) rfl (fun _ => rfl) fun p1 hp1 => ?_
    refine ow_ex (hp1.field (j := 0) (y := .str (D.nm i)) rfl rfl rfl) rfl (fun _ => rfl) fun p2 hp2 => ?_
    refine ow_loud (hp2.one rfl) rfl rfl ?_
    refine ow_ex (hp'.field (j := 0) (y := .str (D.nm j)) rfl rfl rfl) rfl (fun _ => rfl) fun p3 hp3 => ?_
    refine ow_loud (hp3.one rfl) rfl rfl ?_
    refine ow_loud (eql_str (a := D.nm i) (b := D.nm j) rfl rfl rfl) rfl rfl (ow_nil ?_)
    by_cases e : D.nm i = D.nm j
    · rw [decide_eq_true e]
      refine aw_true rfl (aw_seq (aw_reg (ow_loud rfl rfl rfl (ow_nil ?_))))
      exact aw_ret (Gives.of rfl (by rw [valid_false hj (dOk_same (by omega) e)]; rfl) (hB.trans hk))
    · rw [decide_eq_false e]
      refine aw_false rfl (aw_skip (aw_reg (ow_loud rfl rfl rfl (ow_loud (add_nat (n := i) (k := 1) rfl rfl (by omega)) rfl rfl (ow_loud rfl rfl rfl (ow_nil ?_))))))
      refine aw_lose T.tabR ok19b (Lift1.out liftR19 4) (l := [(0, x), (3, .int .i64 (.ofNat j)), (4, p), (6, .int .i64 (.ofNat (i + 1)))]) ⟨Vr.refl _, Vr.refl _, Vr.refl _, Vr.refl _, trivial⟩ rfl (ih (i + 1) s (by omega) hk fun k hk => ?_)
      by_cases e2 : k = i
      · subst e2; exact e
      · exact hne k (by omega)
/-- The arguments. -/
theorem args19 {j : Nat} (hj : j < D.n) {p : AVal} {sB : AS} (hD : Decls sB x D a) (hp : At sB 3 p (D.cell a j)) (hB : Keeps s0 sB) (hal : D.al j ≤ 3)
    (hend : ∀ s, Keeps sB s → (∀ k, k < D.al j → isA (D.ar j k) = true) → Wp T.tab (aft 3 r19) (mkF [(0, x), (3, .int .i64 (.ofNat j)), (4, p)]) s (QR19 s0 D)) : ∀ (n i : Nat) (s : AS), i + n = D.al j → Keeps sB s → (∀ k, k < i → isA (D.ar j k) = true) →
    Wp T.tab (.loop la19) (mkF [(0, x), (3, .int .i64 (.ofNat j)), (4, p), (5, .int .i64 (.ofNat i))]) s (Out.of 2 (Then T.tab (aft 3 r19) (QR19 s0 D))) := by
  have hQ : Lift1 (Out.of 2 (Then T.tab (aft 3 r19) (QR19 s0 D))) := Lift1.out (Lift1.andThen T.tabR ok19r3 liftR19) 2
  intro n
  induction n with
  | zero =>
    intro i s hi hk hne
    have hD' := hD.keeps hk
    have hp' := hp.keeps (hD.solidCell hj) hk
    refine aw_loop_step ?_
    show Wp T.tab (.seq (.seq (.reg (ops (hd (hd la19)))) (tl (hd la19))) (tl la19)) _ _ _
    refine aw_seq (aw_seq (aw_reg (ow_loud rfl rfl rfl ?_)))
    refine ow_ex (hp'.field (j := 1) (y := a j) rfl rfl rfl) rfl (fun _ => rfl) fun p1 hp1 => ?_
    refine ow_loud (hp1.one rfl) rfl rfl (ow_loud ((hD'.args j hj).len rfl) rfl rfl ?_)
    refine ow_loud (lss_nat (n := i) (m := D.al j) rfl rfl (decide_eq_false (by omega))) rfl rfl (ow_nil ?_)
    refine aw_false rfl (aw_exit ?_)
    refine aw_lose T.tabR ok19r3 liftR19 (l := [(0, x), (3, .int .i64 (.ofNat j)), (4, p)]) ⟨Vr.refl _, Vr.refl _, Vr.refl _, trivial⟩ rfl (hend s hk (fun k hk => hne k (by omega)))
  | succ n ih =>
    intro i s hi hk hne
    have hD' := hD.keeps hk
    have hp' := hp.keeps (hD.solidCell hj) hk
    refine aw_loop_step ?_
    show Wp T.tab (.seq (.seq (.reg (ops (hd (hd la19)))) (tl (hd la19))) (.seq (.block 3 (.seq (.reg (ops (hd (inn (hd (tl la19)))))) (tl (inn (hd (tl la19)))))) (.reg (ops (tl (tl la19)))))) _ _ _
    refine aw_seq (aw_seq (aw_reg (ow_loud rfl rfl rfl ?_)))
    refine ow_ex (hp'.field (j := 1) (y := a j) rfl rfl rfl) rfl (fun _ => rfl) fun p1 hp1 => ?_
    refine ow_loud (hp1.one rfl) rfl rfl (ow_loud ((hD'.args j hj).len rfl) rfl rfl ?_)
    refine ow_loud (lss_nat (n := i) (m := D.al j) rfl rfl (decide_eq_true (by omega))) rfl rfl (ow_nil ?_)
    refine aw_true rfl (aw_skip (aw_seq (aw_block (aw_seq (aw_reg ?_)))))
    refine ow_ex (hp'.field (j := 1) (y := a j) rfl rfl rfl) rfl (fun _ => rfl) fun p2 hp2 => ?_
    refine ow_loud (hp2.one rfl) rfl rfl (ow_loud rfl rfl rfl ?_)
    refine ow_ex ((hD'.args j hj).at (i := i) (fun _ => rfl) (by omega) rfl rfl) rfl (fun _ => rfl) fun p3 hp3 => ?_
    refine ow_loud (hp3.one rfl) rfl rfl ?_
    refine ow_call rfl rfl rfl ((isArg50 (D.ar j i) s).mono fun v s1 hv => ⟨rfl, ?_⟩)
    obtain ⟨rfl, hk1⟩ := hv
    refine ow_loud rfl rfl rfl (ow_nil ?_)
    cases e : isA (D.ar j i) with
    | false =>
      refine aw_true rfl (aw_seq (aw_reg (ow_loud rfl rfl rfl (ow_nil ?_))))
      exact aw_ret (Gives.of rfl (by rw [valid_false hj (dOk_args (by omega) e)]; rfl) (hB.trans (hk.trans hk1)))
    | true =>
      refine aw_false rfl (aw_skip (aw_reg (ow_loud rfl rfl rfl (ow_loud (add_nat (n := i) (k := 1) rfl rfl (by omega)) rfl rfl (ow_loud rfl rfl rfl (ow_nil ?_))))))
      refine aw_lose T.tabR ok19a hQ (l := [(0, x), (3, .int .i64 (.ofNat j)), (4, p), (5, .int .i64 (.ofNat (i + 1)))]) ⟨Vr.refl _, Vr.refl _, Vr.refl _, Vr.refl _, trivial⟩ rfl (ih (i + 1) s1 (by omega) (hk.trans hk1) fun k hk => ?_)
      by_cases e2 : k = i
      · subst e2; exact e
      · exact hne k (by omega)
theorem loop19 {sA : AS} (hD : Decls sA x D a) (hA : Keeps s0 sA) (hn : D.n ≤ 4) : ∀ (n j : Nat) (s : AS), j + n = D.n → Keeps sA s → (∀ k, k < j → dOk D k = true) → Wp T.tab (.loop l19) (mkF [(0, x), (3, .int .i64 (.ofNat j))]) s (QL19 s0 D) := by
  intro n
  induction n with
  | zero =>
    intro j s hj hk hok
    have hD' := hD.keeps hk
    refine aw_loop_step ?_
    show Wp T.tab (.seq (.seq (.reg (ops (hd (hd l19)))) (tl (hd l19))) (tl l19)) _ _ _
    refine aw_seq (aw_seq (aw_reg (ow_loud rfl rfl rfl (ow_loud rfl rfl rfl (ow_loud (hD'.row.len rfl) rfl rfl (ow_loud (lss_nat (n := j) (m := D.n) rfl rfl (decide_eq_false (by omega))) rfl rfl (ow_nil ?_)))))))
    refine aw_false rfl (aw_exit ?_)
    show Wp T.tab (.seq (.reg (ops (hd (aft 3 b19)))) .ret) _ _ _
    refine aw_seq (aw_reg (ow_loud rfl rfl rfl (ow_nil ?_)))
    exact aw_ret (Gives.of rfl (by rw [valid_true hn fun k hk => hok k (by omega)]; rfl) (hA.trans hk))
  | succ n ih =>
    intro j s hj hk hok
    have hD' := hD.keeps hk
    have hjn : j < D.n := by omega
    refine aw_loop_step ?_
    show Wp T.tab (.seq (.seq (.reg (ops (hd (hd l19)))) (tl (hd l19))) (.seq (.block 1 r19) (tl (tl l19)))) _ _ _
    refine aw_seq (aw_seq (aw_reg (ow_loud rfl rfl rfl (ow_loud rfl rfl rfl (ow_loud (hD'.row.len rfl) rfl rfl (ow_loud (lss_nat (n := j) (m := D.n) rfl rfl (decide_eq_true (by omega))) rfl rfl (ow_nil ?_)))))))
    refine aw_true rfl (aw_skip (aw_seq (aw_block ?_)))
    show Wp T.tab (.seq (.reg (ops (hd r19))) (.seq (.seq (.reg (ops (hd (hd (aft 1 r19))))) (tl (hd (aft 1 r19)))) (.seq (.seq (.reg (ops (hd (hd (aft 2 r19))))) (.block 2 (.loop la19))) (aft 3 r19)))) _ _ _
    refine aw_seq (aw_reg (ow_loud rfl rfl rfl (ow_loud rfl rfl rfl ?_)))
    refine ow_ex (hD'.row.at (i := j) (fun _ => rfl) hjn rfl rfl) rfl (fun _ => rfl) fun p1 hp1 => ?_
    refine ow_loud (hp1.load rfl) rfl rfl ?_
    refine ow_fresh rfl rfl rfl rfl rfl rfl rfl rfl rfl rfl (hD'.ones hjn) rfl rfl fun s1 hk1 hp _ => ow_nil ?_
    have hD1 := hD'.keeps hk1
    generalize hpp : AVal.ptr s.nx 0 0 = p at hp ⊢
    refine aw_seq (aw_seq (aw_reg ?_))
    refine ow_ex (hp.field (j := 0) (y := .str (D.nm j)) rfl rfl rfl) rfl (fun _ => rfl) fun p2 hp2 => ?_
    refine ow_loud (hp2.one rfl) rfl rfl ?_
    refine ow_call rfl rfl rfl ((isName48 (D.nm j) s1).mono fun v s2 hv => ⟨rfl, ?_⟩)
    obtain ⟨rfl, hk2⟩ := hv
    have hp2 := hp.keeps (hD1.solidCell hjn) hk2
    have hD2 := hD1.keeps hk2
    cases e1 : okName (D.nm j) with
    | false =>
      refine ow_loud rfl rfl rfl (ow_loud rfl rfl rfl (ow_skip rfl (ow_skip rfl (ow_skip rfl (ow_skip rfl (ow_loud rfl rfl rfl (ow_loud rfl rfl rfl (ow_skip rfl (ow_skip rfl (ow_skip rfl (ow_skip rfl (ow_loud rfl rfl rfl (ow_nil ?_)))))))))))))
      refine aw_true rfl (aw_seq (aw_reg (ow_loud rfl rfl rfl (ow_nil ?_))))
      exact aw_ret (Gives.of rfl (by rw [valid_false hjn (by unfold dOk; rw [e1]; rfl)]; rfl) (hA.trans (hk.trans (hk1.trans hk2))))
    | true =>
      refine ow_loud rfl rfl rfl (ow_loud rfl rfl rfl ?_)
      refine ow_ex (hp2.field (j := 1) (y := a j) rfl rfl rfl) rfl (fun _ => rfl) fun p3 hp3 => ?_
      refine ow_loud (hp3.one rfl) rfl rfl (ow_loud ((hD2.args j hjn).len rfl) rfl rfl ?_)
      by_cases e2 : 3 < D.al j
      · refine ow_loud (gtr_nat (n := D.al j) (m := 3) rfl rfl (decide_eq_true e2)) rfl rfl (ow_loud rfl rfl rfl (ow_loud rfl rfl rfl (ow_skip rfl (ow_skip rfl (ow_skip rfl (ow_skip rfl (ow_loud rfl rfl rfl (ow_nil ?_))))))))
        refine aw_true rfl (aw_seq (aw_reg (ow_loud rfl rfl rfl (ow_nil ?_))))
        exact aw_ret (Gives.of rfl (by rw [valid_false hjn (by unfold dOk; rw [decide_eq_false (p := D.al j ≤ 3) (by omega)]; simp)]; rfl) (hA.trans (hk.trans (hk1.trans hk2))))
      · refine ow_loud (gtr_nat (n := D.al j) (m := 3) rfl rfl (decide_eq_false e2)) rfl rfl (ow_loud rfl rfl rfl (ow_loud rfl rfl rfl ?_))
        refine ow_ex (hp2.field (j := 2) (y := .int .i64 (D.rs j)) rfl rfl rfl) rfl (fun _ => rfl) fun p4 hp4 => ?_
        refine ow_loud (hp4.one rfl) rfl rfl ?_
        refine ow_call rfl rfl rfl ((isType49 (D.rs j) s2).mono fun v s3 hv => ⟨rfl, ?_⟩)
        obtain ⟨rfl, hk3⟩ := hv
        refine ow_loud rfl rfl rfl (ow_loud rfl rfl rfl (ow_nil ?_))
        cases e3 : isT (D.rs j) with
        | false =>
          refine aw_true rfl (aw_seq (aw_reg (ow_loud rfl rfl rfl (ow_nil ?_))))
          exact aw_ret (Gives.of rfl (by rw [valid_false hjn (by unfold dOk; rw [e3]; simp)]; rfl) (hA.trans (hk.trans (hk1.trans (hk2.trans hk3)))))
        | true =>
          refine aw_false rfl (aw_skip (aw_seq (aw_seq (aw_reg (ow_loud rfl rfl rfl (ow_nil (aw_block ?_)))))))
          have hQ : Lift1 (Out.of 2 (Then T.tab (aft 3 r19) (QR19 s0 D))) := Lift1.out (Lift1.andThen T.tabR ok19r3 liftR19) 2
          have hp3 := hp2.keeps (hD2.solidCell hjn) hk3
          have hD3 := hD2.keeps hk3
          have hB : Keeps s0 s3 := hA.trans (hk.trans (hk1.trans (hk2.trans hk3)))
          have hAB : Keeps sA s3 := hk.trans (hk1.trans (hk2.trans hk3))
          refine aw_lose T.tabR ok19a hQ (l := [(0, x), (3, .int .i64 (.ofNat j)), (4, p), (5, .int .i64 (.ofNat 0))]) ⟨Vr.refl _, Vr.refl _, Vr.refl _, Vr.refl _, trivial⟩ rfl
            (args19 hjn hD3 hp3 hB (by omega) (fun s4 hk4 hargs => ?_) (D.al j) 0 s3 (by omega) (.refl s3) (fun k hk => by omega))
          show Wp T.tab (.seq (.reg (ops (hd (aft 3 r19)))) (.block 4 (.loop lb19))) _ _ _
          refine aw_seq (aw_reg (ow_loud rfl rfl rfl (ow_nil (aw_block ?_))))
          refine aw_lose T.tabR ok19b (Lift1.out liftR19 4) (l := [(0, x), (3, .int .i64 (.ofNat j)), (4, p), (6, .int .i64 (.ofNat 0))]) ⟨Vr.refl _, Vr.refl _, Vr.refl _, Vr.refl _, trivial⟩ rfl
            (same19 hjn hn (hD3.keeps hk4) (hp3.keeps (hD3.solidCell hjn) hk4) (hB.trans hk4) (fun s5 hk5 hne fr' hdf h0 h3 => ?_) j 0 s4 (by omega) (.refl s4) (fun k hk => by omega))
          show Wp T.tab (.reg (ops (tl (tl l19)))) _ _ _
          have ok3 : (AC.reg (ops (tl (tl l19)))).ok = true := by decide +kernel
          refine aw_lose T.tabR ok3 (Lift1.andThen T.tabR ok19 liftL19) (l := [(0, x), (3, .int .i64 (.ofNat j))]) ⟨by rw [h0]; exact Vr.refl _, by rw [h3]; exact Vr.refl _, trivial⟩ hdf ?_
          refine aw_reg (ow_loud rfl rfl rfl (ow_loud (add_nat (n := j) (k := 1) rfl rfl (by omega)) rfl rfl (ow_loud rfl rfl rfl (ow_nil ?_))))
          refine aw_lose T.tabR ok19 liftL19 (l := [(0, x), (3, .int .i64 (.ofNat (j + 1)))]) ⟨Vr.refl _, Vr.refl _, trivial⟩ rfl (ih (j + 1) s5 (by omega) (hAB.trans (hk4.trans hk5)) fun k hk => ?_)
          by_cases e4 : k = j
          · subst e4; exact dOk_true e1 (by omega) e3 hargs hne
          · exact hok k (by omega)
theorem declared19 {s : AS} (hD : Decls s x D a) : Cw T.tab 19 [x] s (Gives s (.bool (valid D))) := by
  refine cw_of (body := b19) (rs := [.tmp 2]) rfl ?_
  show Wp T.tab (.seq (.reg (ops (hd b19))) (.seq (.seq (.reg (ops (hd (hd (aft 1 b19))))) (tl (hd (aft 1 b19)))) (.seq (.seq (.reg (ops (hd (hd (aft 2 b19))))) (.block 0 (.loop l19))) (aft 3 b19)))) _ _ _
  refine aw_seq (aw_reg (ow_loud rfl rfl rfl (ow_nil ?_)))
  refine aw_seq (aw_seq (aw_reg (ow_loud rfl rfl rfl (ow_loud (hD.row.len rfl) rfl rfl ?_))))
  by_cases e : 4 < D.n
  · refine ow_loud (gtr_nat (n := D.n) (m := 4) rfl rfl (decide_eq_true e)) rfl rfl (ow_nil ?_)
    refine aw_true rfl (aw_seq (aw_reg (ow_loud rfl rfl rfl (ow_nil ?_))))
    exact aw_ret (Gives.of rfl (by rw [show valid D = false by unfold valid; rw [decide_eq_false (by omega)]; rfl]; rfl) (.refl s))
  · refine ow_loud (gtr_nat (n := D.n) (m := 4) rfl rfl (decide_eq_false e)) rfl rfl (ow_nil ?_)
    refine aw_false rfl (aw_skip (aw_seq (aw_seq (aw_reg (ow_loud rfl rfl rfl (ow_nil (aw_block ?_)))))))
    exact aw_lose T.tabR ok19 liftL19 (l := [(0, x), (3, .int .i64 (.ofNat 0))]) ⟨Vr.refl _, Vr.refl _, trivial⟩ rfl (loop19 hD (.refl s) (by omega) D.n 0 s (by omega) (.refl s) (fun k hk => by omega))
end
end Go.Proofs.YteoeidhcmcacbaaGreatDoor.movesLetters
/-
  Declarations, the program's way: searches with a function.
-/
namespace Go.Proofs.YteoeidhcmcacbaaGreatDoor.movesLetters
open Go Go.Avm

section
variable {tab : Nat → Option AFn} {Q : Ex → Fr → AS → Prop} {fr : Fr} {s : AS}
/-- A new thing, of cells told. -/
theorem ow_new {o : AOper} {l : List AOper} {z : List AVal} (h1 : o.op = .new z) (hg : o.guard = none) (hc : o.chk = []) (hz : ones z = true) (k : Ow tab l (fr.put o.dst (.ptr s.nx 0 0)) (s.new (oneRow z)) Q) : Ow tab (o :: l) fr s Q :=
  ow_loud (v := .ptr s.nx 0 0) (s' := s.new (oneRow z)) (by
    rw [h1]
    show (match (bif ones z then some (oneRow z, fun g => AVal.ptr g 0 0) else none) with | some (o, f) => some (f s.nx, s.new o) | none => none) = _
    rw [hz]; rfl) (by rw [hg]; rfl) (by rw [hc]; rfl) k
/-- A store of all cells of such a thing; sB: the memory ahead of it. -/
theorem ow_fill {o : AOper} {l : List AOper} {z cs : List AVal} {w g : Nat} {a y : Opd} {sB : AS} (h1 : o.op = .store w a y) (hg : o.guard = none) (hc : o.chk = []) (hd : o.dst = none) (ha : fr.ev a = .ptr g 0 0) (hy : (fr.ev y).cells = cs) (hget : s.get g = some (.row z 0 [w] false)) (hzl : z.length = w) (hones : ones cs = true) (hcl : cs.length = w) (hB : Keeps sB s) (hgB : sB.nx ≤ g)
    (k : ∀ s', Keeps sB s' → s'.get g = some (.row cs 0 [w] false) → At s' w (.ptr g 0 0) cs → (∀ j, j ≠ g → s'.get j = s.get j) → Ow tab l fr s' Q) : Ow tab (o :: l) fr s Q := by
  have hlt := AS.lt_of_get hget
  have hsp : splice z 0 cs = cs := by
    unfold splice
    simp only [lapp_eq, ltake_eq, ldrop_eq, llen_eq, List.take_zero, List.nil_append]
    rw [List.drop_of_length_le (by show z.length ≤ 0 + cs.length; omega), List.append_nil]
  have hp : putAt s g 0 0 cs = some (s.set g (.row cs 0 [w] false)) := by
    unfold putAt
    rw [hget]
    show (bif Nat.beq 0 0 && !false && Nat.ble (Nat.add 0 (llen cs)) w then some (s.set g (.row (splice z 0 cs) 0 [w] false)) else none) = _
    rw [llen_eq, hcl, ble_iff.2 (by show 0 + w ≤ w; omega), hsp]; rfl
  refine ow_loud (v := .junk) (s' := s.set g (.row cs 0 [w] false)) (by
    rw [h1]
    show (match fr.ev a with
      | .ptr g x w' => bif Nat.beq (llen (fr.ev y).cells) w && ones (fr.ev y).cells then
          match putAt s g x w' (fr.ev y).cells with
          | some s => some (AVal.junk, s)
          | none => none
        else none
      | _ => none) = _
    rw [ha, hy]
    show (bif Nat.beq (llen cs) w && ones cs then match putAt s g 0 0 cs with | some s => some (AVal.junk, s) | none => none else none) = _
    rw [hones, llen_eq, hcl, beqN_iff.2 rfl, hp]; rfl) (by rw [hg]; rfl) (by rw [hc]; rfl) ?_
  rw [hd]
  have hg' := AS.get_set_same s (.row cs 0 [w] false) hlt
  refine k _ (fun j o e => ?_) hg' ⟨g, 0, 0, rfl, ?_⟩ (fun j hj => AS.get_set_ne _ _ hj)
  · have hj := AS.lt_of_get e
    rw [AS.get_set_ne _ _ (by omega)]
    exact hB j o e
  · unfold cellsAt
    rw [hg']
    show (bif Nat.ble (Nat.add 0 w) w then some (ltake (ldrop cs 0) w) else none) = _
    rw [ble_iff.2 (by show 0 + w ≤ w; omega), cond_true, ltake_eq, ldrop_eq, List.drop_zero, List.take_of_length_le (by omega)]
end

/-! ### searches with a function -/
/-- The first place where p holds. -/
def firstAt (p : Nat → Bool) : Nat → Option Nat
  | 0 => none
  | n + 1 => match firstAt p n with
    | some i => some i
    | none => if p n then some n else none
theorem firstAt_none {p : Nat → Bool} : ∀ {n : Nat}, (∀ i, i < n → p i = false) → firstAt p n = none
  | 0, _ => rfl
  | n + 1, h => by unfold firstAt; rw [firstAt_none fun i hi => h i (by omega), h n (by omega)]; rfl
theorem firstAt_some {p : Nat → Bool} {i : Nat} (hi : p i = true) (hl : ∀ j, j < i → p j = false) : ∀ {n : Nat}, i < n → firstAt p n = some i
  | n + 1, h => by
    unfold firstAt
    by_cases e : i = n
    · subst e; rw [firstAt_none hl, hi]; rfl
    · rw [firstAt_some hi hl (by omega)]
def placeOf : Option Nat → AVal
  | some i => .int .i64 (.ofNat i)
  | none => .int .i64 (-1)

/-- What a search asks of each thing: val i is what the function gets. -/
def Asks (f : AVal) (s0 : AS) (n : Nat) (val : Nat → AVal) (p : Nat → Bool) : Prop := ∃ g a b, f = .func g a b ∧ ∀ i, i < n → ∀ s, Keeps s0 s → Cw T.tab g (a ++ ([val i] ++ b)) s (Gives s (.bool (p i)))
theorem Asks.keeps {f : AVal} {s0 s1 : AS} {n : Nat} {val : Nat → AVal} {p : Nat → Bool} (h : Asks f s0 n val p) (k : Keeps s0 s1) : Asks f s1 n val p := by
  obtain ⟨g, a, b, h1, h2⟩ := h
  exact ⟨g, a, b, h1, fun i hi s hs => h2 i hi s (k.trans hs)⟩

def b157 : AC := bodyOf T.a157
def l157 : AC := inn (inn (tl (hd (aft 1 b157))))
theorem ok157 : (AC.loop l157).ok = true := by decide +kernel
theorem ok157_2 : (aft 2 b157).ok = true := by decide +kernel
def b158 : AC := bodyOf T.a158
def l158 : AC := inn (inn (tl (hd (aft 1 b158))))
theorem ok158 : (AC.loop l158).ok = true := by decide +kernel
theorem ok158_2 : (aft 2 b158).ok = true := by decide +kernel
section
variable {x f : AVal} {n : Nat} {e : Nat → List AVal} {p : Nat → Bool} {s0 : AS}
theorem loop157 (hlen : ∀ j, (e j).length = 3) (hsol : ∀ j, j < n → solids (e j) = true) (hx : Sl s0 3 x n e) (hf : Asks f s0 n (fun i => .agg (e i)) p) (hn : n < 1000) : ∀ (k i : Nat) (s : AS), i + k = n → (∀ j, j < i → p j = false) → Keeps s0 s →
    Wp T.tab (.loop l157) (mkF [(0, x), (1, f), (7, .int .i64 (.ofNat n)), (8, .int .i64 (.ofNat i))]) s (Out.of 0 (Then T.tab (aft 2 b157) (Res.of [.tmp 4] (Gives s0 (placeOf (firstAt p n)))))) := by
  have hv : (placeOf (firstAt p n)).plain = true := by cases firstAt p n <;> rfl
  have hQ : Lift1 (Out.of 0 (Then T.tab (aft 2 b157) (Res.of [.tmp 4] (Gives s0 (placeOf (firstAt p n)))))) := Lift1.out (Lift1.andThen T.tabR ok157_2 (Lift1.res (Gives.lift hv) _)) 0
  intro k
  induction k with
  | zero =>
    intro i s hi hp hk
    refine aw_loop_step ?_
    show Wp T.tab (.seq (.reg (ops (hd l157))) (tl l157)) _ _ _
    refine aw_seq (aw_reg (ow_loud (lss_nat (n := i) (m := n) rfl rfl (decide_eq_false (by omega))) rfl rfl (ow_nil ?_)))
    refine aw_seq (aw_false rfl (aw_exit ?_))
    show Wp T.tab (.seq (.reg (ops (hd (aft 2 b157)))) .ret) _ _ _
    refine aw_seq (aw_reg (ow_loud rfl rfl rfl (ow_nil ?_)))
    exact aw_ret (Gives.of rfl (by rw [firstAt_none fun j hj => hp j (by omega)]; rfl) hk)
  | succ k ih =>
    intro i s hi hp hk
    obtain ⟨g, a, b, rfl, hg⟩ := hf
    refine aw_loop_step ?_
    show Wp T.tab (.seq (.reg (ops (hd l157))) (.seq (hd (tl l157)) (.seq (.block 1 (.seq (.reg (ops (hd (inn (hd (tl (tl l157))))))) (.seq (.reg (ops (hd (aft 1 (inn (hd (tl (tl l157)))))))) (tl (aft 1 (inn (hd (tl (tl l157))))))))) (.reg (ops (tl (tl (tl l157)))))))) _ _ _
    refine aw_seq (aw_reg (ow_loud (lss_nat (n := i) (m := n) rfl rfl (decide_eq_true (by omega))) rfl rfl (ow_nil ?_)))
    refine aw_seq (aw_true rfl (aw_skip (aw_seq (aw_block (aw_seq (aw_reg (ow_loud rfl rfl rfl (ow_loud rfl rfl rfl (ow_nil (aw_seq (aw_reg (ow_loud rfl rfl rfl (ow_loud rfl rfl rfl (ow_loud rfl rfl rfl ?_))))))))))))))
    refine ow_ex ((hx.keeps hsol hk).at (i := i) hlen (by omega) rfl rfl) rfl (fun _ => rfl) fun p1 hp1 => ?_
    refine ow_loud (hp1.load rfl) rfl rfl ?_
    refine ow_call rfl rfl rfl ((hg i (by omega) s hk).mono fun v s1 hv => ⟨rfl, ow_nil ?_⟩)
    obtain ⟨rfl, hk1⟩ := hv
    cases hpi : p i with
    | true =>
      refine aw_true rfl (aw_seq (aw_reg (ow_loud rfl rfl rfl (ow_loud rfl rfl rfl (ow_nil ?_)))))
      exact aw_ret (Gives.of rfl (by rw [firstAt_some hpi hp (by omega)]; rfl) (hk.trans hk1))
    | false =>
      refine aw_false rfl (aw_skip (aw_reg (ow_loud (add_nat (n := i) (k := 1) rfl rfl (by omega)) rfl rfl (ow_loud rfl rfl rfl (ow_nil ?_)))))
      refine aw_lose T.tabR ok157 hQ (l := [(0, x), (1, .func g a b), (7, .int .i64 (.ofNat n)), (8, .int .i64 (.ofNat (i + 1)))]) ⟨Vr.refl _, Vr.refl _, Vr.refl _, Vr.refl _, trivial⟩ rfl (ih (i + 1) s1 (by omega) (fun j hj => ?_) (hk.trans hk1))
      by_cases e2 : j = i
      · subst e2; exact hpi
      · exact hp j (by omega)
theorem index157 (hlen : ∀ j, (e j).length = 3) (hsol : ∀ j, j < n → solids (e j) = true) (hx : Sl s0 3 x n e) (hf : Asks f s0 n (fun i => .agg (e i)) p) (hn : n < 1000) : Cw T.tab 157 [x, f] s0 (Gives s0 (placeOf (firstAt p n))) := by
  have hv : (placeOf (firstAt p n)).plain = true := by cases firstAt p n <;> rfl
  have hQ : Lift1 (Out.of 0 (Then T.tab (aft 2 b157) (Res.of [.tmp 4] (Gives s0 (placeOf (firstAt p n)))))) := Lift1.out (Lift1.andThen T.tabR ok157_2 (Lift1.res (Gives.lift hv) _)) 0
  refine cw_of (body := b157) (rs := [.tmp 4]) rfl ?_
  show Wp T.tab (.seq (.reg (ops (hd b157))) (.seq (.seq (.reg (ops (hd (hd (aft 1 b157))))) (.block 0 (.loop l157))) (aft 2 b157))) _ _ _
  refine aw_seq (aw_reg (ow_loud rfl rfl rfl (ow_nil (aw_seq (aw_seq (aw_reg (ow_loud rfl rfl rfl (ow_loud (hx.len rfl) rfl rfl (ow_loud rfl rfl rfl (ow_nil (aw_block ?_)))))))))))
  exact aw_lose T.tabR ok157 hQ (l := [(0, x), (1, f), (7, .int .i64 (.ofNat n)), (8, .int .i64 (.ofNat 0))]) ⟨Vr.refl _, Vr.refl _, Vr.refl _, Vr.refl _, trivial⟩ rfl (loop157 hlen hsol hx hf hn n 0 s0 (by omega) (fun j hj => by omega) (.refl s0))
theorem contains_of {g h : Nat} {s : AS} {r : Option Nat} (hg : Cw T.tab g [x, f] s (Gives s (placeOf r))) {b : AC} (hf : T.tab h = some (.fn b [.tmp 4]))
    (hb : b = .seq (.reg [⟨some 4, .mov (.c (.bool false)), none, [], []⟩]) (.seq (.reg [⟨some 5, .mov (.t 0), none, [], []⟩, ⟨some 6, .mov (.t 1), none, [], []⟩, ⟨some 7, .call (.c (.func g [] [])) [.t 5, .t 6], none, [], []⟩, ⟨some 8, .bin .geq .prim (.t 7) (.c (.int .i64 0)), none, [], []⟩, ⟨some 4, .mov (.t 8), none, [], []⟩]) .ret)) :
    Cw T.tab h [x, f] s (Gives s (.bool r.isSome)) := by
  subst hb
  refine cw_of hf ?_
  refine aw_seq (aw_reg (ow_loud rfl rfl rfl (ow_nil (aw_seq (aw_reg (ow_loud rfl rfl rfl (ow_loud rfl rfl rfl (ow_call rfl rfl rfl (hg.mono fun v s1 hv => ⟨rfl, ?_⟩)))))))))
  obtain ⟨rfl, hk⟩ := hv
  cases r with
  | none => exact ow_loud rfl rfl rfl (ow_loud rfl rfl rfl (ow_nil (aw_ret (Gives.of rfl rfl hk))))
  | some i =>
    refine ow_loud (v := .bool true) (s' := s1) (by show some (AVal.bool (!bltI (.ofNat i) (.ofNat 0)), s1) = _; rw [ltI]; rfl) rfl rfl (ow_loud rfl rfl rfl (ow_nil ?_))
    exact aw_ret (Gives.of rfl rfl hk)
theorem contains94 (hlen : ∀ j, (e j).length = 3) (hsol : ∀ j, j < n → solids (e j) = true) (hx : Sl s0 3 x n e) (hf : Asks f s0 n (fun i => .agg (e i)) p) (hn : n < 1000) : Cw T.tab 94 [x, f] s0 (Gives s0 (.bool (firstAt p n).isSome)) :=
  contains_of (index157 hlen hsol hx hf hn) rfl rfl
theorem loop158 {q : Nat → Int} (hx : Sl s0 1 x n (argCell q)) (hf : Asks f s0 n (fun i => .int .i64 (q i)) p) (hn : n < 1000) : ∀ (k i : Nat) (s : AS), i + k = n → (∀ j, j < i → p j = false) → Keeps s0 s →
    Wp T.tab (.loop l158) (mkF [(0, x), (1, f), (7, .int .i64 (.ofNat n)), (8, .int .i64 (.ofNat i))]) s (Out.of 0 (Then T.tab (aft 2 b158) (Res.of [.tmp 4] (Gives s0 (placeOf (firstAt p n)))))) := by
  have hv : (placeOf (firstAt p n)).plain = true := by cases firstAt p n <;> rfl
  have hQ : Lift1 (Out.of 0 (Then T.tab (aft 2 b158) (Res.of [.tmp 4] (Gives s0 (placeOf (firstAt p n)))))) := Lift1.out (Lift1.andThen T.tabR ok158_2 (Lift1.res (Gives.lift hv) _)) 0
  intro k
  induction k with
  | zero =>
    intro i s hi hp hk
    refine aw_loop_step ?_
    show Wp T.tab (.seq (.reg (ops (hd l158))) (tl l158)) _ _ _
    refine aw_seq (aw_reg (ow_loud (lss_nat (n := i) (m := n) rfl rfl (decide_eq_false (by omega))) rfl rfl (ow_nil ?_)))
    refine aw_seq (aw_false rfl (aw_exit ?_))
    show Wp T.tab (.seq (.reg (ops (hd (aft 2 b158)))) .ret) _ _ _
    refine aw_seq (aw_reg (ow_loud rfl rfl rfl (ow_nil ?_)))
    exact aw_ret (Gives.of rfl (by rw [firstAt_none fun j hj => hp j (by omega)]; rfl) hk)
  | succ k ih =>
    intro i s hi hp hk
    obtain ⟨g, a, b, rfl, hg⟩ := hf
    refine aw_loop_step ?_
    show Wp T.tab (.seq (.reg (ops (hd l158))) (.seq (hd (tl l158)) (.seq (.block 1 (.seq (.reg (ops (hd (inn (hd (tl (tl l158))))))) (.seq (.reg (ops (hd (aft 1 (inn (hd (tl (tl l158)))))))) (tl (aft 1 (inn (hd (tl (tl l158))))))))) (.reg (ops (tl (tl (tl l158)))))))) _ _ _
    refine aw_seq (aw_reg (ow_loud (lss_nat (n := i) (m := n) rfl rfl (decide_eq_true (by omega))) rfl rfl (ow_nil ?_)))
    refine aw_seq (aw_true rfl (aw_skip (aw_seq (aw_block (aw_seq (aw_reg (ow_loud rfl rfl rfl (ow_loud rfl rfl rfl (ow_nil (aw_seq (aw_reg (ow_loud rfl rfl rfl (ow_loud rfl rfl rfl (ow_loud rfl rfl rfl ?_))))))))))))))
    refine ow_ex ((hx.keeps (fun _ _ => rfl) hk).at (i := i) (fun _ => rfl) (by omega) rfl rfl) rfl (fun _ => rfl) fun p1 hp1 => ?_
    refine ow_loud (hp1.one rfl) rfl rfl ?_
    refine ow_call rfl rfl rfl ((hg i (by omega) s hk).mono fun v s1 hv => ⟨rfl, ow_nil ?_⟩)
    obtain ⟨rfl, hk1⟩ := hv
    cases hpi : p i with
    | true =>
      refine aw_true rfl (aw_seq (aw_reg (ow_loud rfl rfl rfl (ow_loud rfl rfl rfl (ow_nil ?_)))))
      exact aw_ret (Gives.of rfl (by rw [firstAt_some hpi hp (by omega)]; rfl) (hk.trans hk1))
    | false =>
      refine aw_false rfl (aw_skip (aw_reg (ow_loud (add_nat (n := i) (k := 1) rfl rfl (by omega)) rfl rfl (ow_loud rfl rfl rfl (ow_nil ?_)))))
      refine aw_lose T.tabR ok158 hQ (l := [(0, x), (1, .func g a b), (7, .int .i64 (.ofNat n)), (8, .int .i64 (.ofNat (i + 1)))]) ⟨Vr.refl _, Vr.refl _, Vr.refl _, Vr.refl _, trivial⟩ rfl (ih (i + 1) s1 (by omega) (fun j hj => ?_) (hk.trans hk1))
      by_cases e2 : j = i
      · subst e2; exact hpi
      · exact hp j (by omega)
theorem index158 {q : Nat → Int} (hx : Sl s0 1 x n (argCell q)) (hf : Asks f s0 n (fun i => .int .i64 (q i)) p) (hn : n < 1000) : Cw T.tab 158 [x, f] s0 (Gives s0 (placeOf (firstAt p n))) := by
  have hv : (placeOf (firstAt p n)).plain = true := by cases firstAt p n <;> rfl
  have hQ : Lift1 (Out.of 0 (Then T.tab (aft 2 b158) (Res.of [.tmp 4] (Gives s0 (placeOf (firstAt p n)))))) := Lift1.out (Lift1.andThen T.tabR ok158_2 (Lift1.res (Gives.lift hv) _)) 0
  refine cw_of (body := b158) (rs := [.tmp 4]) rfl ?_
  show Wp T.tab (.seq (.reg (ops (hd b158))) (.seq (.seq (.reg (ops (hd (hd (aft 1 b158))))) (.block 0 (.loop l158))) (aft 2 b158))) _ _ _
  refine aw_seq (aw_reg (ow_loud rfl rfl rfl (ow_nil (aw_seq (aw_seq (aw_reg (ow_loud rfl rfl rfl (ow_loud (hx.len rfl) rfl rfl (ow_loud rfl rfl rfl (ow_nil (aw_block ?_)))))))))))
  exact aw_lose T.tabR ok158 hQ (l := [(0, x), (1, f), (7, .int .i64 (.ofNat n)), (8, .int .i64 (.ofNat 0))]) ⟨Vr.refl _, Vr.refl _, Vr.refl _, Vr.refl _, trivial⟩ rfl (loop158 hx hf hn n 0 s0 (by omega) (fun j hj => by omega) (.refl s0))
theorem contains98 {q : Nat → Int} (hx : Sl s0 1 x n (argCell q)) (hf : Asks f s0 n (fun i => .int .i64 (q i)) p) (hn : n < 1000) : Cw T.tab 98 [x, f] s0 (Gives s0 (.bool (firstAt p n).isSome)) :=
  contains_of (index158 hx hf hn) rfl rfl
end
theorem firstAt_isSome {p : Nat → Bool} : ∀ (n : Nat), (firstAt p n).isSome = (List.range n).any p
  | 0 => rfl
  | n + 1 => by
    have e : firstAt p (n + 1) = match firstAt p n with | some i => some i | none => if p n then some n else none := rfl
    rw [List.range_succ, List.any_append, ← firstAt_isSome n, e]
    cases firstAt p n with
    | some i => rfl
    | none => cases h : p n <;> simp [h]

/-! ### the functions that are asked -/
theorem notArg99 (y : Int) (s : AS) : Cw T.tab 99 [.int .i64 y] s (Gives s (.bool (!isA y))) := by
  refine cw_of (body := bodyOf T.a99) (rs := [.tmp 2]) rfl ?_
  show Wp T.tab (.seq (.reg (ops (hd (bodyOf T.a99)))) (.seq (.reg (ops (hd (aft 1 (bodyOf T.a99))))) .ret)) _ _ _
  refine aw_seq (aw_reg (ow_loud rfl rfl rfl (ow_nil (aw_seq (aw_reg (ow_loud rfl rfl rfl (ow_call rfl rfl rfl ((isArg100 y s).mono fun v s1 hv => ⟨rfl, ?_⟩))))))))
  obtain ⟨rfl, hk⟩ := hv
  exact ow_loud rfl rfl rfl (ow_loud rfl rfl rfl (ow_nil (aw_ret (Gives.of rfl rfl hk))))
/-- Has a declaration the name of the one at a place? -/
theorem same95 {cs : List AVal} {m1 m2 : List Nat} {y z u w : AVal} (hcs : cs = [.str m1, y, z]) (hy : y.one = true) (hz : z.one = true) {p : AVal} {s : AS} (hp : At s 3 p [.str m2, u, w]) (hu : u.solid 5 = true) (hw : w.solid 5 = true) :
    Cw T.tab 95 [.agg cs, p] s (Gives s (.bool (decide (m1 = m2)))) := by
  subst hcs
  have hones : ones [AVal.str m1, y, z] = true := by rw [ones_iff]; simp only [List.mem_cons, List.mem_nil_iff, or_false]; rintro c (rfl | rfl | rfl); rfl; exact hy; exact hz
  have hsol : solids [AVal.str m2, u, w] = true := by unfold solids; simp only [List.all_cons, List.all_nil, hu, hw]; rfl
  refine cw_of (body := bodyOf T.a95) (rs := [.tmp 3]) rfl ?_
  show Wp T.tab (.seq (.reg (ops (hd (bodyOf T.a95)))) (.seq (.reg (ops (hd (aft 1 (bodyOf T.a95))))) .ret)) _ _ _
  refine aw_seq (aw_reg (ow_loud (v := .ptr s.nx 0 0) (s' := s.new (oneRow [.str m1, y, z])) (by
    show (match (bif ones [AVal.str m1, y, z] then some (oneRow [AVal.str m1, y, z], fun g => AVal.ptr g 0 0) else none) with | some (o, f) => some (f s.nx, s.new o) | none => none) = _
    rw [hones]; rfl) rfl rfl (ow_loud rfl rfl rfl (ow_nil (aw_seq (aw_reg ?_))))))
  have hk : Keeps s (s.new (oneRow [.str m1, y, z])) := .new s _
  have hat : At (s.new (oneRow [.str m1, y, z])) 3 (.ptr s.nx 0 0) [.str m1, y, z] := ⟨s.nx, 0, 0, rfl, by unfold cellsAt; rw [AS.get_new, if_pos rfl]; rfl⟩
  refine ow_ex (hat.field (j := 0) (y := .str m1) rfl rfl rfl) rfl (fun _ => rfl) fun p1 hp1 => ?_
  refine ow_loud (hp1.one rfl) rfl rfl ?_
  refine ow_ex ((hp.keeps hsol hk).field (j := 0) (y := .str m2) rfl rfl rfl) rfl (fun _ => rfl) fun p2 hp2 => ?_
  refine ow_loud (hp2.one rfl) rfl rfl (ow_loud (eql_str (a := m1) (b := m2) rfl rfl rfl) rfl rfl (ow_loud rfl rfl rfl (ow_nil ?_)))
  exact aw_ret (Gives.of rfl rfl hk)

/-! ### lang.areDecls -/
def b51 : AC := bodyOf T.a51
def l51 : AC := inn (inn (tl (hd (aft 2 b51))))
def r51 : AC := inn (hd (tl (tl l51)))
theorem ok51 : (AC.loop l51).ok = true := by decide +kernel
theorem ok51_3 : (aft 3 b51).ok = true := by decide +kernel
section
variable {D : DS} {x : AVal} {a : Nat → AVal} {s0 : AS}
def Q51 (s0 : AS) (D : DS) : Ex → Fr → AS → Prop := Res.of [.tmp 2] (Gives s0 (.bool (valid D)))
theorem lift51 : Lift1 (Q51 s0 D) := Lift1.res (Gives.lift rfl) _
def QL51 (s0 : AS) (D : DS) : Ex → Fr → AS → Prop := Out.of 0 (Then T.tab (aft 3 b51) (Q51 s0 D))
theorem liftL51 : Lift1 (QL51 s0 D) := Lift1.out (Lift1.andThen T.tabR ok51_3 lift51) 0
theorem loop51 (hb : ∀ j, ∀ c ∈ D.nm j, c < 256) {sA : AS} (hD : Decls sA x D a) (hA : Keeps s0 sA) (hn : D.n ≤ 4) : ∀ (n j : Nat) (s : AS), j + n = D.n → Keeps sA s → (∀ k, k < j → dOk D k = true) → Wp T.tab (.loop l51) (mkF [(0, x), (9, x), (10, .int .i64 (.ofNat D.n)), (11, .int .i64 (.ofNat j))]) s (QL51 s0 D) := by
  intro n
  induction n with
  | zero =>
    intro j s hj hk hok
    refine aw_loop_step ?_
    show Wp T.tab (.seq (.reg (ops (hd l51))) (tl l51)) _ _ _
    refine aw_seq (aw_reg (ow_loud (lss_nat (n := j) (m := D.n) rfl rfl (decide_eq_false (by omega))) rfl rfl (ow_nil ?_)))
    refine aw_seq (aw_false rfl (aw_exit ?_))
    show Wp T.tab (.seq (.reg (ops (hd (aft 3 b51)))) .ret) _ _ _
    refine aw_seq (aw_reg (ow_loud rfl rfl rfl (ow_nil ?_)))
    exact aw_ret (Gives.of rfl (by rw [valid_true hn fun k hk => hok k (by omega)]; rfl) (hA.trans hk))
  | succ n ih =>
    intro j s hj hk hok
    have hD' := hD.keeps hk
    have hjn : j < D.n := by omega
    refine aw_loop_step ?_
    show Wp T.tab (.seq (.reg (ops (hd l51))) (.seq (hd (tl l51)) (.seq (.block 1 (.seq (.reg (ops (hd r51))) (.seq (.reg (ops (hd (aft 1 r51)))) (.seq (.seq (.reg (ops (hd (hd (aft 2 r51))))) (tl (hd (aft 2 r51)))) (.seq (.reg (ops (hd (aft 3 r51)))) (tl (aft 3 r51))))))) (.reg (ops (tl (tl (tl l51)))))))) _ _ _
    refine aw_seq (aw_reg (ow_loud (lss_nat (n := j) (m := D.n) rfl rfl (decide_eq_true (by omega))) rfl rfl (ow_nil ?_)))
    refine aw_seq (aw_true rfl (aw_skip (aw_seq (aw_block (aw_seq (aw_reg (ow_loud rfl rfl rfl ?_)))))))
    refine ow_ex (hD'.row.at (i := j) (fun _ => rfl) hjn rfl rfl) rfl (fun _ => rfl) fun p1 hp1 => ?_
    refine ow_loud (hp1.load rfl) rfl rfl ?_
    refine ow_new rfl rfl rfl rfl (ow_loud rfl rfl rfl ?_)
    refine ow_fill (sB := s) rfl rfl rfl rfl rfl rfl (by rw [AS.get_new, if_pos rfl]; rfl) rfl (hD'.ones hjn) rfl (.new s _) (Nat.le_refl _) fun s1 hk1 _ hp _ => ow_nil ?_
    have hD1 := hD'.keeps hk1
    generalize hpp : AVal.ptr s.nx 0 0 = p at hp ⊢
    refine aw_seq (aw_reg (ow_loud rfl rfl rfl (ow_loud rfl rfl rfl ?_)))
    refine ow_ex (hD1.row.pre (fun _ => rfl) (i := j) (by omega) rfl rfl) rfl (fun _ => rfl) fun y hy => ?_
    refine ow_loud rfl rfl rfl ?_
    have hsol : ∀ i, i < j → solids (D.cell a i) = true := fun i hi => hD1.solidCell (by omega)
    have hask : Asks (.func 95 [] [p]) s1 j (fun i => .agg (D.cell a i)) (fun i => decide (D.nm i = D.nm j)) := ⟨95, [], [p], rfl, fun i hi s' hs' =>
      same95 (y := a i) (z := .int .i64 (D.rs i)) (u := a j) (w := .int .i64 (D.rs j)) rfl (Sl.solid (hD1.args i (by omega))).2 rfl (hp.keeps (hD1.solidCell hjn) hs') (Sl.solid (hD1.args j hjn)).1 rfl⟩
    refine ow_call rfl rfl rfl ((contains94 (fun _ => rfl) hsol hy hask (by omega)).mono fun v s2 hv => ⟨rfl, ?_⟩)
    obtain ⟨rfl, hk2⟩ := hv
    rw [firstAt_isSome]
    refine ow_loud rfl rfl rfl (ow_nil (aw_seq (aw_seq (aw_reg (ow_loud rfl rfl rfl (ow_loud rfl rfl rfl ?_))))))
    have hp2 := hp.keeps (hD1.solidCell hjn) hk2
    have hD2 := hD1.keeps hk2
    have hK2 : Keeps s0 s2 := hA.trans (hk.trans (hk1.trans hk2))
    have hfalse : ∀ {s4 : AS} {fr : Fr}, dOk D j = false → Keeps s0 s4 → fr.df = [] → fr.get 2 = .bool false → Res.of [.tmp 2] (Gives s0 (.bool (valid D))) .ret fr s4 := fun hd hk4 hdf h2 => Gives.of hdf (by rw [valid_false hjn hd]; exact h2) hk4
    cases e0 : (List.range j).any (fun i => decide (D.nm i = D.nm j)) with
    | true =>
      refine ow_skip rfl (ow_skip rfl (ow_skip rfl (ow_skip rfl (ow_loud rfl rfl rfl (ow_loud rfl rfl rfl (ow_skip rfl (ow_skip rfl (ow_skip rfl (ow_skip rfl (ow_loud rfl rfl rfl (ow_loud rfl rfl rfl (ow_skip rfl (ow_skip rfl (ow_skip rfl (ow_skip rfl (ow_loud rfl rfl rfl (ow_nil ?_)))))))))))))))))
      refine aw_true rfl (aw_seq (aw_reg (ow_loud rfl rfl rfl (ow_nil (aw_ret (hfalse ?_ hK2 rfl rfl))))))
      obtain ⟨i, hi, h⟩ := List.any_eq_true.1 e0
      exact dOk_same (List.mem_range.1 hi) (of_decide_eq_true h)
    | false =>
      refine ow_ex (hp2.field (j := 0) (y := .str (D.nm j)) rfl rfl rfl) rfl (fun _ => rfl) fun p2 hp3 => ?_
      refine ow_loud (hp3.one rfl) rfl rfl ?_
      refine ow_call rfl rfl rfl ((isName96 (hb j) s2).mono fun v s3 hv => ⟨rfl, ?_⟩)
      obtain ⟨rfl, hk3⟩ := hv
      have hp4 := hp2.keeps (hD2.solidCell hjn) hk3
      have hD3 := hD2.keeps hk3
      have hK3 := hK2.trans hk3
      cases e1 : okName (D.nm j) with
      | false =>
        refine ow_loud rfl rfl rfl (ow_loud rfl rfl rfl (ow_loud rfl rfl rfl (ow_skip rfl (ow_skip rfl (ow_skip rfl (ow_skip rfl (ow_loud rfl rfl rfl (ow_loud rfl rfl rfl (ow_skip rfl (ow_skip rfl (ow_skip rfl (ow_skip rfl (ow_loud rfl rfl rfl (ow_nil ?_))))))))))))))
        exact aw_true rfl (aw_seq (aw_reg (ow_loud rfl rfl rfl (ow_nil (aw_ret (hfalse (by unfold dOk; rw [e1]; rfl) hK3 rfl rfl))))))
      | true =>
        refine ow_loud rfl rfl rfl (ow_loud rfl rfl rfl (ow_loud rfl rfl rfl ?_))
        refine ow_ex (hp4.field (j := 1) (y := a j) rfl rfl rfl) rfl (fun _ => rfl) fun p3 hp5 => ?_
        refine ow_loud (hp5.one rfl) rfl rfl (ow_loud ((hD3.args j hjn).len rfl) rfl rfl ?_)
        by_cases e2 : 3 < D.al j
        · refine ow_loud (gtr_nat (n := D.al j) (m := 3) rfl rfl (decide_eq_true e2)) rfl rfl (ow_loud rfl rfl rfl (ow_loud rfl rfl rfl (ow_skip rfl (ow_skip rfl (ow_skip rfl (ow_skip rfl (ow_loud rfl rfl rfl (ow_nil ?_))))))))
          exact aw_true rfl (aw_seq (aw_reg (ow_loud rfl rfl rfl (ow_nil (aw_ret (hfalse (by unfold dOk; rw [decide_eq_false (p := D.al j ≤ 3) (by omega)]; simp) hK3 rfl rfl))))))
        · refine ow_loud (gtr_nat (n := D.al j) (m := 3) rfl rfl (decide_eq_false e2)) rfl rfl (ow_loud rfl rfl rfl (ow_loud rfl rfl rfl ?_))
          refine ow_ex (hp4.field (j := 2) (y := .int .i64 (D.rs j)) rfl rfl rfl) rfl (fun _ => rfl) fun p4 hp6 => ?_
          refine ow_loud (hp6.one rfl) rfl rfl ?_
          refine ow_call rfl rfl rfl ((isType97 (D.rs j) s3).mono fun v s4 hv => ⟨rfl, ?_⟩)
          obtain ⟨rfl, hk4⟩ := hv
          have hp7 := hp4.keeps (hD3.solidCell hjn) hk4
          have hD4 := hD3.keeps hk4
          have hK4 := hK3.trans hk4
          refine ow_loud rfl rfl rfl (ow_loud rfl rfl rfl (ow_nil ?_))
          cases e3 : isT (D.rs j) with
          | false => exact aw_true rfl (aw_seq (aw_reg (ow_loud rfl rfl rfl (ow_nil (aw_ret (hfalse (by unfold dOk; rw [e3]; simp) hK4 rfl rfl))))))
          | true =>
            refine aw_false rfl (aw_skip (aw_seq (aw_reg ?_)))
            refine ow_ex (hp7.field (j := 1) (y := a j) rfl rfl rfl) rfl (fun _ => rfl) fun p5 hp8 => ?_
            refine ow_loud (hp8.one rfl) rfl rfl ?_
            have hask2 : Asks (.func 99 [] []) s4 (D.al j) (fun i => .int .i64 (D.ar j i)) (fun i => !isA (D.ar j i)) := ⟨99, [], [], rfl, fun i _ s' _ => notArg99 (D.ar j i) s'⟩
            refine ow_call rfl rfl rfl ((contains98 (hD4.args j hjn) hask2 (by omega)).mono fun v s5 hv => ⟨rfl, ow_nil ?_⟩)
            obtain ⟨rfl, hk5⟩ := hv
            rw [firstAt_isSome]
            have hK5 := hK4.trans hk5
            cases e4 : (List.range (D.al j)).any (fun i => !isA (D.ar j i)) with
            | true =>
              refine aw_true rfl (aw_seq (aw_reg (ow_loud rfl rfl rfl (ow_nil (aw_ret (hfalse ?_ hK5 rfl rfl))))))
              obtain ⟨i, hi, h⟩ := List.any_eq_true.1 e4
              exact dOk_args (List.mem_range.1 hi) (by simpa using h)
            | false =>
              have hdok : dOk D j = true := dOk_true e1 (by omega) e3 (fun k hk => by
                have := List.any_eq_false.1 e4 k (List.mem_range.2 hk)
                simpa using this) (fun i hi e => by
                have := List.any_eq_false.1 e0 i (List.mem_range.2 hi)
                exact this (decide_eq_true e))
              refine aw_false rfl (aw_skip (aw_reg (ow_loud (add_nat (n := j) (k := 1) rfl rfl (by omega)) rfl rfl (ow_loud rfl rfl rfl (ow_nil ?_)))))
              refine aw_lose T.tabR ok51 liftL51 (l := [(0, x), (9, x), (10, .int .i64 (.ofNat D.n)), (11, .int .i64 (.ofNat (j + 1)))]) ⟨Vr.refl _, Vr.refl _, Vr.refl _, Vr.refl _, trivial⟩ rfl (ih (j + 1) s5 (by omega) (hk.trans (hk1.trans (hk2.trans (hk3.trans (hk4.trans hk5))))) fun k hk => ?_)
              by_cases e5 : k = j
              · subst e5; exact hdok
              · exact hok k (by omega)
theorem areDecls51 (hb : ∀ j, ∀ c ∈ D.nm j, c < 256) {s : AS} (hD : Decls s x D a) : Cw T.tab 51 [x] s (Gives s (.bool (valid D))) := by
  refine cw_of (body := b51) (rs := [.tmp 2]) rfl ?_
  show Wp T.tab (.seq (.reg (ops (hd b51))) (.seq (.seq (.reg (ops (hd (hd (aft 1 b51))))) (tl (hd (aft 1 b51)))) (.seq (.seq (.reg (ops (hd (hd (aft 2 b51))))) (.block 0 (.loop l51))) (aft 3 b51)))) _ _ _
  refine aw_seq (aw_reg (ow_loud rfl rfl rfl (ow_nil ?_)))
  refine aw_seq (aw_seq (aw_reg (ow_loud rfl rfl rfl (ow_loud (hD.row.len rfl) rfl rfl ?_))))
  by_cases e : 4 < D.n
  · refine ow_loud (gtr_nat (n := D.n) (m := 4) rfl rfl (decide_eq_true e)) rfl rfl (ow_nil ?_)
    refine aw_true rfl (aw_seq (aw_reg (ow_loud rfl rfl rfl (ow_nil ?_))))
    exact aw_ret (Gives.of rfl (by rw [show valid D = false by unfold valid; rw [decide_eq_false (by omega)]; rfl]; rfl) (.refl s))
  · refine ow_loud (gtr_nat (n := D.n) (m := 4) rfl rfl (decide_eq_false e)) rfl rfl (ow_nil ?_)
    refine aw_false rfl (aw_skip (aw_seq (aw_seq (aw_reg (ow_loud rfl rfl rfl (ow_loud (hD.row.len rfl) rfl rfl (ow_loud rfl rfl rfl (ow_nil (aw_block ?_)))))))))
    exact aw_lose T.tabR ok51 liftL51 (l := [(0, x), (9, x), (10, .int .i64 (.ofNat D.n)), (11, .int .i64 (.ofNat 0))]) ⟨Vr.refl _, Vr.refl _, Vr.refl _, Vr.refl _, trivial⟩ rfl (loop51 hb hD (.refl s) (by omega) D.n 0 s (by omega) (.refl s) (fun k hk => by omega))
end
end Go.Proofs.YteoeidhcmcacbaaGreatDoor.movesLetters
/-
  Rows that grow.
-/
namespace Go.Proofs.YteoeidhcmcacbaaGreatDoor.movesLetters
open Go Go.Avm

/-! ### what could be read can be read still -/
def KeepsC (s s' : AS) : Prop := ∀ g x v n cs, cellsAt s g x v n = some cs → cs.length = n → solids cs = true → cellsAt s' g x v n = some cs
theorem KeepsC.refl (s : AS) : KeepsC s s := fun _ _ _ _ _ h _ _ => h
theorem KeepsC.trans {s t u : AS} (h : KeepsC s t) (k : KeepsC t u) : KeepsC s u := fun g x v n cs e hl hc => k g x v n cs (h g x v n cs e hl hc) hl hc
theorem KeepsC.of {s t : AS} (h : Keeps s t) : KeepsC s t := fun _ _ _ _ _ e _ hc => h.cells e hc
theorem KeepsC.sr {s t u : AS} (h : KeepsC s t) (k : Sr (fun k => k) t u) : KeepsC s u := fun g x v n cs e hl hc => by
  obtain ⟨cs', h1, h2⟩ := cellsAt_r k (h g x v n cs e hl hc)
  rwa [Vrs.solid hc h2] at h1
theorem Sl.keepsC {s s' : AS} {w n : Nat} {x : AVal} {f : Nat → List AVal} (h : Sl s w x n f) (hl : ∀ j, (f j).length = w) (hf : ∀ j, j < n → solids (f j) = true) (k : KeepsC s s') : Sl s' w x n f := by
  rcases h with h | ⟨g, o, v, c, h1, h2, h3⟩
  · exact .inl h
  · exact .inr ⟨g, o, v, c, h1, k _ _ _ _ _ h2 (cellsW_length hl n) (cellsW_all hf), h3⟩
theorem At.keepsC {s s' : AS} {w : Nat} {p : AVal} {cs : List AVal} (h : At s w p cs) (hl : cs.length = w) (hc : solids cs = true) (k : KeepsC s s') : At s' w p cs := by
  obtain ⟨g, x, v, rfl, h⟩ := h
  exact ⟨g, x, v, rfl, k _ _ _ _ _ h hl hc⟩
theorem Decls.keepsC {s s' : AS} {x : AVal} {D : DS} {a : Nat → AVal} (h : Decls s x D a) (k : KeepsC s s') : Decls s' x D a :=
  ⟨Sl.keepsC h.row (fun _ => rfl) (fun j hj => h.solidCell hj) k, fun j hj => Sl.keepsC (h.args j hj) (fun _ => rfl) (fun _ _ => rfl) k⟩
theorem At.sr {s s' : AS} {w : Nat} {p : AVal} {cs : List AVal} (h : At s w p cs) (hl : cs.length = w) (hc : solids cs = true) (k : Sr (fun k => k) s s') : At s' w p cs := At.keepsC h hl hc (KeepsC.sr (.refl s) k)
theorem Sl.sr {s s' : AS} {w n : Nat} {x : AVal} {f : Nat → List AVal} (h : Sl s w x n f) (hl : ∀ j, (f j).length = w) (hf : ∀ j, j < n → solids (f j) = true) (k : Sr (fun k => k) s s') : Sl s' w x n f := Sl.keepsC h hl hf (KeepsC.sr (.refl s) k)

/-! ### rows of one's own -/
structure Own (s : AS) (w : Nat) (x : AVal) (n : Nat) (f : Nat → List AVal) : Prop where
  len : ∀ j, (f j).length = w
  one : ∀ j, j < n → ones (f j) = true
  sol : ∀ j, j < n → solids (f j) = true
  row : ∃ g v c ex, x = .slice g 0 n w v c ∧ s.get g = some (.row (cellsW f n) v (n * w :: ex) false) ∧ (c = none ∨ c = some n)
theorem ones_append (l m : List AVal) : ones (l ++ m) = (ones l && ones m) := by
  induction l with
  | nil => rfl
  | cons x l ih => show (x.one && ones (l ++ m)) = ((x.one && ones l) && ones m); rw [ih, Bool.and_assoc]
theorem ones_cells {f : Nat → List AVal} : ∀ {n : Nat}, (∀ j, j < n → ones (f j) = true) → ones (cellsW f n) = true
  | 0, _ => rfl
  | n + 1, h => by rw [cellsW, ones_append, ones_cells fun j hj => h j (by omega), h n (by omega)]; rfl
section
variable {s s' : AS} {w n : Nat} {x : AVal} {f : Nat → List AVal}
theorem Own.sl (h : Own s w x n f) : Sl s w x n f := by
  obtain ⟨g, v, c, ex, rfl, hg, hc⟩ := h.row
  refine .inr ⟨g, 0, v, c, rfl, ?_, fun k hk => by rcases hc with rfl | rfl; cases hk; injection hk with hk; omega⟩
  unfold cellsAt
  rw [hg]
  show (bif Nat.ble v v then match nth (n * w :: ex) (Nat.sub v v) with
    | some e => bif Nat.ble (Nat.add 0 (n * w)) e then some (ltake (ldrop (cellsW f n) 0) (n * w)) else none
    | none => none else none) = _
  rw [ble_iff.2 (Nat.le_refl v), show Nat.sub v v = 0 from Nat.sub_self v]
  show (bif Nat.ble (Nat.add 0 (n * w)) (n * w) then some (ltake (ldrop (cellsW f n) 0) (n * w)) else none) = _
  rw [ble_iff.2 (by show 0 + n * w ≤ n * w; omega), cond_true, ltake_eq, ldrop_eq, List.drop_zero, List.take_of_length_le (by rw [cellsW_length h.len]; exact Nat.le_refl _)]
theorem Own.keeps (h : Own s w x n f) (k : Keeps s s') : Own s' w x n f := by
  obtain ⟨g, v, c, ex, rfl, hg, hc⟩ := h.row
  refine ⟨h.len, h.one, h.sol, g, v, c, ex, rfl, ?_, hc⟩
  obtain ⟨o', h1, h2⟩ := k g _ hg
  rw [h1]
  cases h2 with
  | row hcs _ _ hro => rw [Vrs.solid (cellsW_all h.sol) hcs, hro rfl]
theorem Own.sr (h : Own s w x n f) (k : Sr (fun k => k) s s') : Own s' w x n f := h.keeps k.obj
/-- Is there room for k things behind a row? -/
def Roomy (x : AVal) (w k : Nat) : Prop := k * w ≤ 8796093022208 ∨ (k * w ≤ 17592186044416 ∧ ∃ g v, x = .slice g 0 0 w v (some 0))
theorem not_wide {w : Nat} (h : w < 1000) : Nat.ble 1000 w = false := by
  cases hb : Nat.ble 1000 w with
  | false => rfl
  | true => have := ble_iff.1 hb; omega
theorem cellsA_of {w : Nat} (h : w < 1000) : cellsA w = w := by unfold cellsA; rw [not_wide h]; rfl
theorem fits_of {g n w v k : Nat} {c : Option Nat} (h : w < 1000) (hR : Roomy (.slice g 0 n w v c) w k) : fits w c w k = true := by
  unfold fits
  rw [not_wide h, cond_false]
  rcases hR with hR | ⟨hR, g', v', e⟩
  · split
    · exact ble_iff.2 (by show k * w ≤ _; omega)
    · exact ble_iff.2 hR
  · injection e with _ _ _ _ _ ec
    subst ec
    exact ble_iff.2 hR
/-- One row behind another. -/
def appF (f : Nat → List AVal) (n : Nat) (h : Nat → List AVal) (j : Nat) : List AVal := if j < n then f j else h (j - n)
theorem cellsW_app {f h : Nat → List AVal} {n : Nat} : ∀ m, cellsW (appF f n h) (n + m) = cellsW f n ++ cellsW h m
  | 0 => by rw [Nat.add_zero, cellsW_congr (f := appF f n h) (g := f) fun j hj => by unfold appF; rw [if_pos hj]]; simp [cellsW]
  | m + 1 => by
    rw [show n + (m + 1) = (n + m) + 1 by omega, cellsW, cellsW_app m, cellsW]
    rw [show appF f n h (n + m) = h m by unfold appF; rw [if_neg (by omega), show n + m - n = m by omega], List.append_assoc]
/-- An append to a row of one's own, from whatever slice. -/
theorem Own.app {h : Nat → List AVal} {y : AVal} {m : Nat} (H : Own s w x n f) (hy : Sl s w y m h) (hlen : ∀ j, (h j).length = w) (hone : ∀ j, j < m → ones (h j) = true) (hsol : ∀ j, j < m → solids (h j) = true) (hw : 0 < w) (hw1 : w < 1000) (hN : Roomy x w (n + m)) {fr : Fr} {a b : Opd} (ha : fr.ev a = x) (hb : fr.ev b = y) :
    ∃ x' s', loud fr s (.app w a b) = some (x', s') ∧ Own s' w x' (n + m) (appF f n h) ∧ KeepsC s s' ∧ (∀ g v c, x = .slice g 0 n w v c → ∀ k o, k ≠ g → s.get k = some o → s'.get k = some o) ∧ (∀ g v c, x = .slice g 0 n w v c → ∃ g' v' c', x' = .slice g' 0 (n + m) w v' c' ∧ (g' = g ∨ s.nx ≤ g')) := by
  obtain ⟨g, v, c, ex, rfl, hg, hc⟩ := H.row
  have hgl := AS.lt_of_get hg
  have hO : ∀ {s1 : AS} {x1 : AVal}, (∃ g v c ex, x1 = .slice g 0 (n + m) w v c ∧ s1.get g = some (.row (cellsW (appF f n h) (n + m)) v ((n + m) * w :: ex) false) ∧ (c = none ∨ c = some (n + m))) → Own s1 w x1 (n + m) (appF f n h) := fun hr =>
    ⟨fun j => by unfold appF; split; exact H.len j; exact hlen _, fun j hj => by unfold appF; split; exact H.one j (by assumption); exact hone _ (by omega), fun j hj => by unfold appF; split; exact H.sol j (by assumption); exact hsol _ (by omega), hr⟩
  -- what is appended
  have hgo : ∃ vs, vs = cellsW h m ∧ ∀ r, append s w w (.slice g 0 n w v c) vs = some r → loud fr s (.app w a b) = some r := by
    refine ⟨_, rfl, fun r hr => ?_⟩
    show (match fr.ev b with
      | .nilslice => append s w (cellsA w) (fr.ev a) []
      | .slice g off len sz' v _ => bif Nat.beq (cellsA w) sz' then match cellsAt s g off v (Nat.mul len (cellsA w)) with
          | some vs => append s w (cellsA w) (fr.ev a) vs
          | none => none
        else none
      | .str b => bif Nat.beq (cellsA w) 1 then append s w (cellsA w) (fr.ev a) (lmap (fun (n : Nat) => AVal.int .u8 (.ofNat n)) b) else none
      | _ => none) = _
    rw [cellsA_of hw1, ha, hb]
    rcases hy with ⟨rfl, rfl⟩ | ⟨g', o', v', c', rfl, h2, _⟩
    · exact hr
    · show (bif Nat.beq w w then match cellsAt s g' o' v' (Nat.mul m w) with | some vs => append s w w (.slice g 0 n w v c) vs | none => none else none) = _
      rw [Nat.beq_refl w, cond_true, show Nat.mul m w = m * w from rfl, h2]
      exact hr
  obtain ⟨vs, hvs, hgo⟩ := hgo
  have hvl : vs.length = m * w := by rw [hvs, cellsW_length hlen]
  have hk : Nat.div (llen vs) w = m := by rw [llen_eq, hvl]; exact Nat.mul_div_cancel m hw
  have hcl : cellsAt s g 0 v (Nat.mul n w) = some (cellsW f n) := by
    unfold cellsAt
    rw [hg]
    show (bif Nat.ble v v then match nth (n * w :: ex) (Nat.sub v v) with
      | some e => bif Nat.ble (Nat.add 0 (Nat.mul n w)) e then some (ltake (ldrop (cellsW f n) 0) (Nat.mul n w)) else none
      | none => none else none) = _
    rw [ble_iff.2 (Nat.le_refl v), show Nat.sub v v = 0 from Nat.sub_self v]
    show (bif Nat.ble (Nat.add 0 (n * w)) (n * w) then some (ltake (ldrop (cellsW f n) 0) (n * w)) else none) = _
    rw [ble_iff.2 (by show 0 + n * w ≤ n * w; omega), cond_true, ltake_eq, ldrop_eq, List.drop_zero, List.take_of_length_le (by rw [cellsW_length H.len]; exact Nat.le_refl _)]
  have hroom : fits w c w (Nat.add n m) = true := fits_of hw1 hN
  by_cases hm : m = 0
  · subst hm
    refine ⟨.slice g 0 n w v c, s, hgo _ ?_, hO ⟨g, v, c, ex, rfl, by rw [cellsW_app]; simpa [cellsW] using hg, hc⟩, .refl s, fun _ _ _ _ k o _ e => e, fun g1 v1 c1 e => ⟨g, v, c, rfl, .inl (by injection e)⟩⟩
    unfold append
    simp only [hk, Nat.beq_refl, Bool.not_true, cond_false, show Nat.beq 0 0 = true from rfl, cond_true]
  · have hm0 : Nat.beq m 0 = false := Bool.eq_false_iff.2 (fun e => hm (beqN_iff.1 e))
    rcases hc with rfl | rfl
    · have hgr : growAt s g (Nat.add 0 (Nat.mul n w)) v vs = some (s.set g (.row (cellsW (appF f n h) (n + m)) (v + 1) ((n + m) * w :: n * w :: ex) false), v + 1) := by
        unfold growAt
        rw [hg]
        show (bif !false && Nat.ble v v then match nth (n * w :: ex) (Nat.sub v v) with
          | some e => bif Nat.ble (Nat.add 0 (Nat.mul n w)) e then
              bif Nat.beq v v && Nat.beq (Nat.add 0 (Nat.mul n w)) (llen (cellsW f n)) then some (s.set g (.row (lapp (cellsW f n) vs) (Nat.succ v) (Nat.add (Nat.add 0 (Nat.mul n w)) (llen vs) :: n * w :: ex) false), Nat.succ v)
              else some (s.set g (.row (lapp (ltake (cellsW f n) (Nat.add 0 (Nat.mul n w))) vs) (Nat.succ v) [Nat.add (Nat.add 0 (Nat.mul n w)) (llen vs)] false), Nat.succ v)
            else none
          | none => none else none) = _
        rw [ble_iff.2 (Nat.le_refl v), show Nat.sub v v = 0 from Nat.sub_self v]
        show (bif Nat.ble (Nat.add 0 (n * w)) (n * w) then _ else none) = _
        rw [ble_iff.2 (by show 0 + n * w ≤ n * w; omega), cond_true, beqN_iff.2 rfl, llen_eq, cellsW_length H.len, beqN_iff.2 (show Nat.add 0 (Nat.mul n w) = n * w from Nat.zero_add _)]
        show some (s.set g (.row (lapp (cellsW f n) vs) (v + 1) (Nat.add (Nat.add 0 (n * w)) (llen vs) :: n * w :: ex) false), v + 1) = _
        rw [lapp_eq, hvs, ← cellsW_app, llen_eq, ← hvs, hvl, show Nat.add (Nat.add 0 (n * w)) (m * w) = (n + m) * w by show 0 + n * w + m * w = _; rw [Nat.zero_add, ← Nat.add_mul]]
      refine ⟨.slice g 0 (n + m) w (v + 1) none, _, hgo _ ?_, hO ⟨g, v + 1, none, n * w :: ex, rfl, AS.get_set_same _ _ hgl, .inl rfl⟩, ?_, fun g1 v1 c1 e k o hk e2 => by injection e with e; rw [AS.get_set_ne _ _ (by omega)]; exact e2, fun g1 v1 c1 e => ⟨g, _, _, rfl, .inl (by injection e)⟩⟩
      · unfold append
        simp only [hk, Nat.beq_refl, Bool.not_true, cond_false, hm0, hroom, hcl, capBelow, hgr]
        rfl
      · intro g1 x1 v1 n1 cs1 e hl1 _
        unfold cellsAt at e ⊢
        by_cases hgg : g1 = g
        · subst hgg
          rw [hg] at e
          rw [AS.get_set_same _ _ hgl]
          simp only at e ⊢
          cases hb1 : Nat.ble v1 v with
          | false => rw [hb1] at e; cases e
          | true =>
            have hv1 : v1 ≤ v := ble_iff.1 hb1
            rw [hb1] at e
            rw [ble_iff.2 (show v1 ≤ v + 1 by omega)]
            simp only [cond_true, nth_eq, show Nat.sub v v1 = v - v1 from rfl, show Nat.sub (v + 1) v1 = (v - v1) + 1 by show v + 1 - v1 = _; omega, List.getElem?_cons_succ] at e ⊢
            cases hq : (n * w :: ex)[v - v1]? with
            | none => rw [hq] at e; cases e
            | some q =>
              rw [hq] at e
              simp only at e ⊢
              obtain ⟨h1, e⟩ := bif_some e
              rw [h1]
              simp only [cond_true, ltake_eq, ldrop_eq] at e ⊢
              by_cases hlt : x1 + n1 ≤ n * w
              · rw [cellsW_app, List.drop_append_of_le_length (by rw [cellsW_length H.len]; omega), List.take_append_of_le_length (by simp [cellsW_length H.len]; omega)]
                exact e
              · -- more was asked for than lies there: nothing solid comes of it
                have hlen1 := congrArg List.length (Option.some.inj e)
                rw [List.length_take, List.length_drop, cellsW_length H.len, hl1] at hlen1
                by_cases hn1 : n1 = 0
                · subst hn1
                  rw [List.take_zero, List.length_eq_zero_iff.1 hl1]
                · omega
        · rw [AS.get_set_ne _ _ hgg]; exact e
    · refine ⟨.slice s.nx 0 (n + m) w 0 none, s.new (oneRow (cellsW (appF f n h) (n + m))), hgo _ ?_, hO ⟨s.nx, 0, none, [], rfl, ?_, .inl rfl⟩, .of (.new s _), fun g1 v1 c1 e k o hk e2 => by rw [AS.get_new, if_neg (fun h => by have := AS.lt_of_get e2; omega)]; exact e2, fun _ _ _ _ => ⟨_, _, _, rfl, .inr (Nat.le_refl _)⟩⟩
      · unfold append
        simp only [hk, Nat.beq_refl, Bool.not_true, cond_false, hm0, hroom, hcl, capBelow]
        rw [blt_iff.2 (by show n < n + m; omega), cond_true, lapp_eq, hvs, ← cellsW_app]
        rfl
      · rw [AS.get_new, if_pos rfl]
        unfold oneRow
        rw [llen_eq, cellsW_length (fun j => by unfold appF; split; exact H.len j; exact hlen _)]
end
end Go.Proofs.YteoeidhcmcacbaaGreatDoor.movesLetters
/-
  Rows of moves that grow; the answers to a question; plain numbers about types.
-/
namespace Go.Proofs.YteoeidhcmcacbaaGreatDoor.movesLetters
open Go Go.Avm

def rowOf : AVal → Option Nat
  | .slice g _ _ _ _ _ => some g
  | _ => none
/-- A row that grows: what else was there is there still; what could be read can be read. -/
structure Grew (s0 : AS) (g0 : Nat) (s : AS) (x : AVal) : Prop where
  keep : ∀ k o, k ≠ g0 → s0.get k = some o → ∃ o', s.get k = some o' ∧ Or (fun k => k) o o'
  nx : s0.nx ≤ s.nx
  place : ∃ g, rowOf x = some g ∧ (g = g0 ∨ s0.nx ≤ g)
  cells : KeepsC s0 s
section
variable {s0 s s' : AS} {g0 w n : Nat} {x x' : AVal} {f h : Nat → List AVal}
theorem Grew.sr (H : Grew s0 g0 s x) (k : Sr (fun k => k) s s') : Grew s0 g0 s' x :=
  ⟨fun j o hj e => by
    obtain ⟨o1, h1, h2⟩ := H.keep j o hj e
    obtain ⟨o2, h3, h4⟩ := k.obj j o1 h1
    exact ⟨o2, h3, h2.comp h4⟩, by have := k.nx 0; simp only [Nat.add_zero] at this; rw [← this]; exact H.nx, H.place, H.cells.sr k⟩
theorem Grew.keeps (H : Grew s0 g0 s x) (k : Keeps s s') (hn : s.nx ≤ s'.nx) : Grew s0 g0 s' x :=
  ⟨fun j o hj e => by
    obtain ⟨o1, h1, h2⟩ := H.keep j o hj e
    obtain ⟨o2, h3, h4⟩ := k j o1 h1
    exact ⟨o2, h3, h2.comp h4⟩, Nat.le_trans H.nx hn, H.place, H.cells.trans (.of k)⟩
theorem Own.grew (H : Own s w x n f) (h : rowOf x = some g0) : Grew s g0 s x := ⟨fun _ o _ e => ⟨o, e, Or.refl o⟩, Nat.le_refl _, ⟨g0, h, .inl rfl⟩, .refl s⟩
theorem Own.rowOf (H : Own s w x n f) : ∃ g, rowOf x = some g ∧ g < s.nx := by
  obtain ⟨g, v, c, ex, rfl, hg, _⟩ := H.row
  exact ⟨g, rfl, AS.lt_of_get hg⟩
theorem Own.ofGet (H : Own s w x n f) (e : ∀ g, movesLetters.rowOf x = some g → s'.get g = s.get g) : Own s' w x n f := by
  obtain ⟨g, v, c, ex, rfl, h2, h3⟩ := H.row
  exact ⟨H.len, H.one, H.sol, g, v, c, ex, rfl, by rw [e g rfl]; exact h2, h3⟩
theorem Own.congr (H : Own s w x n f) (hl : ∀ j, (h j).length = w) (e : ∀ j, j < n → f j = h j) : Own s w x n h := by
  obtain ⟨g, v, c, ex, h1, h2, h3⟩ := H.row
  exact ⟨hl, fun j hj => by rw [← e j hj]; exact H.one j hj, fun j hj => by rw [← e j hj]; exact H.sol j hj, g, v, c, ex, h1, by rw [← cellsW_congr e]; exact h2, h3⟩
end

/-! ### rows of moves, as lists -/
def mB : List AVal := [.str [], .int .i64 0, .bool false, .int .i64 0, .bool false]
structure Mv (m : List AVal) : Prop where
  len : m.length = 5
  one : ones m = true
  sol : solids m = true
def lf (l : List (List AVal)) (j : Nat) : List AVal := (l[j]?).getD mB
def Mvs (l : List (List AVal)) : Prop := ∀ m ∈ l, Mv m
theorem lf_len {l : List (List AVal)} (h : Mvs l) (j : Nat) : (lf l j).length = 5 := by
  unfold lf
  cases e : l[j]? with
  | none => rfl
  | some m => exact (h m (List.mem_of_getElem? e)).len
/-- A row of moves of one's own. -/
def OwnL (s : AS) (x : AVal) (l : List (List AVal)) : Prop := Mvs l ∧ Own s 5 x l.length (lf l)
theorem Mvs.append {l m : List (List AVal)} (h : Mvs l) (k : Mvs m) : Mvs (l ++ m) := fun x hx => by
  rcases List.mem_append.1 hx with hx | hx
  · exact h x hx
  · exact k x hx
theorem Mvs.one {m : List AVal} (h : Mv m) : Mvs [m] := fun x hx => by simp at hx; subst hx; exact h
section
variable {tab : Nat → Option AFn} {Q : Ex → Fr → AS → Prop} {fr : Fr} {s s0 : AS} {g0 : Nat}
/-- Literals of one thing. -/
theorem lit_one {z cs : List AVal} {w : Nat} {y : Opd} (hz : z.length = w) (hy : (fr.ev y).cells = cs) (hk : (fr.ev y).known = true) (hc : cs.length = w) (hone : ones cs = true) :
    loud fr s (.lit 1 w z [(0, w, y)]) = some (.slice s.nx 0 1 w 0 (some 1), s.new (oneRow cs)) := by
  have hsp : splice z 0 cs = cs := by
    unfold splice
    simp only [lapp_eq, ltake_eq, ldrop_eq, llen_eq, List.take_zero, List.nil_append]
    rw [List.drop_of_length_le (by show z.length ≤ 0 + cs.length; omega), List.append_nil]
  show (match (match (bif (fr.ev y).known && Nat.beq (llen (fr.ev y).cells) w && Nat.ble (Nat.add 0 w) (llen z) then some (splice z 0 (fr.ev y).cells) else none) with
    | some cs => bif ones cs && Nat.beq (llen cs) (Nat.mul 1 w) then some (oneRow cs, fun g => AVal.slice g 0 1 w 0 (some 1)) else none
    | none => none) with | some (o, f) => some (f s.nx, s.new o) | none => none) = _
  rw [hk, hy, llen_eq, hc, beqN_iff.2 rfl, llen_eq, hz, ble_iff.2 (by show 0 + w ≤ w; omega), hsp]
  show (match (bif ones cs && Nat.beq (llen cs) (Nat.mul 1 w) then some (oneRow cs, fun g => AVal.slice g 0 1 w 0 (some 1)) else none) with | some (o, f) => some (f s.nx, s.new o) | none => none) = _
  rw [hone, llen_eq, hc, beqN_iff.2 (show w = Nat.mul 1 w by show w = 1 * w; omega)]
  rfl
/-- One move more. -/
theorem ow_push {o1 o2 : AOper} {rest : List AOper} {m : List AVal} {d : Nat} {a : Opd} {y : Opd} {x : AVal} {l : List (List AVal)} (h1 : o1.op = .lit 1 5 mB [(0, 5, y)]) (h2 : o2.op = .app 5 a (.t d)) (hd1 : o1.dst = some d) (hg1 : o1.guard = none) (hg2 : o2.guard = none) (hc1 : o1.chk = [])
    (hm : Mv m) (hy : fr.ev y = .agg m) (ha : ∀ v, (fr.put (some d) v).ev a = x) (H : OwnL s x l) (G : Grew s0 g0 s x) (hN : l.length < 4000000000)
    (hc2 : ∀ x' s', KeepsC s s' → looks ((fr.put (some d) (.slice s.nx 0 1 5 0 (some 1))).put o2.dst x') s' o2.chk = true)
    (k : ∀ x' s', OwnL s' x' (l ++ [m]) → Grew s0 g0 s' x' → KeepsC s s' → (∀ k o, rowOf x ≠ some k → s.get k = some o → s'.get k = some o) → (∀ j, j < s.nx → rowOf x ≠ some j → rowOf x' ≠ some j) → Ow tab rest ((fr.put (some d) (.slice s.nx 0 1 5 0 (some 1))).put o2.dst x') s' Q) : Ow tab (o1 :: o2 :: rest) fr s Q := by
  refine ow_loud (v := .slice s.nx 0 1 5 0 (some 1)) (s' := s.new (oneRow m)) (by rw [h1]; exact lit_one rfl (by rw [hy]; rfl) (by rw [hy]; rfl) hm.len hm.one) (by rw [hg1]; rfl) (by rw [hc1]; rfl) ?_
  rw [hd1]
  obtain ⟨hl, hO⟩ := H
  have hk1 : Keeps s (s.new (oneRow m)) := .new s _
  have hO1 := hO.keeps hk1
  have hy1 : Sl (s.new (oneRow m)) 5 (.slice s.nx 0 1 5 0 (some 1)) 1 (fun _ => m) := by
    refine .inr ⟨s.nx, 0, 0, some 1, rfl, ?_, fun k hk => by injection hk with hk; omega⟩
    unfold cellsAt
    rw [AS.get_new, if_pos rfl]
    show (bif Nat.ble (Nat.add 0 (1 * 5)) (llen m) then some (ltake (ldrop m 0) (1 * 5)) else none) = _
    rw [llen_eq, hm.len]
    show some (ltake (ldrop m 0) 5) = _
    rw [ltake_eq, ldrop_eq, List.drop_zero, List.take_of_length_le (by rw [hm.len]; exact Nat.le_refl _)]
    rfl
  obtain ⟨x', s', e1, e2, e3, e4, e5⟩ := Own.app (fr := fr.put (some d) (.slice s.nx 0 1 5 0 (some 1))) (a := a) (b := .t d) hO1 hy1 (fun _ => hm.len) (fun _ _ => hm.one) (fun _ _ => hm.sol) (by omega) (by omega) (.inl (by omega)) (ha _) (by rw [Fr.ev_t, Fr.get_put, if_pos rfl])
  have hKC : KeepsC s s' := (KeepsC.of hk1).trans e3
  refine ow_loud (v := x') (s' := s') (by rw [h2]; exact e1) (by rw [hg2]; rfl) (hc2 x' s' hKC) ?_
  obtain ⟨g, hg, hg0⟩ := G.place
  have hlen : ∀ j, (lf (l ++ [m]) j).length = 5 := lf_len (hl.append (.one hm))
  have hOL : OwnL s' x' (l ++ [m]) := by
    refine ⟨hl.append (.one hm), ?_⟩
    rw [show (l ++ [m]).length = l.length + 1 by simp]
    refine e2.congr hlen fun j hj => ?_
    unfold appF lf
    by_cases e : j < l.length
    · rw [if_pos e, List.getElem?_append_left e]
    · rw [if_neg e, List.getElem?_append_right (by omega), show j - l.length = 0 by omega]; rfl
  have hobj : ∀ k o, rowOf x ≠ some k → s.get k = some o → s'.get k = some o := fun j o hk e => by
    obtain ⟨g1, v1, c1, ex1, hx1, hg1, _⟩ := hO1.row
    have hkl := AS.lt_of_get e
    exact e4 g1 v1 c1 hx1 j o (fun h => hk (by rw [hx1, h]; rfl)) (by rw [AS.get_new, if_neg (by omega)]; exact e)
  have hrow' : ∀ j, j < s.nx → Go.Proofs.YteoeidhcmcacbaaGreatDoor.movesLetters.rowOf x ≠ some j → Go.Proofs.YteoeidhcmcacbaaGreatDoor.movesLetters.rowOf x' ≠ some j := by
    intro j hj hne h
    obtain ⟨g1, v1, c1, ex1, hx1, hg1, _⟩ := hO1.row
    obtain ⟨g', v', c', hx', hgg⟩ := e5 g1 v1 c1 hx1
    rw [hx'] at h
    have h : g' = j := Option.some.inj h
    rcases hgg with h2 | h2
    · exact hne (by rw [hx1, ← h, h2]; rfl)
    · have : s.nx + 1 ≤ g' := h2
      omega
  refine k x' s' hOL ⟨fun j o hj e => ?_, ?_, ?_, G.cells.trans hKC⟩ hKC hobj hrow'
  · obtain ⟨o1, q1, q2⟩ := G.keep j o hj e
    refine ⟨o1, hobj j o1 (fun h => ?_) q1, q2⟩
    rw [hg] at h
    obtain rfl := Option.some.inj h
    rcases hg0 with h | h
    · exact hj h
    · have := AS.lt_of_get e; omega
  · obtain ⟨g2, hg2, hlt⟩ := e2.rowOf
    obtain ⟨g1, v1, c1, ex1, hx1, hg1, _⟩ := hO1.row
    obtain ⟨g', v', c', hx', hgg⟩ := e5 g1 v1 c1 hx1
    have hlt1 := AS.lt_of_get hg1
    -- the memory only grows: a thing that was there is there
    have : s.nx ≤ s'.nx := by
      have hlast : (s.new (oneRow m)).get s.nx = some (oneRow m) := by rw [AS.get_new, if_pos rfl]
      by_cases hs : g1 = s.nx
      · exfalso
        obtain ⟨g3, _, hg3⟩ := hO.rowOf
        obtain ⟨g4, v4, c4, ex4, hx4, hg4, _⟩ := hO.row
        rw [hx1] at hx4
        injection hx4 with hx4
        have := AS.lt_of_get hg4
        omega
      · exact Nat.le_of_lt (AS.lt_of_get (e4 g1 v1 c1 hx1 s.nx _ (fun h => hs h.symm) hlast))
    exact Nat.le_trans G.nx this
  · obtain ⟨g1, v1, c1, ex1, hx1, hg1, _⟩ := hO1.row
    obtain ⟨g', v', c', hx', hgg⟩ := e5 g1 v1 c1 hx1
    refine ⟨g', by rw [hx']; rfl, ?_⟩
    rw [hx1] at hg
    have hg : g1 = g := Option.some.inj hg
    rcases hgg with h | h
    · rw [h, hg]; exact hg0
    · right
      have : s.nx + 1 ≤ g' := h
      exact Nat.le_trans G.nx (by omega)
end
/-- What a function does that makes a row of moves grow. -/
def Grows (s0 : AS) (g0 : Nat) (l : List (List AVal)) : AVal → AS → Prop := fun r s => OwnL s r l ∧ Grew s0 g0 s r
theorem OwnL.vr {s s' : AS} {x x' : AVal} {l : List (List AVal)} (h : OwnL s x l) (hv : Vr (fun k => k) x x') (k : Sr (fun k => k) s s') : x' = x ∧ OwnL s' x l := by
  obtain ⟨hl, hO⟩ := h
  refine ⟨?_, hl, hO.sr k⟩
  obtain ⟨g, v, c, ex, rfl, _, _⟩ := hO.row
  cases hv; rfl
theorem Grows.lift {s0 : AS} {g0 : Nat} {l : List (List AVal)} : LiftR (Grows s0 g0 l) := fun _ _ _ _ h hv hS => by
  obtain ⟨h1, h2⟩ := h
  obtain ⟨rfl, h3⟩ := h1.vr hv hS
  exact ⟨h3, h2.sr hS⟩
theorem Grows.of {s0 s : AS} {g0 : Nat} {l : List (List AVal)} {fr : Fr} {t : Nat} (hd : fr.df = []) (h : OwnL s (fr.get t) l) (G : Grew s0 g0 s (fr.get t)) : Res.of [.tmp t] (Grows s0 g0 l) .ret fr s := ⟨hd, fr.get t, rfl, h, G⟩

/-! ### numbers of values -/
def vals (t : Int) : Nat := if t = 1 then 4 else 1
theorem values20 (t : Int) (s : AS) : Cw T.tab 20 [.int .i64 t] s (Gives s (.int .i64 (.ofNat (vals t)))) := by
  refine cw_of (body := bodyOf T.a20) (rs := [.tmp 2]) rfl ?_
  show Wp T.tab (.seq (.reg (ops (hd (bodyOf T.a20)))) (.seq (.seq (.reg (ops (hd (hd (aft 1 (bodyOf T.a20)))))) (tl (hd (aft 1 (bodyOf T.a20))))) (.seq (.reg (ops (hd (aft 2 (bodyOf T.a20))))) .ret))) _ _ _
  refine aw_seq (aw_reg (ow_loud rfl rfl rfl (ow_nil (aw_seq (aw_seq (aw_reg (ow_loud rfl rfl rfl ?_)))))))
  by_cases h : t = 1
  · refine ow_loud (eql_int (k := .i64) (a := t) (b := 1) rfl rfl (decide_eq_true h)) rfl rfl (ow_nil (aw_true rfl (aw_seq (aw_reg (ow_loud rfl rfl rfl (ow_nil ?_))))))
    exact aw_ret (Gives.of rfl (by unfold vals; rw [if_pos h]; rfl) (.refl s))
  · refine ow_loud (eql_int (k := .i64) (a := t) (b := 1) rfl rfl (decide_eq_false h)) rfl rfl (ow_nil (aw_false rfl (aw_skip (aw_seq (aw_reg (ow_loud rfl rfl rfl (ow_nil ?_)))))))
    exact aw_ret (Gives.of rfl (by unfold vals; rw [if_neg h]; rfl) (.refl s))

/-! ### moves.answers -/
/-- A move as an answer. -/
def ans (m : List AVal) (v : Nat) : List AVal := match m with
  | [a, b, _, _, e] => [a, b, .bool true, .int .i64 (.ofNat v), e]
  | m => m
def answers (m : List AVal) (k : Nat) : List (List AVal) := (List.range k).map (ans m)
theorem answers_succ (m : List AVal) (k : Nat) : answers m (k + 1) = answers m k ++ [ans m k] := by unfold answers; rw [List.range_succ, List.map_append]; rfl
def b28 : AC := bodyOf T.a28
def l28 : AC := inn (inn (tl (hd (aft 3 b28))))
theorem ok28 : (AC.loop l28).ok = true := by decide +kernel
theorem ok28_4 : (aft 4 b28).ok = true := by decide +kernel
section
variable {s0 : AS} {g0 : Nat} {l : List (List AVal)} {a0 b0 c0 d0 e0 : AVal}
theorem ans_mv (hm : Mv [a0, b0, c0, d0, e0]) (v : Nat) : Mv (ans [a0, b0, c0, d0, e0] v) := by
  have h1 := hm.one
  have h2 := hm.sol
  rw [ones_iff] at h1
  simp only [solids, List.all_cons, List.all_nil, Bool.and_eq_true, Bool.and_true] at h2
  refine ⟨rfl, ?_, ?_⟩
  · rw [ones_iff]
    intro c hc
    simp only [ans, List.mem_cons, List.mem_nil_iff, or_false] at hc
    rcases hc with rfl | rfl | rfl | rfl | rfl
    · exact h1 _ (by simp)
    · exact h1 _ (by simp)
    · rfl
    · rfl
    · exact h1 _ (by simp)
  · simp only [solids, ans, List.all_cons, List.all_nil, Bool.and_eq_true, Bool.and_true]
    exact ⟨h2.1, h2.2.1, rfl, rfl, h2.2.2.2.2⟩
/-- The move that is written; what of it is written already. -/
def half (m : List AVal) : Option Nat → List AVal
  | none => m
  | some v => ans m v
theorem loop28 (hm : Mv [a0, b0, c0, d0, e0]) {k : Nat} (hk4 : k ≤ 4) (hl : l.length < 3000000000) : ∀ (n i : Nat) (s : AS) (x : AVal) (g : Nat) (q : Option Nat), i + n = k → OwnL s x (l ++ answers [a0, b0, c0, d0, e0] i) → Grew s0 g0 s x → s0.nx ≤ g → rowOf x ≠ some g → s.get g = some (.row (half [a0, b0, c0, d0, e0] q) 0 [5] false) →
    Wp T.tab (.loop l28) (mkF [(0, x), (4, .ptr g 0 0), (11, .int .i64 (.ofNat k)), (12, .int .i64 (.ofNat i))]) s (Out.of 0 (Then T.tab (aft 4 b28) (Res.of [.tmp 6] (Grows s0 g0 (l ++ answers [a0, b0, c0, d0, e0] k))))) := by
  have hQ : Lift1 (Out.of 0 (Then T.tab (aft 4 b28) (Res.of [.tmp 6] (Grows s0 g0 (l ++ answers [a0, b0, c0, d0, e0] k))))) := Lift1.out (Lift1.andThen T.tabR ok28_4 (Lift1.res Grows.lift _)) 0
  intro n
  induction n with
  | zero =>
    intro i s x g q hi hO G hg hrow hget
    obtain rfl : i = k := by omega
    refine aw_loop_step ?_
    show Wp T.tab (.seq (.reg (ops (hd l28))) (tl l28)) _ _ _
    refine aw_seq (aw_reg (ow_loud (lss_nat (n := i) (m := i) rfl rfl (decide_eq_false (by omega))) rfl rfl (ow_nil (aw_seq (aw_false rfl (aw_exit ?_))))))
    show Wp T.tab (.seq (.reg (ops (hd (aft 4 b28)))) .ret) _ _ _
    refine aw_seq (aw_reg (ow_loud rfl rfl rfl (ow_loud rfl rfl rfl (ow_nil ?_))))
    exact aw_ret (Grows.of rfl hO G)
  | succ n ih =>
    intro i s x g q hi hO G hg hrow hget
    have hgl := AS.lt_of_get hget
    have hql : (half [a0, b0, c0, d0, e0] q).length = 5 := by cases q; exact hm.len; exact (ans_mv hm _).len
    refine aw_loop_step ?_
    show Wp T.tab (.seq (.reg (ops (hd l28))) (.seq (hd (tl l28)) (.seq (.block 1 (.seq (.reg (ops (hd (inn (hd (tl (tl l28))))))) (.seq (.reg (ops (hd (aft 1 (inn (hd (tl (tl l28)))))))) (.reg (ops (aft 2 (inn (hd (tl (tl l28))))))))))  (.reg (ops (tl (tl (tl l28)))))))) _ _ _
    refine aw_seq (aw_reg (ow_loud (lss_nat (n := i) (m := k) rfl rfl (decide_eq_true (by omega))) rfl rfl (ow_nil (aw_seq (aw_true rfl (aw_skip ?_))))))
    refine aw_seq (aw_block (aw_seq (aw_reg (ow_loud rfl rfl rfl (ow_loud rfl rfl rfl (ow_nil ?_))))))
    -- the two stores
    have hput : ∀ (s1 : AS) (cs : List AVal) (j : Nat) (v : AVal), s1.get g = some (.row cs 0 [5] false) → cs.length = 5 → j < 5 → putAt s1 g (Nat.add 0 j) 0 [v] = some (s1.set g (.row (cs.take j ++ (v :: cs.drop (j + 1))) 0 [5] false)) := by
      intro s1 cs j v hg1 hl1 hj
      unfold putAt
      rw [hg1]
      show (bif Nat.beq 0 0 && !false && Nat.ble (Nat.add (Nat.add 0 j) (llen [v])) 5 then some (s1.set g (.row (splice cs (Nat.add 0 j) [v]) 0 [5] false)) else none) = _
      rw [ble_iff.2 (by show 0 + j + 1 ≤ 5; omega)]
      show some (s1.set g (.row (splice cs (Nat.add 0 j) [v]) 0 [5] false)) = _
      unfold splice
      simp only [lapp_eq, ltake_eq, ldrop_eq, llen_eq]
      rw [show Nat.add 0 j = j from Nat.zero_add j, show Nat.add j [v].length = j + 1 from rfl]
      rfl
    obtain ⟨hq0, hq1, hq2, hq3, hq4, hqe⟩ : ∃ u0 u1 u2 u3 u4, half [a0, b0, c0, d0, e0] q = [u0, u1, u2, u3, u4] ∧ u0 = a0 ∧ u1 = b0 ∧ u4 = e0 := by
      cases q with
      | none => exact ⟨_, _, _, _, _, rfl, rfl, rfl, rfl⟩
      | some v => exact ⟨_, _, _, _, _, rfl, rfl, rfl, rfl⟩
    obtain ⟨e1, rfl, rfl, rfl⟩ := hqe
    rw [e1] at hget hql
    refine aw_seq (aw_reg (ow_loud rfl rfl rfl (ow_loud rfl rfl rfl ?_)))
    refine ow_loud (v := .junk) (s' := s.set g (.row [hq0, hq1, .bool true, hq3, hq4] 0 [5] false)) (by
      show (match putAt s g (Nat.add 0 2) 0 [AVal.bool true] with | some s => some (AVal.junk, s) | none => none) = _
      rw [hput s _ 2 (.bool true) hget rfl (by omega)]; rfl) rfl rfl ?_
    have hget1 := AS.get_set_same s (.row [hq0, hq1, .bool true, hq3, hq4] 0 [5] false) hgl
    refine ow_loud rfl rfl rfl ?_
    refine ow_loud (v := .junk) (s' := (s.set g (.row [hq0, hq1, .bool true, hq3, hq4] 0 [5] false)).set g (.row [hq0, hq1, .bool true, .int .i64 (.ofNat i), hq4] 0 [5] false)) (by
      show (match putAt (s.set g (.row [hq0, hq1, .bool true, hq3, hq4] 0 [5] false)) g (Nat.add 0 3) 0 [AVal.int .i64 (.ofNat i)] with | some s => some (AVal.junk, s) | none => none) = _
      rw [hput _ _ 3 (.int .i64 (.ofNat i)) hget1 rfl (by omega)]; rfl) rfl rfl (ow_nil ?_)
    have hget2 := AS.get_set_same (s.set g (.row [hq0, hq1, .bool true, hq3, hq4] 0 [5] false)) (.row [hq0, hq1, .bool true, .int .i64 (.ofNat i), hq4] 0 [5] false) hgl
    have hother : ∀ j, j ≠ g → ((s.set g (.row [hq0, hq1, .bool true, hq3, hq4] 0 [5] false)).set g (.row [hq0, hq1, .bool true, .int .i64 (.ofNat i), hq4] 0 [5] false)).get j = s.get j := fun j hj => by rw [AS.get_set_ne _ _ hj, AS.get_set_ne _ _ hj]
    generalize hs2 : (s.set g (.row [hq0, hq1, .bool true, hq3, hq4] 0 [5] false)).set g (.row [hq0, hq1, .bool true, .int .i64 (.ofNat i), hq4] 0 [5] false) = s2 at hget2 hother ⊢
    have hnx2 : s2.nx = s.nx := by rw [← hs2]; rfl
    have hOx : OwnL s2 x (l ++ answers [hq0, hq1, c0, d0, hq4] i) := ⟨hO.1, hO.2.ofGet fun g1 h1 => hother g1 (fun e => hrow (by rw [h1, e]))⟩
    have hG2 : Grew s0 g0 s2 x := by
      refine ⟨fun j o hj e => ?_, by rw [hnx2]; exact G.nx, G.place, fun g1 x1 v1 n1 cs e hl1 hc1 => ?_⟩
      · have := AS.lt_of_get e
        rw [hother j (by omega)]; exact G.keep j o hj e
      · have : g1 < s0.nx := by
          unfold cellsAt at e
          cases h : s0.get g1 with
          | none => rw [h] at e; cases e
          | some o => exact AS.lt_of_get h
        have h2 := G.cells g1 x1 v1 n1 cs e hl1 hc1
        unfold cellsAt at h2 ⊢
        rw [hother g1 (by omega)]; exact h2
    have hmv := ans_mv hm i
    have hat : At s2 5 (.ptr g 0 0) [hq0, hq1, .bool true, .int .i64 (.ofNat i), hq4] := ⟨g, 0, 0, rfl, by unfold cellsAt; rw [hget2]; rfl⟩
    refine aw_reg (ow_loud rfl rfl rfl (ow_loud (hat.load rfl) rfl rfl ?_))
    refine ow_push (m := ans [hq0, hq1, c0, d0, hq4] i) (x := x) rfl rfl rfl rfl rfl rfl hmv rfl (fun _ => rfl) hOx hG2 ?_ (fun _ _ _ => rfl) fun x' s' hO' hG' hKC hobj hrow' => ?_
    · rw [List.length_append]; unfold answers; rw [List.length_map, List.length_range]; omega
    refine ow_loud rfl rfl rfl (ow_nil ?_)
    refine aw_reg (ow_loud (add_nat (n := i) (k := 1) rfl rfl (by omega)) rfl rfl (ow_loud rfl rfl rfl (ow_nil ?_)))
    rw [List.append_assoc, ← answers_succ] at hO'
    refine aw_lose T.tabR ok28 hQ (l := [(0, x'), (4, .ptr g 0 0), (11, .int .i64 (.ofNat k)), (12, .int .i64 (.ofNat (i + 1)))]) ⟨Vr.refl _, Vr.refl _, Vr.refl _, Vr.refl _, trivial⟩ rfl
      (ih (i + 1) s' x' g (some i) (by omega) hO' hG' hg (hrow' g (by rw [hnx2]; exact hgl) hrow) (hobj g _ hrow hget2))
/-- moves.answers: the answers are put behind the moves. -/
theorem answers28 (hm : Mv [a0, b0, c0, d0, e0]) {t : Int} {s : AS} {x : AVal} (hl : l.length < 3000000000) (hO : OwnL s x l) (hg0 : rowOf x = some g0) : Cw T.tab 28 [x, .agg [a0, b0, c0, d0, e0], .int .i64 t] s (Grows s g0 (l ++ answers [a0, b0, c0, d0, e0] (vals t))) := by
  refine cw_of (body := b28) (rs := [.tmp 6]) rfl ?_
  show Wp T.tab (.seq (.reg (ops (hd b28))) (.seq (.reg (ops (hd (aft 1 b28)))) (.seq (.seq (.reg (ops (hd (hd (aft 2 b28))))) (tl (hd (aft 2 b28)))) (.seq (.seq (.reg (ops (hd (hd (aft 3 b28))))) (.block 0 (.loop l28))) (aft 4 b28))))) _ _ _
  have hk : Keeps s (s.new (oneRow [a0, b0, c0, d0, e0])) := .new s _
  obtain ⟨g1, hg1, hlt⟩ := hO.2.rowOf
  have hO1 : OwnL (s.new (oneRow [a0, b0, c0, d0, e0])) x (l ++ answers [a0, b0, c0, d0, e0] 0) := by
    rw [show l ++ answers [a0, b0, c0, d0, e0] 0 = l by simp [answers]]
    exact ⟨hO.1, hO.2.keeps hk⟩
  have hG1 : Grew s g0 (s.new (oneRow [a0, b0, c0, d0, e0])) x := (hO.2.grew hg0).keeps hk (Nat.le_succ _)
  have hrow : rowOf x ≠ some s.nx := by rw [hg1]; intro e; injection e with e; omega
  have hget : (s.new (oneRow [a0, b0, c0, d0, e0])).get s.nx = some (.row (half [a0, b0, c0, d0, e0] none) 0 [5] false) := by rw [AS.get_new, if_pos rfl]; rfl
  refine aw_seq (aw_reg (ow_loud (v := .ptr s.nx 0 0) (s' := s.new (oneRow [a0, b0, c0, d0, e0])) (by
    show (match (bif ones [a0, b0, c0, d0, e0] then some (oneRow [a0, b0, c0, d0, e0], fun g => AVal.ptr g 0 0) else none) with | some (o, f) => some (f s.nx, s.new o) | none => none) = _
    rw [hm.one]; rfl) rfl rfl (ow_loud rfl rfl rfl (ow_nil (aw_seq (aw_reg (ow_loud rfl rfl rfl (ow_nil ?_))))))))
  have hQ : Lift1 (Out.of 0 (Then T.tab (aft 4 b28) (Res.of [.tmp 6] (Grows s g0 (l ++ answers [a0, b0, c0, d0, e0] (vals t)))))) := Lift1.out (Lift1.andThen T.tabR ok28_4 (Lift1.res Grows.lift _)) 0
  refine aw_seq (aw_seq (aw_reg (ow_loud rfl rfl rfl ?_)))
  by_cases h : t = 1
  · refine ow_loud (eql_int (k := .i64) (a := t) (b := 1) rfl rfl (decide_eq_true h)) rfl rfl (ow_nil (aw_true rfl (aw_reg (ow_loud rfl rfl rfl (ow_nil ?_)))))
    refine aw_seq (aw_seq (aw_reg (ow_loud rfl rfl rfl (ow_loud rfl rfl rfl (ow_nil (aw_block ?_))))))
    have hv : vals t = 4 := by unfold vals; rw [if_pos h]
    rw [hv] at hQ ⊢
    exact aw_lose T.tabR ok28 hQ (l := [(0, x), (4, .ptr s.nx 0 0), (11, .int .i64 (.ofNat 4)), (12, .int .i64 (.ofNat 0))]) ⟨Vr.refl _, Vr.refl _, Vr.refl _, Vr.refl _, trivial⟩ rfl (loop28 hm (by omega) hl 4 0 _ x s.nx none (by omega) hO1 hG1 (Nat.le_refl _) hrow hget)
  · refine ow_loud (eql_int (k := .i64) (a := t) (b := 1) rfl rfl (decide_eq_false h)) rfl rfl (ow_nil (aw_false rfl (aw_skip ?_)))
    refine aw_seq (aw_seq (aw_reg (ow_loud rfl rfl rfl (ow_loud rfl rfl rfl (ow_nil (aw_block ?_))))))
    have hv : vals t = 1 := by unfold vals; rw [if_neg h]
    rw [hv] at hQ ⊢
    exact aw_lose T.tabR ok28 hQ (l := [(0, x), (4, .ptr s.nx 0 0), (11, .int .i64 (.ofNat 1)), (12, .int .i64 (.ofNat 0))]) ⟨Vr.refl _, Vr.refl _, Vr.refl _, Vr.refl _, trivial⟩ rfl (loop28 hm (by omega) hl 1 0 _ x s.nx none (by omega) hO1 hG1 (Nat.le_refl _) hrow hget)
end
end Go.Proofs.YteoeidhcmcacbaaGreatDoor.movesLetters
/-
  Sorting by names.
-/
namespace Go.Proofs.YteoeidhcmcacbaaGreatDoor.movesLetters
open Go Go.Avm

/-! ### all but one thing stays -/
def Only (g : Nat) (s s' : AS) : Prop := ∀ k o, k ≠ g → s.get k = some o → ∃ o', s'.get k = some o' ∧ Or (fun k => k) o o'
theorem Only.refl (g : Nat) (s : AS) : Only g s s := fun _ o _ e => ⟨o, e, Or.refl o⟩
theorem Only.of {g : Nat} {s s' : AS} (h : Keeps s s') : Only g s s' := fun k o _ e => h k o e
theorem Only.trans {g : Nat} {s t u : AS} (h : Only g s t) (k : Only g t u) : Only g s u := fun j o hj e => by
  obtain ⟨o1, h1, h2⟩ := h j o hj e
  obtain ⟨o2, h3, h4⟩ := k j o1 hj h1
  exact ⟨o2, h3, h2.comp h4⟩
theorem Only.sr {g : Nat} {s t u : AS} (h : Only g s t) (k : Sr (fun k => k) t u) : Only g s u := h.trans (.of k.obj)
theorem Keeps.only {g : Nat} {s t u : AS} (h : Keeps s t) (hg : s.get g = none) (k : Only g t u) : Keeps s u := fun j o e => by
  obtain ⟨o1, h1, h2⟩ := h j o e
  obtain ⟨o2, h3, h4⟩ := k j o1 (fun e2 => by rw [e2, hg] at e; cases e) h1
  exact ⟨o2, h3, h2.comp h4⟩
theorem Keeps.fresh {s t : AS} (h : Keeps s t) : s.get t.nx = none := by
  cases e : s.get t.nx with
  | none => rfl
  | some o => obtain ⟨o', h1, _⟩ := h _ o e; exact absurd (AS.lt_of_get h1) (Nat.lt_irrefl _)

/-! ### closed runs of plain functions -/
noncomputable def plainRun (r : Option (Out × AS)) (v : AVal) : Bool := match r with
  | some (.ret w, _) => sameOne w v && v.plain
  | _ => false
theorem sameOne_plain {w v : AVal} (h : sameOne w v = true) (hv : v.plain = true) : w = v := by
  cases v <;> try (cases hv; done)
  · cases w <;> first | (cases h; done) | (simp only [sameOne] at h; rw [eq_of_beq h]) | (simp [sameOne] at h; done)
  · cases w <;> first | (cases h; done) | (simp only [sameOne, Bool.and_eq_true, beqK_eq, beqI_eq, decide_eq_true_iff] at h; rw [h.1, h.2]) | (simp [sameOne] at h; done)
  · cases w <;> first | (cases h; done) | (simp only [sameOne, beqL_eq, decide_eq_true_iff] at h; rw [h]) | (simp [sameOne] at h; done)
theorem gives_run {tab : Nat → Option AFn} (hT : TabR tab) {f n : Nat} {args : List AVal} {v : AVal} (h : plainRun (Fast.call tab n f args (mkS [])) v = true) (ha : (args.all AVal.plain) = true) (s : AS) : Cw tab f args s (Gives s v) := by
  rw [Fast.call_eq] at h
  unfold plainRun at h
  split at h
  · rename_i w s1 hr
    rw [Bool.and_eq_true] at h
    obtain rfl := sameOne_plain h.1 h.2
    have hS : Sr (fun k => s.nx + k) (mkS []) s := ⟨fun a b e => by omega, fun g o e => by rw [mkS_get] at e; simp at e, fun j => by show s.nx + (0 + j) = s.nx + j; omega⟩
    refine (cw_lift hT (cw_run (R := fun v _ => v = w) hr rfl) (Vrs.plain ha) hS).mono fun v' s' hq => ?_
    obtain ⟨v1, s2, rfl, hv, hS', hfar⟩ := hq
    exact ⟨hv.plain h.2, fun g o e => ⟨o, by rw [hfar.get g (AS.lt_of_get e) (fun k hk => by have := AS.lt_of_get e; omega)]; exact e, Or.refl o⟩⟩
  · cases h

/-! ### orders of names -/
theorem bytesLt_irrefl : ∀ (a : List Nat), bytesLt a a = false
  | [] => rfl
  | x :: a => by
    show (Bool.rec (Bool.rec false (bytesLt a a) (Nat.beq x x)) true (Nat.blt x x) : Bool) = false
    rw [Nat.beq_refl, show Nat.blt x x = false by rw [Bool.eq_false_iff]; intro h; exact Nat.lt_irrefl x (blt_iff.1 h)]
    exact bytesLt_irrefl a
theorem bytesLt_cons (x y : Nat) (a b : List Nat) : bytesLt (x :: a) (y :: b) = (decide (x < y) || (decide (x = y) && bytesLt a b)) := by
  show (Bool.rec (Bool.rec false (bytesLt a b) (Nat.beq x y)) true (Nat.blt x y) : Bool) = _
  by_cases h1 : x < y
  · rw [blt_iff.2 h1, decide_eq_true h1]; rfl
  · rw [show Nat.blt x y = false from Bool.eq_false_iff.2 (fun h => h1 (blt_iff.1 h)), decide_eq_false h1]
    by_cases h2 : x = y
    · rw [beqN_iff.2 h2, decide_eq_true h2]; rfl
    · rw [show Nat.beq x y = false from Bool.eq_false_iff.2 (fun h => h2 (beqN_iff.1 h)), decide_eq_false h2]; rfl
/-- Greater is less the other way. -/
theorem bytes_gtr : ∀ (a b : List Nat), (!(bytesLt a b || beqL a b)) = bytesLt b a
  | [], [] => rfl
  | [], _ :: _ => rfl
  | _ :: _, [] => rfl
  | x :: a, y :: b => by
    have ih := bytes_gtr a b
    rw [bytesLt_cons, bytesLt_cons, beqL_eq]
    rw [beqL_eq] at ih
    rcases Nat.lt_trichotomy x y with h | h | h
    · rw [decide_eq_true h, decide_eq_false (show ¬ y < x by omega), decide_eq_false (show ¬ y = x by omega)]; rfl
    · subst h
      rw [decide_eq_false (Nat.lt_irrefl x), decide_eq_true (rfl : x = x), Bool.false_or, Bool.true_and, Bool.false_or, Bool.true_and, ← ih]
      simp
    · rw [decide_eq_false (show ¬ x < y by omega), decide_eq_false (show ¬ x = y by omega), decide_eq_true h]
      have : ¬ (x :: a = y :: b) := fun e => by injection e with e _; omega
      rw [decide_eq_false this]; rfl

/-! ### a sort by hand -/
def sw (π : Nat → Nat) (k j : Nat) : Nat := if j = k then π (k + 1) else if j = k + 1 then π k else π j
def bub (lt : Nat → Nat → Bool) (π : Nat → Nat) : Nat → (Nat → Nat)
  | 0 => π
  | k + 1 => if lt (π (k + 1)) (π k) then bub lt (sw π k) k else π
def srt (lt : Nat → Nat → Bool) : Nat → (Nat → Nat)
  | 0 => fun j => j
  | n + 1 => bub lt (srt lt n) n
theorem bub_above (lt : Nat → Nat → Bool) : ∀ (k : Nat) (π : Nat → Nat) (j : Nat), k < j → bub lt π k j = π j
  | 0, _, _, _ => rfl
  | k + 1, π, j, h => by
    unfold bub
    split
    · rw [bub_above lt k _ j (by omega)]; unfold sw; rw [if_neg (by omega), if_neg (by omega)]
    · rfl
theorem srt_above (lt : Nat → Nat → Bool) : ∀ (n j : Nat), n ≤ j → srt lt n j = j
  | 0, _, _ => rfl
  | n + 1, j, h => by show bub lt (srt lt n) n j = j; rw [bub_above lt n _ j (by omega), srt_above lt n j (by omega)]
theorem bub_lt (lt : Nat → Nat → Bool) {n : Nat} : ∀ (k : Nat) (π : Nat → Nat), k < n → (∀ j, j < n → π j < n) → ∀ j, j < n → bub lt π k j < n
  | 0, _, _, h, j, hj => h j hj
  | k + 1, π, hk, h, j, hj => by
    unfold bub
    split
    · refine bub_lt lt k _ (by omega) (fun i hi => ?_) j hj
      unfold sw; split
      · exact h _ hk
      · split
        · exact h _ (by omega)
        · exact h _ hi
    · exact h j hj
theorem srt_lt (lt : Nat → Nat → Bool) : ∀ (n j : Nat), j < n → srt lt n j < n
  | n + 1, j, h => bub_lt lt n _ (Nat.lt_succ_self n) (fun i hi => by
      by_cases e : i = n
      · subst e; rw [srt_above lt i i (Nat.le_refl _)]; omega
      · have := srt_lt lt n i (by omega); omega) j h

/-! ### stores into a row of one's own -/
def updW (f : Nat → List AVal) (k : Nat) (x : List AVal) (j : Nat) : List AVal := if j = k then x else f j
theorem splice_W {f : Nat → List AVal} {w : Nat} (hf : ∀ j, (f j).length = w) {k : Nat} {x : List AVal} (hx : x.length = w) : ∀ {n : Nat}, k < n → splice (cellsW f n) (k * w) x = cellsW (updW f k x) n
  | n + 1, h => by
    have hl := cellsW_length hf n
    unfold splice
    simp only [lapp_eq, ltake_eq, ldrop_eq, llen_eq, hx]
    rw [cellsW, cellsW]
    by_cases e : k = n
    · subst e
      rw [List.take_append_of_le_length (by omega), List.take_of_length_le (by omega), show Nat.add (k * w) w = (cellsW f k).length + w by rw [hl]; rfl, List.drop_append, List.drop_of_length_le (by omega)]
      rw [show (cellsW f k).length + w - (cellsW f k).length = w by omega, List.drop_of_length_le (by rw [hf]; exact Nat.le_refl _)]
      rw [cellsW_congr (f := updW f k x) (g := f) fun j hj => by unfold updW; rw [if_neg (by omega)]]
      rw [show updW f k x k = x by unfold updW; rw [if_pos rfl]]
      simp
    · have ih := splice_W hf hx (n := n) (k := k) (by omega)
      unfold splice at ih
      simp only [lapp_eq, ltake_eq, ldrop_eq, llen_eq, hx] at ih
      have h2 : k * w + w ≤ n * w := by
        have := Nat.mul_le_mul_right w (show k + 1 ≤ n by omega)
        rw [Nat.succ_mul] at this; exact this
      rw [← ih, List.take_append_of_le_length (by omega), List.drop_append_of_le_length (by show k * w + w ≤ _; omega)]
      rw [show updW f k x n = f n by unfold updW; rw [if_neg (by omega)]]
      simp
section
variable {s : AS} {w n : Nat} {x : AVal} {f : Nat → List AVal}
theorem Own.addr (H : Own s w x n f) {g : Nat} (hg : Go.Proofs.YteoeidhcmcacbaaGreatDoor.movesLetters.rowOf x = some g) {fr : Fr} {a b : Opd} {i : Nat} (hi : i < n) (ha : fr.ev a = x) (hb : fr.ev b = .int .i64 (.ofNat i)) : ∃ v, loud fr s (.ixa w a b) = some (.ptr g (Nat.add 0 (Nat.mul i w)) v, s) ∧ ∀ y cs, ∀ s1, Own s1 w x n y → (∀ {fr : Fr} {p q : Opd}, fr.ev p = .ptr g (Nat.add 0 (Nat.mul i w)) v → fr.ev q = .agg cs → cs.length = w → ones cs = true → solids cs = true →
    ∃ s2, loud fr s1 (.store w p q) = some (.junk, s2) ∧ Own s2 w x n (updW y i cs) ∧ ∀ k, k ≠ g → s2.get k = s1.get k) := by
  obtain ⟨g', v, c, ex, rfl, _, _⟩ := H.row
  obtain rfl : g' = g := Option.some.inj hg
  refine ⟨v, ?_, fun y cs s1 H1 => ?_⟩
  · show (match (match fr.ev a, fr.ev b with
      | .slice g off len sz' v _, .int _ i => bif Nat.beq w sz' then match idx i len with
          | some n => some (AVal.ptr g (Nat.add off (Nat.mul n w)) v)
          | none => none
        else none
      | _, _ => none) with | some v => some (v, s) | none => none) = _
    rw [ha, hb]
    simp only [show Nat.beq w w = true from Nat.beq_refl w, cond_true, idx]
    rw [blt_iff.2 hi]
    rfl
  · intro fr p q hp hq hl hone hsol
    obtain ⟨g2, v2, c2, ex2, hx2, hget, hc2⟩ := H1.row
    injection hx2 with q1 _ _ _ q5 q6
    subst q1 q5 q6
    have hlt := AS.lt_of_get hget
    refine ⟨s1.set g' (.row (cellsW (updW y i cs) n) v [n * w] false), ?_, ?_, fun k hk => AS.get_set_ne _ _ hk⟩
    · show (match fr.ev p with
        | .ptr g x w' => bif Nat.beq (llen (fr.ev q).cells) w && ones (fr.ev q).cells then
            match putAt s1 g x w' (fr.ev q).cells with
            | some s => some (AVal.junk, s)
            | none => none
          else none
        | _ => none) = _
      rw [hp, hq]
      show (bif Nat.beq (llen cs) w && ones cs then match putAt s1 g' (Nat.add 0 (Nat.mul i w)) v cs with | some s => some (AVal.junk, s) | none => none else none) = _
      have hput : putAt s1 g' (Nat.add 0 (Nat.mul i w)) v cs = some (s1.set g' (.row (cellsW (updW y i cs) n) v [n * w] false)) := by
        unfold putAt
        rw [hget]
        show (bif Nat.beq v v && !false && Nat.ble (Nat.add (Nat.add 0 (Nat.mul i w)) (llen cs)) (n * w) then some (s1.set g' (.row (splice (cellsW y n) (Nat.add 0 (Nat.mul i w)) cs) v [n * w] false)) else none) = _
        have h2 : i * w + w ≤ n * w := by
          have := Nat.mul_le_mul_right w (show i + 1 ≤ n from hi)
          rw [Nat.succ_mul] at this; exact this
        rw [beqN_iff.2 rfl, llen_eq, hl, ble_iff.2 (by show 0 + i * w + w ≤ n * w; omega), show Nat.add 0 (Nat.mul i w) = i * w from Nat.zero_add _, splice_W H1.len hl hi]
        rfl
      rw [hone, llen_eq, hl, beqN_iff.2 rfl, hput]
      rfl
    · refine ⟨fun j => by unfold updW; split; exact hl; exact H1.len j, fun j hj => by unfold updW; split; exact hone; exact H1.one j hj, fun j hj => by unfold updW; split; exact hsol; exact H1.sol j hj, g', v, c, [], rfl, AS.get_set_same _ _ hlt, hc2⟩
end
/-- Two neighbours are exchanged. -/
theorem swap_eq {e : Nat → List AVal} {π : Nat → Nat} {k : Nat} : updW (updW (fun j => e (π j)) (k + 1) (e (π k))) k (e (π (k + 1))) = fun j => e (sw π k j) := by
  funext j
  unfold updW sw
  by_cases h1 : j = k
  · rw [if_pos h1, if_pos h1]
  · rw [if_neg h1, if_neg h1]
    by_cases h2 : j = k + 1
    · rw [if_pos h2, if_pos h2]
    · rw [if_neg h2, if_neg h2]
theorem swap_eq' {e : Nat → List AVal} {π : Nat → Nat} {k : Nat} : updW (updW (fun j => e (π j)) k (e (π (k + 1)))) (k + 1) (e (π k)) = fun j => e (sw π k j) := by
  funext j
  unfold updW sw
  by_cases h1 : j = k
  · rw [if_neg (by omega), if_pos h1, if_pos h1]
  · rw [if_neg h1, if_neg h1]
    by_cases h2 : j = k + 1
    · rw [if_pos h2, if_pos h2]
    · rw [if_neg h2, if_neg h2]
end Go.Proofs.YteoeidhcmcacbaaGreatDoor.movesLetters
/-
  Numbers of rows; comparing names.
-/
namespace Go.Proofs.YteoeidhcmcacbaaGreatDoor.movesLetters
open Go Go.Avm

theorem mul_nat {fr : Fr} {s : AS} {x : Opd} {n : Nat} {q : Int} {k : Nat} (hx : fr.ev x = .int .i64 (.ofNat n)) (hq : q = .ofNat k) (h : n * k < 9223372036854775808) : loud fr s (.bin .mul .prim x (.c (.int .i64 q))) = some (.int .i64 (.ofNat (n * k)), s) := by
  subst hq
  show (match binop .mul .prim (fr.ev x) (AVal.int .i64 (.ofNat k)) with | some v => some (v, s) | none => none) = _
  rw [hx]
  show some (AVal.int .i64 (wrapF .i64 (.ofNat (n * k))), s) = _
  rw [wrap_nat h]
theorem sub_nat {fr : Fr} {s : AS} {x : Opd} {n : Nat} (hx : fr.ev x = .int .i64 (.ofNat (n + 1))) (h : n + 1 < 9223372036854775808) : loud fr s (.bin .sub .prim x (.c (.int .i64 1))) = some (.int .i64 (.ofNat n), s) := by
  show (match binop .sub .prim (fr.ev x) (AVal.int .i64 1) with | some v => some (v, s) | none => none) = _
  rw [hx]
  show some (AVal.int .i64 (wrapF .i64 (Int.ofNat (n + 1) - 1)), s) = _
  rw [show (Int.ofNat (n + 1) - 1 : Int) = .ofNat n by simp only [Int.ofNat_eq_natCast]; omega, wrap_nat (by omega)]
theorem neq_str {fr : Fr} {s : AS} {x y : Opd} {a b : List Nat} {q : Bool} (hx : fr.ev x = .str a) (hy : fr.ev y = .str b) (hq : (!decide (a = b)) = q) : loud fr s (.bin .neq .prim x y) = some (.bool q, s) := by
  show (match binop .neq .prim (fr.ev x) (fr.ev y) with | some v => some (v, s) | none => none) = _
  rw [hx, hy]
  show some (AVal.bool (!(beqL a b)), s) = _
  rw [beqL_eq, hq]
theorem lss_str {fr : Fr} {s : AS} {x y : Opd} {a b : List Nat} {q : Bool} (hx : fr.ev x = .str a) (hy : fr.ev y = .str b) (hq : bytesLt a b = q) : loud fr s (.bin .lss .prim x y) = some (.bool q, s) := by
  show (match binop .lss .prim (fr.ev x) (fr.ev y) with | some v => some (v, s) | none => none) = _
  rw [hx, hy, ← hq]
  rfl
theorem gtr_str {fr : Fr} {s : AS} {x y : Opd} {a b : List Nat} {q : Bool} (hx : fr.ev x = .str a) (hy : fr.ev y = .str b) (hq : bytesLt b a = q) : loud fr s (.bin .gtr .prim x y) = some (.bool q, s) := by
  show (match binop .gtr .prim (fr.ev x) (fr.ev y) with | some v => some (v, s) | none => none) = _
  rw [hx, hy, ← hq, ← bytes_gtr]
  rfl
theorem cw_nx {tab : Nat → Option AFn} (hT : TabR tab) {f : Nat} {args : List AVal} {s : AS} {R : AVal → AS → Prop} (h : Cw tab f args s R) : Cw tab f args s (fun v s' => R v s' ∧ s.nx ≤ s'.nx) := by
  obtain ⟨n, v, s1, h1, h2⟩ := h
  obtain ⟨out', s1', h3, h4, h5, h6⟩ := call_r hT n (fun k => k) f args args s s _ _ h1 (Vrs.refl args) (Sr.refl s)
  rw [h1] at h3
  have := Prod.mk.inj (Option.some.inj h3)
  exact ⟨n, v, s1, h1, h2, by rw [this.2]; exact h6.nx⟩
section
variable {tab : Nat → Option AFn} {Q : Ex → Fr → AS → Prop} {fr : Fr} {s : AS}
theorem ow_box {o : AOper} {l : List AOper} {a : Opd} {cs : List AVal} (h1 : o.op = .box a) (hg : o.guard = none) (hc : o.chk = []) (ha : (fr.ev a).cells = cs) (hone : ones cs = true) (k : ∀ s', Keeps s s' → s.nx ≤ s'.nx → s'.get s.nx = some (.row cs 0 [cs.length] false) → At s' cs.length (.ptr s.nx 0 0) cs → Ow tab l (fr.put o.dst (.ptr s.nx 0 0)) s' Q) : Ow tab (o :: l) fr s Q := by
  have hget : (s.new (oneRow cs)).get s.nx = some (.row cs 0 [cs.length] false) := by rw [AS.get_new, if_pos rfl]; unfold oneRow; rw [llen_eq]
  refine ow_loud (v := .ptr s.nx 0 0) (s' := s.new (oneRow cs)) (by
    rw [h1]
    show (match (bif ones (fr.ev a).cells then some (oneRow (fr.ev a).cells, fun g => AVal.ptr g 0 0) else none) with | some (o, f) => some (f s.nx, s.new o) | none => none) = _
    rw [ha, hone]; rfl) (by rw [hg]; rfl) (by rw [hc]; rfl) (k _ (.new s _) (Nat.le_succ _) hget ⟨s.nx, 0, 0, rfl, ?_⟩)
  unfold cellsAt
  rw [hget]
  show (bif Nat.ble (Nat.add 0 cs.length) cs.length then some (ltake (ldrop cs 0) cs.length) else none) = _
  rw [ble_iff.2 (by show 0 + _ ≤ _; omega), cond_true, ltake_eq, ldrop_eq, List.drop_zero, List.take_of_length_le (Nat.le_refl _)]
end

/-! ### ref04.rows -/
def rowsN (q : Nat → Int) : Nat → Nat
  | 0 => 1
  | n + 1 => if q n = 2 then rowsN q n * 4 else rowsN q n
theorem rowsN_le (q : Nat → Int) : ∀ n, 1 ≤ rowsN q n ∧ rowsN q n ≤ 4 ^ n
  | 0 => ⟨Nat.le_refl _, Nat.le_refl _⟩
  | n + 1 => by
    have := rowsN_le q n
    unfold rowsN
    rw [Nat.pow_succ]
    split <;> omega
theorem rowsN_64 (q : Nat → Int) {n : Nat} (h : n ≤ 3) : rowsN q n ≤ 64 := Nat.le_trans (rowsN_le q n).2 (Nat.pow_le_pow_right (by omega) h)
def b22 : AC := bodyOf T.a22
def l22 : AC := inn (inn (tl (hd (aft 2 b22))))
theorem ok22 : (AC.loop l22).ok = true := by decide +kernel
theorem ok22_3 : (aft 3 b22).ok = true := by decide +kernel
section
variable {x : AVal} {n : Nat} {q : Nat → Int} {s0 : AS}
theorem loop22 (hx : Sl s0 1 x n (argCell q)) (hn : n ≤ 3) : ∀ (k i : Nat) (s : AS), i + k = n → Keeps s0 s →
    Wp T.tab (.loop l22) (mkF [(0, x), (3, .int .i64 (.ofNat (rowsN q i))), (4, .int .i64 (.ofNat i))]) s (Out.of 0 (Then T.tab (aft 3 b22) (Res.of [.tmp 2] (Gives s0 (.int .i64 (.ofNat (rowsN q n))))))) := by
  have hQ : Lift1 (Out.of 0 (Then T.tab (aft 3 b22) (Res.of [.tmp 2] (Gives s0 (.int .i64 (.ofNat (rowsN q n))))))) := Lift1.out (Lift1.andThen T.tabR ok22_3 (Lift1.res (Gives.lift rfl) _)) 0
  intro k
  induction k with
  | zero =>
    intro i s hi hk
    obtain rfl : i = n := by omega
    refine aw_loop_step ?_
    show Wp T.tab (.seq (.seq (.reg (ops (hd (hd l22)))) (tl (hd l22))) (tl l22)) _ _ _
    refine aw_seq (aw_seq (aw_reg (ow_loud rfl rfl rfl (ow_loud rfl rfl rfl (ow_loud ((hx.keeps (fun _ _ => rfl) hk).len rfl) rfl rfl (ow_loud (lss_nat (n := i) (m := i) rfl rfl (decide_eq_false (by omega))) rfl rfl (ow_nil ?_)))))))
    refine aw_false rfl (aw_exit ?_)
    show Wp T.tab (.seq (.reg (ops (hd (aft 3 b22)))) .ret) _ _ _
    exact aw_seq (aw_reg (ow_loud rfl rfl rfl (ow_loud rfl rfl rfl (ow_nil (aw_ret (Gives.of rfl rfl hk))))))
  | succ k ih =>
    intro i s hi hk
    have hx' := hx.keeps (fun _ _ => rfl) hk
    have hr := rowsN_64 q (n := i) (by omega)
    refine aw_loop_step ?_
    show Wp T.tab (.seq (.seq (.reg (ops (hd (hd l22)))) (tl (hd l22))) (.seq (.block 1 (.seq (.reg (ops (hd (inn (hd (tl l22)))))) (tl (inn (hd (tl l22)))))) (.reg (ops (tl (tl l22)))))) _ _ _
    refine aw_seq (aw_seq (aw_reg (ow_loud rfl rfl rfl (ow_loud rfl rfl rfl (ow_loud (hx'.len rfl) rfl rfl (ow_loud (lss_nat (n := i) (m := n) rfl rfl (decide_eq_true (by omega))) rfl rfl (ow_nil ?_)))))))
    refine aw_true rfl (aw_skip (aw_seq (aw_block (aw_seq (aw_reg (ow_loud rfl rfl rfl (ow_loud rfl rfl rfl ?_)))))))
    refine ow_ex (hx'.at (i := i) (fun _ => rfl) (by omega) rfl rfl) rfl (fun _ => rfl) fun p1 hp1 => ?_
    refine ow_loud (hp1.one rfl) rfl rfl ?_
    have hih := ih (i + 1) s (by omega) hk
    by_cases h : q i = 2
    · rw [show rowsN q (i + 1) = rowsN q i * 4 from if_pos h] at hih
      refine ow_loud (eql_int (k := .i64) (a := q i) (b := 2) rfl rfl (decide_eq_true h)) rfl rfl (ow_nil (aw_true rfl (aw_reg (ow_loud rfl rfl rfl (ow_loud (mul_nat (n := rowsN q i) (k := 4) rfl rfl (by omega)) rfl rfl (ow_loud rfl rfl rfl (ow_nil ?_)))))))
      refine aw_reg (ow_loud rfl rfl rfl (ow_loud (add_nat (n := i) (k := 1) rfl rfl (by omega)) rfl rfl (ow_loud rfl rfl rfl (ow_nil ?_))))
      exact aw_lose T.tabR ok22 hQ (l := [(0, x), (3, .int .i64 (.ofNat (rowsN q i * 4))), (4, .int .i64 (.ofNat (i + 1)))]) ⟨Vr.refl _, Vr.refl _, Vr.refl _, trivial⟩ rfl hih
    · rw [show rowsN q (i + 1) = rowsN q i from if_neg h] at hih
      refine ow_loud (eql_int (k := .i64) (a := q i) (b := 2) rfl rfl (decide_eq_false h)) rfl rfl (ow_nil (aw_false rfl (aw_skip ?_)))
      refine aw_reg (ow_loud rfl rfl rfl (ow_loud (add_nat (n := i) (k := 1) rfl rfl (by omega)) rfl rfl (ow_loud rfl rfl rfl (ow_nil ?_))))
      exact aw_lose T.tabR ok22 hQ (l := [(0, x), (3, .int .i64 (.ofNat (rowsN q i))), (4, .int .i64 (.ofNat (i + 1)))]) ⟨Vr.refl _, Vr.refl _, Vr.refl _, trivial⟩ rfl hih
theorem rows22 (hx : Sl s0 1 x n (argCell q)) (hn : n ≤ 3) : Cw T.tab 22 [x] s0 (Gives s0 (.int .i64 (.ofNat (rowsN q n)))) := by
  have hQ : Lift1 (Out.of 0 (Then T.tab (aft 3 b22) (Res.of [.tmp 2] (Gives s0 (.int .i64 (.ofNat (rowsN q n))))))) := Lift1.out (Lift1.andThen T.tabR ok22_3 (Lift1.res (Gives.lift rfl) _)) 0
  refine cw_of (body := b22) (rs := [.tmp 2]) rfl ?_
  show Wp T.tab (.seq (.reg (ops (hd b22))) (.seq (.reg (ops (hd (aft 1 b22)))) (.seq (.seq (.reg (ops (hd (hd (aft 2 b22))))) (.block 0 (.loop l22))) (aft 3 b22)))) _ _ _
  refine aw_seq (aw_reg (ow_loud rfl rfl rfl (ow_nil (aw_seq (aw_reg (ow_loud rfl rfl rfl (ow_nil (aw_seq (aw_seq (aw_reg (ow_loud rfl rfl rfl (ow_nil (aw_block ?_)))))))))))))
  exact aw_lose T.tabR ok22 hQ (l := [(0, x), (3, .int .i64 (.ofNat 1)), (4, .int .i64 (.ofNat 0))]) ⟨Vr.refl _, Vr.refl _, Vr.refl _, trivial⟩ rfl (loop22 hx hn n 0 s0 (by omega) (.refl s0))
end

/-! ### comparisons of names -/
theorem isNaN55 (l : List Nat) (s : AS) : Cw T.tab 55 [.str l] s (Gives s (.bool false)) := by
  refine cw_of (body := bodyOf T.a55) (rs := [.tmp 2]) rfl ?_
  show Wp T.tab (.seq (.reg (ops (hd (bodyOf T.a55)))) (.seq (.reg (ops (hd (aft 1 (bodyOf T.a55))))) .ret)) _ _ _
  refine aw_seq (aw_reg (ow_loud rfl rfl rfl (ow_nil (aw_seq (aw_reg (ow_loud rfl rfl rfl (ow_loud rfl rfl rfl (ow_loud (neq_str (a := l) (b := l) (q := false) rfl rfl (by simp)) rfl rfl (ow_loud rfl rfl rfl (ow_nil ?_)))))))))) 
  exact aw_ret (Gives.of rfl rfl (.refl s))
noncomputable def sgn (a b : List Nat) : Int := bif bytesLt a b then -1 else bif bytesLt b a then 1 else 0
theorem sgn_neg (a b : List Nat) : bltI (sgn a b) 0 = bytesLt a b := by
  unfold sgn
  cases bytesLt a b with
  | true => rfl
  | false => cases bytesLt b a <;> rfl
theorem compare27 (a b : List Nat) (s : AS) : Cw T.tab 27 [.str a, .str b] s (Gives s (.int .i64 (sgn a b))) := by
  refine cw_of (body := bodyOf T.a27) (rs := [.tmp 4]) rfl ?_
  show Wp T.tab (.seq (.reg (ops (hd (bodyOf T.a27)))) (.seq (.reg (ops (hd (aft 1 (bodyOf T.a27))))) (.seq (.reg (ops (hd (aft 2 (bodyOf T.a27))))) (.seq (.seq (.reg (ops (hd (hd (aft 3 (bodyOf T.a27)))))) (tl (hd (aft 3 (bodyOf T.a27))))) (.seq (.seq (.reg (ops (hd (hd (aft 4 (bodyOf T.a27)))))) (tl (hd (aft 4 (bodyOf T.a27))))) (.seq (.seq (.reg (ops (hd (hd (aft 5 (bodyOf T.a27)))))) (.cond (.t 16) (.seq (.reg [⟨some 4,(.mov (.c (.int .i64 (-1)))),none,[],[]⟩]) .ret) .skip)) (.seq (.seq (.reg (ops (hd (hd (aft 6 (bodyOf T.a27)))))) (.cond (.t 19) (.seq (.reg [⟨some 4,(.mov (.c (.int .i64 (1)))),none,[],[]⟩]) .ret) .skip)) (.seq (.reg (ops (hd (aft 7 (bodyOf T.a27))))) .ret)))))))) _ _ _
  refine aw_seq (aw_reg (ow_loud rfl rfl rfl (ow_nil (aw_seq (aw_reg (ow_loud rfl rfl rfl (ow_call rfl rfl rfl ((isNaN55 a s).mono fun v s1 hv => ⟨rfl, ?_⟩))))))))
  obtain ⟨rfl, hk1⟩ := hv
  refine ow_loud rfl rfl rfl (ow_nil (aw_seq (aw_reg (ow_loud rfl rfl rfl (ow_call rfl rfl rfl ((isNaN55 b s1).mono fun v s2 hv => ⟨rfl, ?_⟩))))))
  obtain ⟨rfl, hk2⟩ := hv
  have hk := hk1.trans hk2
  refine ow_loud rfl rfl rfl (ow_nil (aw_seq (aw_seq (aw_reg (ow_loud rfl rfl rfl (ow_nil (aw_false rfl (aw_skip (aw_seq (aw_seq (aw_reg (ow_loud rfl rfl rfl (ow_nil (aw_false rfl (aw_skip ?_)))))))))))))) )
  refine aw_seq (aw_seq (aw_reg (ow_loud rfl rfl rfl (ow_loud rfl rfl rfl ?_))))
  cases h1 : bytesLt a b with
  | true =>
    refine ow_loud (lss_str (a := a) (b := b) rfl rfl h1) rfl rfl (ow_nil (aw_true rfl (aw_seq (aw_reg (ow_loud rfl rfl rfl (ow_nil ?_))))))
    exact aw_ret (Gives.of rfl (by unfold sgn; rw [h1]; rfl) hk)
  | false =>
    refine ow_loud (lss_str (a := a) (b := b) rfl rfl h1) rfl rfl (ow_nil (aw_false rfl (aw_skip ?_)))
    refine aw_seq (aw_seq (aw_reg (ow_loud rfl rfl rfl (ow_loud rfl rfl rfl ?_))))
    cases h2 : bytesLt b a with
    | true =>
      refine ow_loud (gtr_str (a := a) (b := b) rfl rfl h2) rfl rfl (ow_nil (aw_true rfl (aw_seq (aw_reg (ow_loud rfl rfl rfl (ow_nil ?_))))))
      exact aw_ret (Gives.of rfl (by unfold sgn; rw [h1, h2]; rfl) hk)
    | false =>
      refine ow_loud (gtr_str (a := a) (b := b) rfl rfl h2) rfl rfl (ow_nil (aw_false rfl (aw_skip (aw_seq (aw_reg (ow_loud rfl rfl rfl (ow_nil ?_)))))))
      exact aw_ret (Gives.of rfl (by unfold sgn; rw [h1, h2]; rfl) hk)
/-- What a sort asks. -/
def Cmps (f : AVal) (n : Nat) (e : Nat → List AVal) (lt : Nat → Nat → Bool) : Prop := ∃ g a b, f = .func g a b ∧ ∀ i j, i < n → j < n → ∀ s, Cw T.tab g (a ++ ([.agg (e i), .agg (e j)] ++ b)) s (fun v s' => (∃ c, v = .int .i64 c ∧ bltI c 0 = lt i j) ∧ Keeps s s')
section
variable {D : DS} {a : Nat → AVal}
noncomputable def DS.lt (D : DS) (i j : Nat) : Bool := bytesLt (D.nm i) (D.nm j)
theorem cmp26 (ha : ∀ j, j < D.n → (a j).one = true ∧ (a j).solid 5 = true) : Cmps (.func 26 [] []) D.n (D.cell a) D.lt := by
  refine ⟨26, [], [], rfl, fun i j hi hj s => ?_⟩
  have h1 : ∀ k, k < D.n → ones (D.cell a k) = true := fun k hk => by
    rw [ones_iff]; intro c hc
    simp only [DS.cell, List.mem_cons, List.mem_nil_iff, or_false] at hc
    rcases hc with rfl | rfl | rfl
    · rfl
    · exact (ha k hk).1
    · rfl
  have h2 : ∀ k, k < D.n → solids (D.cell a k) = true := fun k hk => by
    unfold DS.cell solids; simp only [List.all_cons, List.all_nil, (ha k hk).2]; rfl
  refine cw_of (body := bodyOf T.a26) (rs := [.tmp 4]) rfl ?_
  show Wp T.tab (.seq (.reg (ops (hd (bodyOf T.a26)))) (.seq (.reg (ops (hd (aft 1 (bodyOf T.a26))))) .ret)) _ _ _
  refine aw_seq (aw_reg (ow_box (cs := D.cell a i) rfl rfl rfl rfl (h1 i hi) fun s1 hk1 _ _ hp1 => ow_box (cs := D.cell a j) rfl rfl rfl rfl (h1 j hj) fun s2 hk2 _ _ hp2 => ow_loud rfl rfl rfl (ow_nil (aw_seq (aw_reg ?_)))))
  have hp1' := hp1.keeps (h2 i hi) hk2
  refine ow_ex (hp1'.field (j := 0) (y := .str (D.nm i)) rfl rfl rfl) rfl (fun _ => rfl) fun p1 hq1 => ?_
  refine ow_loud (hq1.one rfl) rfl rfl ?_
  refine ow_ex (hp2.field (j := 0) (y := .str (D.nm j)) rfl rfl rfl) rfl (fun _ => rfl) fun p2 hq2 => ?_
  refine ow_loud (hq2.one rfl) rfl rfl ?_
  refine ow_call rfl rfl rfl ((compare27 (D.nm i) (D.nm j) s2).mono fun v s3 hv => ⟨rfl, ?_⟩)
  obtain ⟨rfl, hk3⟩ := hv
  refine ow_loud rfl rfl rfl (ow_nil (aw_ret ⟨rfl, .int .i64 (sgn (D.nm i) (D.nm j)), rfl, ⟨_, rfl, sgn_neg _ _⟩, (hk1.trans hk2).trans hk3⟩))
end
end Go.Proofs.YteoeidhcmcacbaaGreatDoor.movesLetters
/-
  Sorting by insertion.
-/
namespace Go.Proofs.YteoeidhcmcacbaaGreatDoor.movesLetters
open Go Go.Avm

theorem Own.perm {s : AS} {x : AVal} {n w : Nat} {e : Nat → List AVal} (H : Own s w x n e) {h : Nat → List AVal} (eq : e = h) : Own s w x n h := eq ▸ H
/-- What a place in a row of one's own is good for. -/
def Puts (w : Nat) (x : AVal) (n g i v : Nat) : Prop := ∀ y cs, ∀ s1, Own s1 w x n y → (∀ {fr : Fr} {p q : Opd}, fr.ev p = .ptr g (Nat.add 0 (Nat.mul i w)) v → fr.ev q = .agg cs → cs.length = w → ones cs = true → solids cs = true →
    ∃ s2, loud fr s1 (.store w p q) = some (.junk, s2) ∧ Own s2 w x n (updW y i cs) ∧ ∀ k, k ≠ g → s2.get k = s1.get k)
section
variable {tab : Nat → Option AFn} {Q : Ex → Fr → AS → Prop} {fr : Fr} {s : AS}
theorem ow_addr {o : AOper} {l : List AOper} {w n g i : Nat} {x : AVal} {f : Nat → List AVal} {a b : Opd} (ho : o.op = .ixa w a b) (hgd : wanted fr o.guard = some true) (hck : o.chk = []) (H : Own s w x n f) (hg : Go.Proofs.YteoeidhcmcacbaaGreatDoor.movesLetters.rowOf x = some g) (hi : i < n) (ha : fr.ev a = x) (hb : fr.ev b = .int .i64 (.ofNat i))
    (k : ∀ v, Puts w x n g i v → Ow tab l (fr.put o.dst (.ptr g (Nat.add 0 (Nat.mul i w)) v)) s Q) : Ow tab (o :: l) fr s Q := by
  obtain ⟨v, h1, h2⟩ := H.addr hg hi ha hb
  exact ow_loud (by rw [ho]; exact h1) hgd (by rw [hck]; rfl) (k v h2)
theorem ow_puts {o : AOper} {l : List AOper} {w n g i v : Nat} {x : AVal} {y : Nat → List AVal} {cs : List AVal} {p q : Opd} (ho : o.op = .store w p q) (hgd : o.guard = none) (hck : o.chk = []) (hP : Puts w x n g i v) (H : Own s w x n y) (hp : fr.ev p = .ptr g (Nat.add 0 (Nat.mul i w)) v) (hq : fr.ev q = .agg cs) (hl : cs.length = w) (h1 : ones cs = true) (h2 : solids cs = true)
    (k : ∀ s2, Own s2 w x n (updW y i cs) → (∀ k, k ≠ g → s2.get k = s.get k) → Ow tab l (fr.put o.dst .junk) s2 Q) : Ow tab (o :: l) fr s Q := by
  obtain ⟨s2, e1, e2, e3⟩ := hP y cs s H hp hq hl h1 h2
  exact ow_loud (by rw [ho]; exact e1) (by rw [hgd]; rfl) (by rw [hck]; rfl) (k s2 e2 e3)
end
/-- What a sort leaves. -/
def Sorted (s0 : AS) (g : Nat) (x : AVal) (n : Nat) (e : Nat → List AVal) (lt : Nat → Nat → Bool) : AVal → AS → Prop := fun r s => r = .tuple [] ∧ Own s 3 x n (fun j => e (srt lt n j)) ∧ Only g s0 s
theorem Sorted.lift {s0 : AS} {g : Nat} {x : AVal} {n : Nat} {e : Nat → List AVal} {lt : Nat → Nat → Bool} : LiftR (Sorted s0 g x n e lt) := fun _ _ _ _ h hv hS => by
  obtain ⟨rfl, h2, h3⟩ := h
  refine ⟨?_, h2.sr hS, h3.sr hS⟩
  cases hv with
  | tuple h => cases h; rfl
def b104 : AC := bodyOf T.a104
def l104 : AC := inn (inn (tl b104))
def m104 : AC := inn (hd (tl l104))
def k104 : AC := inn (inn (tl m104))
theorem ok104 : (AC.loop l104).ok = true := by decide +kernel
theorem ok104k : (AC.loop k104).ok = true := by decide +kernel
theorem ok104i : (tl (tl l104)).ok = true := by decide +kernel
section
variable {x f : AVal} {n g : Nat} {e : Nat → List AVal} {lt : Nat → Nat → Bool} {s0 : AS}
theorem inner104 {Q : Ex → Fr → AS → Prop} (hQ : Lift1 Q) (hg : Go.Proofs.YteoeidhcmcacbaaGreatDoor.movesLetters.rowOf x = some g) (hf : Cmps f n e lt) (hn : n ≤ 4) {i : Nat} : ∀ (k : Nat) (π : Nat → Nat) (s : AS), k < n → (∀ j, j < n → π j < n) → Own s 3 x n (fun j => e (π j)) → Only g s0 s →
    (∀ s, Own s 3 x n (fun j => e (bub lt π k j)) → Only g s0 s → ∀ fr : Fr, fr.df = [] → fr.get 0 = x → fr.get 1 = .int .i64 0 → fr.get 2 = .int .i64 (.ofNat n) → fr.get 3 = f → fr.get 8 = .int .i64 (.ofNat i) → Q .nrm fr s) →
    Wp T.tab (.loop k104) (mkF [(0, x), (1, .int .i64 (.ofNat 0)), (2, .int .i64 (.ofNat n)), (3, f), (8, .int .i64 (.ofNat i)), (9, .int .i64 (.ofNat k))]) s (Out.of 2 Q) := by
  have hQ2 : Lift1 (Out.of 2 Q) := Lift1.out hQ 2
  intro k
  induction k with
  | zero =>
    intro π s hk hπ H O hend
    refine aw_loop_step ?_
    show Wp T.tab (.seq (.seq (.reg (ops (hd (hd k104)))) (tl (hd k104))) (tl k104)) _ _ _
    refine aw_seq (aw_seq (aw_reg (ow_loud rfl rfl rfl (ow_loud rfl rfl rfl (ow_loud (gtr_nat (n := 0) (m := 0) rfl rfl rfl) rfl rfl (ow_loud rfl rfl rfl ?_))))))
    refine ow_skip rfl (ow_skip rfl (ow_skip rfl (ow_skip rfl (ow_skip rfl (ow_skip rfl (ow_skip rfl (ow_skip rfl (ow_skip rfl (ow_skip rfl (ow_skip rfl (ow_skip rfl (ow_loud (v := .bool false) rfl rfl rfl (ow_nil ?_)))))))))))))
    refine aw_false rfl (aw_exit ?_)
    exact hend s H O _ rfl rfl rfl rfl rfl rfl
  | succ k ih =>
    intro π s hk hπ H O hend
    obtain ⟨gf, fa, fb, rfl, hf'⟩ := hf
    refine aw_loop_step ?_
    show Wp T.tab (.seq (.seq (.reg (ops (hd (hd k104)))) (tl (hd k104))) (.seq (.block 3 (.reg (ops (inn (hd (tl k104)))))) (.reg (ops (tl (tl k104)))))) _ _ _
    refine aw_seq (aw_seq (aw_reg (ow_loud rfl rfl rfl (ow_loud rfl rfl rfl (ow_loud (gtr_nat (n := k + 1) (m := 0) rfl rfl (decide_eq_true (by omega))) rfl rfl (ow_loud rfl rfl rfl (ow_loud rfl rfl rfl (ow_loud rfl rfl rfl (ow_loud rfl rfl rfl ?_)))))))))
    refine ow_ex (H.sl.at (i := k + 1) H.len (by omega) rfl rfl) rfl (fun _ => rfl) fun p1 hp1 => ?_
    refine ow_loud (hp1.load rfl) rfl rfl (ow_loud rfl rfl rfl (ow_loud rfl rfl rfl (ow_loud (sub_nat (n := k) rfl (by omega)) rfl rfl ?_)))
    refine ow_ex (H.sl.at (i := k) H.len (by omega) rfl rfl) rfl (fun _ => rfl) fun p2 hp2 => ?_
    refine ow_loud (hp2.load rfl) rfl rfl ?_
    refine ow_call rfl rfl rfl ((hf' (π (k + 1)) (π k) (hπ _ hk) (hπ _ (by omega)) s).mono fun v s1 hv => ⟨rfl, ?_⟩)
    obtain ⟨⟨c, rfl, hc⟩, hk1⟩ := hv
    have H1 := H.keeps hk1
    have O1 := O.trans (.of hk1)
    cases hlt : lt (π (k + 1)) (π k) with
    | false =>
      rw [hlt] at hc
      refine ow_loud (v := .bool false) (s' := s1) (by show some (AVal.bool (bltI c 0), s1) = _; rw [hc]) rfl rfl (ow_loud (v := .bool false) rfl rfl rfl (ow_nil ?_))
      refine aw_false rfl (aw_exit ?_)
      refine hend s1 ?_ O1 _ rfl rfl rfl rfl rfl rfl
      rw [show bub lt π (k + 1) = π by show (if lt (π (k + 1)) (π k) then bub lt (sw π k) k else π) = π; rw [hlt]; rfl]
      exact H1
    | true =>
      rw [hlt] at hc
      refine ow_loud (v := .bool true) (s' := s1) (by show some (AVal.bool (bltI c 0), s1) = _; rw [hc]) rfl rfl (ow_loud (v := .bool true) rfl rfl rfl (ow_nil ?_))
      refine aw_true rfl (aw_skip (aw_seq (aw_block (aw_reg (ow_loud rfl rfl rfl (ow_loud rfl rfl rfl (ow_loud rfl rfl rfl (ow_loud rfl rfl rfl (ow_loud (sub_nat (n := k) rfl (by omega)) rfl rfl (ow_loud rfl rfl rfl (ow_loud rfl rfl rfl (ow_loud (sub_nat (n := k) rfl (by omega)) rfl rfl ?_))))))))))))
      refine ow_ex (H1.sl.at (i := k) H1.len (by omega) rfl rfl) rfl (fun _ => rfl) fun p3 hp3 => ?_
      refine ow_loud (hp3.load rfl) rfl rfl (ow_loud rfl rfl rfl (ow_loud rfl rfl rfl ?_))
      refine ow_ex (H1.sl.at (i := k + 1) H1.len (by omega) rfl rfl) rfl (fun _ => rfl) fun p4 hp4 => ?_
      refine ow_loud (hp4.load rfl) rfl rfl ?_
      refine ow_addr rfl rfl rfl H1 hg (i := k + 1) (by omega) rfl rfl fun v1 hb1 => ?_
      refine ow_puts rfl rfl rfl hb1 H1 (cs := e (π k)) rfl rfl (H1.len k) (H1.one k (by omega)) (H1.sol k (by omega)) fun s2 H2 hget2 => ?_
      refine ow_addr rfl rfl rfl H2 hg (i := k) (by omega) rfl rfl fun v2 hb2 => ?_
      refine ow_puts rfl rfl rfl hb2 H2 (cs := e (π (k + 1))) rfl rfl (H1.len (k + 1)) (H1.one (k + 1) (by omega)) (H1.sol (k + 1) (by omega)) fun s3 H3 hget3 => ow_nil ?_
      refine aw_reg (ow_loud rfl rfl rfl (ow_loud (sub_nat (n := k) rfl (by omega)) rfl rfl (ow_loud rfl rfl rfl (ow_nil ?_))))
      rw [swap_eq] at H3
      have O3 : Only g s0 s3 := O1.trans fun j o hj eo => ⟨o, by rw [hget3 j hj, hget2 j hj]; exact eo, Or.refl o⟩
      refine aw_lose T.tabR ok104k hQ2 (l := [(0, x), (1, .int .i64 (.ofNat 0)), (2, .int .i64 (.ofNat n)), (3, .func gf fa fb), (8, .int .i64 (.ofNat i)), (9, .int .i64 (.ofNat k))]) ⟨Vr.refl _, Vr.refl _, Vr.refl _, Vr.refl _, Vr.refl _, Vr.refl _, trivial⟩ rfl (ih (sw π k) s3 (by omega) (fun j hj => ?_) H3 O3 fun s4 H4 => hend s4 ?_)
      · unfold sw; split
        · exact hπ _ hk
        · split
          · exact hπ _ (by omega)
          · exact hπ _ hj
      · rw [show bub lt π (k + 1) = bub lt (sw π k) k by show (if lt (π (k + 1)) (π k) then bub lt (sw π k) k else π) = _; rw [hlt]; rfl]
        exact H4
theorem srt_all {i j : Nat} (hi : i ≤ n) (hj : j < n) : srt lt i j < n := by
  by_cases h : j < i
  · have := srt_lt lt i j h; omega
  · rw [srt_above lt i j (by omega)]; exact hj
theorem outer104 (hg : Go.Proofs.YteoeidhcmcacbaaGreatDoor.movesLetters.rowOf x = some g) (hf : Cmps f n e lt) (hn : n ≤ 4) : ∀ (m i : Nat) (s : AS), i + m = n → Own s 3 x n (fun j => e (srt lt i j)) → Only g s0 s →
    Wp T.tab (.loop l104) (mkF [(0, x), (1, .int .i64 (.ofNat 0)), (2, .int .i64 (.ofNat n)), (3, f), (8, .int .i64 (.ofNat i))]) s (Out.of 0 (Res.of [] (Sorted s0 g x n e lt))) := by
  have hQ : Lift1 (Out.of 0 (Res.of [] (Sorted s0 g x n e lt))) := Lift1.out (Lift1.res Sorted.lift _) 0
  intro m
  induction m with
  | zero =>
    intro i s hi H O
    obtain rfl : i = n := by omega
    refine aw_loop_step ?_
    show Wp T.tab (.seq (.seq (.reg (ops (hd (hd l104)))) (tl (hd l104))) (tl l104)) _ _ _
    refine aw_seq (aw_seq (aw_reg (ow_loud rfl rfl rfl (ow_loud rfl rfl rfl (ow_loud (lss_nat (n := i) (m := i) rfl rfl (decide_eq_false (by omega))) rfl rfl (ow_nil ?_))))))
    refine aw_false rfl (aw_exit ?_)
    exact ⟨rfl, .tuple [], rfl, rfl, H, O⟩
  | succ m ih =>
    intro i s hi H O
    refine aw_loop_step ?_
    show Wp T.tab (.seq (.seq (.reg (ops (hd (hd l104)))) (tl (hd l104))) (.seq (.block 1 (.seq (.reg (ops (hd m104))) (.block 2 (.loop k104)))) (.reg (ops (tl (tl l104)))))) _ _ _
    refine aw_seq (aw_seq (aw_reg (ow_loud rfl rfl rfl (ow_loud rfl rfl rfl (ow_loud (lss_nat (n := i) (m := n) rfl rfl (decide_eq_true (by omega))) rfl rfl (ow_nil ?_))))))
    refine aw_true rfl (aw_skip (aw_seq (aw_block (aw_seq (aw_reg (ow_loud rfl rfl rfl (ow_loud rfl rfl rfl (ow_nil (aw_block ?_)))))))))
    have hQ1 : Lift1 (Out.of 1 (Then T.tab (.reg (ops (tl (tl l104)))) (Then T.tab (.loop l104) (Out.of 0 (Res.of [] (Sorted s0 g x n e lt)))))) := Lift1.out (Lift1.andThen T.tabR ok104i (Lift1.andThen T.tabR ok104 hQ)) 1
    refine aw_lose T.tabR ok104k (Lift1.out hQ1 2) (l := [(0, x), (1, .int .i64 (.ofNat 0)), (2, .int .i64 (.ofNat n)), (3, f), (8, .int .i64 (.ofNat i)), (9, .int .i64 (.ofNat i))]) ⟨Vr.refl _, Vr.refl _, Vr.refl _, Vr.refl _, Vr.refl _, Vr.refl _, trivial⟩ rfl (inner104 hQ1 hg hf hn i (srt lt i) s (by omega) (fun j hj => srt_all (by omega) hj) H O fun s1 H1 O1 fr hd h0 h1 h2 h3 h8 => ?_)
    show Wp T.tab (.reg (ops (tl (tl l104)))) fr s1 _
    refine aw_lose T.tabR ok104i (Lift1.andThen T.tabR ok104 hQ) (l := [(0, x), (1, .int .i64 (.ofNat 0)), (2, .int .i64 (.ofNat n)), (3, f), (8, .int .i64 (.ofNat i))]) ⟨by rw [h0]; exact Vr.refl _, by rw [h1]; exact Vr.refl _, by rw [h2]; exact Vr.refl _, by rw [h3]; exact Vr.refl _, by rw [h8]; exact Vr.refl _, trivial⟩ hd ?_
    show Wp T.tab (.reg (ops (tl (tl l104)))) _ _ _
    refine aw_reg (ow_loud rfl rfl rfl (ow_loud (add_nat (n := i) (k := 1) rfl rfl (by omega)) rfl rfl (ow_loud rfl rfl rfl (ow_nil ?_))))
    exact aw_lose T.tabR ok104 hQ (l := [(0, x), (1, .int .i64 (.ofNat 0)), (2, .int .i64 (.ofNat n)), (3, f), (8, .int .i64 (.ofNat (i + 1)))]) ⟨Vr.refl _, Vr.refl _, Vr.refl _, Vr.refl _, Vr.refl _, trivial⟩ rfl (ih (i + 1) s1 (by omega) H1 O1)
theorem sort104 (hg : Go.Proofs.YteoeidhcmcacbaaGreatDoor.movesLetters.rowOf x = some g) (hf : Cmps f n e lt) (hn : n ≤ 4) (H : Own s0 3 x n e) : Cw T.tab 104 [x, .int .i64 0, .int .i64 (.ofNat n), f] s0 (Sorted s0 g x n e lt) := by
  have hQ : Lift1 (Out.of 0 (Res.of [] (Sorted s0 g x n e lt))) := Lift1.out (Lift1.res Sorted.lift _) 0
  refine cw_of (body := b104) (rs := []) rfl ?_
  show Wp T.tab (.seq (.reg (ops (hd b104))) (.block 0 (.loop l104))) _ _ _
  refine aw_seq (aw_reg (ow_loud rfl rfl rfl (ow_loud (add_nat (n := 0) (k := 1) rfl rfl (by omega)) rfl rfl (ow_loud rfl rfl rfl (ow_nil (aw_block ?_))))))
  by_cases h0 : n = 0
  · subst h0
    refine aw_loop_step ?_
    show Wp T.tab (.seq (.seq (.reg (ops (hd (hd l104)))) (tl (hd l104))) (tl l104)) _ _ _
    refine aw_seq (aw_seq (aw_reg (ow_loud rfl rfl rfl (ow_loud rfl rfl rfl (ow_loud (lss_nat (n := 1) (m := 0) rfl rfl rfl) rfl rfl (ow_nil ?_))))))
    refine aw_false rfl (aw_exit ?_)
    exact ⟨rfl, .tuple [], rfl, rfl, H, .refl g s0⟩
  · refine aw_lose T.tabR ok104 hQ (l := [(0, x), (1, .int .i64 (.ofNat 0)), (2, .int .i64 (.ofNat n)), (3, f), (8, .int .i64 (.ofNat 1))]) ⟨Vr.refl _, Vr.refl _, Vr.refl _, Vr.refl _, Vr.refl _, trivial⟩ rfl (outer104 hg hf hn (n - 1) 1 s0 (by omega) H (.refl g s0))
theorem sort53 (hg : Go.Proofs.YteoeidhcmcacbaaGreatDoor.movesLetters.rowOf x = some g) (hf : Cmps f n e lt) (hn : n ≤ 4) (H : Own s0 3 x n e) (c : Int) : Cw T.tab 53 [x, .int .i64 0, .int .i64 (.ofNat n), .int .i64 c, f] s0 (Sorted s0 g x n e lt) := by
  have hb : ∃ c1 c2 c3 c4 c5 c6, bodyOf T.a53 = .seq (.reg c1) (.seq (.reg c2) (.block 0 (.loop (.block 1 (.seq (.reg c3) (.seq (.seq (.reg c4) (.cond (.t 25) (.seq (.reg c5) .ret) .skip)) c6)))))) := ⟨_, _, _, _, _, _, rfl⟩
  refine cw_of (body := bodyOf T.a53) (rs := []) rfl ?_
  show Wp T.tab (.seq (.reg (ops (hd (bodyOf T.a53)))) (.seq (.reg (ops (hd (aft 1 (bodyOf T.a53))))) (.block 0 (.loop (.block 1 (.seq (.reg (ops (hd (inn (inn (inn (aft 2 (bodyOf T.a53)))))))) (.seq (.seq (.reg (ops (hd (hd (aft 1 (inn (inn (inn (aft 2 (bodyOf T.a53)))))))))) (tl (hd (aft 1 (inn (inn (inn (aft 2 (bodyOf T.a53))))))))) (aft 2 (inn (inn (inn (aft 2 (bodyOf T.a53)))))))))))) ) _ _ _
  refine aw_seq (aw_reg (ow_loud rfl rfl rfl (ow_nil (aw_seq (aw_reg (ow_loud rfl rfl rfl (ow_nil (aw_block (aw_loop_step (aw_block (aw_seq (aw_reg (ow_loud rfl rfl rfl (ow_loud rfl rfl rfl ?_))))))))))))) )
  refine ow_loud (v := .int .i64 (.ofNat n)) (s' := s0) (by
    show some (AVal.int .i64 (wrapF .i64 (Int.ofNat n - 0)), s0) = _
    rw [show (Int.ofNat n - 0 : Int) = .ofNat n by omega, wrap_nat (by omega)]) rfl rfl (ow_loud rfl rfl rfl (ow_nil (aw_seq (aw_seq (aw_reg (ow_loud rfl rfl rfl ?_))))))
  refine ow_loud (v := .bool true) (s' := s0) (by
    show some (AVal.bool (!bltI (.ofNat 12) (.ofNat n)), s0) = _
    rw [ltI, decide_eq_false (by omega)]; rfl) rfl rfl (ow_nil (aw_true rfl (aw_seq (aw_reg (ow_loud rfl rfl rfl (ow_loud rfl rfl rfl (ow_loud rfl rfl rfl (ow_loud rfl rfl rfl ?_)))))))) 
  refine ow_call rfl rfl rfl ((sort104 hg hf hn H).mono fun v s1 hv => ⟨rfl, ow_nil (aw_ret ?_)⟩)
  exact ⟨rfl, .tuple [], rfl, rfl, hv.2⟩
theorem bits54 : ∀ {n : Nat}, n ≤ 4 → ∃ c, ∀ s, Cw T.tab 54 [.int .u64 (.ofNat n)] s (Gives s (.int .i64 c))
  | 0, _ => ⟨0, gives_run T.tabR (n := 2000) (by decide +kernel) rfl⟩
  | 1, _ => ⟨1, gives_run T.tabR (n := 2000) (by decide +kernel) rfl⟩
  | 2, _ => ⟨2, gives_run T.tabR (n := 2000) (by decide +kernel) rfl⟩
  | 3, _ => ⟨2, gives_run T.tabR (n := 2000) (by decide +kernel) rfl⟩
  | 4, _ => ⟨3, gives_run T.tabR (n := 2000) (by decide +kernel) rfl⟩
  | n + 5, h => by omega
theorem sort25 (hg : Go.Proofs.YteoeidhcmcacbaaGreatDoor.movesLetters.rowOf x = some g) (hf : Cmps f n e lt) (hn : n ≤ 4) (H : Own s0 3 x n e) : Cw T.tab 25 [x, f] s0 (Sorted s0 g x n e lt) := by
  refine cw_of (body := bodyOf T.a25) (rs := []) rfl ?_
  show Wp T.tab (.seq (.reg (ops (hd (bodyOf T.a25)))) (.reg (ops (tl (bodyOf T.a25))))) _ _ _
  refine aw_seq (aw_reg (ow_loud rfl rfl rfl (ow_loud (H.sl.len rfl) rfl rfl (ow_loud rfl rfl rfl (ow_nil (aw_reg (ow_loud rfl rfl rfl (ow_loud rfl rfl rfl (ow_loud rfl rfl rfl ?_)))))))))
  refine ow_loud (v := .int .u64 (.ofNat n)) (s' := s0) (by
    match n, hn with
    | 0, _ => rfl
    | 1, _ => rfl
    | 2, _ => rfl
    | 3, _ => rfl
    | 4, _ => rfl
    | n + 5, h => omega) rfl rfl ?_
  obtain ⟨c, hc⟩ := bits54 hn
  refine ow_call rfl rfl rfl ((hc s0).mono fun v s1 hv => ⟨rfl, ?_⟩)
  obtain ⟨rfl, hk⟩ := hv
  refine ow_loud rfl rfl rfl ?_
  refine ow_call rfl rfl rfl ((sort53 hg hf hn (H.keeps hk) c).mono fun v s2 hv => ⟨rfl, ow_nil ?_⟩)
  obtain ⟨rfl, h1, h2⟩ := hv
  exact ⟨rfl, .tuple [], rfl, rfl, h1, (Only.of hk).trans h2⟩
end
end Go.Proofs.YteoeidhcmcacbaaGreatDoor.movesLetters
/-
  New rows; copies of declarations.
-/
namespace Go.Proofs.YteoeidhcmcacbaaGreatDoor.movesLetters
open Go Go.Avm

/-- A row that was made after s0, while all of s0 stays. -/
structure Mine (s0 s : AS) (w : Nat) (x : AVal) (n : Nat) (f : Nat → List AVal) : Prop where
  own : Own s w x n f
  keep : Keeps s0 s
  place : ∃ g, Go.Proofs.YteoeidhcmcacbaaGreatDoor.movesLetters.rowOf x = some g ∧ s0.nx ≤ g
section
variable {s0 s s' : AS} {w n : Nat} {x : AVal} {f h : Nat → List AVal}
theorem Mine.keeps (H : Mine s0 s w x n f) (k : Keeps s s') : Mine s0 s' w x n f := ⟨H.own.keeps k, H.keep.trans k, H.place⟩
theorem Mine.congr (H : Mine s0 s w x n f) (hl : ∀ j, (h j).length = w) (e : ∀ j, j < n → f j = h j) : Mine s0 s w x n h := ⟨H.own.congr hl e, H.keep, H.place⟩
theorem Mine.puts (H : Mine s0 s w x n f) {g : Nat} (hg : Go.Proofs.YteoeidhcmcacbaaGreatDoor.movesLetters.rowOf x = some g) (hO : Own s' w x n h) (e : ∀ k, k ≠ g → s'.get k = s.get k) : Mine s0 s' w x n h := by
  obtain ⟨g', hg', hl⟩ := H.place
  rw [hg] at hg'
  obtain rfl : g = g' := Option.some.inj hg'
  refine ⟨hO, fun k o ek => ?_, g, hg, hl⟩
  have := AS.lt_of_get ek
  rw [e k (by omega)]
  exact H.keep k o ek
theorem Mine.lift : LiftR (fun r s => Mine s0 s w r n f) := fun _ _ _ _ H hv hS => by
  obtain ⟨g, v, c, ex, rfl, _, _⟩ := H.own.row
  cases hv
  exact H.keeps hS.obj
theorem Mine.le (H : Mine s0 s w x n f) : s0.nx ≤ s.nx := by
  obtain ⟨g, hg, hl⟩ := H.place
  obtain ⟨g', hg', hl'⟩ := H.own.rowOf
  rw [hg] at hg'
  have := Option.some.inj hg'
  omega
/-- An empty row. -/
theorem own_new (w : Nat) (hl : ∀ j, (f j).length = w) : Mine s (s.new (oneRow [])) w (.slice s.nx 0 0 w 0 (some 0)) 0 f :=
  ⟨⟨hl, fun _ h => absurd h (Nat.not_lt_zero _), fun _ h => absurd h (Nat.not_lt_zero _), s.nx, 0, some 0, [], rfl, by rw [AS.get_new, if_pos rfl, Nat.zero_mul]; rfl, .inr rfl⟩, .new s _, s.nx, rfl, Nat.le_refl _⟩
/-- Something is put behind a row of ours. -/
theorem Mine.app {y : AVal} {m : Nat} (H : Mine s0 s w x n f) (hy : Sl s w y m h) (hlen : ∀ j, (h j).length = w) (hone : ∀ j, j < m → ones (h j) = true) (hsol : ∀ j, j < m → solids (h j) = true) (hw : 0 < w) (hw1 : w < 1000) (hN : Roomy x w (n + m)) {fr : Fr} {a b : Opd} (ha : fr.ev a = x) (hb : fr.ev b = y) :
    ∃ x' s', loud fr s (.app w a b) = some (x', s') ∧ Mine s0 s' w x' (n + m) (appF f n h) ∧ KeepsC s s' := by
  obtain ⟨x', s', e1, e2, e3, e4, e5⟩ := H.own.app hy hlen hone hsol hw hw1 hN ha hb
  obtain ⟨g, v, c, ex, hx, hg, _⟩ := H.own.row
  obtain ⟨g0, h0, hl⟩ := H.place
  have hgg : g = g0 := by rw [hx] at h0; exact Option.some.inj h0
  subst hgg
  obtain ⟨g', v', c', hx', hp⟩ := e5 g v c hx
  refine ⟨x', s', e1, ⟨e2, fun k o ek => ?_, g', by rw [hx']; rfl, ?_⟩, e3⟩
  · have hk := AS.lt_of_get ek
    obtain ⟨o1, h1, h2⟩ := H.keep k o ek
    exact ⟨o1, e4 g v c hx k o1 (by omega) h1, h2⟩
  · have := H.le
    rcases hp with h | h <;> omega
end
section
variable {tab : Nat → Option AFn} {Q : Ex → Fr → AS → Prop} {fr : Fr} {s s0 : AS}
theorem ow_lit0 {o : AOper} {l : List AOper} {w : Nat} {f : Nat → List AVal} (ho : o.op = .lit 0 w [] []) (hg : o.guard = none) (hc : o.chk = []) (hl : ∀ j, (f j).length = w) (k : ∀ s', s' = s.new (oneRow []) → Mine s s' w (.slice s.nx 0 0 w 0 (some 0)) 0 f → Ow tab l (fr.put o.dst (.slice s.nx 0 0 w 0 (some 0))) s' Q) : Ow tab (o :: l) fr s Q :=
  ow_loud (v := .slice s.nx 0 0 w 0 (some 0)) (s' := s.new (oneRow [])) (by
    rw [ho]
    show (match (bif true && Nat.beq 0 (Nat.mul 0 w) then some (oneRow [], fun g => AVal.slice g 0 0 w 0 (some 0)) else none) with | some (o, f) => some (f s.nx, s.new o) | none => none) = _
    rw [show Nat.mul 0 w = 0 from Nat.zero_mul w]
    rfl) (by rw [hg]; rfl) (by rw [hc]; rfl) (k _ rfl (own_new w hl))
theorem ow_app {o : AOper} {l : List AOper} {w n m : Nat} {a b : Opd} {x y : AVal} {f h : Nat → List AVal} (ho : o.op = .app w a b) (hg : o.guard = none) (H : Mine s0 s w x n f) (hy : Sl s w y m h) (hlen : ∀ j, (h j).length = w) (hone : ∀ j, j < m → ones (h j) = true) (hsol : ∀ j, j < m → solids (h j) = true) (hw : 0 < w) (hw1 : w < 1000) (hN : Roomy x w (n + m)) (ha : fr.ev a = x) (hb : fr.ev b = y)
    (k : ∀ x' s', Mine s0 s' w x' (n + m) (appF f n h) → KeepsC s s' → looks (fr.put o.dst x') s' o.chk = true ∧ Ow tab l (fr.put o.dst x') s' Q) : Ow tab (o :: l) fr s Q := by
  obtain ⟨x', s', e1, e2, e3⟩ := H.app hy hlen hone hsol hw hw1 hN ha hb
  obtain ⟨h1, h2⟩ := k x' s' e2 e3
  exact ow_loud (by rw [ho]; exact e1) (by rw [hg]; rfl) h1 h2
/-- One thing more. -/
theorem ow_more {o1 o2 : AOper} {rest : List AOper} {m z : List AVal} {d w n : Nat} {a y : Opd} {x : AVal} {f : Nat → List AVal} (h1 : o1.op = .lit 1 w z [(0, w, y)]) (h2 : o2.op = .app w a (.t d)) (hd1 : o1.dst = some d) (hg1 : o1.guard = none) (hg2 : o2.guard = none) (hc1 : o1.chk = []) (hc2 : o2.chk = [])
    (hz : z.length = w) (hm : m.length = w) (hone : ones m = true) (hsol : solids m = true) (hy : fr.ev y = .agg m) (ha : ∀ v, (fr.put (some d) v).ev a = x) (H : Mine s0 s w x n f) (hw : 0 < w) (hw1 : w < 1000) (hN : (n + 1) * w ≤ 8796093022208)
    (k : ∀ v x' s', Mine s0 s' w x' (n + 1) (appF f n (fun _ => m)) → KeepsC s s' → Ow tab rest ((fr.put (some d) v).put o2.dst x') s' Q) : Ow tab (o1 :: o2 :: rest) fr s Q := by
  refine ow_loud (v := .slice s.nx 0 1 w 0 (some 1)) (s' := s.new (oneRow m)) (by rw [h1]; exact lit_one hz (by rw [hy]; rfl) (by rw [hy]; rfl) hm hone) (by rw [hg1]; rfl) (by rw [hc1]; rfl) ?_
  rw [hd1]
  have hk1 : Keeps s (s.new (oneRow m)) := .new s _
  have hy1 : Sl (s.new (oneRow m)) w (.slice s.nx 0 1 w 0 (some 1)) 1 (fun _ => m) := by
    refine .inr ⟨s.nx, 0, 0, some 1, rfl, ?_, fun k hk => by injection hk with hk; omega⟩
    unfold cellsAt
    rw [AS.get_new, if_pos rfl]
    show (bif Nat.ble (Nat.add 0 (1 * w)) (llen m) then some (ltake (ldrop m 0) (1 * w)) else none) = _
    rw [llen_eq, hm, Nat.one_mul, ble_iff.2 (by show 0 + w ≤ w; omega), cond_true]
    rw [ltake_eq, ldrop_eq, List.drop_zero, List.take_of_length_le (by rw [hm]; exact Nat.le_refl _)]
    rfl
  obtain ⟨x', s', e1, e2, e3⟩ := (H.keeps hk1).app (fr := fr.put (some d) (.slice s.nx 0 1 w 0 (some 1))) (a := a) (b := .t d) hy1 (fun _ => hm) (fun _ _ => hone) (fun _ _ => hsol) hw hw1 (.inl hN) (ha _) (by rw [Fr.ev_t, Fr.get_put, if_pos rfl])
  exact ow_loud (v := x') (s' := s') (by rw [h2]; exact e1) (by rw [hg2]; rfl) (by rw [hc2]; rfl) (k _ x' s' e2 ((KeepsC.of hk1).trans e3))
end

/-! ### slices.Clone -/
theorem clone_of {h w : Nat} {s : AS} {x : AVal} {n : Nat} {f : Nat → List AVal} (hx : Sl s w x n f) (hnil : x ≠ .nilslice) (hw : 0 < w) (hw1 : w < 1000) (hl : ∀ j, (f j).length = w) (hone : ∀ j, j < n → ones (f j) = true) (hsol : ∀ j, j < n → solids (f j) = true) (hN : n < 4000000000)
    {b : AC} (hf : T.tab h = some (.fn b [.tmp 2])) (hb : b = .seq (.reg [⟨some 2, .mov (.c .nilslice), none, [], []⟩]) (.seq (.seq (.reg [⟨some 3, .mov (.t 0), none, [], []⟩, ⟨some 4, .bin .eql .slice (.t 3) (.c .nilslice), none, [], []⟩]) (.cond (.t 4) (.seq (.reg [⟨some 2, .mov (.c .nilslice), none, [], []⟩]) .ret) .skip)) (.seq (.reg [⟨some 5, .lit 0 w [] [], none, [], []⟩, ⟨some 6, .mov (.t 0), none, [], []⟩, ⟨some 7, .app w (.t 5) (.t 6), none, [], []⟩, ⟨some 2, .mov (.t 7), none, [], []⟩]) .ret))) :
    Cw T.tab h [x] s (fun r s' => Mine s s' w r n f) := by
  subst hb
  refine cw_of hf ?_
  refine aw_seq (aw_reg (ow_loud rfl rfl rfl (ow_nil (aw_seq (aw_seq (aw_reg (ow_loud rfl rfl rfl ?_)))))))
  have he : binop .eql .slice x .nilslice = some (.bool false) := by
    rcases hx with ⟨h, _⟩ | ⟨g, o, v, c, rfl, _, _⟩
    · exact absurd h hnil
    · rfl
  refine ow_loud (v := .bool false) (s' := s) (by show (match binop .eql .slice x .nilslice with | some v => some (v, s) | none => none) = _; rw [he]) rfl rfl (ow_nil (aw_false rfl (aw_skip (aw_seq (aw_reg ?_)))))
  refine ow_lit0 (f := f) rfl rfl rfl hl fun s1 _ H1 => ow_loud rfl rfl rfl ?_
  obtain ⟨x', s2, e1, e2, _⟩ := H1.app (fr := ((((((enter [x]).put (some 2) .nilslice).put (some 3) x).put (some 4) (.bool false)).put (some 5) (.slice s.nx 0 0 w 0 (some 0))).put (some 6) x)) (a := .t 5) (b := .t 6) (hx.keeps hsol H1.keep) hl hone hsol hw hw1 (.inl (by have := Nat.mul_le_mul (Nat.le_of_lt (show 0 + n < 4000000000 by omega)) (Nat.le_of_lt hw1); omega)) rfl rfl
  refine ow_loud e1 rfl rfl (ow_loud rfl rfl rfl (ow_nil (aw_ret ?_)))
  refine ⟨rfl, x', rfl, ?_⟩
  rw [Nat.zero_add] at e2
  exact e2.congr hl fun j _ => by unfold appF; rw [if_neg (Nat.not_lt_zero j), Nat.sub_zero]
theorem clone24 {s : AS} {x : AVal} {n : Nat} {f : Nat → List AVal} (hx : Sl s 3 x n f) (hnil : x ≠ .nilslice) (hl : ∀ j, (f j).length = 3) (hone : ∀ j, j < n → ones (f j) = true) (hsol : ∀ j, j < n → solids (f j) = true) (hN : n < 4000000000) : Cw T.tab 24 [x] s (fun r s' => Mine s s' 3 r n f) :=
  clone_of hx hnil (by omega) (by omega) hl hone hsol hN rfl rfl
theorem clone115 {s : AS} {x : AVal} {n : Nat} {f : Nat → List AVal} (hx : Sl s 1 x n f) (hnil : x ≠ .nilslice) (hl : ∀ j, (f j).length = 1) (hone : ∀ j, j < n → ones (f j) = true) (hsol : ∀ j, j < n → solids (f j) = true) (hN : n < 4000000000) : Cw T.tab 115 [x] s (fun r s' => Mine s s' 1 r n f) :=
  clone_of hx hnil (by omega) (by omega) hl hone hsol hN rfl rfl
end Go.Proofs.YteoeidhcmcacbaaGreatDoor.movesLetters
/-
  Copies of declarations; declarations in the order of their names.
-/
namespace Go.Proofs.YteoeidhcmcacbaaGreatDoor.movesLetters
open Go Go.Avm

/-! ### second looks -/
theorem looks_cons {fr : Fr} {s : AS} {t : Nat} {op : AOp} {g : Option (Nat × Bool)} {v : AVal} {l : List (Option Nat × AOp × Option (Nat × Bool))} (hw : wanted fr g = some true) (hp : pval fr s op = some v) (hs : sameVal v (fr.get t) = true) (hl : looks fr s l = true) : looks fr s ((some t, op, g) :: l) = true := by
  show ((match wanted fr g with
      | some true => match pval fr s op with
        | some v => sameVal v (fr.get t)
        | none => false
      | some false => true
      | none => false) && looks fr s l) = true
  rw [hw, hp, hl]
  show (sameVal v (fr.get t) && true) = true
  rw [hs]; rfl
theorem At.look {s : AS} {p y : AVal} (h : At s 1 p [y]) {fr : Fr} {a : Opd} (ha : fr.ev a = p) : pval fr s (.load false 1 a) = some y := by
  obtain ⟨g, x, v, rfl, h⟩ := h
  show (match fr.ev a with
    | .ptr g x v => match cellsAt s g x v 1 with
      | some cs => bif false then some (AVal.agg cs) else single cs
      | none => none
    | _ => none) = _
  rw [ha]
  simp only
  rw [h]
  rfl
theorem same_str (l : List Nat) : sameVal (.str l) (.str l) = true := by show beqL l l = true; rw [beqL_eq]; simp
theorem same_int (k : IntKind) (i : Int) : sameVal (.int k i) (.int k i) = true := by show (beqK k k && beqI i i) = true; rw [show beqK k k = true by cases k <;> rfl, beqI_eq]; simp

/-! ### law04.copied -/
def b10 : AC := bodyOf T.a10
def l10 : AC := inn (inn (tl (hd (aft 2 b10))))
theorem ok10 : (AC.loop l10).ok = true := by decide +kernel
theorem ok10_3 : (aft 3 b10).ok = true := by decide +kernel
theorem DS.cell_ones {D : DS} {a : Nat → AVal} {j : Nat} (h : (a j).one = true) : ones (D.cell a j) = true := by
  rw [ones_iff]; intro c hc
  simp only [DS.cell, List.mem_cons, List.mem_nil_iff, or_false] at hc
  rcases hc with rfl | rfl | rfl
  · rfl
  · exact h
  · rfl
theorem DS.cell_solid {D : DS} {a : Nat → AVal} {j : Nat} (h : (a j).solid 5 = true) : solids (D.cell a j) = true := by
  unfold DS.cell solids; simp only [List.all_cons, List.all_nil, h]; rfl
/-- The first i declarations, copied. -/
def Copied (s0 : AS) (D : DS) (i : Nat) (y : AVal) (s : AS) : Prop := ∃ a', Mine s0 s 3 y i (D.cell a') ∧ ∀ j, j < i → Sl s 1 (a' j) (D.al j) (argCell (D.ar j)) ∧ a' j ≠ .nilslice
theorem Copied.lift {s0 : AS} {D : DS} {i : Nat} : LiftR (Copied s0 D i) := fun v s v' s' H hv hS => by
  obtain ⟨a', h1, h2⟩ := H
  exact ⟨a', Mine.lift v s v' s' h1 hv hS, fun j hj => ⟨Sl.sr (h2 j hj).1 (fun _ => rfl) (fun _ _ => rfl) hS, (h2 j hj).2⟩⟩
section
variable {D : DS} {x : AVal} {a : Nat → AVal} {s0 : AS}
theorem loop10 (hD : Decls s0 x D a) (hn : D.n * 3 ≤ 8796093022208) (ha : ∀ j, j < D.n → D.al j ≤ 17592186044416) : ∀ (k i : Nat) (s : AS) (y : AVal), i + k = D.n → Copied s0 D i y s →
    Wp T.tab (.loop l10) (mkF [(0, x), (3, y), (4, .int .i64 (.ofNat i))]) s (Out.of 0 (Then T.tab (aft 3 b10) (Res.of [.tmp 2] (Copied s0 D D.n)))) := by
  have hQ : Lift1 (Out.of 0 (Then T.tab (aft 3 b10) (Res.of [.tmp 2] (Copied s0 D D.n)))) := Lift1.out (Lift1.andThen T.tabR ok10_3 (Lift1.res Copied.lift _)) 0
  intro k
  induction k with
  | zero =>
    intro i s y hi H
    obtain rfl : i = D.n := by omega
    obtain ⟨a', h1, h2⟩ := H
    have hD' := hD.keeps h1.keep
    refine aw_loop_step ?_
    show Wp T.tab (.seq (.seq (.reg (ops (hd (hd l10)))) (tl (hd l10))) (tl l10)) _ _ _
    refine aw_seq (aw_seq (aw_reg (ow_loud rfl rfl rfl (ow_loud rfl rfl rfl (ow_loud (hD'.row.len rfl) rfl rfl (ow_loud (lss_nat (n := D.n) (m := D.n) rfl rfl (decide_eq_false (by omega))) rfl rfl (ow_nil ?_)))))))
    refine aw_false rfl (aw_exit ?_)
    show Wp T.tab (.seq (.reg (ops (hd (aft 3 b10)))) .ret) _ _ _
    refine aw_seq (aw_reg (ow_loud rfl rfl rfl (ow_loud rfl rfl rfl (ow_nil (aw_ret ?_)))))
    exact ⟨rfl, y, rfl, a', h1, h2⟩
  | succ k ih =>
    intro i s y hi H
    obtain ⟨a', h1, h2⟩ := H
    have hD' := hD.keeps h1.keep
    have hin : i < D.n := by omega
    refine aw_loop_step ?_
    show Wp T.tab (.seq (.seq (.reg (ops (hd (hd l10)))) (tl (hd l10))) (.seq (.block 1 (.reg (ops (inn (hd (tl l10)))))) (.reg (ops (tl (tl l10)))))) _ _ _
    refine aw_seq (aw_seq (aw_reg (ow_loud rfl rfl rfl (ow_loud rfl rfl rfl (ow_loud (hD'.row.len rfl) rfl rfl (ow_loud (lss_nat (n := i) (m := D.n) rfl rfl (decide_eq_true hin)) rfl rfl (ow_nil ?_)))))))
    refine aw_true rfl (aw_skip (aw_seq (aw_block (aw_reg (ow_loud rfl rfl rfl (ow_loud rfl rfl rfl (ow_loud rfl rfl rfl ?_)))))))
    refine ow_ex (hD'.row.at (i := i) (fun _ => rfl) hin rfl rfl) rfl (fun _ => rfl) fun p15 hp15 => ?_
    refine ow_ex (hp15.field (j := 0) (y := .str (D.nm i)) rfl rfl rfl) rfl (fun _ => rfl) fun p16 hp16 => ?_
    refine ow_loud (hp16.one rfl) rfl rfl ?_
    refine ow_lit0 (f := argCell (D.ar i)) rfl rfl rfl (fun _ => rfl) fun s1 _ H18 => ?_
    have hD1 := hD'.keeps H18.keep
    refine ow_loud rfl rfl rfl (ow_loud rfl rfl rfl ?_)
    refine ow_ex (hD1.row.at (i := i) (fun _ => rfl) hin rfl rfl) rfl (fun _ => rfl) fun p21 hp21 => ?_
    refine ow_ex (hp21.field (j := 1) (y := a i) rfl rfl rfl) rfl (fun _ => rfl) fun p22 hp22 => ?_
    refine ow_loud (hp22.one rfl) rfl rfl (ow_loud rfl rfl rfl (ow_loud rfl rfl rfl ?_))
    refine ow_ex (hD1.row.at (i := i) (fun _ => rfl) hin rfl rfl) rfl (fun _ => rfl) fun p27 hp27 => ?_
    refine ow_ex (hp27.field (j := 2) (y := .int .i64 (D.rs i)) rfl rfl rfl) rfl (fun _ => rfl) fun p28 hp28 => ?_
    refine ow_loud (hp28.one rfl) rfl rfl ?_
    have hp16' := hp16.keeps rfl H18.keep
    refine ow_app rfl rfl H18 (hD1.args i hin) (fun _ => rfl) (fun _ _ => rfl) (fun _ _ => rfl) (by omega) (by omega) (.inr ⟨by have := ha i hin; omega, _, _, rfl⟩) rfl rfl fun x' s2 e2 e3 => ⟨looks_cons rfl (At.look (At.keepsC hp28 rfl rfl e3) rfl) (same_int _ _) (looks_cons rfl (At.look (At.keepsC hp16' rfl rfl e3) rfl) (same_str _) rfl), ?_⟩
    rw [Nat.zero_add] at e2
    have e2 := e2.congr (h := argCell (D.ar i)) (fun _ => rfl) fun j _ => by unfold appF; rw [if_neg (Nat.not_lt_zero j), Nat.sub_zero]
    obtain ⟨g2, v2, c2, ex2, rfl, hg2, hc2⟩ := e2.own.row
    refine ow_loud (v := .agg [.str (D.nm i), .slice g2 0 (D.al i) 1 v2 c2, .int .i64 (D.rs i)]) (s' := s2) rfl rfl rfl ?_
    have H2 := h1.keeps e2.keep
    refine ow_more (n := i) (x := y) (f := D.cell a') (m := [.str (D.nm i), .slice g2 0 (D.al i) 1 v2 c2, .int .i64 (D.rs i)]) rfl rfl rfl rfl rfl rfl rfl rfl rfl rfl rfl rfl (fun _ => rfl) H2 (by omega) (by omega) (by omega) fun v32 y' s3 H3 hKC => ?_
    refine ow_loud rfl rfl rfl (ow_nil ?_)
    refine aw_reg (ow_loud rfl rfl rfl (ow_loud (add_nat (n := i) (k := 1) rfl rfl (by omega)) rfl rfl (ow_loud rfl rfl rfl (ow_nil ?_))))
    refine aw_lose T.tabR ok10 hQ (l := [(0, x), (3, y'), (4, .int .i64 (.ofNat (i + 1)))]) ⟨Vr.refl _, Vr.refl _, Vr.refl _, trivial⟩ rfl (ih (i + 1) s3 y' (by omega) ?_)
    refine ⟨fun j => if j = i then .slice g2 0 (D.al i) 1 v2 c2 else a' j, H3.congr (fun _ => rfl) fun j hj => ?_, fun j hj => ?_⟩
    · unfold appF
      split
      · rename_i h
        unfold DS.cell
        simp only
        rw [if_neg (by omega)]
      · obtain rfl : j = i := by omega
        unfold DS.cell
        simp
    · by_cases h : j = i
      · subst h
        simp only [if_pos]
        exact ⟨Sl.keepsC e2.own.sl (fun _ => rfl) (fun _ _ => rfl) hKC, fun h => by cases h⟩
      · simp only [if_neg h]
        have := h2 j (by omega)
        exact ⟨Sl.keepsC (Sl.keeps this.1 (fun _ _ => rfl) e2.keep |>.keeps (fun _ _ => rfl) (.refl _)) (fun _ => rfl) (fun _ _ => rfl) hKC, this.2⟩
theorem copied10 (hD : Decls s0 x D a) (hn : D.n * 3 ≤ 8796093022208) (ha : ∀ j, j < D.n → D.al j ≤ 17592186044416) : Cw T.tab 10 [x] s0 (Copied s0 D D.n) := by
  have hQ : Lift1 (Out.of 0 (Then T.tab (aft 3 b10) (Res.of [.tmp 2] (Copied s0 D D.n)))) := Lift1.out (Lift1.andThen T.tabR ok10_3 (Lift1.res Copied.lift _)) 0
  refine cw_of (body := b10) (rs := [.tmp 2]) rfl ?_
  show Wp T.tab (.seq (.reg (ops (hd b10))) (.seq (.reg (ops (hd (aft 1 b10)))) (.seq (.seq (.reg (ops (hd (hd (aft 2 b10))))) (.block 0 (.loop l10))) (aft 3 b10)))) _ _ _
  refine aw_seq (aw_reg (ow_loud rfl rfl rfl (ow_nil (aw_seq (aw_reg ?_)))))
  refine ow_lit0 (f := D.cell a) rfl rfl rfl (fun _ => rfl) fun s1 _ H1 => ow_loud rfl rfl rfl (ow_nil (aw_seq (aw_seq (aw_reg (ow_loud rfl rfl rfl (ow_nil (aw_block ?_)))))))
  exact aw_lose T.tabR ok10 hQ (l := [(0, x), (3, .slice s0.nx 0 0 3 0 (some 0)), (4, .int .i64 (.ofNat 0))]) ⟨Vr.refl _, Vr.refl _, Vr.refl _, trivial⟩ rfl (loop10 hD hn ha D.n 0 s1 _ (by omega) ⟨a, H1, fun j hj => absurd hj (Nat.not_lt_zero j)⟩)
end
end Go.Proofs.YteoeidhcmcacbaaGreatDoor.movesLetters
