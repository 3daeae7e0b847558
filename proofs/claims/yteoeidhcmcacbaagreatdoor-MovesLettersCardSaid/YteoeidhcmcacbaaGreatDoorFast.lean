/-
  The abstract machine, written so that the kernel runs it faster: each form of code and each operation is told apart by its recursor, with closed words behind it. It is the same machine.
-/
import Derived.Test.YteoeidhcmcacbaaGreatDoorRun
set_option linter.unusedVariables false
set_option linter.unusedSimpArgs false
namespace Go.Avm
namespace Fast
noncomputable def eqPrim (a b : AVal) : Option Bool := match a, b with
  | .int j a, .int k b => bif beqK j k then some (beqI a b) else none
  | .str a, .str b => some (beqL a b)
  | _, _ => none
noncomputable def eqInt (a b : AVal) : Option Bool := match a, b with
  | .int j a, .int k b => bif beqK j k then some (beqI a b) else none
  | _, _ => none
noncomputable def eqStr (a b : AVal) : Option Bool := match a, b with
  | .str a, .str b => some (beqL a b)
  | _, _ => none
noncomputable def eqFlat (ks : List PK) (a b : AVal) : Option Bool := match a, b with
  | .agg a, .agg b => beqFlat ks a b
  | _, _ => none
noncomputable def eq (ek : EK) : AVal → AVal → Option Bool :=
  EK.rec (motive := fun _ => AVal → AVal → Option Bool) eqPrim (isEq .bool) (isEq .ptr) (isEq .slice) (isEq .map) (isEq .func) (isEq .iface) (fun ks => eqFlat ks) eqInt eqStr ek
theorem eq_eq (ek : EK) (a b : AVal) : eq ek a b = isEq ek a b := by
  cases ek
  case prim => cases a <;> cases b <;> rfl
  case flat ks => cases a <;> cases b <;> rfl
  case kint => cases a <;> cases b <;> rfl
  case kstr => cases a <;> cases b <;> rfl
  all_goals rfl
noncomputable def someBool (o : Option Bool) : Option AVal := Option.rec (motive := fun _ => Option AVal) none (fun b => some (AVal.bool b)) o
noncomputable def someNot (o : Option Bool) : Option AVal := Option.rec (motive := fun _ => Option AVal) none (fun b => some (AVal.bool (!b))) o
noncomputable def bAdd (x y : AVal) : Option AVal := match x, y with
  | .int k a, .int k' b => bif beqK k k' then some (.int k (wrapF k (a + b))) else none
  | .str a, .str b => bif Nat.ble (Nat.add (llen a) (llen b)) 1099511627776 then some (.str (lapp a b)) else none
  | _, _ => none
noncomputable def bSub (x y : AVal) : Option AVal := match x, y with
  | .int k a, .int k' b => bif beqK k k' then some (.int k (wrapF k (a - b))) else none
  | _, _ => none
noncomputable def bLss (x y : AVal) : Option AVal := match x, y with
  | .int k a, .int k' b => bif beqK k k' then some (.bool (bltI a b)) else none
  | .str a, .str b => some (.bool (bytesLt a b))
  | _, _ => none
noncomputable def bLeq (x y : AVal) : Option AVal := match x, y with
  | .int k a, .int k' b => bif beqK k k' then some (.bool (!bltI b a)) else none
  | .str a, .str b => some (.bool (bytesLt a b || beqL a b))
  | _, _ => none
noncomputable def bGtr (x y : AVal) : Option AVal := match x, y with
  | .int k a, .int k' b => bif beqK k k' then some (.bool (bltI b a)) else none
  | .str a, .str b => some (.bool (!(bytesLt a b || beqL a b)))
  | _, _ => none
noncomputable def bGeq (x y : AVal) : Option AVal := match x, y with
  | .int k a, .int k' b => bif beqK k k' then some (.bool (!bltI a b)) else none
  | .str a, .str b => some (.bool (!bytesLt a b))
  | _, _ => none
noncomputable def bin (op : BinOp) : EK → AVal → AVal → Option AVal := match op with
  | .eql => fun ek x y => someBool (eq ek x y)
  | .neq => fun ek x y => someNot (eq ek x y)
  | .add => fun _ => bAdd
  | .sub => fun _ => bSub
  | .lss => fun _ => bLss
  | .leq => fun _ => bLeq
  | .gtr => fun _ => bGtr
  | .geq => fun _ => bGeq
  | op => binop op
theorem bin_eq (op : BinOp) (ek : EK) (x y : AVal) : bin op ek x y = binop op ek x y := by
  cases op
  case eql => show someBool (eq ek x y) = _; rw [eq_eq]; show _ = (match isEq ek x y with | some b => some (AVal.bool b) | none => none); cases isEq ek x y <;> rfl
  case neq => show someNot (eq ek x y) = _; rw [eq_eq]; show _ = (match isEq ek x y with | some b => some (AVal.bool (!b)) | none => none); cases isEq ek x y <;> rfl
  case add => cases x <;> cases y <;> rfl
  case sub => cases x <;> cases y <;> rfl
  case lss => cases x <;> cases y <;> rfl
  case leq => cases x <;> cases y <;> rfl
  case gtr => cases x <;> cases y <;> rfl
  case geq => cases x <;> cases y <;> rfl
  all_goals rfl

/-! ### operations: a value and the memory behind -/
abbrev L := Fr → AS → Option (AVal × AS)
noncomputable def keep (s : AS) (o : Option AVal) : Option (AVal × AS) := Option.rec none (fun v => some (v, s)) o
noncomputable def lMov (x : Opd) : L := fun fr s => some (fr.ev x, s)
noncomputable def pickV (c a b : AVal) : Option AVal := match c with | .bool t => some (bif t then a else b) | _ => none
noncomputable def lPick (c a b : Opd) : L := fun fr s => keep s (pickV (fr.ev c) (fr.ev a) (fr.ev b))
noncomputable def loadV (agg : Bool) (sz : Nat) (s : AS) (p : AVal) : Option AVal := match p with
  | .ptr g x v => match cellsAt s g x v sz with
    | some cs => bif agg then some (.agg cs) else single cs
    | none => none
  | _ => none
noncomputable def lLoad (agg : Bool) (sz : Nat) (a : Opd) : L := fun fr s => keep s (loadV agg sz s (fr.ev a))
noncomputable def lBin (op : BinOp) (ek : EK) (x y : Opd) : L := fun fr s => keep s (bin op ek (fr.ev x) (fr.ev y))
noncomputable def flaV (off : Nat) (p : AVal) : Option AVal := match p with
  | .ptr g x v => some (.ptr g (Nat.add x off) v)
  | _ => none
noncomputable def lFla (off : Nat) (x : Opd) : L := fun fr s => keep s (flaV off (fr.ev x))
noncomputable def nilV (p : AVal) : Option AVal := match p with
  | .ptr g x v => some (.ptr g x v)
  | .func f a b => some (.func f a b)
  | _ => none
noncomputable def lNil (x : Opd) : L := fun fr s => keep s (nilV (fr.ev x))
noncomputable def extV (i : Nat) (p : AVal) : Option AVal := match p with
  | .tuple vs => nth vs i
  | _ => none
noncomputable def lExt (x : Opd) (i : Nat) : L := fun fr s => keep s (extV i (fr.ev x))
noncomputable def ixaV (sz : Nat) (p i : AVal) : Option AVal := match p, i with
  | .slice g off len sz' v _, .int _ i => bif Nat.beq sz sz' then match idx i len with
      | some n => some (.ptr g (Nat.add off (Nat.mul n sz)) v)
      | none => none
    else none
  | _, _ => none
noncomputable def lIxa (sz : Nat) (x i : Opd) : L := fun fr s => keep s (ixaV sz (fr.ev x) (fr.ev i))
noncomputable def storeV (sz : Nat) (s : AS) (p v : AVal) : Option (AVal × AS) := match p with
  | .ptr g x w => bif Nat.beq (llen v.cells) sz && ones v.cells then
      match putAt s g x w v.cells with
      | some s => some (.junk, s)
      | none => none
    else none
  | _ => none
noncomputable def lStore (sz : Nat) (a v : Opd) : L := fun fr s => storeV sz s (fr.ev a) (fr.ev v)
noncomputable def lNew (z : List AVal) : L := fun _ s => bif ones z then some (.ptr s.nx 0 0, s.new (oneRow z)) else none
noncomputable def lenV (k : EK) (s : AS) (p : AVal) : Option AVal := match k, p with
  | .kstr, .str b => some (.int .i64 (.ofNat (llen b)))
  | .slice, .nilslice => some (.int .i64 0)
  | .slice, .slice _ _ len _ _ _ => some (.int .i64 (.ofNat len))
  | .map, .nilmap => some (.int .i64 0)
  | .map, .map r => match s.get r with
    | some (.map es) => some (.int .i64 (.ofNat (llen es)))
    | _ => none
  | _, _ => none
noncomputable def lLen (k : EK) (x : Opd) : L := fun fr s => keep s (lenV k s (fr.ev x))
noncomputable def lPv (op : AOp) : L := fun fr s => keep s (pval fr s op)
noncomputable def lMade (op : AOp) : L := fun fr s => quiet fr s op
noncomputable def lWr (op : AOp) : L := fun fr s => write fr s op
/-- An operation that calls nothing. -/
noncomputable def lo (op : AOp) : L :=
  AOp.rec (motive := fun _ => L) lMov lPick lNew (fun x => lMade (.box x)) (fun z ps => lPv (.build z ps)) (fun a b c d => lMade (.lit a b c d)) lLoad lStore lNil lBin (fun o x => lPv (.un o x)) (fun k x => lPv (.conv k x)) (fun x => lPv (.same x))
    (fun x => lMade (.s2b x)) (fun x => lPv (.b2s x)) (fun t x => lPv (.mkif t x)) (fun f a b => lPv (.fn f a b)) (lMade .mkmap) (fun a b c d => lMade (.mks a b c d)) (fun a b c d e => lPv (.sl a b c d e)) (fun a b c => lPv (.sub a b c)) lFla
    (fun a b c d => lPv (.fld a b c d)) lIxa (fun a b c d => lPv (.ixp a b c d)) (fun a b => lPv (.ixs a b)) (fun a b c d e => lPv (.ixg a b c d e)) (fun a b c d e => lPv (.look a b c d e)) (fun a b c d => lWr (.mset a b c d)) (fun a b c d => lPv (.tas a b c d))
    lExt (fun f a => lPv (.call f a)) lLen (fun a b c => lWr (.app a b c)) (fun a b c => lWr (.cpy a b c)) (fun a b c => lWr (.clr a b c)) (fun a b => lPv (.max a b)) (lPv .recov) (fun f a => lPv (.dfr f a)) (fun x => lPv (.pan x)) op
theorem keep_eq (s : AS) (o : Option AVal) : keep s o = match o with | some v => some (v, s) | none => none := by cases o <;> rfl
theorem lPv_eq {op : AOp} (h1 : op.writes = false) (h2 : op.makes = false) (fr : Fr) (s : AS) : lPv op fr s = loud fr s op := by
  unfold lPv loud quiet
  rw [h1, h2, keep_eq]; rfl
theorem keep_loud {op : AOp} (h1 : op.writes = false) (h2 : op.makes = false) {fr : Fr} {s : AS} {o : Option AVal} (h : o = pval fr s op) : keep s o = loud fr s op := by
  unfold loud quiet
  rw [h1, h2, keep_eq, h]; rfl
theorem lo_eq (op : AOp) (fr : Fr) (s : AS) : lo op fr s = loud fr s op := by
  cases op
  case mov x => rfl
  case pick c a b => exact keep_loud rfl rfl (by simp only [pval]; generalize fr.ev c = x; cases x <;> rfl)
  case new z => show (bif ones z then _ else none) = _; unfold loud quiet; simp only [AOp.writes, AOp.makes, cond_false, cond_true, made]; cases ones z <;> rfl
  case load g n a => exact keep_loud rfl rfl (by simp only [pval]; generalize fr.ev a = x; cases x <;> rfl)
  case store n a v => show storeV n s (fr.ev a) (fr.ev v) = _; unfold loud; simp only [AOp.writes, cond_true, write]; generalize fr.ev a = x; cases x <;> rfl
  case nilchk x => exact keep_loud rfl rfl (by simp only [pval]; generalize fr.ev x = x; cases x <;> rfl)
  case bin op ek x y => exact keep_loud rfl rfl (bin_eq _ _ _ _)
  case fla n x => exact keep_loud rfl rfl (by simp only [pval]; generalize fr.ev x = x; cases x <;> rfl)
  case ixa n x i => exact keep_loud rfl rfl (by simp only [pval]; generalize fr.ev x = x; generalize fr.ev i = i; cases x <;> cases i <;> rfl)
  case ext x i => exact keep_loud rfl rfl (by simp only [pval]; generalize fr.ev x = x; cases x <;> rfl)
  case len k x => exact keep_loud rfl rfl rfl
  all_goals first
    | exact lPv_eq rfl rfl fr s
    | rfl

/-! ### code -/
noncomputable def fin (o : Option (AVal × AS)) (d : Option Nat) (chk : List (Option Nat × AOp × Option (Nat × Bool))) (next : Fr → AS → Res) (fr : Fr) : Res :=
  Option.rec none (fun p => (fun (v : AVal) (s : AS) => (fun fr' => List.rec (next fr' s) (fun _ _ _ => bif looks fr' s chk then next fr' s else none) chk) (fr.put d v)) p.1 p.2) o
abbrev O := Caller → Option Nat → List (Option Nat × AOp × Option (Nat × Bool)) → List Nat → (Fr → AS → Res) → Fr → AS → Res
noncomputable def oLo (l : L) : O := fun _ d chk _ next fr s => fin (l fr s) d chk next fr
noncomputable def oCall (f : Opd) (args : List Opd) : O := fun call d chk pend next fr s =>
  match fr.ev f with
  | .func f a b =>
    match call f (lapp a (lapp (lmap fr.ev args) b)) s with
    | some (.ret v, s) => bif looks (fr.put d v) s chk then next (fr.put d v) s else none
    | some (.pan v, s) => some (.pan v, fr.junk pend, s)
    | none => none
  | _ => none
noncomputable def oDfr (f : Opd) (args : List Opd) : O := fun _ d _ _ next fr s =>
  match fr.ev f with
  | .func f a b => next ({ fr with df := (.func f a b, lmap fr.ev args) :: fr.df }.put d .junk) s
  | _ => none
noncomputable def oPan (x : Opd) : O := fun _ _ _ pend _ fr s => match fr.ev x with
  | .iface t v => some (.pan (.iface t v), fr.junk pend, s)
  | _ => none
noncomputable def oo (op : AOp) : O :=
  AOp.rec (motive := fun _ => O) (fun a => oLo (lMov a)) (fun a b c => oLo (lPick a b c)) (fun z => oLo (lNew z)) (fun x => oLo (lMade (.box x))) (fun z ps => oLo (lPv (.build z ps))) (fun a b c d => oLo (lMade (.lit a b c d))) (fun a b c => oLo (lLoad a b c)) (fun a b c => oLo (lStore a b c)) (fun a => oLo (lNil a)) (fun a b c d => oLo (lBin a b c d)) (fun o x => oLo (lPv (.un o x))) (fun k x => oLo (lPv (.conv k x))) (fun x => oLo (lPv (.same x)))
    (fun x => oLo (lMade (.s2b x))) (fun x => oLo (lPv (.b2s x))) (fun t x => oLo (lPv (.mkif t x))) (fun f a b => oLo (lPv (.fn f a b))) (oLo (lMade .mkmap)) (fun a b c d => oLo (lMade (.mks a b c d))) (fun a b c d e => oLo (lPv (.sl a b c d e))) (fun a b c => oLo (lPv (.sub a b c))) (fun a b => oLo (lFla a b))
    (fun a b c d => oLo (lPv (.fld a b c d))) (fun a b c => oLo (lIxa a b c)) (fun a b c d => oLo (lPv (.ixp a b c d))) (fun a b => oLo (lPv (.ixs a b))) (fun a b c d e => oLo (lPv (.ixg a b c d e))) (fun a b c d e => oLo (lPv (.look a b c d e))) (fun a b c d => oLo (lWr (.mset a b c d))) (fun a b c d => oLo (lPv (.tas a b c d)))
    (fun a b => oLo (lExt a b)) oCall (fun a b => oLo (lLen a b)) (fun a b c => oLo (lWr (.app a b c))) (fun a b c => oLo (lWr (.cpy a b c))) (fun a b c => oLo (lWr (.clr a b c))) (fun a b => oLo (lPv (.max a b))) (oLo (lPv .recov)) oDfr oPan op
noncomputable def guarded (g : Nat × Bool) (d : Option Nat) (go : Fr → AS → Res) (next : Fr → AS → Res) (fr : Fr) (s : AS) : Res :=
  match wanted fr (some g) with
  | none => none
  | some false => next (fr.put d (.tuple [])) s
  | some true => go fr s
noncomputable def oper (call : Caller) (o : AOper) (next : Fr → AS → Res) : Fr → AS → Res :=
  AOper.rec (motive := fun _ => Fr → AS → Res) (fun d op g chk pend => Option.rec (oo op call d chk pend next) (fun g => guarded g d (oo op call d chk pend next) next) g) o
theorem oper_eq (call : Caller) (o : AOper) (next : Fr → AS → Res) (fr : Fr) (s : AS) : oper call o next fr s = Go.Avm.oper call o next fr s := by
  obtain ⟨d, op, g, chk, pend⟩ := o
  have hfin : ∀ (r : Option (AVal × AS)), fin r d chk next fr = match r with | some (v, s) => bif looks (fr.put d v) s chk then next (fr.put d v) s else none | none => none := by
    intro r
    cases r with
    | none => rfl
    | some p =>
      cases chk with
      | nil => rfl
      | cons => rfl
  have hgo : oo op call d chk pend next fr s = (match op with
    | .call f args =>
      match fr.ev f with
      | .func f a b =>
        match call f (lapp a (lapp (lmap fr.ev args) b)) s with
        | some (.ret v, s) => bif looks (fr.put d v) s chk then next (fr.put d v) s else none
        | some (.pan v, s) => some (.pan v, fr.junk pend, s)
        | none => none
      | _ => none
    | .dfr f args =>
      match fr.ev f with
      | .func f a b => next ({ fr with df := (.func f a b, lmap fr.ev args) :: fr.df }.put d .junk) s
      | _ => none
    | .pan x => match fr.ev x with
      | .iface t v => some (.pan (.iface t v), fr.junk pend, s)
      | _ => none
    | op => match loud fr s op with
      | some (v, s) => bif looks (fr.put d v) s chk then next (fr.put d v) s else none
      | none => none) := by
    have hl : fin (lo op fr s) d chk next fr = match loud fr s op with
      | some (v, s) => bif looks (fr.put d v) s chk then next (fr.put d v) s else none
      | none => none := by rw [hfin, lo_eq]
    cases op <;> first
      | rfl
      | exact hl
  cases g with
  | none => exact hgo
  | some g =>
    show guarded g d (oo op call d chk pend next) next fr s = _
    unfold guarded Go.Avm.oper
    cases hw : wanted fr (some g) with
    | none => rfl
    | some b =>
      cases b with
      | false => rfl
      | true => exact hgo
noncomputable def runOps (call : Caller) (ops : List AOper) : Fr → AS → Res :=
  List.rec (motive := fun _ => Fr → AS → Res) (fun fr s => some (.nrm, fr, s)) (fun o _ ih => oper call o ih) ops
theorem runOps_eq (call : Caller) : ∀ (ops : List AOper) (fr : Fr) (s : AS), runOps call ops fr s = Go.Avm.runOps call ops fr s
  | [], _, _ => rfl
  | o :: l, fr, s => by
    show oper call o (runOps call l) fr s = Go.Avm.oper call o (Go.Avm.runOps call l) fr s
    rw [oper_eq, show runOps call l = Go.Avm.runOps call l from funext fun a => funext fun b => runOps_eq call l a b]

abbrev X := (Nat → Option AFn) → Exec → Fr → AS → Res
noncomputable def cSeq (a b : AC) : X := fun _ ex fr s => match ex a fr s with
  | some (.nrm, fr, s) => ex b fr s
  | r => r
noncomputable def cCond (c : Opd) (a b : AC) : X := fun _ ex fr s => match fr.ev c with
  | .bool t => bif t then ex a fr s else ex b fr s
  | _ => none
noncomputable def cBlock (id : Nat) (c : AC) : X := fun _ ex fr s => match ex c fr s with
  | some (.exit i, fr, s) => bif Nat.beq i id then some (.nrm, fr, s) else some (.exit i, fr, s)
  | r => r
noncomputable def cLoop (c : AC) : X := fun _ ex fr s => match ex c fr s with
  | some (.nrm, fr, s) => ex (.loop c) fr s
  | r => r
noncomputable def cReg (l : List AOper) : X := fun P ex => runOps (callW P ex) l
noncomputable def cSkip : X := fun _ _ fr s => some (.nrm, fr, s)
noncomputable def cExit (id : Nat) : X := fun _ _ fr s => some (.exit id, fr, s)
noncomputable def cRet : X := fun _ _ fr s => some (.ret, fr, s)
noncomputable def cBad : X := fun _ _ _ _ => none
noncomputable def step (P : Nat → Option AFn) (ex : Exec) (c : AC) : Fr → AS → Res :=
  AC.rec (motive := fun _ => X) cSkip cReg (fun _ => cBad) (fun a b _ _ => cSeq a b) (fun c a b _ _ => cCond c a b) (fun i c _ => cBlock i c) (fun c _ => cLoop c) cExit cRet cBad c P ex
theorem step_eq (P : Nat → Option AFn) (ex : Exec) (c : AC) (fr : Fr) (s : AS) : step P ex c fr s = Go.Avm.step P ex c fr s := by
  cases c
  case reg l => exact runOps_eq _ l fr s
  all_goals rfl
noncomputable def exec (P : Nat → Option AFn) (n : Nat) : Exec := Nat.rec (fun _ _ _ => none) (fun _ ih => step P ih) n
theorem exec_eq (P : Nat → Option AFn) : ∀ n, exec P n = Go.Avm.exec P n
  | 0 => rfl
  | n + 1 => by
    funext c fr s
    show step P (exec P n) c fr s = _
    rw [step_eq, exec_eq P n]; rfl
noncomputable def call (P : Nat → Option AFn) (n : Nat) : Caller := callW P (exec P n)
theorem call_eq (P : Nat → Option AFn) (n : Nat) : call P n = Go.Avm.call P n := by unfold call Go.Avm.call; rw [exec_eq]
end Fast
end Go.Avm
