/-
  The abstract machine: a deterministic way of running the model's code over rows that grow without a bound.
  Its functions are written by recursors where they recur: the kernel runs them quickly so.
-/
import GoSem.Core.Program
import GoSem.Core.Region
import GoSem.Dispatch
set_option linter.unusedVariables false
set_option linter.unusedSimpArgs false
namespace Go.Avm

/-- A tree of values under numbers. -/
inductive Tr (α : Type) where
  | e
  | n (l : Tr α) (v : Option α) (r : Tr α)
  deriving Inhabited

namespace Tr
variable {α : Type}
/-- The value under a number. -/
noncomputable def get (t : Tr α) : Nat → Option α :=
  Tr.rec (motive := fun _ => Nat → Option α) (fun _ => none)
    (fun _ v _ il ir k => Bool.rec (Bool.rec (ir (Nat.sub (Nat.div k 2) 1)) (il (Nat.div k 2)) (Nat.beq (Nat.mod k 2) 1)) v (Nat.beq k 0)) t
/-- A tree of one value; d bounds the walk. -/
noncomputable def one (d : Nat) : Nat → α → Tr α :=
  Nat.rec (motive := fun _ => Nat → α → Tr α) (fun _ x => .n .e (some x) .e)
    (fun _ ih k x => Bool.rec (Bool.rec (.n .e none (ih (Nat.sub (Nat.div k 2) 1) x)) (.n (ih (Nat.div k 2) x) none .e) (Nat.beq (Nat.mod k 2) 1)) (.n .e (some x) .e) (Nat.beq k 0)) d
noncomputable def set (t : Tr α) : Nat → α → Tr α :=
  Tr.rec (motive := fun _ => Nat → α → Tr α) (fun k x => one k k x)
    (fun l v r il ir k x => Bool.rec (Bool.rec (.n l v (ir (Nat.sub (Nat.div k 2) 1) x)) (.n (il (Nat.div k 2) x) v r) (Nat.beq (Nat.mod k 2) 1)) (.n l (some x) r) (Nat.beq k 0)) t
end Tr

/-! ### words on lists, by their recursors -/
section
variable {α β : Type}
noncomputable def nth (l : List α) : Nat → Option α := List.rec (motive := fun _ => Nat → Option α) (fun _ => none) (fun a _ ih n => Nat.rec (some a) (fun m _ => ih m) n) l
noncomputable def ldrop (l : List α) : Nat → List α := List.rec (motive := fun _ => Nat → List α) (fun _ => []) (fun a t ih n => Nat.rec (a :: t) (fun m _ => ih m) n) l
noncomputable def ltake (l : List α) : Nat → List α := List.rec (motive := fun _ => Nat → List α) (fun _ => []) (fun a _ ih n => Nat.rec [] (fun m _ => a :: ih m) n) l
noncomputable def lapp (l m : List α) : List α := List.rec m (fun a _ ih => a :: ih) l
noncomputable def llen (l : List α) : Nat := List.rec (motive := fun _ => Nat → Nat) (fun n => n) (fun _ _ ih n => ih (Nat.succ n)) l 0
noncomputable def lmap (f : α → β) (l : List α) : List β := List.rec [] (fun a _ ih => f a :: ih) l
end
noncomputable def beqL (l : List Nat) : List Nat → Bool :=
  List.rec (motive := fun _ => List Nat → Bool) (fun m => List.rec true (fun _ _ _ => false) m)
    (fun a _ ih m => List.rec (motive := fun _ => Bool) false (fun b t _ => Bool.rec false (ih t) (Nat.beq a b)) m) l
noncomputable def bytesLt (l : List Nat) : List Nat → Bool :=
  List.rec (motive := fun _ => List Nat → Bool) (fun m => List.rec false (fun _ _ _ => true) m)
    (fun a _ ih m => List.rec (motive := fun _ => Bool) false (fun b t _ => Bool.rec (Bool.rec false (ih t) (Nat.beq a b)) true (Nat.blt a b)) m) l

/-! ### words on whole numbers -/
def beqI : Int → Int → Bool
  | .ofNat a, .ofNat b => Nat.beq a b
  | .negSucc a, .negSucc b => Nat.beq a b
  | _, _ => false
def bltI : Int → Int → Bool
  | .ofNat a, .ofNat b => Nat.blt a b
  | .negSucc a, .negSucc b => Nat.blt b a
  | .ofNat _, .negSucc _ => false
  | .negSucc _, .ofNat _ => true
/-- The kind's wrap; what needs none is told at once. -/
def wrapF (k : IntKind) (n : Int) : Int :=
  match k, n with
  | .i64, .ofNat m => bif Nat.blt m 9223372036854775808 then .ofNat m else k.wrap n
  | .i64, .negSucc m => bif Nat.blt m 9223372036854775808 then .negSucc m else k.wrap n
  | .u8, .ofNat m => .ofNat (Nat.mod m 256)
  | k, n => k.wrap n
/-- An index below a bound. -/
def idx (i : Int) (n : Nat) : Option Nat :=
  match i with
  | .ofNat m => bif Nat.blt m n then some m else none
  | .negSucc _ => none

inductive AVal where
  | junk
  | bool (b : Bool)
  | int (k : IntKind) (n : Int)
  | str (s : List Nat)
  | ptr (g x v : Nat)
  | nilptr
  | slice (g off len sz v : Nat) (cap : Option Nat)
  | nilslice
  | map (r : Nat)
  | nilmap
  | func (f : Nat) (first captured : List AVal)
  | nilfunc
  | iface (t : Nat) (v : AVal)
  | niliface
  | agg (cs : List AVal)
  | tuple (vs : List AVal)
  deriving Inhabited

/-- The cells of a value. -/
def AVal.cells : AVal → List AVal
  | .agg cs => cs
  | v => [v]

/-- Is a value one cell, and known? -/
def AVal.one : AVal → Bool
  | .junk | .agg _ | .tuple _ => false
  | _ => true
/-- Is anything known of a value? -/
def AVal.known : AVal → Bool
  | .junk => false
  | _ => true
noncomputable def ones (l : List AVal) : Bool := List.rec true (fun x _ ih => x.one && ih) l

/-- What lies in memory: a row of n cells (v: the last version; exts: how far each version reaches, the last one first; ro: it is never written), or a map. -/
inductive AObj where
  | row (cells : List AVal) (v : Nat) (exts : List Nat) (ro : Bool)
  | map (es : List (AVal × AVal))
  deriving Inhabited

structure AS where
  h : Tr AObj
  nx : Nat
  deriving Inhabited

noncomputable def AS.get (s : AS) (g : Nat) : Option AObj := Bool.rec none (s.h.get g) (Nat.blt g s.nx)
noncomputable def AS.set (s : AS) (g : Nat) (o : AObj) : AS := { s with h := s.h.set g o }
noncomputable def AS.new (s : AS) (o : AObj) : AS := { h := s.h.set s.nx o, nx := Nat.succ s.nx }

inductive Opd where
  | t (n : Nat)
  | c (v : AVal)
  deriving Inhabited

/-- The plain kinds. -/
inductive PK where
  | b | i | s
  deriving Inhabited
/-- What is compared. -/
inductive EK where
  | prim | bool | ptr | slice | map | func | iface | flat (ks : List PK) | kint | kstr
  deriving Inhabited

inductive AOp where
  | mov (x : Opd)
  | pick (c a b : Opd)
  | new (z : List AVal)
  | box (x : Opd)
  | build (z : List AVal) (ps : List (Nat × Nat × Opd))
  | lit (len sz : Nat) (z : List AVal) (ps : List (Nat × Nat × Opd))
  | load (agg : Bool) (sz : Nat) (a : Opd)
  | store (sz : Nat) (a v : Opd)
  | nilchk (x : Opd)
  | bin (op : BinOp) (ek : EK) (x y : Opd)
  | un (op : UnOp) (x : Opd)
  | conv (k : IntKind) (x : Opd)
  | same (x : Opd)
  | s2b (x : Opd)
  | b2s (x : Opd)
  | mkif (t : Nat) (x : Opd)
  | fn (f : Nat) (first cap : List Opd)
  | mkmap
  | mks (sz : Nat) (z : List AVal) (l c : Opd)
  | sl (sz : Nat) (x : Opd) (lo hi mx : Option Opd)
  | sub (x : Opd) (lo hi : Option Opd)
  | fla (off : Nat) (x : Opd)
  | fld (agg : Bool) (off sz : Nat) (x : Opd)
  | ixa (sz : Nat) (x i : Opd)
  | ixp (n sz : Nat) (x i : Opd)
  | ixs (x i : Opd)
  | ixg (agg : Bool) (n sz : Nat) (x i : Opd)
  | look (ek : EK) (z : AVal) (m k : Opd) (ok : Bool)
  | mset (ek : EK) (m k v : Opd)
  | tas (T : Nat) (z : AVal) (x : Opd) (ok : Bool)
  | ext (x : Opd) (i : Nat)
  | call (f : Opd) (args : List Opd)
  | len (k : EK) (x : Opd)
  | app (sz : Nat) (s x : Opd)
  | cpy (sz : Nat) (d x : Opd)
  | clr (sz : Nat) (z : List AVal) (x : Opd)
  | max (x y : Opd)
  | recov
  | dfr (f : Opd) (args : List Opd)
  | pan (x : Opd)
  deriving Inhabited

/-- The temporaries that an operand names. -/
def Opd.tmps : Opd → List Nat
  | .t n => [n]
  | .c _ => []
def otmps : Option Opd → List Nat
  | some x => x.tmps
  | none => []
def AOp.tmps : AOp → List Nat
  | .mov x | .box x | .nilchk x | .un _ x | .conv _ x | .same x | .s2b x | .b2s x | .mkif _ x | .fla _ x | .fld _ _ _ x | .tas _ _ x _ | .ext x _ | .len _ x | .clr _ _ x | .pan x | .load _ _ x => x.tmps
  | .pick c a b => c.tmps ++ (a.tmps ++ b.tmps)
  | .new _ | .mkmap | .recov => []
  | .build _ ps | .lit _ _ _ ps => ps.flatMap fun p => p.2.2.tmps
  | .store _ x y | .bin _ _ x y | .mks _ _ x y | .ixa _ x y | .ixp _ _ x y | .ixs x y | .ixg _ _ _ x y | .look _ _ x y _ | .app _ x y | .cpy _ x y | .max x y => x.tmps ++ y.tmps
  | .mset _ x y z => x.tmps ++ (y.tmps ++ z.tmps)
  | .fn _ a b => a.flatMap Opd.tmps ++ b.flatMap Opd.tmps
  | .sl _ x lo hi mx => x.tmps ++ (otmps lo ++ (otmps hi ++ otmps mx))
  | .sub x lo hi => x.tmps ++ (otmps lo ++ otmps hi)
  | .call f args | .dfr f args => f.tmps ++ args.flatMap Opd.tmps
/-- Does a value that is no new thing's hang on memory? -/
def AOp.reads : AOp → Bool
  | .load .. | .b2s _ | .look .. | .len .map _ => true
  | _ => false

structure AOper where
  dst : Option Nat
  op : AOp
  guard : Option (Nat × Bool)
  chk : List (Option Nat × AOp × Option (Nat × Bool))
  pend : List Nat
  deriving Inhabited

inductive AC where
  | skip
  | reg (ops : List AOper)
  | rcv (ops : List AOper)
  | seq (a b : AC)
  | cond (c : Opd) (a b : AC)
  | block (id : Nat) (c : AC)
  | loop (c : AC)
  | exit (id : Nat)
  | ret
  | bad
  deriving Inhabited

inductive ARes where
  | tmp (t : Nat)
  | cell (t : Nat) (agg : Bool) (sz : Nat)
  deriving Inhabited

inductive Out where
  | ret (v : AVal)
  | pan (v : AVal)
  deriving Inhabited

/-- A function: code; IndexByteString; or one of which is told elsewhere what it does. -/
inductive AFn where
  | fn (body : AC) (results : List ARes)
  | indexByte
  | orc (g : List AVal → AS → Option (Out × AS))
  deriving Inhabited

/-- What a frame holds. -/
structure Fr where
  tm : Tr AVal
  df : List (AVal × List AVal)
  deriving Inhabited

inductive Ex where
  | nrm | exit (id : Nat) | ret | pan (v : AVal)
  deriving Inhabited

noncomputable def Fr.get (fr : Fr) (t : Nat) : AVal := Option.rec .junk (fun v => v) (fr.tm.get t)
noncomputable def Fr.put (fr : Fr) (d : Option Nat) (v : AVal) : Fr := Option.rec fr (fun t => { fr with tm := fr.tm.set t v }) d
noncomputable def Fr.junk (fr : Fr) (l : List Nat) : Fr := List.rec fr (fun t _ ih => ih.put (some t) .junk) l
noncomputable def Fr.ev (fr : Fr) (x : Opd) : AVal := Opd.rec (fun n => fr.get n) (fun v => v) x

/-! ### values -/

def beqK : IntKind → IntKind → Bool
  | .i64, .i64 | .u8, .u8 | .i8, .i8 | .i16, .i16 | .i32, .i32 | .u16, .u16 | .u32, .u32 | .u64, .u64 => true
  | _, _ => false

/-- Values of a plain kind are the same. -/
noncomputable def beqPrim (k : PK) (x y : AVal) : Option Bool :=
  match k, x, y with
  | .b, .bool a, .bool b => some (a == b)
  | .i, .int j a, .int k b => bif beqK j k then some (beqI a b) else none
  | .s, .str a, .str b => some (beqL a b)
  | _, _, _ => none
/-- So are rows of them; none: some two cannot be compared. -/
noncomputable def beqFlat (ks : List PK) : List AVal → List AVal → Option Bool :=
  List.rec (motive := fun _ => List AVal → List AVal → Option Bool) (fun l m => match l, m with | [], [] => some true | _, _ => none)
    (fun k _ ih l m => match l, m with
      | a :: l, b :: m => match beqPrim k a b with
        | some true => ih l m
        | some false => some false
        | none => none
      | _, _ => none) ks
noncomputable def isEq (ek : EK) (a b : AVal) : Option Bool :=
  match ek, a, b with
  | .prim, .int j a, .int k b => bif beqK j k then some (beqI a b) else none
  | .prim, .str a, .str b => some (beqL a b)
  | .bool, .bool a, .bool b => some (a == b)
  | .ptr, .nilptr, .nilptr => some true
  | .ptr, .nilptr, .ptr .. | .ptr, .ptr .., .nilptr => some false
  | .slice, .nilslice, .nilslice => some true
  | .slice, .nilslice, .slice .. | .slice, .slice .., .nilslice => some false
  | .map, .nilmap, .nilmap => some true
  | .map, .nilmap, .map .. | .map, .map .., .nilmap => some false
  | .func, .nilfunc, .nilfunc => some true
  | .func, .nilfunc, .func .. | .func, .func .., .nilfunc => some false
  | .iface, .niliface, .niliface => some true
  | .iface, .niliface, .iface .. | .iface, .iface .., .niliface => some false
  | .flat ks, .agg a, .agg b => beqFlat ks a b
  | .kint, .int j a, .int k b => bif beqK j k then some (beqI a b) else none
  | .kstr, .str a, .str b => some (beqL a b)
  | _, _, _ => none

/-- Values of one cell, or of plain cells, are the same (for the second looks of regions whose order is open). -/
noncomputable def sameOne (x y : AVal) : Bool :=
  match x, y with
  | .bool a, .bool b => a == b
  | .int j a, .int k b => beqK j k && beqI a b
  | .str a, .str b => beqL a b
  | .ptr g x v, .ptr g' x' v' => Nat.beq g g' && Nat.beq x x' && Nat.beq v v'
  | .nilptr, .nilptr => true
  | .slice g o l z v none, .slice g' o' l' z' v' none => Nat.beq g g' && Nat.beq o o' && Nat.beq l l' && Nat.beq z z' && Nat.beq v v'
  | .slice g o l z v (some c), .slice g' o' l' z' v' (some c') => Nat.beq g g' && Nat.beq o o' && Nat.beq l l' && Nat.beq z z' && Nat.beq v v' && Nat.beq c c'
  | .nilslice, .nilslice => true
  | .map r, .map r' => Nat.beq r r'
  | .nilmap, .nilmap => true
  | .func f [] [], .func f' [] [] => Nat.beq f f'
  | .nilfunc, .nilfunc => true
  | .niliface, .niliface => true
  | _, _ => false
noncomputable def sameList (l : List AVal) : List AVal → Bool :=
  List.rec (motive := fun _ => List AVal → Bool) (fun m => List.rec true (fun _ _ _ => false) m)
    (fun a _ ih m => List.rec (motive := fun _ => Bool) false (fun b t _ => sameOne a b && ih t) m) l
noncomputable def sameVal (x y : AVal) : Bool :=
  match x, y with
  | .agg a, .agg b => sameList a b
  | .tuple a, .tuple b => sameList a b
  | .func f a b, .func f' a' b' => Nat.beq f f' && sameList a a' && sameList b b'
  | .iface t v, .iface t' v' => Nat.beq t t' && sameOne v v'
  | x, y => sameOne x y

noncomputable def binop (op : BinOp) (ek : EK) (x y : AVal) : Option AVal :=
  match op with
  | .eql => match isEq ek x y with | some b => some (.bool b) | none => none
  | .neq => match isEq ek x y with | some b => some (.bool (!b)) | none => none
  | _ => match x, y with
    | .int k a, .int k' b =>
      match op with
      | .add => bif beqK k k' then some (.int k (wrapF k (a + b))) else none
      | .sub => bif beqK k k' then some (.int k (wrapF k (a - b))) else none
      | .mul => bif beqK k k' then some (.int k (wrapF k (a * b))) else none
      | .lss => bif beqK k k' then some (.bool (bltI a b)) else none
      | .leq => bif beqK k k' then some (.bool (!bltI b a)) else none
      | .gtr => bif beqK k k' then some (.bool (bltI b a)) else none
      | .geq => bif beqK k k' then some (.bool (!bltI a b)) else none
      | .quo => bif beqK k k' && !beqI b 0 then some (.int k (k.wrap (a.tdiv b))) else none
      | .rem => bif beqK k k' && !beqI b 0 then some (.int k (a.tmod b)) else none
      | .shl => bif bltI b 0 then none else some (.int k (k.wrap (a * 2 ^ (min b.toNat k.bits))))
      | .shr => bif bltI b 0 then none else some (.int k (a.fdiv (2 ^ (min b.toNat k.bits))))
      | .and => bif beqK k k' then some (.int k (k.wrap (BitVec.ofInt k.bits a &&& BitVec.ofInt k.bits b).toNat)) else none
      | .or => bif beqK k k' then some (.int k (k.wrap (BitVec.ofInt k.bits a ||| BitVec.ofInt k.bits b).toNat)) else none
      | .xor => bif beqK k k' then some (.int k (k.wrap (BitVec.ofInt k.bits a ^^^ BitVec.ofInt k.bits b).toNat)) else none
      | .andNot => bif beqK k k' then some (.int k (k.wrap (BitVec.ofInt k.bits a &&& ~~~ BitVec.ofInt k.bits b).toNat)) else none
      | _ => none
    | .str a, .str b =>
      match op with
      | .add => bif Nat.ble (Nat.add (llen a) (llen b)) 1099511627776 then some (.str (lapp a b)) else none
      | .lss => some (.bool (bytesLt a b))
      | .leq => some (.bool (bytesLt a b || beqL a b))
      | .gtr => some (.bool (!(bytesLt a b || beqL a b)))
      | .geq => some (.bool (!bytesLt a b))
      | _ => none
    | _, _ => none

def unop (op : UnOp) (x : AVal) : Option AVal :=
  match op, x with
  | .not, .bool b => some (.bool (!b))
  | .neg, .int k n => some (.int k (wrapF k (0 - n)))
  | _, _ => none

/-! ### memory -/

/-- n cells of a row from x on, as its version v has them. -/
noncomputable def cellsAt (s : AS) (g x v n : Nat) : Option (List AVal) :=
  match s.get g with
  | some (.row cs cur exts _) =>
    bif Nat.ble v cur then
      match nth exts (Nat.sub cur v) with
      | some e => bif Nat.ble (Nat.add x n) e then some (ltake (ldrop cs x) n) else none
      | none => none
    else none
  | _ => none

noncomputable def splice (cs : List AVal) (x : Nat) (vs : List AVal) : List AVal := lapp (ltake cs x) (lapp vs (ldrop cs (Nat.add x (llen vs))))

/-- Cells are written; elder versions are good no more. -/
noncomputable def putAt (s : AS) (g x v : Nat) (vs : List AVal) : Option AS :=
  match s.get g with
  | some (.row cs cur exts ro) =>
    match exts with
    | [] => none
    | e :: _ =>
      bif Nat.beq v cur && !ro && Nat.ble (Nat.add x (llen vs)) e then some (s.set g (.row (splice cs x vs) cur [e] false)) else none
  | _ => none

/-- Behind an append that may have stayed in its place: the row, and its new version. -/
noncomputable def growAt (s : AS) (g x v : Nat) (vs : List AVal) : Option (AS × Nat) :=
  match s.get g with
  | some (.row cs cur exts ro) =>
    bif !ro && Nat.ble v cur then
      match nth exts (Nat.sub cur v) with
      | some e =>
        bif Nat.ble x e then
          bif Nat.beq v cur && Nat.beq x (llen cs) then some (s.set g (.row (lapp cs vs) (Nat.succ cur) (Nat.add x (llen vs) :: exts) false), Nat.succ cur)
          else some (s.set g (.row (lapp (ltake cs x) vs) (Nat.succ cur) [Nat.add x (llen vs)] false), Nat.succ cur)
        else none
      | none => none
    else none
  | _ => none

noncomputable def oneRow (cs : List AVal) : AObj := .row cs 0 [llen cs] false

/-- Is a size one that fits? -/
def room (n : Nat) : Bool := Nat.ble n 8589934592

/-- Is a capacity known, and too small? -/
def capBelow (cap : Option Nat) (n : Nat) : Bool := match cap with | none => false | some c => Nat.blt c n
/-- How many cells an element has; 1000 more stand for elements of more than 16 bytes a cell. -/
def cellsA (r : Nat) : Nat := bif Nat.ble 1000 r then Nat.sub r 1000 else r
/-- Is a row one that fits? Of no capacity: it gets the room that it needs; else twice that at most. -/
def fits (r : Nat) (cap : Option Nat) (sz n : Nat) : Bool := bif Nat.ble 1000 r then Nat.ble n 8589934592 else match cap with
  | some 0 => Nat.ble (Nat.mul n sz) 17592186044416
  | _ => Nat.ble (Nat.mul n sz) 8796093022208
noncomputable def append (s : AS) (r sz : Nat) (x : AVal) (vs : List AVal) : Option (AVal × AS) :=
  let k := Nat.div (llen vs) sz
  match x with
  | .nilslice =>
    bif Nat.beq k 0 then some (.nilslice, s) else
    bif fits r (some 0) sz k then some (.slice s.nx 0 k sz 0 none, s.new (oneRow vs)) else none
  | .slice g off len sz' v cap =>
    bif !Nat.beq sz sz' then none else
    bif Nat.beq k 0 then some (.slice g off len sz' v cap, s) else
    bif !fits r cap sz (Nat.add len k) then none else
    match cellsAt s g off v (Nat.mul len sz) with
    | none => none
    | some old =>
      bif capBelow cap (Nat.add len k) then some (.slice s.nx 0 (Nat.add len k) sz 0 none, s.new (oneRow (lapp old vs)))
      else match growAt s g (Nat.add off (Nat.mul len sz)) v vs with
        | some (s', w) => some (.slice g off (Nat.add len k) sz w none, s')
        | none => none
  | _ => none

noncomputable def fillParts (ps : List (Nat × Nat × AVal)) : List AVal → Option (List AVal) :=
  List.rec (motive := fun _ => List AVal → Option (List AVal)) (fun cs => some cs)
    (fun p _ ih cs => match p with
      | (off, sz, v) => bif v.known && Nat.beq (llen v.cells) sz && Nat.ble (Nat.add off sz) (llen cs) then ih (splice cs off v.cells) else none) ps

noncomputable def reps (z : List AVal) (n : Nat) : List AVal := Nat.rec [] (fun _ ih => lapp z ih) n

/-- A bound of a slice expression. -/
noncomputable def num (fr : Fr) (x : Option Opd) (y d : Nat) : Option Nat :=
  match x with
  | none => some d
  | some o => match fr.ev o with
    | .int _ i => idx i (Nat.succ y)
    | _ => none
noncomputable def hiNum (fr : Fr) (hi mx : Option Opd) (m len : Nat) : Option Nat :=
  match mx with
  | none => num fr hi m len
  | some _ => match hi with
    | none => none
    | some _ => num fr hi m len
noncomputable def sliceNums (fr : Fr) (len cap : Nat) (lo hi mx : Option Opd) : Option (Nat × Nat × Nat) :=
  match num fr mx cap cap with
  | none => none
  | some m =>
    match hiNum fr hi mx m len with
    | none => none
    | some h => match num fr lo h 0 with
      | none => none
      | some l => some (l, h, m)

/-- Is a value one that such keys may be? -/
noncomputable def keyFits (ek : EK) (k : AVal) : Bool :=
  match ek, k with
  | .kint, .int _ _ => true
  | .kstr, .str _ => true
  | .flat ks, .agg l => Nat.beq (llen l) (llen ks)
  | _, _ => false
noncomputable def findKey (ek : EK) (k : AVal) (es : List (AVal × AVal)) : Option (Option AVal) :=
  List.rec (some none) (fun e _ ih => match isEq ek k e.1 with
    | some true => some (some e.2)
    | some false => ih
    | none => none) es
noncomputable def setKey (ek : EK) (k v : AVal) (es : List (AVal × AVal)) : Option (List (AVal × AVal)) :=
  List.rec (some [(k, v)]) (fun e t ih => match isEq ek k e.1 with
    | some true => some ((k, v) :: t)
    | some false => match ih with | some l => some (e :: l) | none => none
    | none => none) es

noncomputable def indexOf (c : Nat) (s : List Nat) : Nat → Int :=
  List.rec (motive := fun _ => Nat → Int) (fun _ => -1) (fun b _ ih i => Bool.rec (ih (Nat.succ i)) (Int.ofNat i) (Nat.beq b c)) s

noncomputable def bytesOf (l : List AVal) : Option (List Nat) :=
  List.rec (some []) (fun x _ ih => match x, ih with
    | .int .u8 (.ofNat n), some t => bif Nat.blt n 256 then some (n :: t) else none
    | _, _ => none) l

/-- One value out of a row of one. -/
def single : List AVal → Option AVal
  | [c] => some c
  | _ => none

def capOr (cap : Option Nat) (len : Nat) : Nat := match cap with | some c => c | none => len
/-- The capacity behind a slice expression, if it is known. -/
def capOf (cap : Option Nat) (mx : Option Opd) (n : Nat) : Option Nat :=
  match cap, mx with
  | none, none => none
  | _, _ => some n

/-- An operation that makes nothing, writes nothing and calls nothing: its value. -/
noncomputable def pval (fr : Fr) (s : AS) (op : AOp) : Option AVal :=
  match op with
  | .mov x => some (fr.ev x)
  | .pick c a b => match fr.ev c with | .bool t => some (bif t then fr.ev a else fr.ev b) | _ => none
  | .build z ps => match fillParts (lmap (fun p => (p.1, p.2.1, fr.ev p.2.2)) ps) z with | some cs => some (.agg cs) | none => none
  | .load agg sz a => match fr.ev a with
    | .ptr g x v => match cellsAt s g x v sz with
      | some cs => bif agg then some (.agg cs) else single cs
      | none => none
    | _ => none
  | .nilchk x => match fr.ev x with
    | .ptr g x v => some (.ptr g x v)
    | .func f a b => some (.func f a b)
    | _ => none
  | .bin op ek x y => binop op ek (fr.ev x) (fr.ev y)
  | .un op x => unop op (fr.ev x)
  | .conv k x => match fr.ev x with | .int _ n => some (.int k (wrapF k n)) | _ => none
  | .same x => match fr.ev x with | .str b => some (.str b) | _ => none
  | .b2s x => match fr.ev x with
    | .nilslice => some (.str [])
    | .slice g off len sz v _ => bif Nat.beq sz 1 then match cellsAt s g off v len with
        | some cs => match bytesOf cs with | some b => some (.str b) | none => none
        | none => none
      else none
    | _ => none
  | .mkif t x => some (.iface t (fr.ev x))
  | .fn f a b => some (.func f (lmap fr.ev a) (lmap fr.ev b))
  | .sl sz x lo hi mx => match fr.ev x with
    | .nilslice => match sliceNums fr 0 0 lo hi mx with
      | some (_, h, _) => bif Nat.beq h 0 then some .nilslice else none
      | none => none
    | .slice g off len sz' v cap =>
      bif Nat.beq sz sz' then
        match sliceNums fr len (capOr cap len) lo hi mx with
        | some (l, h, m) => bif Nat.ble h len then some (.slice g (Nat.add off (Nat.mul l sz)) (Nat.sub h l) sz v (capOf cap mx (Nat.sub m l))) else none
        | none => none
      else none
    | _ => none
  | .sub x lo hi => match fr.ev x with
    | .str b => match sliceNums fr (llen b) (llen b) lo hi none with
      | some (l, h, _) => some (.str (ltake (ldrop b l) (Nat.sub h l)))
      | none => none
    | _ => none
  | .fla off x => match fr.ev x with
    | .ptr g x v => some (.ptr g (Nat.add x off) v)
    | _ => none
  | .fld agg off sz x => match fr.ev x with
    | .agg cs => bif Nat.ble (Nat.add off sz) (llen cs) then
        bif agg then some (.agg (ltake (ldrop cs off) sz)) else nth cs off
      else none
    | _ => none
  | .ixa sz x i => match fr.ev x, fr.ev i with
    | .slice g off len sz' v _, .int _ i => bif Nat.beq sz sz' then match idx i len with
        | some n => some (.ptr g (Nat.add off (Nat.mul n sz)) v)
        | none => none
      else none
    | _, _ => none
  | .ixp n sz x i => match fr.ev x, fr.ev i with
    | .ptr g x v, .int _ i => match idx i n with
      | some m => some (.ptr g (Nat.add x (Nat.mul m sz)) v)
      | none => none
    | _, _ => none
  | .ixs x i => match fr.ev x, fr.ev i with
    | .str b, .int _ (.ofNat n) => match nth b n with | some c => some (.int .u8 (.ofNat c)) | none => none
    | _, _ => none
  | .ixg agg n sz x i => match fr.ev x, fr.ev i with
    | .agg cs, .int _ i => match idx i n with
      | some m => bif Nat.ble (Nat.mul (Nat.succ m) sz) (llen cs) then
          bif agg then some (.agg (ltake (ldrop cs (Nat.mul m sz)) sz)) else nth cs (Nat.mul m sz)
        else none
      | none => none
    | _, _ => none
  | .look ek z m k ok =>
    match (match fr.ev m with
      | .map r => match s.get r with
        | some (.map es) => bif keyFits ek (fr.ev k) then findKey ek (fr.ev k) es else none
        | _ => none
      | _ => none) with
    | some (some v) => some (bif ok then .tuple [v, .bool true] else v)
    | some none => some (bif ok then .tuple [z, .bool false] else z)
    | none => none
  | .tas T z x ok => match fr.ev x with
    | .niliface => bif ok then some (.tuple [z, .bool false]) else none
    | .iface t v => bif Nat.beq t T then some (bif ok then .tuple [v, .bool true] else v) else bif ok then some (.tuple [z, .bool false]) else none
    | _ => none
  | .ext x i => match fr.ev x with
    | .tuple vs => nth vs i
    | _ => none
  | .len k x => match k, fr.ev x with
    | .kstr, .str b => some (.int .i64 (.ofNat (llen b)))
    | .slice, .nilslice => some (.int .i64 0)
    | .slice, .slice _ _ len _ _ _ => some (.int .i64 (.ofNat len))
    | .map, .nilmap => some (.int .i64 0)
    | .map, .map r => match s.get r with
      | some (.map es) => some (.int .i64 (.ofNat (llen es)))
      | _ => none
    | _, _ => none
  | .max x y => match fr.ev x, fr.ev y with
    | .int k a, .int k' b => bif beqK k k' then some (.int k (bif bltI a b then b else a)) else none
    | _, _ => none
  | _ => none

/-- What an operation makes, and its value under the new thing's number. -/
noncomputable def made (fr : Fr) (op : AOp) : Option (AObj × (Nat → AVal)) :=
  match op with
  | .new z => bif ones z then some (oneRow z, fun g => .ptr g 0 0) else none
  | .box x => bif ones (fr.ev x).cells then some (oneRow (fr.ev x).cells, fun g => .ptr g 0 0) else none
  | .lit len sz z ps => match fillParts (lmap (fun p => (p.1, p.2.1, fr.ev p.2.2)) ps) z with
    | some cs => bif ones cs && Nat.beq (llen cs) (Nat.mul len sz) then some (oneRow cs, fun g => .slice g 0 len sz 0 (some len)) else none
    | none => none
  | .s2b x => match fr.ev x with
    | .str b => bif room (llen b) then some (oneRow (lmap (fun (n : Nat) => AVal.int .u8 (.ofNat n)) b), fun g => .slice g 0 (llen b) 1 0 none) else none
    | _ => none
  | .mkmap => some (.map [], fun g => .map g)
  | .mks sz z l c => match fr.ev l, fr.ev c with
    | .int _ (.ofNat l), .int _ (.ofNat c) => bif Nat.ble l c && Nat.ble c 1048576 && ones z && Nat.beq (llen z) sz then some (oneRow (reps z c), fun g => .slice g 0 l sz 0 (some c)) else none
    | _, _ => none
  | _ => none

/-- Does an operation make something? -/
def AOp.makes : AOp → Bool
  | .new _ | .box _ | .lit .. | .s2b _ | .mkmap | .mks .. => true
  | _ => false

/-- An operation that calls nothing: its value, and the memory behind it. -/
noncomputable def quiet (fr : Fr) (s : AS) (op : AOp) : Option (AVal × AS) :=
  bif op.makes then match made fr op with
    | some (o, f) => some (f s.nx, s.new o)
    | none => none
  else match pval fr s op with
    | some v => some (v, s)
    | none => none

/-- Does an operation write? -/
def AOp.writes : AOp → Bool
  | .store .. | .mset .. | .app .. | .cpy .. | .clr .. => true
  | _ => false

/-- Does an operation neither write nor call? -/
def AOp.still : AOp → Bool
  | .store .. | .mset .. | .app .. | .cpy .. | .clr .. | .call .. | .dfr .. | .pan _ => false
  | _ => true

/-- An operation that writes, and calls nothing. -/
noncomputable def write (fr : Fr) (s : AS) (op : AOp) : Option (AVal × AS) :=
  match op with
  | .store sz a v => match fr.ev a with
    | .ptr g x w => bif Nat.beq (llen (fr.ev v).cells) sz && ones (fr.ev v).cells then
        match putAt s g x w (fr.ev v).cells with
        | some s => some (.junk, s)
        | none => none
      else none
    | _ => none
  | .mset ek m k v => match fr.ev m with
    | .map r => match s.get r with
      | some (.map es) => bif keyFits ek (fr.ev k) then match setKey ek (fr.ev k) (fr.ev v) es with
        | some es => some (.junk, s.set r (.map es))
        | none => none
        else none
      | _ => none
    | _ => none
  | .app r x y => match fr.ev y with
    | .nilslice => append s r (cellsA r) (fr.ev x) []
    | .slice g off len sz' v _ => bif Nat.beq (cellsA r) sz' then match cellsAt s g off v (Nat.mul len (cellsA r)) with
        | some vs => append s r (cellsA r) (fr.ev x) vs
        | none => none
      else none
    | .str b => bif Nat.beq (cellsA r) 1 then append s r (cellsA r) (fr.ev x) (lmap (fun (n : Nat) => AVal.int .u8 (.ofNat n)) b) else none
    | _ => none
  | .cpy sz d x => match fr.ev d, fr.ev x with
    | .slice g off len sz' v _, .slice g' off' len' sz'' v' _ =>
      bif Nat.beq sz sz' && Nat.beq sz sz'' then
        match cellsAt s g' off' v' (Nat.mul (bif Nat.ble len' len then len' else len) sz) with
        | some vs => match putAt s g off v vs with
          | some s => some (.int .i64 (.ofNat (bif Nat.ble len' len then len' else len)), s)
          | none => none
        | none => none
      else none
    | _, _ => none
  | .clr sz z x => match fr.ev x with
    | .nilslice => some (.junk, s)
    | .slice g off len sz' v _ => bif Nat.beq sz sz' && Nat.beq (llen z) sz && ones z then
        bif Nat.beq len 0 then some (.junk, s) else match putAt s g off v (reps z len) with
          | some s => some (.junk, s)
          | none => none
      else none
    | _ => none
  | _ => none

noncomputable def loud (fr : Fr) (s : AS) (op : AOp) : Option (AVal × AS) :=
  bif op.writes then write fr s op else quiet fr s op

/-- Is the operation wanted? -/
noncomputable def wanted (fr : Fr) (g : Option (Nat × Bool)) : Option Bool :=
  match g with
  | none => some true
  | some (t, want) => match fr.get t with
    | .bool b => some (b == want)
    | .tuple [] => some false
    | _ => none

/-- A second look at operations that only read. -/
noncomputable def looks (fr : Fr) (s : AS) (l : List (Option Nat × AOp × Option (Nat × Bool))) : Bool :=
  List.rec true (fun p _ ih =>
    (match wanted fr p.2.2 with
      | some true => match pval fr s p.2.1 with
        | some v => Option.rec true (fun t => sameVal v (fr.get t)) p.1
        | none => false
      | some false => true
      | none => false) && ih) l

abbrev Res := Option (Ex × Fr × AS)
abbrev Exec := AC → Fr → AS → Res
abbrev Caller := Nat → List AVal → AS → Option (Out × AS)

/-- One operation, and what follows. -/
noncomputable def oper (call : Caller) (o : AOper) (next : Fr → AS → Res) (fr : Fr) (s : AS) : Res :=
  match wanted fr o.guard with
  | none => none
  | some false => next (fr.put o.dst (.tuple [])) s
  | some true =>
    match o.op with
    | .call f args =>
      match fr.ev f with
      | .func f a b =>
        match call f (lapp a (lapp (lmap fr.ev args) b)) s with
        | some (.ret v, s) => bif looks (fr.put o.dst v) s o.chk then next (fr.put o.dst v) s else none
        | some (.pan v, s) => some (.pan v, fr.junk o.pend, s)
        | none => none
      | _ => none
    | .dfr f args =>
      match fr.ev f with
      | .func f a b => next ({ fr with df := (.func f a b, lmap fr.ev args) :: fr.df }.put o.dst .junk) s
      | _ => none
    | .pan x => match fr.ev x with
      | .iface t v => some (.pan (.iface t v), fr.junk o.pend, s)
      | _ => none
    | op => match loud fr s op with
      | some (v, s) => bif looks (fr.put o.dst v) s o.chk then next (fr.put o.dst v) s else none
      | none => none

noncomputable def runOps (call : Caller) (ops : List AOper) : Fr → AS → Res :=
  List.rec (motive := fun _ => Fr → AS → Res) (fun fr s => some (.nrm, fr, s)) (fun o _ ih fr s => oper call o ih fr s) ops

noncomputable def enterAt (args : List AVal) : Nat → Tr AVal → Tr AVal :=
  List.rec (motive := fun _ => Nat → Tr AVal → Tr AVal) (fun _ t => t) (fun v _ ih i t => ih (Nat.succ i) (t.set i v)) args
noncomputable def enter (args : List AVal) : Fr := { tm := enterAt args 0 .e, df := [] }

noncomputable def result (fr : Fr) (s : AS) (r : ARes) : Option AVal :=
  match r with
  | .tmp t => some (fr.get t)
  | .cell t agg sz => match fr.get t with
    | .ptr g x v => match cellsAt s g x v sz with
      | some cs => bif agg then some (.agg cs) else single cs
      | none => none
    | _ => none
noncomputable def resultList (fr : Fr) (s : AS) (rs : List ARes) : Option (List AVal) :=
  List.rec (some []) (fun r _ ih => match result fr s r, ih with
    | some v, some vs => some (v :: vs)
    | _, _ => none) rs
noncomputable def results (rs : List ARes) (fr : Fr) (s : AS) : Option AVal :=
  match resultList fr s rs with
  | some [v] => some v
  | some vs => some (.tuple vs)
  | none => none

/-- The state of a frame that is left: it returns; or a panic goes through it. -/
inductive Mode where
  | ret
  | pan (v : AVal)

/-- A deferred function's first region: recover, and what follows in it. -/
noncomputable def recOps (ops : List AOper) : Mode → Fr → AS → Option (Mode × Fr × AS) :=
  List.rec (motive := fun _ => Mode → Fr → AS → Option (Mode × Fr × AS)) (fun m fr s => some (m, fr, s))
    (fun o _ ih m fr s =>
      match o.guard with
      | some _ => none
      | none =>
        match o.op with
        | .recov => match m with
          | .ret => ih .ret (fr.put o.dst .niliface) s
          | .pan v => ih .ret (fr.put o.dst v) s
        | op => match quiet fr s op with
          | some (v, s) => ih m (fr.put o.dst v) s
          | none => none) ops

/-- A deferred call: how the frame goes on to be left. -/
noncomputable def deferred (P : Nat → Option AFn) (ex : Exec) (m : Mode) (f : Nat) (args : List AVal) (s : AS) : Option (Mode × AS) :=
  match P f with
  | some (.fn (.seq (.rcv ops) c) []) =>
    match recOps ops m (enter args) s with
    | some (m, fr, s) => match ex c fr s with
      | some (.nrm, fr, s) => match fr.df with | [] => some (m, s) | _ => none
      | some (.ret, fr, s) => match fr.df with | [] => some (m, s) | _ => none
      | _ => none
    | none => none
  | _ => none

noncomputable def leave (P : Nat → Option AFn) (ex : Exec) (rs : List ARes) (fr : Fr) (ds : List (AVal × List AVal)) : Mode → AS → Option (Out × AS) :=
  List.rec (motive := fun _ => Mode → AS → Option (Out × AS))
    (fun m s => match m with
      | .ret => match results rs fr s with | some v => some (.ret v, s) | none => none
      | .pan v => some (.pan v, s))
    (fun d _ ih m s => match d with
      | (.func f a b, args) => match deferred P ex m f (lapp a (lapp args b)) s with
        | some (m, s) => ih m s
        | none => none
      | _ => none) ds

noncomputable def callW (P : Nat → Option AFn) (ex : Exec) : Caller := fun f args s =>
  match P f with
  | some .indexByte => match args with
    | [.str b, .int .u8 (.ofNat c)] => bif Nat.blt c 256 then some (.ret (.int .i64 (indexOf c b 0)), s) else none
    | _ => none
  | some (.orc g) => g args s
  | some (.fn body rs) =>
    match ex body (enter args) s with
    | some (.nrm, fr, s) => leave P ex rs fr fr.df .ret s
    | some (.ret, fr, s) => leave P ex rs fr fr.df .ret s
    | some (.pan v, fr, s) => leave P ex rs fr fr.df (.pan v) s
    | _ => none
  | none => none

/-- One form of code; ex goes on with what lies in it. -/
noncomputable def step (P : Nat → Option AFn) (ex : Exec) : Exec := fun c fr s =>
  match c with
  | .skip => some (.nrm, fr, s)
  | .reg ops => runOps (callW P ex) ops fr s
  | .seq a b => match ex a fr s with
    | some (.nrm, fr, s) => ex b fr s
    | r => r
  | .cond c a b => match fr.ev c with
    | .bool t => bif t then ex a fr s else ex b fr s
    | _ => none
  | .block id c => match ex c fr s with
    | some (.exit i, fr, s) => bif Nat.beq i id then some (.nrm, fr, s) else some (.exit i, fr, s)
    | r => r
  | .loop c => match ex c fr s with
    | some (.nrm, fr, s) => ex (.loop c) fr s
    | r => r
  | .exit id => some (.exit id, fr, s)
  | .ret => some (.ret, fr, s)
  | _ => none

noncomputable def exec (P : Nat → Option AFn) (n : Nat) : Exec := Nat.rec (fun _ _ _ => none) (fun _ ih => step P ih) n

noncomputable def call (P : Nat → Option AFn) (n : Nat) : Caller := callW P (exec P n)

end Go.Avm
