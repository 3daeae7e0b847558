/-
  From the model's code to the abstract machine's.
-/
import Derived.Test.YteoeidhcmcacbaaGreatDoorAvm
set_option linter.unusedVariables false
set_option linter.unusedSimpArgs false
namespace Go.Avm

mutual
def compVal : Value → AVal
  | .bool b => .bool b
  | .int k n => .int k n
  | .string s => .str (s.data.toList.map (·.toNat))
  | .pointer none => .nilptr
  | .slice none 0 0 => .nilslice
  | .map none => .nilmap
  | .nilFunc => .nilfunc
  | .nilIface => .niliface
  | .agg cs => .agg (compArr cs)
  | .tuple cs => .tuple (compArr cs)
  | .iface t v => .iface t (compVal v)
  | _ => .junk
def compArr : Array Value → List AVal
  | ⟨l⟩ => compVals l
def compVals : List Value → List AVal
  | [] => []
  | v :: l => compVal v :: compVals l
end

def compOpd : Operand → Opd
  | .tmp t => .t t
  | .const v => .c (compVal v)
  | .func f => .c (.func f [] [])
  | .global _ => .c .junk

def repsC (z : List AVal) : Nat → List AVal
  | 0 => []
  | n + 1 => z ++ repsC z n

section
variable (P : Program)

def sizeT (t : TypeId) : Option Nat := (P.info? t).map (·.size)
/-- Has a variable of a type few bytes, but some? -/
def narrowT (t : TypeId) : Bool := match P.info? t with | some i => 0 < i.bytes && i.bytes ≤ 4096 | none => false
/-- At most 16 bytes a cell? -/
def fewT (t : TypeId) : Bool := match P.info? t with | some i => i.bytes ≤ 16 * i.size | none => false
def isAggT (t : TypeId) : Option Bool := (P.underlying t).map fun | .struct _ | .array _ _ => true | _ => false
def zeroT (t : TypeId) : Option AVal :=
  match P.info? t with
  | some i => match i.zero with
    | some v => if (compVal v).known then some (compVal v) else none
    | none => none
  | none => none

/-- The plain kind of a type. -/
def primT (t : TypeId) : Option PK :=
  match P.underlying t with
  | some .bool => some .b
  | some (.int _) => some .i
  | some .string => some .s
  | _ => none
/-- The kinds of fields that lie one behind the other from the i-th cell on, each a plain one, none blank. -/
def flatFs : List Field → Nat → Option (List PK)
  | [], _ => some []
  | f :: fs, i => if f.offset == i && f.name != "_" then
      match primT P f.type, flatFs fs (i + 1) with
      | some k, some ks => some (k :: ks)
      | _, _ => none
    else none

def ekT (t : TypeId) : Option EK :=
  match P.underlying t with
  | some .bool => some .bool
  | some (.int _) | some .string => some .prim
  | some (.pointer _) => some .ptr
  | some (.slice _) => some .slice
  | some (.map _ _) => some .map
  | some (.func _ _ _) => some .func
  | some (.interface _) => some .iface
  | some (.struct fs) => if P.stoodInHeld t then none else (flatFs P fs.toList 0).map .flat
  | _ => none

/-- How keys of a type are compared. -/
def keyT (t : TypeId) : Option EK :=
  match P.underlying t with
  | some (.int _) => some .kint
  | some .string => some .kstr
  | some (.struct fs) => if P.stoodInHeld t then none else (flatFs P fs.toList 0).map .flat
  | _ => none

/-- Is it a type whose elements an append takes? -/
def isSeq : TypeDesc → Bool
  | .slice _ | .string => true
  | _ => false

def compCall (c : Call) : Option AOp :=
  let args := c.args.toList.map compOpd
  match c.callee with
  | .value f => some (.call (compOpd f) args)
  | .invoke _ _ => none
  | .builtin .len => match (c.argTypes[0]?).bind P.underlying, args with
    | some .string, [x] => some (.len .kstr x)
    | some (.slice _), [x] => some (.len .slice x)
    | some (.map _ _), [x] => some (.len .map x)
    | _, _ => none
  | .builtin .append => match (c.argTypes[0]?).bind P.underlying, (c.argTypes[1]?).bind P.underlying, args with
    | some (.slice e), some d, [s, x] => if narrowT P e && isSeq d then match sizeT P e, zeroT P e with
      | some (n + 1), some z => if z.cells.length == n + 1 && Nat.ble n 900 then some (.app (bif fewT P e then n + 1 else n + 1001) s x) else none
      | _, _ => none
      else none
    | _, _, _ => none
  | .builtin .copy => match (c.argTypes[0]?).bind P.underlying, (c.argTypes[1]?).bind P.underlying, args with
    | some (.slice e), some (.slice _), [s, x] => match sizeT P e with
      | some (n + 1) => some (.cpy (n + 1) s x)
      | _ => none
    | _, _, _ => none
  | .builtin .clear => match (c.argTypes[0]?).bind P.underlying, args with
    | some (.slice e), [x] => match sizeT P e, zeroT P e with
      | some (n + 1), some z => some (.clr (n + 1) z.cells x)
      | _, _ => none
    | _, _ => none
  | .builtin .max => match args with | [x, y] => some (.max x y) | _ => none
  | .builtin .recover => some .recov
  | .builtin _ => none

/-- Where the fields of a struct lie, and how many cells they have. -/
def fieldPlaces (fs : List Field) : Option (List (Nat × Nat)) := fs.mapM fun f => (P.info? f.type).map fun i => (f.offset, i.size)
def placesOf (pl : Nat → Option (Nat × Nat)) : List (Nat × Operand) → Option (List (Nat × Nat × Opd))
  | [] => some []
  | (i, x) :: l => match pl i, placesOf pl l with
    | some (o, n), some r => some ((o, n, compOpd x) :: r)
    | _, _ => none

def compOp (o : Oper) : Option AOp :=
  match o.op with
  | .move x | .assign x => some (.mov (compOpd x))
  | .pick c a b => some (.pick (compOpd c) (compOpd a) (compOpd b))
  | .alloc e => (zeroT P e).map fun z => .new z.cells
  | .box _ x => some (.box (compOpd x))
  | .build t ps => match P.underlying t, zeroT P t with
    | some (.struct fs), some z => match fieldPlaces P fs.toList with
      | some pl => (placesOf (pl[·]?) ps.toList).map fun ps => .build z.cells ps
      | none => none
    | some (.array _ e), some z => match sizeT P e with
      | some n => (placesOf (fun i => some (i * n, n)) ps.toList).map fun ps => .build z.cells ps
      | none => none
    | _, _ => none
  | .buildSlice t len ps => match P.underlying t with
    | some (.slice e) => match sizeT P e, zeroT P e with
      | some (n + 1), some z => if len * (n + 1) ≤ 16384 && z.cells.length == n + 1 then (placesOf (fun i => some (i * (n + 1), n + 1)) ps.toList).map fun ps => .lit len (n + 1) (repsC z.cells len) ps else none
      | _, _ => none
    | _ => none
  | .load t a => match isAggT P t, sizeT P t with
    | some g, some n => some (.load g (if g then n else 1) (compOpd a))
    | _, _ => none
  | .store t a x => (sizeT P t).map fun n => .store n (compOpd a) (compOpd x)
  | .nilCheck x => some (.nilchk (compOpd x))
  | .binOp op t x y _ => match ekT P t with
    | some .iface => if Region.isConst x || Region.isConst y then some (.bin op .iface (compOpd x) (compOpd y)) else none
    | some ek => some (.bin op ek (compOpd x) (compOpd y))
    | none => none
  | .unOp op _ x => some (.un op (compOpd x))
  | .convert src dst x => match P.underlying src, P.underlying dst with
    | some (.int _), some (.int k) => some (.conv k (compOpd x))
    | some .string, some .string => some (.same (compOpd x))
    | some .string, some (.slice e) => match P.underlying e with
      | some (.int .u8) => some (.s2b (compOpd x))
      | _ => none
    | some (.slice e), some .string => match P.underlying e with
      | some (.int .u8) => some (.b2s (compOpd x))
      | _ => none
    | _, _ => none
  | .makeInterface t x => match P.underlying t with
    | some (.interface _) => none
    | some _ => some (.mkif t (compOpd x))
    | none => none
  | .makeFunc (.func f) a b => some (.fn f (a.toList.map compOpd) (b.toList.map compOpd))
  | .makeMap _ none => some .mkmap
  | .makeSlice t l c => match P.underlying t with
    | some (.slice e) => if narrowT P e then match sizeT P e, zeroT P e with
      | some (n + 1), some z => some (.mks (n + 1) z.cells (compOpd l) (compOpd c))
      | _, _ => none
      else none
    | _ => none
  | .slice t x lo hi mx => match P.underlying t with
    | some (.slice e) => match sizeT P e with
      | some (n + 1) => some (.sl (n + 1) (compOpd x) (lo.map compOpd) (hi.map compOpd) (mx.map compOpd))
      | _ => none
    | some .string => if mx.isNone then some (.sub (compOpd x) (lo.map compOpd) (hi.map compOpd)) else none
    | _ => none
  | .fieldAddr t x f => match P.underlying t with
    | some (.struct fs) => (fs[f]?).bind fun f => match sizeT P f.type with
      | some (_ + 1) => some (.fla f.offset (compOpd x))
      | _ => none
    | _ => none
  | .field t x f => match P.underlying t with
    | some (.struct fs) => (fs[f]?).bind fun f => match isAggT P f.type, sizeT P f.type with
      | some g, some n => some (.fld g f.offset (if g then n else 1) (compOpd x))
      | _, _ => none
    | _ => none
  | .indexAddr t x i => match P.underlying t with
    | some (.slice e) => (sizeT P e).map fun n => .ixa n (compOpd x) (compOpd i)
    | some (.array len e) => (sizeT P e).map fun n => .ixp len n (compOpd x) (compOpd i)
    | _ => none
  | .index t x i => match P.underlying t with
    | some .string => some (.ixs (compOpd x) (compOpd i))
    | some (.array len e) => match isAggT P e, sizeT P e with
      | some g, some n => if g || n == 1 then some (.ixg g len n (compOpd x) (compOpd i)) else none
      | _, _ => none
    | _ => none
  | .lookup t x i ok => match P.underlying t with
    | some (.map k e) => match keyT P k, zeroT P e with
      | some ek, some z => some (.look ek z (compOpd x) (compOpd i) ok)
      | _, _ => none
    | _ => none
  | .mapUpdate t m k x | .insert t m k x => match P.underlying t with
    | some (.map kt _) => match keyT P kt with
      | some ek => some (.mset ek (compOpd m) (compOpd k) (compOpd x))
      | none => none
    | _ => none
  | .typeAssert x _ T ok => match P.underlying T, zeroT P T with
    | some (.interface _), _ => none
    | some _, some z => some (.tas T z (compOpd x) ok)
    | _, _ => none
  | .extract x i => some (.ext (compOpd x) i)
  | .call c => compCall P c
  | .defer c => match c.callee with
    | .value f => some (.dfr (compOpd f) (c.args.toList.map compOpd))
    | _ => none
  | .panic x => some (.pan (compOpd x))
  | _ => none

/-- Does an operation belong to the chain of those that act? -/
def acts (o : Op) : Bool :=
  match o with
  | .assign _ | .store .. | .mapUpdate .. | .insert .. | .defer _ | .panic _ => true
  | .call { callee := .builtin .len, .. } | .call { callee := .builtin .max, .. } => false
  | .call _ => true
  | _ => false
def guardOf (ops : Array Oper) (o : Oper) : Option (Option (Nat × Bool)) :=
  match o.guard with
  | none => some none
  | some (j, b) => match (ops[j]?).bind (·.dst) with
    | some t => some (some (t, b))
    | none => none

/-- One operation. -/
def opAt (N : Nat) (ops : Array Oper) (i : Nat) : Option AOper :=
  match ops[i]? with
  | some o => match compOp P o, guardOf ops o with
    | some op, some g => if o.dst.all (fun d => decide (d < N)) then some { dst := o.dst, op := op, guard := g, chk := [], pend := [] } else none
    | _, _ => none
  | none => none

def lin (N : Nat) (ops : Array Oper) : List Nat → Option (List AOper)
  | [] => some []
  | i :: l => match opAt P N ops i, lin N ops l with
    | some x, some r => some (x :: r)
    | _, _ => none

/-- An operation of a region whose order is open: its number; is it one of those that act? -/
structure RI where
  i : Nat
  act : Bool
  op : AOper
  deriving Inhabited

def isBefore (b : Array Nat) (i j : Nat) : Bool := (b.getD j 0).testBit i

/-- The operations in their order; pre: those that lie ahead, and do not act. -/
def linD (N : Nat) (ops : Array Oper) (b : Array Nat) : List RI → List Nat → Option (List RI)
  | _, [] => some []
  | pre, i :: l => match ops[i]?, opAt P N ops i with
    | some o, some x =>
      if acts o.op then
        let open_ := pre.filter fun y => !isBefore b y.i i
        match linD N ops b pre l with
        | some r => some ({ i := i, act := true, op := { x with chk := (open_.filter (·.op.op.reads)).map fun y => (y.op.dst, y.op.op, y.op.guard), pend := open_.filterMap (·.op.dst) } } :: r)
        | none => none
      else match linD N ops b ({ i := i, act := false, op := x } :: pre) l with
        | some r => some ({ i := i, act := false, op := x } :: r)
        | none => none
    | _, _ => none

/-- The temporaries that an operation looks at. -/
def AOper.looks (x : AOper) : List Nat := x.op.tmps ++ (match x.guard with | some (t, _) => [t] | none => [])

/-- May y come behind x? -/
def okPair (b : Array Nat) (x y : RI) : Bool :=
  (!x.act || isBefore b x.i y.i) &&
  (match y.op.dst with
   | some t => !(x.op.looks.contains t || x.op.dst == some t) || (y.act && isBefore b x.i y.i)
   | none => true) &&
  (match x.op.dst with
   | some t => !y.op.looks.contains t || isBefore b x.i y.i
   | none => true)
def okOne (x : RI) : Bool := x.act || (x.op.op.still && !(match x.op.dst with | some t => x.op.looks.contains t | none => false))
def okPairs (b : Array Nat) : List RI → Bool
  | [] => true
  | x :: l => okOne x && l.all (okPair b x) && okPairs b l
/-- Do the edges lead back; is what lies before known by the edges? -/
def okEdges (ops : Array Oper) (b : Array Nat) : List Nat → List RI → Bool
  | _, [] => true
  | seen, y :: l =>
    (match ops[y.i]? with
     | some o => o.after.all (fun e => !Region.binds .any e || seen.contains e.on) &&
        (List.range ops.size).all fun i => !isBefore b i y.i || o.after.any fun e => Region.binds .any e && (e.on == i || isBefore b i e.on)
     | none => false) && !seen.contains y.i && okEdges ops b (y.i :: seen) l

/-- The order in which the abstract machine takes the operations of a region whose order is open: each as early as it may be, those that act in their own order. -/
def order (ops : Array Oper) : List Nat :=
  let b := Region.before ops
  let n := ops.size
  let act := (List.range n).filter fun i => (ops[i]?).any (acts ·.op)
  let quiets := (List.range n).filter fun i => !(ops[i]?).any (acts ·.op)
  let lo (j : Nat) : Nat := (act.filter fun e => (b.getD j 0).testBit e).length
  let stage (k : Nat) : List Nat := quiets.filter fun j => lo j == k
  act.zipIdx.foldl (fun acc (e, k) => acc ++ [e] ++ stage (k + 1)) (stage 0)

def compRegion (N : Nat) (ops : Array Oper) (draw : Bool) : Option (List AOper) :=
  if draw then
    let b := Region.before ops
    match linD P N ops b [] (order ops) with
    | some L => if okPairs b L && okEdges ops b [] L && (List.range ops.size).all (fun i => L.any (·.i == i)) then some (L.map (·.op)) else none
    | none => none
  else lin P N ops (List.range ops.size)

def isRecov : AOp → Bool
  | .recov => true
  | _ => false

def compCode (N : Nat) : Code → AC
  | .skip => .skip
  | .region _ ops draw => match compRegion P N ops draw with
    | some l => if !draw && l.any (fun o => isRecov o.op) then .rcv l else .reg l
    | none => .bad
  | .seq a b => .seq (compCode N a) (compCode N b)
  | .cond c a b => .cond (compOpd c) (compCode N a) (compCode N b)
  | .block id c => .block id (compCode N c)
  | .loop c => .loop (compCode N c)
  | .exit id => .exit id
  | .ret => .ret
  | _ => .bad

def compRes : ResultVar → Option ARes
  | .tmp t => some (.tmp t)
  | .cell a t => match isAggT P t, sizeT P t with
    | some g, some n => some (.cell a g (if g then n else 1))
    | _, _ => none

def compFn (f : Func) : Option AFn :=
  match f.body with
  | some c => if f.name == "runtime.NumGoroutine" then none else (f.results.toList.mapM (compRes P)).map fun rs => .fn (compCode P f.ntmps c) rs
  | none => if f.name == "internal/bytealg.IndexByteString" then some .indexByte else none

end

end Go.Avm
