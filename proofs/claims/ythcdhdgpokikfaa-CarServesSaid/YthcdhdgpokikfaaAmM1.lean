/- The abstract machine: cells, heap, operations, code, calls. More fuel changes no answer. Rules for walking code on the abstract machine: no fuel in sight. Regions, operation by operation. What a function's own blocks hold; slices as lists; the end of a function. The rules of single operations, for walking: what is asked beside the rest is tried by itself. More rules of single operations. Regions that draw their order and write: that the order asked for holds. Slices of slices; appending; making. Lists that grow, structs that are built, calls that change the heap, ranging over a function. Bits, and numbers without a sign. Appending behind two blocks; more of regions. -/
import Derived.RangeFuncLeaves
import Derived.RangeFuncIn
import Derived.OrdersIn
import Derived.WalkKit
import Derived.Laws.Sem
namespace Go.AM

/-- A tree of reads of the program's own tables alone, evaluated without a world. -/
def ev {α : Type} (P : Program) : Sem α → Option α
  | .pure a => some a
  | .program k => ev P (k P)
  | .mark _ k => ev P k
  | _ => none

inductive Cell where
  | sc (v : Value)
  | lst (sz : Nat) (rows : List (List Cell))
  | e0
  | sl (h n lo len : Nat)
  | ep (a : Cell) (sz i off : Nat)
  | bp (h off : Nat)
  | fn (f : Fn) (first caps : List Cell)
  | mp (h : Nat)
  | yl (h : Nat)
  deriving Inhabited

inductive AV where
  | one (c : Cell)
  | agg (cs : List Cell)
  | tup (vs : List AV)
  | und
  | bad
  deriving Inhabited

abbrev Env := Nat → AV

inductive Jump where
  | ret
  | exit (id : Nat)
  | goto (l : Nat)
  deriving Inhabited, DecidableEq

structure LoopRec where
  params : List Nat
  env : Env
  assign : Code
  body : Code
  ready : Bool
  pending : Option Jump
  over : Bool

inductive Blk where
  | none
  | dead
  | box (cs : List Cell)
  | arr (sz : Nat) (rows : List (List Cell))
  | map (ents : List (Value × AV))
  | loop (r : LoopRec)

structure AH where
  nx : Nat
  bl : Nat → Blk
  lo : Nat

def upd {α : Type} (f : Nat → α) (k : Nat) (v : α) : Nat → α := fun x => if x = k then v else f x
def AH.app (H : AH) : Option (Nat × Blk) → AH
  | none => H
  | some (h, b) => ⟨max H.nx (h + 1), upd H.bl h b, min H.lo h⟩

/-- A value of one cell that bears no address. -/
def plainC : Value → Bool
  | .bool _ | .int _ _ | .float _ _ | .complex _ _ _ | .string _ | .pointer none | .slice none 0 0 | .map none | .chan none | .nilFunc | .nilIface => true
  | _ => false

def evo (env : Env) : Operand → AV
  | .tmp t => env t
  | .const v => if plainC v then .one (.sc v) else .bad
  | .global _ => .bad
  | .func f => .one (.fn (.func f) [] [])

def AV.cells : AV → Option (List Cell)
  | .one c => some [c]
  | .agg cs => some cs
  | _ => none
def AV.cell : AV → Option Cell
  | .one c => some c
  | _ => none

def Cell.toV : Cell → Option Value
  | .sc v => some v
  | _ => none
mutual
def AV.toV : AV → Option Value
  | .one c => c.toV
  | .agg cs => (cs.mapM Cell.toV).map fun l => .agg l.toArray
  | .tup vs => (AV.toVs vs).map fun l => .tuple l.toArray
  | _ => none
def AV.toVs : List AV → Option (List Value)
  | [] => some []
  | v :: r => match v.toV, AV.toVs r with
    | some x, some l => some (x :: l)
    | _, _ => none
end
def ofPlain (v : Value) : Option Cell := if plainC v then some (.sc v) else none
def ofV1 : Value → Option AV
  | .agg cs => (cs.toList.mapM ofPlain).map .agg
  | v => (ofPlain v).map .one
def ofV : Value → Option AV
  | .tuple vs => (vs.toList.mapM ofV1).map .tup
  | v => ofV1 v

/-! Types -/
def aggB (P : Program) (t : TypeId) : Option Bool := match P.underlying t with
  | some (.struct _) | some (.array _ _) => some true
  | some _ => some false
  | none => none
def szOf (P : Program) (t : TypeId) : Option Nat := (P.info? t).map (·.size)
def zeroCells (P : Program) (t : TypeId) : Option (List Cell) :=
  match P.info? t with
  | some i => match i.zero with
    | some v => v.cells.toList.mapM ofPlain
    | none => none
  | none => none
def putCells (cells : List Cell) (off : Nat) (v : List Cell) : List Cell := cells.take off ++ v ++ cells.drop (off + v.length)
def fillA (place : Nat → Option (Nat × Nat)) (cells : List Cell) : List (Nat × List Cell) → Option (List Cell)
  | [] => some cells
  | (i, v) :: rest =>
    match place i with
    | none => none
    | some (off, size) => if v.length = size ∧ off + v.length ≤ cells.length then fillA place (putCells cells off v) rest else none
def chunk (sz : Nat) : Nat → List Cell → List (List Cell)
  | 0, _ => []
  | n + 1, l => l.take sz :: chunk sz n (l.drop sz)

/-! Reads -/
def rowsOf (bl : Nat → Blk) (sz : Nat) : Cell → Option (List (List Cell))
  | .sc (.slice none 0 0) => some []
  | .e0 => some []
  | .lst sz' rows => if sz' = sz then some rows else none
  | .sl h n lo len => match bl h with
    | .arr sz' rows => if sz' = sz ∧ rows.length = n then some ((rows.drop lo).take len) else none
    | _ => none
  | _ => none
def lenOf (bl : Nat → Blk) : Cell → Option Nat
  | .sc (.slice none 0 0) => some 0
  | .sc (.map none) => some 0
  | .sc (.string s) => some s.size
  | .e0 => some 0
  | .lst _ rows => some rows.length
  | .sl _ _ _ len => some len
  | .mp h => match bl h with
    | .map ents => some ents.length
    | _ => none
  | _ => none
def rdPtr (bl : Nat → Blk) (n : Nat) : Cell → Option (List Cell)
  | .bp h off => match bl h with
    | .box cs => if off + n ≤ cs.length then some ((cs.drop off).take n) else none
    | _ => none
  | .ep a sz i off => match rowsOf bl sz a with
    | some rows => match rows[i]? with
      | some r => if off + n ≤ r.length then some ((r.drop off).take n) else none
      | none => none
    | none => none
  | _ => none
def wrPtr (bl : Nat → Blk) (v : List Cell) : Cell → Option (Nat × Blk)
  | .bp h off => match bl h with
    | .box cs => if off + v.length ≤ cs.length then some (h, .box (putCells cs off v)) else none
    | _ => none
  | .ep (.sl h n lo len) sz i off => match bl h with
    | .arr sz' rows => if sz' = sz ∧ rows.length = n ∧ i < len then
        match rows[lo + i]? with
        | some r => if off + v.length ≤ r.length then some (h, .arr sz (rows.set (lo + i) (putCells r off v))) else none
        | none => none
      else none
    | _ => none
  | _ => none

def intOf? : AV → Option Int
  | .one (.sc (.int _ n)) => some n
  | _ => none
def LIM : Nat := 140737488355328
/-- nil against what is not: at the type. -/
def unlike : TypeDesc → Value → Cell → Bool
  | .slice _, .slice none 0 0, .lst _ (_ :: _) | .slice _, .slice none 0 0, .sl _ _ _ _ => true
  | .pointer _, .pointer none, .ep _ _ _ _ | .pointer _, .pointer none, .bp _ _ => true
  | .map _ _, .map none, .mp _ => true
  | .func _ _ _, .nilFunc, .fn _ _ _ => true
  | _, _, _ => false

/-! Maps: entries in the order in which they came; none is ever taken out. -/
def mkEnt (e : Value × AV) : MapEntry := { key := e.1, val := .nilFunc, born := 0 }
def mapFind (P : Program) (kt : TypeId) (k : Value) (ents : List (Value × AV)) : Option (Option Nat) :=
  (ev P (Instr.findKey kt k (ents.map mkEnt))).map fun r => r.map (·.1)
def zeroAV (P : Program) (t : TypeId) : Option AV := match P.info? t with
  | some i => match i.zero with
    | some v => ofV1 v
    | none => none
  | none => none
def entsOf (bl : Nat → Blk) : Cell → Option (List (Value × AV))
  | .sc (.map none) => some []
  | .mp h => match bl h with
    | .map es => some es
    | _ => none
  | _ => none
def lookupA (P : Program) (bl : Nat → Blk) (t : TypeId) (m : Cell) (k : Value) (ok : Bool) : Option AV :=
  match P.underlying t, entsOf bl m with
  | some (.map kt vt), some ents =>
    match ev P (Instr.checkKey ents.isEmpty 10000 kt k), mapFind P kt k ents with
    | some _, some (some i) => (ents[i]?).map fun e => if ok then .tup [e.2, .one (.sc (.bool true))] else e.2
    | some _, some none => (zeroAV P vt).map fun z => if ok then .tup [z, .one (.sc (.bool false))] else z
    | _, _ => none
  | _, _ => none
def updateA (P : Program) (bl : Nat → Blk) (t : TypeId) (m : Cell) (k : Value) (v : AV) : Option (Nat × Blk) :=
  match P.underlying t, m with
  | some (.map kt _), .mp h => match bl h with
    | .map ents => match ev P (Instr.checkKey false 10000 kt k), mapFind P kt k ents with
      | some _, some (some i) => match ents[i]? with
        | some e => (ev P (Instr.keyThatStays e.1 k)).map fun k' => (h, .map (ents.set i (k', v)))
        | none => none
      | some _, some none => some (h, .map (ents ++ [(k, v)]))
      | _, _ => none
    | _ => none
  | _, _ => none
def entryA (P : Program) (bl : Nat → Blk) (t : TypeId) (m : Cell) (k : Value) : Option (AV × (Nat × Blk)) :=
  match P.underlying t, m with
  | some (.map kt vt), .mp h => match bl h with
    | .map ents => match ev P (Instr.checkKey false 10000 kt k), mapFind P kt k ents with
      | some _, some (some i) => match ents[i]? with
        | some e => (ev P (Instr.keyThatStays e.1 k)).map fun k' => (.tup [e.2, .one (.sc (.int .i64 (i : Int)))], (h, .map (ents.set i (k', e.2))))
        | none => none
      | some _, some none => (zeroAV P vt).map fun z => (.tup [z, .one (.sc (.int .i64 (ents.length : Int)))], (h, .map (ents ++ [(k, z)])))
      | _, _ => none
    | _ => none
  | _, _ => none
def entryStoreA (bl : Nat → Blk) (m : Cell) (stamp : Option Int) (v : AV) : Option (Nat × Blk) :=
  match m, stamp with
  | .mp h, some i => match bl h with
    | .map ents => if 0 ≤ i then match ents[i.toNat]? with
        | some e => some (h, .map (ents.set i.toNat (e.1, v)))
        | none => none
      else none
    | _ => none
  | _, _ => none

/-- append: rows behind a slice. -/
def appendA (nw : Nat) (bl : Nat → Blk) (sz bytes : Nat) (s : Cell) (new : List (List Cell)) : Option (AV × Option (Nat × Blk)) :=
  if new.isEmpty then
    match s with
    | .sc (.slice none 0 0) => some (.one s, none)
    | .e0 => some (.one s, none)
    | .sl h n lo len => match bl h with
      | .arr sz' rows => if sz' = sz ∧ rows.length = n then some (.one (.sl h n lo len), none) else none
      | _ => none
    | _ => none
  else
    match s with
    | .sc (.slice none 0 0) | .e0 =>
      if new.length * bytes ≤ LIM then some (.one (.sl nw new.length 0 new.length), some (nw, .arr sz new)) else none
    | .sl h n lo len => match bl h with
      | .arr sz' rows =>
        if sz' = sz ∧ rows.length = n ∧ lo = 0 ∧ len = n ∧ (n + new.length) * bytes ≤ LIM then
          some (.one (.sl h (n + new.length) 0 (n + new.length)), some (h, .arr sz (rows ++ new))) else none
      | _ => none
    | _ => none

/-- An operation that looks at plain values and the program's tables alone. -/
def plainOp (P : Program) (env : Env) (o : Oper) : Option (AV × Option (Nat × Blk)) :=
  if o.op.operands.toList.all (fun x => ((evo env x).toV).isSome) then
    match ev P (execOp (fun x => ((evo env x).toV).getD undef) o) with
    | some (.value v) => (ofV v).map fun a => (a, none)
    | _ => none
  else none

def boundA (v : Option AV) (dflt : Nat) : Option Nat :=
  match v with
  | none => some dflt
  | some a => match intOf? a with
    | some i => if 0 ≤ i then some i.toNat else none
    | none => none

def sliceA (bl : Nat → Blk) (sz : Nat) (c : Cell) (lo hi mx : Option AV) : Option AV :=
  match lenOf bl c, rowsOf bl sz c with
  | some n, some rows =>
    match boundA lo 0, boundA hi n with
    | some l, some h =>
      if l ≤ h ∧ h ≤ n then
        match mx with
        | some m => match boundA (some m) 0, hi with
          | some m, some _ => if m = 0 ∧ l = 0 ∧ h = 0 then some (.one .e0) else none
          | _, _ => none
        | none =>
          match c with
          | .sc _ => some (.one c)
          | .e0 => some (.one c)
          | .lst _ _ => some (.one (.lst sz ((rows.drop l).take (h - l))))
          | .sl hh n' lo' _ => if l = h ∧ 0 < l then some (.one (.lst sz [])) else some (.one (.sl hh n' (lo' + l) (h - l)))
          | _ => none
      else none
    | _, _ => none
  | _, _ => none

def aopBuiltin (P : Program) (nw : Nat) (bl : Nat → Blk) (env : Env) (o : Oper) (c : Call) (b : Builtin) : Option (AV × Option (Nat × Blk)) :=
  match b with
  | .len => match c.args.toList with
    | [x] => match (evo env x).cell with
      | some (.sc _) => plainOp P env o
      | some (.mp h) => match lenOf bl (.mp h), c.argTypes[0]?.bind P.underlying with
        | some n, some (.map _ _) => some (.one (.sc (.int .i64 n)), none)
        | _, _ => none
      | some q => match lenOf bl q, c.argTypes[0]?.bind P.underlying with
        | some n, some (.slice _) => some (.one (.sc (.int .i64 n)), none)
        | _, _ => none
      | none => none
    | _ => none
  | .append => match c.args.toList, c.argTypes.toList with
    | [s, x], [t, t'] =>
      if t = t' then
        match P.underlying t, (evo env s).cell, (evo env x).cell with
        | some (.slice e), some sc, some xc =>
          match P.info? e with
          | some i => match rowsOf bl i.size xc with
            | some new => match zeroCells P e with
              | some z => if 0 < i.bytes ∧ 0 < i.size ∧ z.length = i.size then appendA nw bl i.size i.bytes sc new else none
              | none => none
            | none => none
          | none => none
        | _, _, _ => none
      else none
    | _, _ => none
  | .min | .max => plainOp P env o
  | _ => none

def eqNil (P : Program) (env : Env) (op : BinOp) (t : TypeId) (x y : Operand) : Option AV :=
  match P.underlying t, evo env x, evo env y with
  | some k, .one (.sc v), .one c => if unlike k v c then some (.one (.sc (.bool (match op with | .neq => true | _ => false)))) else none
  | some k, .one c, .one (.sc v) => if unlike k v c then some (.one (.sc (.bool (match op with | .neq => true | _ => false)))) else none
  | _, _, _ => none

def aop (P : Program) (nw : Nat) (bl : Nat → Blk) (env : Env) (o : Oper) : Option (AV × Option (Nat × Blk)) :=
  match o.op with
  | .move x | .assign x => some (evo env x, none)
  | .pick c a b => match evo env c with
    | .one (.sc (.bool t)) => some (if t then evo env a else evo env b, none)
    | _ => none
  | .alloc e => (zeroCells P e).map fun z => (.one (.bp nw 0), some (nw, .box z))
  | .box _ x => (evo env x).cells.map fun cs => (.one (.bp nw 0), some (nw, .box cs))
  | .build t parts =>
    match zeroCells P t, parts.toList.mapM (fun p => ((evo env p.2).cells).map fun cs => (p.1, cs)), P.underlying t with
    | some z, some ps, some (.struct fields) => match fields.toList.mapM (fun f => (szOf P f.type).map fun s => (f.offset, s)) with
      | some places => (fillA (places[·]?) z ps).map fun cs => (.agg cs, none)
      | none => none
    | some z, some ps, some (.array _ e) => match szOf P e with
      | some s => (fillA (fun i => some (i * s, s)) z ps).map fun cs => (.agg cs, none)
      | none => none
    | _, _, _ => none
  | .buildSlice t len parts =>
    match P.underlying t, parts.toList.mapM (fun p => ((evo env p.2).cells).map fun cs => (p.1, cs)) with
    | some (.slice e), some ps =>
      match zeroCells P e with
      | some z => if 0 < z.length ∧ len * z.length ≤ 2 ^ 24 ∧ szOf P e = some z.length then
          (fillA (fun i => some (i * z.length, z.length)) (List.replicate len z).flatten ps).map fun cs =>
            (.one (.sl nw len 0 len), some (nw, .arr z.length (chunk z.length len cs)))
        else none
      | none => none
    | _, _ => none
  | .load t a => match (evo env a).cell with
    | some p => match aggB P t, szOf P t with
      | some true, some s => (rdPtr bl s p).map fun cs => (.agg cs, none)
      | some false, _ => match rdPtr bl 1 p with
        | some [c] => some (.one c, none)
        | _ => none
      | _, _ => none
    | none => none
  | .store t a x => match (evo env a).cell, (evo env x).cells with
    | some p, some cs => if szOf P t = some cs.length then (wrPtr bl cs p).map fun d => (.und, some d) else none
    | _, _ => none
  | .nilCheck x => match (evo env x).cell with
    | some (.bp h off) => some (.one (.bp h off), none)
    | some (.ep a sz i off) => some (.one (.ep a sz i off), none)
    | some (.fn (.func f) p q) => some (.one (.fn (.func f) p q), none)
    | _ => none
  | .binOp op t x y _ => match op with
    | .eql | .neq => match eqNil P env op t x y with
      | some r => some (r, none)
      | none => plainOp P env o
    | _ => plainOp P env o
  | .unOp .. | .convert .. => plainOp P env o
  | .makeFunc f first caps =>
    match first.toList.mapM (fun x => (evo env x).cell), caps.toList.mapM (fun x => (evo env x).cell) with
    | some p, some q => some (.one (.fn f p q), none)
    | _, _ => none
  | .makeMap t r => match r, P.underlying t with
    | none, some (.map _ _) => some (.one (.mp nw), some (nw, .map []))
    | _, _ => none
  | .makeSlice t l c => match P.underlying t, intOf? (evo env l), intOf? (evo env c) with
    | some (.slice e), some l, some c =>
      match zeroCells P e, P.info? e with
      | some z, some i => if 0 ≤ l ∧ l ≤ c ∧ 0 < z.length ∧ z.length = i.size ∧ i.bytes * c ≤ 140737488355328 ∧ c ≤ 140737488355328 then
          some (.one (.sl nw l.toNat 0 l.toNat), some (nw, .arr z.length (List.replicate l.toNat z)))
        else none
      | _, _ => none
    | _, _, _ => none
  | .slice t x lo hi mx => match P.underlying t, (evo env x).cell with
    | some (.slice e), some c => match szOf P e with
      | some s => (sliceA bl s c (lo.map (evo env)) (hi.map (evo env)) (mx.map (evo env))).map fun v => (v, none)
      | none => none
    | _, _ => none
  | .fieldAddr s x f => match P.underlying s, (evo env x).cell with
    | some (.struct fields), some p => match fields[f]? with
      | some fl => match szOf P fl.type with
        | some (_ + 1) => match p with
          | .bp h off => some (.one (.bp h (off + fl.offset)), none)
          | .ep a sz i off => some (.one (.ep a sz i (off + fl.offset)), none)
          | _ => none
        | _ => none
      | none => none
    | _, _ => none
  | .field t x f => match P.underlying t, evo env x with
    | some (.struct fields), .agg cs => match fields[f]? with
      | some fl => match aggB P fl.type, szOf P fl.type with
        | some true, some s => if fl.offset + s ≤ cs.length then some (.agg ((cs.drop fl.offset).take s), none) else none
        | some false, _ => (cs[fl.offset]?).map fun c => (.one c, none)
        | _, _ => none
      | none => none
    | _, _ => none
  | .indexAddr t x ix => match P.underlying t, (evo env x).cell, intOf? (evo env ix) with
    | some (.slice e), some c, some i =>
      match szOf P e with
      | some s => match lenOf bl c, rowsOf bl s c with
        | some n, some _ => if 0 ≤ i ∧ i < n then some (.one (.ep c s i.toNat 0), none) else none
        | _, _ => none
      | none => none
    | some (.array n e), some (.bp h off), some i => match szOf P e with
      | some s => if 0 ≤ i ∧ i < n then some (.one (.bp h (off + i.toNat * s)), none) else none
      | none => none
    | _, _, _ => none
  | .index t x ix => match P.underlying t, evo env x, intOf? (evo env ix) with
    | some (.array n e), .agg cs, some i => if 0 ≤ i ∧ i < n then
        match aggB P e, szOf P e with
        | some true, some s => if i.toNat * s + s ≤ cs.length then some (.agg ((cs.drop (i.toNat * s)).take s), none) else none
        | some false, some s => (cs[i.toNat * s]?).map fun c => (.one c, none)
        | _, _ => none
      else none
    | _, _, _ => plainOp P env o
  | .lookup t x ix ok => match (evo env x).cell, (evo env ix).toV with
    | some m, some k => (lookupA P bl t m k ok).map fun v => (v, none)
    | _, _ => none
  | .mapUpdate t m k x => match (evo env m).cell, (evo env k).toV with
    | some m, some k => (updateA P bl t m k (evo env x)).map fun d => (.und, some d)
    | _, _ => none
  | .insert t m k x => match (evo env m).cell, (evo env k).toV with
    | some m, some k => (updateA P bl t m k (evo env x)).map fun d => (.und, some d)
    | _, _ => none
  | .mapEntry t m k => match (evo env m).cell, (evo env k).toV with
    | some m, some k => (entryA P bl t m k).map fun r => (r.1, some r.2)
    | _, _ => none
  | .entryStore _ m s x => match (evo env m).cell with
    | some m => (entryStoreA bl m (intOf? (evo env s)) (evo env x)).map fun d => (.und, some d)
    | none => none
  | .extract x i => match evo env x with
    | .tup vs => (vs[i]?).map fun v => (v, none)
    | _ => none
  | .call c => match c.callee with
    | .builtin b => aopBuiltin P nw bl env o c b
    | _ => none
  | _ => none

/-! What is asked of code ahead: its numbers of temporaries; the order of what a region's operations hand each other. -/
def namesOf (ops : Array Oper) (o : Oper) : List Nat :=
  o.dst.toList ++ o.op.operands.toList.filterMap (fun | .tmp t => some t | _ => none) ++ (match o.guard with
    | some (j, _) => ((ops[j]?).bind (·.dst)).toList
    | none => [])
def tempOk (ops : Array Oper) : Bool :=
  let bits := Region.before ops
  ops.toList.zipIdx.all fun (o, j) => (namesOf ops o).all fun t =>
    ops.toList.zipIdx.all fun (o', i) => o'.dst != some t || i == j || (bits.getD (max i j) 0).testBit (min i j)
def dstOk (N : Nat) (o : Oper) : Bool := match o.dst with
  | some d => decide (d < N)
  | none => true
def edgesOk (ops : Array Oper) : Bool := ops.toList.zipIdx.all fun (o, i) => o.after.toList.all fun e => !Region.binds .any e || decide (e.on < i)
def codeOk (N : Nat) : Code → Bool
  | .region _ ops draw => ops.toList.all (dstOk N) && (!draw || (tempOk ops && edgesOk ops))
  | .seq a b | .cond _ a b => codeOk N a && codeOk N b
  | .block _ b | .loop b | .scope b => codeOk N b
  | .rangeFunc _ params assign body => params.toList.all (fun t => decide (t < N)) && codeOk N assign && codeOk N body
  | _ => true
def progOk (P : Program) : Bool := P.funcs.toList.all fun fn => match fn.body with
  | some c => codeOk fn.ntmps c
  | none => true

/-! Regions, code, calls -/
def yieldedA (ops : Array Oper) (env : Env) (j : Nat) : Option Bool :=
  match (ops[j]?).bind (·.dst) with
  | some d => match env d with
    | .one (.sc (.bool b)) => some b
    | _ => none
  | none => none
def wantedA (ops : Array Oper) (env : Env) (o : Oper) : Option Bool :=
  match o.guard with
  | none => some true
  | some (j, want) => match (ops[j]?).bind (·.dst) with
    | some d => match env d with
      | .one (.sc (.bool b)) => some (b == want)
      | .und => some false
      | _ => none
    | none => none
def putE (env : Env) (d : Option Nat) (v : AV) : Env := match d with
  | none => env
  | some d => upd env d v

/-- What a call leaves behind: the heap as it was; one row more; another heap. -/
inductive Eff where
  | clean
  | made (b : Blk)
  | full (H : AH)
def Eff.app (H : AH) : Eff → AH
  | .clean => H
  | .made b => H.app (some (H.nx, b))
  | .full H' => H'
abbrev CallFn := Cell → List AV → AH → Option (AV × Eff)

inductive Del where
  | op (d : Option (Nat × Blk))
  | call (e : Eff)
def Del.app (H : AH) : Del → AH
  | .op d => H.app d
  | .call e => e.app H
/-- One operation that is carried out. -/
def step1 (P : Program) (call : CallFn) (env : Env) (H : AH) (o : Oper) : Option (AV × Del) :=
  match o.op with
  | .call { callee := .value f, args, .. } => match (evo env f).cell with
    | some fc => (call fc (args.toList.map (evo env)) H).map fun r => (r.1, .call r.2)
    | none => none
  | _ => (aop P H.nx H.bl env o).map fun r => (r.1, .op r.2)

/-! What an operation looks at, for regions that draw their order. -/
def refsC : Cell → List Nat
  | .sl h _ _ _ => [h]
  | .bp h _ => [h]
  | .mp h => [h]
  | .yl h => [h]
  | .ep a _ _ _ => refsC a
  | _ => []
def refsV : AV → List Nat
  | .one c => refsC c
  | _ => []
def looks (env : Env) (o : Oper) : List Nat := match o.op with
  | .load _ a | .store _ a _ => refsV (evo env a)
  | .indexAddr _ x _ | .slice _ x _ _ _ => refsV (evo env x)
  | .lookup _ x _ _ | .mapUpdate _ x _ _ | .insert _ x _ _ | .mapEntry _ x _ | .entryStore _ x _ _ => refsV (evo env x)
  | .call { callee := .builtin _, args, .. } => args.toList.flatMap fun x => refsV (evo env x)
  | _ => []
structure Evt where
  reads : List Nat
  wr : Option Nat
  fresh : Bool
  call : Bool
  all : Bool
def Evt.touch (a : Evt) : Bool := !a.reads.isEmpty || a.wr.isSome || a.call || a.all
/-- a stands before b in the text: may they not come up the other way round? -/
def Evt.conf (a b : Evt) : Bool :=
  (a.all && b.touch) || (b.all && a.touch) ||
  (match a.wr with
   | some h => b.reads.contains h || b.wr == some h || b.call
   | none => false) ||
  (match b.wr with
   | some h => a.reads.contains h || (a.call && !b.fresh)
   | none => false)
def ordOk (bits : Array Nat) : List (Nat × Evt) → Bool
  | [] => true
  | e :: r => r.all (fun d => !e.2.conf d.2 || (bits.getD d.1 0).testBit e.1) && ordOk bits r
def evt (env : Env) (o : Oper) (H : AH) : Del → Evt
  | .op d => ⟨looks env o, d.map (·.1), (match d with
    | some (h, _) => h == H.nx
    | none => false), false, false⟩
  | .call .clean => ⟨[], none, false, true, false⟩
  | .call (.made _) => ⟨[], some H.nx, true, true, false⟩
  | .call (.full _) => ⟨[], none, false, true, true⟩

/-- One operation, its guard looked at. -/
def stepD (P : Program) (call : CallFn) (ops : Array Oper) (o : Oper) (env : Env) (H : AH) : Option (Env × AH × Option Evt) :=
  match wantedA ops env o with
  | some true => match step1 P call env H o with
    | some (v, d) => some (putE env o.dst v, d.app H, some (evt env o H d))
    | none => none
  | some false => some (putE env o.dst .und, H, none)
  | none => none
def aops (P : Program) (call : CallFn) (ops : Array Oper) : List Oper → Env → AH → Option (Env × AH)
  | [], env, H => some (env, H)
  | o :: r, env, H => match stepD P call ops o env H with
    | some (env', H', _) => aops P call ops r env' H'
    | none => none
def aopsD (P : Program) (call : CallFn) (ops : Array Oper) : Nat → List Oper → Env → AH → Option (Env × AH × List (Nat × Evt))
  | _, [], env, H => some (env, H, [])
  | i, o :: r, env, H => match stepD P call ops o env H with
    | some (env', H', e) => match aopsD P call ops (i + 1) r env' H' with
      | some (env2, H2, es) => some (env2, H2, match e with
        | some e => (i, e) :: es
        | none => es)
      | none => none
    | none => none

def resultsA (P : Program) (fn : Func) (env : Env) (bl : Nat → Blk) : Option (List AV) :=
  fn.results.toList.mapM fun
    | .tmp t => some (env t)
    | .cell a t => match (env a).cell with
      | some p => match aggB P t, szOf P t with
        | some true, some s => (rdPtr bl s p).map .agg
        | some false, _ => match rdPtr bl 1 p with
          | some [c] => some (.one c)
          | _ => none
        | _, _ => none
      | none => none

def frzC (bl : Nat → Blk) (base : Nat) : Nat → Cell → Option Cell
  | 0, _ => none
  | n + 1, c => match c with
    | .sc v => some (.sc v)
    | .e0 => some .e0
    | .lst sz rows => some (.lst sz rows)
    | .fn f [] [] => some (.fn f [] [])
    | .sl h n' lo len => if base ≤ h then
        match bl h with
        | .arr sz rows => if rows.length = n' then (((rows.drop lo).take len).mapM fun r => List.mapM (frzC bl base n) r).map (.lst sz) else none
        | _ => none
      else none
    | _ => none
def frzV (bl : Nat → Blk) (base : Nat) : AV → Option AV
  | .one c => (frzC bl base 6 c).map .one
  | .agg cs => (cs.mapM (frzC bl base 6)).map .agg
  | .und => some .und
  | _ => none
def frzR (bl : Nat → Blk) (base : Nat) : AV → Option AV
  | .tup vs => (vs.mapM (frzV bl base)).map .tup
  | v => frzV bl base v

def single : List AV → AV
  | [v] => v
  | vs => .tup vs
inductive AX where
  | normal
  | jump (j : Jump)
  deriving Inhabited
def setParams : Env → List Nat → List AV → Env
  | env, t :: ts, v :: vs => setParams (upd env t v) ts vs
  | env, _, _ => env
def frz0 : Cell → Option Cell
  | .sc v => some (.sc v)
  | .e0 => some .e0
  | .lst sz rows => some (.lst sz rows)
  | .fn f [] [] => some (.fn f [] [])
  | _ => none
def keepRow (bl : Nat → Blk) (base : Nat) : AV → Option (Nat × Blk)
  | .one (.sl h n 0 len) => if base ≤ h ∧ len = n then
      match bl h with
      | .arr sz rows => if rows.length = n then (rows.mapM fun r => List.mapM frz0 r).map fun rows' => (n, .arr sz rows') else none
      | _ => none
    else none
  | _ => none
def finish (keep : Bool) (H H1 : AH) (r : AV) : AV × Eff :=
  if H1.lo < H.nx then (r, .full ⟨H1.nx, H1.bl, min H.lo H1.lo⟩)
  else match (if keep then keepRow H1.bl H.nx r else none) with
    | some (n, b) => (.one (.sl H.nx n 0 n), .made b)
    | none => match frzR H1.bl H.nx r with
      | some r' => (r', .clean)
      | none => (r, .full ⟨H1.nx, H1.bl, min H.lo H1.lo⟩)
def callCell (aexec : Code → Env → AH → Option (AX × Env × AH)) (acall : FuncId → List AV → AH → Option (AV × Eff)) (fc : Cell) (args : List AV) (H : AH) : Option (AV × Eff) :=
  match fc with
  | .fn (.func f) first caps => acall f (first.map .one ++ args ++ caps.map .one) H
  | .yl l => match H.bl l with
    | .loop r => if args.length = r.params.length then
        match aexec r.assign (setParams r.env r.params args) H with
        | some (.normal, env2, H2) => match H2.bl l with
          | .loop r2 => if r2.ready = true ∧ r2.over = false then
              match aexec r.body env2 (H2.app (some (l, .loop { r2 with ready := false }))) with
              | some (x, _, H4) => match H4.bl l with
                | .loop r4 => match x with
                  | .normal => some (.one (.sc (.bool true)), .full (H4.app (some (l, .loop { r4 with ready := true, pending := none, over := false }))))
                  | .jump j => some (.one (.sc (.bool false)), .full (H4.app (some (l, .loop { r4 with ready := false, pending := some j, over := false }))))
                | _ => none
              | none => none
            else none
          | _ => none
        | _ => none
      else none
    | _ => none
  | _ => none

/-- A function of no arguments with a number or a Bool as its result runs over a heap of its own. -/
def HZ : AH := ⟨0, fun _ => .none, 0⟩
def shutFn (P : Program) (fn : Func) (args : List AV) : Bool := args.isEmpty && match fn.resultTypes.toList with
  | [t] => match P.underlying t with
    | some .bool | some (.int _) => true
    | _ => false
  | _ => false
def closedR : AV × Eff → Option (AV × Eff)
  | (.one (.sc v), .clean) => some (.one (.sc v), .clean)
  | _ => none

mutual
def aexec (P : Program) : Nat → Code → Env → AH → Option (AX × Env × AH)
  | 0, _, _, _ => none
  | n + 1, c, env, H => match c with
    | .skip | .label _ => some (.normal, env, H)
    | .region _ ops draw => if draw then
        match aopsD P (callCell (aexec P n) (acall P n)) ops 0 ops.toList env H with
        | some (env', H', es) => if ordOk (Region.before ops) es then some (.normal, env', H') else none
        | none => none
      else (aops P (callCell (aexec P n) (acall P n)) ops ops.toList env H).map fun r => (.normal, r.1, r.2)
    | .seq a b => match aexec P n a env H with
      | some (.normal, env', H') => aexec P n b env' H'
      | r => r
    | .cond c a b => match evo env c with
      | .one (.sc (.bool t)) => aexec P n (if t then a else b) env H
      | _ => none
    | .block id b => match aexec P n b env H with
      | some (.jump (.exit i), env', H') => if i = id then some (.normal, env', H') else some (.jump (.exit i), env', H')
      | r => r
    | .loop b => match aexec P n b env H with
      | some (.normal, env', H') => aexec P n (.loop b) env' H'
      | r => r
    | .exit id => some (.jump (.exit id), env, H)
    | .goto l => some (.jump (.goto l), env, H)
    | .ret => some (.jump .ret, env, H)
    | .rangeFunc g params assign body =>
      match (evo env g).cell with
      | some (.fn (.func f) first caps) =>
        let H1 := H.app (some (H.nx, .loop ⟨params.toList, env, assign, body, true, none, false⟩))
        match acall P n f (first.map .one ++ [.one (.yl H.nx)] ++ caps.map .one) H1 with
        | some (_, e) => let H2 := e.app H1
          match H2.bl H.nx with
          | .loop r => if r.over = true then none else match r.pending, r.ready with
            | none, true => some (.normal, env, H2.app (some (H.nx, .loop { r with over := true })))
            | some j, false => some (.jump j, env, H2.app (some (H.nx, .loop { r with over := true })))
            | _, _ => none
          | _ => none
        | none => none
      | _ => none
    | .scope b => match aexec P n b env H with
      | some (.jump (.goto _), _, _) => none
      | r => r
    | .refuse _ => none
def acall (P : Program) : Nat → FuncId → List AV → AH → Option (AV × Eff)
  | 0, _, _, _ => none
  | n + 1, f, args, H => match P.funcs[f]? with
    | some fn => match fn.body with
      | some c => if fn.name == "runtime.NumGoroutine" then none else if shutFn P fn args then
        match aexec P n c (fun t => args.getD t .und) HZ with
        | some (.normal, env', H1) | some (.jump .ret, env', H1) => (resultsA P fn env' H1.bl).bind fun vs => closedR (finish (fn.origin == "slices.Clone") HZ H1 (single vs))
        | _ => none
      else
        match aexec P n c (fun t => args.getD t .und) ⟨H.nx, H.bl, H.nx⟩ with
        | some (.normal, env', H1) | some (.jump .ret, env', H1) => (resultsA P fn env' H1.bl).map fun vs => finish (fn.origin == "slices.Clone") H H1 (single vs)
        | _ => none
      | none => none
    | none => none
end

end Go.AM

namespace Go.AM

section
variable {P : Program}
def CLe (f g : CallFn) : Prop := ∀ fc args H r, f fc args H = some r → g fc args H = some r

theorem step1_mono {f g : CallFn} (h : CLe f g) {env : Env} {H : AH} {o : Oper} {r : AV × Del} (hs : step1 P f env H o = some r) : step1 P g env H o = some r := by
  unfold step1 at hs ⊢
  split at hs
  · split at hs
    · rename_i fc hfc
      obtain ⟨x, hx, rfl⟩ := Option.map_eq_some_iff.1 hs
      rw [h _ _ _ _ hx]; rfl
    · cases hs
  · exact hs
theorem stepD_mono {f g : CallFn} (h : CLe f g) {ops : Array Oper} {env : Env} {H : AH} {o : Oper} {r : Env × AH × Option Evt} (hs : stepD P f ops o env H = some r) : stepD P g ops o env H = some r := by
  unfold stepD at hs ⊢
  split at hs
  · split at hs
    · rename_i v d h1
      rw [step1_mono h h1]; exact hs
    · cases hs
  · exact hs
  · cases hs
theorem aops_mono {f g : CallFn} (h : CLe f g) {ops : Array Oper} : ∀ {l : List Oper} {env : Env} {H : AH} {r : Env × AH}, aops P f ops l env H = some r → aops P g ops l env H = some r := by
  intro l
  induction l with
  | nil => intro env H r hs; exact hs
  | cons o l ih =>
    intro env H r hs
    simp only [aops] at hs ⊢
    split at hs
    · rename_i e1 h1 ev hd
      rw [stepD_mono h hd]; exact ih hs
    · cases hs
theorem aopsD_mono {f g : CallFn} (h : CLe f g) {ops : Array Oper} : ∀ {l : List Oper} {i : Nat} {env : Env} {H : AH} {r : Env × AH × List (Nat × Evt)}, aopsD P f ops i l env H = some r → aopsD P g ops i l env H = some r := by
  intro l
  induction l with
  | nil => intro i env H r hs; exact hs
  | cons o l ih =>
    intro i env H r hs
    simp only [aopsD] at hs ⊢
    split at hs
    · rename_i e1 h1 ev hd
      rw [stepD_mono h hd]
      simp only
      split at hs
      · rename_i e2 h2 es he
        rw [ih he]; exact hs
      · cases hs
    · cases hs

theorem callCell_mono {ex ex' : Code → Env → AH → Option (AX × Env × AH)} {ac ac' : FuncId → List AV → AH → Option (AV × Eff)} (h1 : ∀ c env H r, ex c env H = some r → ex' c env H = some r) (h2 : ∀ f args H r, ac f args H = some r → ac' f args H = some r) : CLe (callCell ex ac) (callCell ex' ac') := by
  intro fc args H r h
  unfold callCell at h ⊢
  split at h
  · exact h2 _ _ _ _ h
  · split at h
    · split at h
      · rename_i hl
        rw [if_pos hl]
        split at h
        · rename_i env2 H2 ha
          rw [h1 _ _ _ _ ha]
          simp only
          split at h
          · split at h
            · rename_i hr
              rw [if_pos hr]
              split at h
              · rename_i x e4 H4 hx
                rw [h1 _ _ _ _ hx]
                exact h
              · cases h
            · cases h
          · cases h
        · cases h
      · cases h
    · cases h
  · cases h

theorem mono1 (P : Program) : ∀ n, (∀ c env H r, aexec P n c env H = some r → aexec P (n + 1) c env H = some r) ∧ (∀ f args H r, acall P n f args H = some r → acall P (n + 1) f args H = some r) := by
  intro n
  induction n with
  | zero => exact ⟨fun c env H r h => by simp [aexec] at h, fun f args H r h => by simp [acall] at h⟩
  | succ n ih =>
    obtain ⟨ihE, ihC⟩ := ih
    have hc := callCell_mono ihE ihC
    refine ⟨fun c env H r h => ?_, fun f args H r h => ?_⟩
    · cases c with
      | region id ops draw =>
        rw [aexec] at h ⊢
        cases draw with
        | false =>
          simp only [Bool.false_eq_true, if_false] at h ⊢
          obtain ⟨x, hx, rfl⟩ := Option.map_eq_some_iff.1 h
          rw [aops_mono hc hx]; rfl
        | true =>
          simp only [if_true] at h ⊢
          split at h
          · rename_i e1 H1 es hx
            rw [aopsD_mono hc hx]; exact h
          · cases h
      | seq a b =>
        rw [aexec] at h ⊢
        split at h
        · rename_i e1 H1 hx
          rw [ihE _ _ _ _ hx]; exact ihE _ _ _ _ h
        · rename_i hne
          rw [ihE _ _ _ _ h]
          obtain ⟨x, e1, H1⟩ := r
          cases x with
          | normal => exact absurd h (hne _ _)
          | jump j => rfl
      | cond c a b =>
        rw [aexec] at h ⊢
        split at h
        · exact ihE _ _ _ _ h
        · cases h
      | block id b =>
        rw [aexec] at h ⊢
        split at h
        · rename_i i e1 H1 hx
          rw [ihE _ _ _ _ hx]; exact h
        · rename_i hne
          rw [ihE _ _ _ _ h]
          obtain ⟨x, e1, H1⟩ := r
          cases x with
          | normal => rfl
          | jump j =>
            cases j with
            | exit i => exact absurd h (hne _ _ _)
            | _ => rfl
      | loop b =>
        rw [aexec] at h ⊢
        split at h
        · rename_i e1 H1 hx
          rw [ihE _ _ _ _ hx]; exact ihE _ _ _ _ h
        · rename_i hne
          rw [ihE _ _ _ _ h]
          obtain ⟨x, e1, H1⟩ := r
          cases x with
          | normal => exact absurd h (hne _ _)
          | jump j => rfl
      | scope b =>
        rw [aexec] at h ⊢
        split at h
        · cases h
        · rename_i hne
          rw [ihE _ _ _ _ h]
          obtain ⟨x, e1, H1⟩ := r
          cases x with
          | normal => rfl
          | jump j =>
            cases j with
            | goto i => exact absurd h (hne _ _ _)
            | _ => rfl
      | rangeFunc g ps as bd =>
        rw [aexec] at h ⊢
        split at h
        · rename_i f first caps hg
          simp only at h ⊢
          split at h
          · rename_i r0 e hx
            rw [ihC _ _ _ _ hx]; exact h
          · cases h
        · cases h
      | _ => exact h
    · rw [acall] at h ⊢
      split at h
      · split at h
        · split at h
          · cases h
          · rename_i c hb hn
            simp only [hn]
            split at h
            · rename_i hsh
              simp only [hsh, if_true]
              split at h
              · rename_i e1 H1 hx
                rw [ihE _ _ _ _ hx]; exact h
              · rename_i e1 H1 hx
                rw [ihE _ _ _ _ hx]; exact h
              · cases h
            · rename_i hsh
              simp only [hsh]
              split at h
              · rename_i e1 H1 hx
                rw [ihE _ _ _ _ hx]; exact h
              · rename_i e1 H1 hx
                rw [ihE _ _ _ _ hx]; exact h
              · cases h
        · cases h
      · cases h

theorem aexec_mono {n m : Nat} (h : n ≤ m) {c : Code} {env : Env} {H : AH} {r : AX × Env × AH} (hr : aexec P n c env H = some r) : aexec P m c env H = some r := by
  induction m with
  | zero => have : n = 0 := by omega
            subst this; exact hr
  | succ m ih =>
    by_cases he : n = m + 1
    · subst he; exact hr
    · exact (mono1 P m).1 _ _ _ _ (ih (by omega))
theorem acall_mono {n m : Nat} (h : n ≤ m) {f : FuncId} {args : List AV} {H : AH} {r : AV × Eff} (hr : acall P n f args H = some r) : acall P m f args H = some r := by
  induction m with
  | zero => have : n = 0 := by omega
            subst this; exact hr
  | succ m ih =>
    by_cases he : n = m + 1
    · subst he; exact hr
    · exact (mono1 P m).2 _ _ _ _ (ih (by omega))
end
end Go.AM

namespace Go.AM

section
variable {P : Program}

/-- The code runs to an end that is as asked. -/
structure Ev (P : Program) (c : Code) (Q : AX → Env → AH → Prop) (env : Env) (H : AH) : Prop where
  ex : ∃ n x env' H', aexec P n c env H = some (x, env', H') ∧ Q x env' H'
/-- The function returns as asked. -/
structure Cv (P : Program) (f : FuncId) (args : List AV) (H : AH) (R : AV → Eff → Prop) : Prop where
  ex : ∃ n r e, acall P n f args H = some (r, e) ∧ R r e
/-- The call of a closure. -/
structure Cc (P : Program) (fc : Cell) (args : List AV) (H : AH) (R : AV → Eff → Prop) : Prop where
  ex : ∃ n r e, callCell (aexec P n) (acall P n) fc args H = some (r, e) ∧ R r e

theorem Ev.mono {c : Code} {Q Q' : AX → Env → AH → Prop} {env : Env} {H : AH} (h : Ev P c Q env H) (k : ∀ x e h, Q x e h → Q' x e h) : Ev P c Q' env H :=
  let ⟨⟨n, x, e, h', h1, h2⟩⟩ := h; ⟨n, x, e, h', h1, k _ _ _ h2⟩
theorem Cv.mono {f : FuncId} {args : List AV} {H : AH} {R R' : AV → Eff → Prop} (h : Cv P f args H R) (k : ∀ r e, R r e → R' r e) : Cv P f args H R' :=
  let ⟨⟨n, r, e, h1, h2⟩⟩ := h; ⟨n, r, e, h1, k _ _ h2⟩
theorem Cc.mono {f : Cell} {args : List AV} {H : AH} {R R' : AV → Eff → Prop} (h : Cc P f args H R) (k : ∀ r e, R r e → R' r e) : Cc P f args H R' :=
  let ⟨⟨n, r, e, h1, h2⟩⟩ := h; ⟨n, r, e, h1, k _ _ h2⟩

theorem Cc_func {f : FuncId} {p q : List Cell} {args : List AV} {H : AH} {R : AV → Eff → Prop} : Cc P (.fn (.func f) p q) args H R ↔ Cv P f (p.map .one ++ args ++ q.map .one) H R := ⟨fun h => ⟨h.ex⟩, fun h => ⟨h.ex⟩⟩

theorem Ev_skip {Q : AX → Env → AH → Prop} {env : Env} {H : AH} : Ev P .skip Q env H ↔ Q .normal env H :=
  ⟨fun ⟨⟨n, x, e, h, h1, h2⟩⟩ => by
    cases n with
    | zero => simp [aexec] at h1
    | succ n => simp only [aexec] at h1; injection h1 with h1; injection h1 with g1 g2; injection g2 with g2 g3; subst g1 g2 g3; exact h2,
   fun h => ⟨1, _, _, _, rfl, h⟩⟩
theorem Ev_label {l : Nat} {Q : AX → Env → AH → Prop} {env : Env} {H : AH} : Ev P (.label l) Q env H ↔ Q .normal env H :=
  ⟨fun ⟨⟨n, x, e, h, h1, h2⟩⟩ => by
    cases n with
    | zero => simp [aexec] at h1
    | succ n => simp only [aexec] at h1; injection h1 with h1; injection h1 with g1 g2; injection g2 with g2 g3; subst g1 g2 g3; exact h2,
   fun h => ⟨1, _, _, _, rfl, h⟩⟩
theorem Ev_ret {Q : AX → Env → AH → Prop} {env : Env} {H : AH} : Ev P .ret Q env H ↔ Q (.jump .ret) env H :=
  ⟨fun ⟨⟨n, x, e, h, h1, h2⟩⟩ => by
    cases n with
    | zero => simp [aexec] at h1
    | succ n => simp only [aexec] at h1; injection h1 with h1; injection h1 with g1 g2; injection g2 with g2 g3; subst g1 g2 g3; exact h2,
   fun h => ⟨1, _, _, _, rfl, h⟩⟩
theorem Ev_exit {i : Nat} {Q : AX → Env → AH → Prop} {env : Env} {H : AH} : Ev P (.exit i) Q env H ↔ Q (.jump (.exit i)) env H :=
  ⟨fun ⟨⟨n, x, e, h, h1, h2⟩⟩ => by
    cases n with
    | zero => simp [aexec] at h1
    | succ n => simp only [aexec] at h1; injection h1 with h1; injection h1 with g1 g2; injection g2 with g2 g3; subst g1 g2 g3; exact h2,
   fun h => ⟨1, _, _, _, rfl, h⟩⟩

/-- What is asked behind the first of two. -/
def thenQ (K : Env → AH → Prop) (Q : AX → Env → AH → Prop) : AX → Env → AH → Prop
  | .normal, e, h => K e h
  | .jump j, e, h => Q (.jump j) e h
theorem Ev_seq {a b : Code} {Q : AX → Env → AH → Prop} {env : Env} {H : AH} : Ev P (.seq a b) Q env H ↔ Ev P a (thenQ (Ev P b Q) Q) env H := by
  constructor
  · rintro ⟨n, x, e, h, h1, h2⟩
    cases n with
    | zero => simp [aexec] at h1
    | succ n =>
      rw [aexec] at h1
      split at h1
      · rename_i e1 H1 ha
        exact ⟨n, _, _, _, ha, n, _, _, _, h1, h2⟩
      · rename_i hne
        cases x with
        | normal => exact absurd h1 (hne _ _)
        | jump j => exact ⟨n, _, _, _, h1, h2⟩
  · rintro ⟨n, x, e, h, h1, h2⟩
    cases x with
    | normal =>
      obtain ⟨m, x, e2, h', h3, h4⟩ := h2
      refine ⟨max n m + 1, x, e2, h', ?_, h4⟩
      rw [aexec, aexec_mono (Nat.le_max_left n m) h1]
      exact aexec_mono (Nat.le_max_right n m) h3
    | jump j =>
      refine ⟨n + 1, _, _, _, ?_, h2⟩
      rw [aexec, h1]
theorem Ev_cond {c : Operand} {a b : Code} {Q : AX → Env → AH → Prop} {env : Env} {H : AH} {t : Bool} (hc : evo env c = .one (.sc (.bool t))) : Ev P (.cond c a b) Q env H ↔ Ev P (if t then a else b) Q env H := by
  constructor
  · rintro ⟨n, x, e, h, h1, h2⟩
    cases n with
    | zero => simp [aexec] at h1
    | succ n => rw [aexec, hc] at h1; exact ⟨n, _, _, _, h1, h2⟩
  · rintro ⟨n, x, e, h, h1, h2⟩
    exact ⟨n + 1, _, _, _, by rw [aexec, hc]; exact h1, h2⟩
def blockQ (id : Nat) (Q : AX → Env → AH → Prop) : AX → Env → AH → Prop
  | .jump (.exit i), e, h => if i = id then Q .normal e h else Q (.jump (.exit i)) e h
  | x, e, h => Q x e h
theorem Ev_block {id : Nat} {b : Code} {Q : AX → Env → AH → Prop} {env : Env} {H : AH} : Ev P (.block id b) Q env H ↔ Ev P b (blockQ id Q) env H := by
  constructor
  · rintro ⟨n, x, e, h, h1, h2⟩
    cases n with
    | zero => simp [aexec] at h1
    | succ n =>
      rw [aexec] at h1
      split at h1
      · rename_i i e1 H1 ha
        refine ⟨n, _, _, _, ha, ?_⟩
        simp only [blockQ]
        by_cases hi : i = id
        · rw [if_pos hi] at h1 ⊢
          injection h1 with h1; injection h1 with g1 g2; injection g2 with g2 g3; subst g1 g2 g3; exact h2
        · rw [if_neg hi] at h1 ⊢
          injection h1 with h1; injection h1 with g1 g2; injection g2 with g2 g3; subst g1 g2 g3; exact h2
      · rename_i hne
        refine ⟨n, _, _, _, h1, ?_⟩
        unfold blockQ
        split
        · exact absurd h1 (hne _ _ _)
        · exact h2
  · rintro ⟨n, x, e, h, h1, h2⟩
    cases x with
    | normal => exact ⟨n + 1, _, _, _, by rw [aexec, h1], h2⟩
    | jump j =>
      cases j with
      | exit i =>
        simp only [blockQ] at h2
        by_cases hi : i = id
        · rw [if_pos hi] at h2; exact ⟨n + 1, _, _, _, by rw [aexec, h1]; simp only [if_pos hi], h2⟩
        · rw [if_neg hi] at h2; exact ⟨n + 1, _, _, _, by rw [aexec, h1]; simp only [if_neg hi], h2⟩
      | ret => exact ⟨n + 1, _, _, _, by rw [aexec, h1], h2⟩
      | goto l => exact ⟨n + 1, _, _, _, by rw [aexec, h1], h2⟩
theorem Ev_loop {b : Code} {Q : AX → Env → AH → Prop} {env : Env} {H : AH} : Ev P (.loop b) Q env H ↔ Ev P b (thenQ (Ev P (.loop b) Q) Q) env H := by
  constructor
  · rintro ⟨n, x, e, h, h1, h2⟩
    cases n with
    | zero => simp [aexec] at h1
    | succ n =>
      rw [aexec] at h1
      split at h1
      · rename_i e1 H1 ha
        exact ⟨n, _, _, _, ha, n, _, _, _, h1, h2⟩
      · rename_i hne
        cases x with
        | normal => exact absurd h1 (hne _ _)
        | jump j => exact ⟨n, _, _, _, h1, h2⟩
  · rintro ⟨n, x, e, h, h1, h2⟩
    cases x with
    | normal =>
      obtain ⟨m, x, e2, h', h3, h4⟩ := h2
      refine ⟨max n m + 1, x, e2, h', ?_, h4⟩
      rw [aexec, aexec_mono (Nat.le_max_left n m) h1]
      exact aexec_mono (Nat.le_max_right n m) h3
    | jump j =>
      refine ⟨n + 1, _, _, _, ?_, h2⟩
      rw [aexec, h1]
def scopeQ (Q : AX → Env → AH → Prop) : AX → Env → AH → Prop
  | .jump (.goto _), _, _ => False
  | x, e, h => Q x e h
theorem Ev.scope {b : Code} {Q : AX → Env → AH → Prop} {env : Env} {H : AH} (h : Ev P b (scopeQ Q) env H) : Ev P (.scope b) Q env H := by
  obtain ⟨n, x, e, h', h1, h2⟩ := h
  refine ⟨n + 1, x, e, h', ?_, ?_⟩
  · rw [aexec, h1]
    cases x with
    | normal => rfl
    | jump j => cases j with | goto l => exact h2.elim | _ => rfl
  · cases x with
    | normal => exact h2
    | jump j => cases j with | goto l => exact h2.elim | _ => exact h2

/-- A loop with a measure. -/
theorem Ev.loop {b : Code} {Q : AX → Env → AH → Prop} (I : Nat → Env → AH → Prop) (step : ∀ m e h, I m e h → Ev P b (thenQ (fun e h => ∃ m', m' < m ∧ I m' e h) Q) e h) : ∀ {m : Nat} {env : Env} {H : AH}, I m env H → Ev P (.loop b) Q env H := by
  intro m
  induction m using Nat.strongRecOn with
  | _ m ih =>
    intro env H hI
    rw [Ev_loop]
    refine (step m env H hI).mono (fun x e h hq => ?_)
    cases x with
    | normal => obtain ⟨m', h1, h2⟩ := hq; exact ih m' h1 h2
    | jump j => exact hq

/-- A function's contract from its body. -/
theorem Cv.of {f : FuncId} {fn : Func} {c : Code} {args : List AV} {H : AH} {R : AV → Eff → Prop} (hf : P.funcs[f]? = some fn) (hb : fn.body = some c) (hn : (fn.name == "runtime.NumGoroutine") = false) (ha : shutFn P fn args = false)
    (h : Ev P c (fun x e h => (x = .normal ∨ x = .jump .ret) ∧ ∃ vs, resultsA P fn e h.bl = some vs ∧ R (finish (fn.origin == "slices.Clone") H h (single vs)).1 (finish (fn.origin == "slices.Clone") H h (single vs)).2) (fun t => args.getD t .und) ⟨H.nx, H.bl, H.nx⟩) :
    Cv P f args H R := by
  obtain ⟨n, x, e, h', h1, h2, vs, h3, h4⟩ := h
  refine ⟨n + 1, _, _, ?_, h4⟩
  rw [acall, hf]
  simp only [hb, hn, h1, ha]
  rcases h2 with rfl | rfl <;> simp [h3]
/-- A function of no arguments that answers a number or a Bool: it can be run. -/
theorem Cv.shut {f : FuncId} {fn : Func} {c : Code} {v : Value} {n : Nat} (hf : P.funcs[f]? = some fn) (hb : fn.body = some c) (ha : shutFn P fn [] = true) (h : acall P n f [] HZ = some (.one (.sc v), .clean)) (H : AH) :
    Cv P f [] H (fun r e => e = .clean ∧ r = .one (.sc v)) := by
  refine ⟨n, _, _, ?_, rfl, rfl⟩
  cases n with
  | zero => simp [acall] at h
  | succ n =>
    rw [acall, hf] at h ⊢
    simp only [hb, ha, if_true] at h ⊢
    exact h

end
end Go.AM

namespace Go.AM

inductive Md where
  | pl
  | st
  | tr
  deriving DecidableEq
/-- What is noted of an operation where the order is drawn and something is written. -/
def ad (m : Md) (es : List (Nat × Evt)) (i : Nat) (e : Evt) : List (Nat × Evt) := match m with
  | .tr => if e.touch then es ++ [(i, e)] else es
  | _ => es

section
variable {P : Program}
def So0 (P : Program) (ops : Array Oper) (m : Md) : Nat → List Oper → Env → AH → List (Nat × Evt) → (Env → AH → List (Nat × Evt) → Prop) → Prop
  | _, [], env, H, es, K => K env H es
  | i, o :: r, env, H, es, K => match wantedA ops env o with
    | some false => So0 P ops m (i + 1) r (putE env o.dst .und) H es K
    | some true => match o.op with
      | .call { callee := .value f, args, .. } => ∃ fc, (evo env f).cell = some fc ∧ Cc P fc (args.toList.map (evo env)) H (fun v e => (m = .st → e = .clean) ∧ So0 P ops m (i + 1) r (putE env o.dst v) (e.app H) (ad m es i (evt env o H (.call e))) K)
      | _ => ∃ v d, aop P H.nx H.bl env o = some (v, d) ∧ (m = .st → d = none) ∧ So0 P ops m (i + 1) r (putE env o.dst v) (H.app d) (ad m es i (evt env o H (.op d))) K
    | none => False

structure So (l : List Oper) (P : Program) (ops : Array Oper) (m : Md) (i : Nat) (env : Env) (H : AH) (es : List (Nat × Evt)) (K : Env → AH → List (Nat × Evt) → Prop) : Prop where
  un : So0 P ops m i l env H es K

theorem callCell_le {n m : Nat} (h : n ≤ m) : CLe (callCell (aexec P n) (acall P n)) (callCell (aexec P m) (acall P m)) :=
  callCell_mono (fun _ _ _ _ hr => aexec_mono h hr) (fun _ _ _ _ hr => acall_mono h hr)

theorem ordOk_still {bits : Array Nat} : ∀ {es : List (Nat × Evt)}, (∀ e ∈ es, e.2.wr = none ∧ e.2.all = false) → ordOk bits es = true := by
  intro es
  induction es with
  | nil => intro _; rfl
  | cons e es ih =>
    intro h
    simp only [ordOk, Bool.and_eq_true, List.all_eq_true, Bool.or_eq_true, Bool.not_eq_true']
    refine ⟨fun d hd => .inl ?_, ih (fun x hx => h x (by simp [hx]))⟩
    obtain ⟨h1, h2⟩ := h e (by simp)
    obtain ⟨h3, h4⟩ := h d (by simp [hd])
    simp [Evt.conf, h1, h2, h3, h4]
theorem untouched {e : Evt} (h : e.touch = false) : e.reads = [] ∧ e.wr = none ∧ e.call = false ∧ e.all = false := by
  simp only [Evt.touch, Bool.or_eq_false_iff, Bool.not_eq_false', List.isEmpty_iff, Option.isSome_eq_false_iff, Option.isNone_iff_eq_none] at h
  exact ⟨h.1.1.1, h.1.1.2, h.1.2, h.2⟩
theorem conf_l {e d : Evt} (h : e.touch = false) : e.conf d = false := by
  have h0 := h
  obtain ⟨h1, h2, h3, h4⟩ := untouched h
  unfold Evt.conf
  rw [h0, h1, h2, h3, h4]
  cases d.wr <;> simp
theorem conf_r {e d : Evt} (h : d.touch = false) : e.conf d = false := by
  have h0 := h
  obtain ⟨h1, h2, h3, h4⟩ := untouched h
  unfold Evt.conf
  rw [h0, h1, h2, h3, h4]
  cases e.wr <;> simp
theorem ordOk_filter {bits : Array Nat} : ∀ {es : List (Nat × Evt)}, ordOk bits (es.filter fun e => e.2.touch) = true → ordOk bits es = true := by
  intro es
  induction es with
  | nil => intro _; rfl
  | cons e es ih =>
    intro h
    cases ht : e.2.touch with
    | false =>
      rw [List.filter_cons_of_neg (by simp [ht])] at h
      simp only [ordOk, Bool.and_eq_true, List.all_eq_true, Bool.or_eq_true, Bool.not_eq_true']
      exact ⟨fun d _ => .inl (conf_l ht), ih h⟩
    | true =>
      rw [List.filter_cons_of_pos (by simp [ht])] at h
      simp only [ordOk, Bool.and_eq_true, List.all_eq_true, Bool.or_eq_true, Bool.not_eq_true'] at h ⊢
      refine ⟨fun d hd => ?_, ih h.2⟩
      cases hd' : d.2.touch with
      | false => exact .inl (conf_r hd')
      | true => exact h.1 d (List.mem_filter.2 ⟨hd, hd'⟩)

def adl (m : Md) (es es' : List (Nat × Evt)) : List (Nat × Evt) := match m with
  | .tr => es ++ es'.filter fun e => e.2.touch
  | _ => es
theorem adl_nil {m : Md} {es : List (Nat × Evt)} : adl m es [] = es := by cases m <;> simp [adl]
theorem adl_cons {m : Md} {es es' : List (Nat × Evt)} {i : Nat} {e : Evt} : adl m (ad m es i e) es' = adl m es ((i, e) :: es') := by
  cases m <;> simp only [adl, ad]
  cases ht : e.touch <;> simp [ht]

theorem So0.run {ops : Array Oper} {m : Md} {K : Env → AH → List (Nat × Evt) → Prop} : ∀ {l : List Oper} {i : Nat} {env : Env} {H : AH} {es : List (Nat × Evt)}, So0 P ops m i l env H es K → ∃ n env' H' es', aopsD P (callCell (aexec P n) (acall P n)) ops i l env H = some (env', H', es') ∧
    aops P (callCell (aexec P n) (acall P n)) ops l env H = some (env', H') ∧ (m = .st → ∀ e ∈ es', e.2.wr = none ∧ e.2.all = false) ∧ K env' H' (adl m es es') := by
  intro l
  induction l with
  | nil => intro i env H es h; exact ⟨0, env, H, [], rfl, rfl, by simp, by rw [adl_nil]; exact h⟩
  | cons o l ih =>
    intro i env H es h
    simp only [So0] at h
    split at h
    · rename_i hw
      obtain ⟨n, e, h', es', h1, h2, h3, h4⟩ := ih h
      refine ⟨n, e, h', es', ?_, ?_, h3, h4⟩
      · simp only [aopsD, stepD, hw, h1]
      · simp only [aops, stepD, hw, h2]
    · rename_i hw
      split at h
      · rename_i f args ats hop
        obtain ⟨fc, hfc, n, r, e, h1, hcl, h2⟩ := h
        obtain ⟨k, e2, h', es', h3, h3', h4, h5⟩ := ih h2
        have hs : step1 P (callCell (aexec P (max n k)) (acall P (max n k))) env H o = some (r, .call e) := by
          unfold step1
          rw [hop]
          simp only [hfc]
          rw [callCell_le (Nat.le_max_left n k) _ _ _ _ h1]
          rfl
        refine ⟨max n k, e2, h', (i, evt env o H (.call e)) :: es', ?_, ?_, ?_, by rw [← adl_cons]; exact h5⟩
        · have h3 := aopsD_mono (callCell_le (P := P) (Nat.le_max_right n k)) h3
          simp only [aopsD, stepD, hw, hs, Del.app, h3]
        · have h3' := aops_mono (callCell_le (P := P) (Nat.le_max_right n k)) h3'
          simp only [aops, stepD, hw, hs, Del.app, h3']
        · intro hd x hx
          rcases List.mem_cons.1 hx with rfl | hx
          · have := hcl hd; subst this; exact ⟨rfl, rfl⟩
          · exact h4 hd x hx
      · rename_i hne
        obtain ⟨v, d, ha, hdn, h⟩ := h
        obtain ⟨k, e2, h', es', h3, h3', h4, h5⟩ := ih h
        have hs : step1 P (callCell (aexec P k) (acall P k)) env H o = some (v, .op d) := by
          unfold step1
          split
          · rename_i f args ats hop
            exact absurd hop (hne _ _ _)
          · rw [ha]; rfl
        refine ⟨k, e2, h', (i, evt env o H (.op d)) :: es', ?_, ?_, ?_, by rw [← adl_cons]; exact h5⟩
        · simp only [aopsD, stepD, hw, hs, Del.app, h3]
        · simp only [aops, stepD, hw, hs, Del.app, h3']
        · intro hd x hx
          rcases List.mem_cons.1 hx with rfl | hx
          · have := hdn hd; subst this; exact ⟨rfl, rfl⟩
          · exact h4 hd x hx
    · exact h.elim

/-- Nothing in the region writes but a call. -/
def stillOps (ops : Array Oper) : Bool := ops.toList.all fun o => match o.op with
  | .alloc _ | .box .. | .store .. | .buildSlice .. | .makeSlice .. | .makeMap .. | .mapUpdate .. | .insert .. | .mapEntry .. | .entryStore .. | .call { callee := .builtin .append, .. } => false
  | _ => true
theorem Ev_rp {id : Nat} {ops : Array Oper} {Q : AX → Env → AH → Prop} {env : Env} {H : AH} (h : So ops.toList P ops .pl 0 env H [] (fun e h _ => Q .normal e h)) : Ev P (.region id ops false) Q env H := by
  obtain ⟨n, e, h', es, h1, h2, h3, h4⟩ := h.un.run
  refine ⟨n + 1, .normal, e, h', ?_, h4⟩
  rw [aexec]
  simp only [Bool.false_eq_true, if_false, h2]
  rfl
theorem Ev_rs {id : Nat} {ops : Array Oper} {Q : AX → Env → AH → Prop} {env : Env} {H : AH} (h : So ops.toList P ops .st 0 env H [] (fun e h _ => Q .normal e h)) (_ : stillOps ops = true := by rfl) : Ev P (.region id ops true) Q env H := by
  obtain ⟨n, e, h', es, h1, h2, h3, h4⟩ := h.un.run
  refine ⟨n + 1, .normal, e, h', ?_, h4⟩
  rw [aexec]
  simp only [if_true, h1, ordOk_still (h3 rfl)]
theorem Ev_rt {id : Nat} {ops : Array Oper} {Q : AX → Env → AH → Prop} {env : Env} {H : AH} (h : So ops.toList P ops .tr 0 env H [] (fun e h es => ordOk (Region.before ops) es = true ∧ Q .normal e h)) : Ev P (.region id ops true) Q env H := by
  obtain ⟨n, e, h', es, h1, h2, h3, h4, h5⟩ := h.un.run
  refine ⟨n + 1, .normal, e, h', ?_, h5⟩
  rw [aexec]
  simp only [adl, List.nil_append] at h4
  simp only [if_true, h1, ordOk_filter h4]
end
end Go.AM

namespace Go.AM
variable {B : Option Nat}

abbrev cint (n : Int) : Cell := .sc (.int .i64 n)
abbrev cbool (b : Bool) : Cell := .sc (.bool b)
abbrev vint (n : Int) : AV := .one (.sc (.int .i64 n))
abbrev vbool (b : Bool) : AV := .one (.sc (.bool b))
abbrev cnil : Cell := .sc (.slice none 0 0)

/-- The heap H, seen from a function that began at H0: its own blocks that count, the latest first. -/
structure HsB (B : Option Nat) (H0 H : AH) (l : List (Nat × Blk)) : Prop where
  hi : ∀ b, B = some b → H.lo ≤ b
  nx : H0.nx ≤ H.nx
  lo : H0.nx ≤ H.lo
  old : ∀ j, j < H0.nx → H.bl j = H0.bl j
  at_ : ∀ p ∈ l, H.bl p.1 = p.2
  ge : ∀ p ∈ l, H0.nx ≤ p.1 ∧ p.1 < H.nx
  srt : l.Pairwise (fun a b => a.1 ≠ b.1)

abbrev Hs : AH → AH → List (Nat × Blk) → Prop := HsB none
/-- One block of a list is another one. -/
inductive Put : List (Nat × Blk) → Nat → Blk → Blk → List (Nat × Blk) → Prop
  | head {l : List (Nat × Blk)} {k : Nat} {b b' : Blk} : Put ((k, b) :: l) k b b' ((k, b') :: l)
  | tail {e : Nat × Blk} {l l' : List (Nat × Blk)} {k : Nat} {b b' : Blk} : Put l k b b' l' → Put (e :: l) k b b' (e :: l')

theorem Put.mem {l l' : List (Nat × Blk)} {k : Nat} {b b' : Blk} (h : Put l k b b' l') : (k, b) ∈ l := by
  induction h with
  | head => exact .head _
  | tail _ ih => exact .tail _ ih
theorem Put.mem' {l l' : List (Nat × Blk)} {k : Nat} {b b' : Blk} (h : Put l k b b' l') (p : Nat × Blk) (hp : p ∈ l') (hs : l.Pairwise (fun a b => a.1 ≠ b.1)) : p = (k, b') ∨ (p ∈ l ∧ p.1 ≠ k) := by
  induction h with
  | head =>
    rename_i l k b b'
    rw [List.pairwise_cons] at hs
    rcases List.mem_cons.1 hp with rfl | hp
    · exact .inl rfl
    · have := hs.1 p hp
      simp only at this
      exact .inr ⟨.tail _ hp, fun e => this e.symm⟩
  | tail hq ih =>
    rename_i e l l' k b b'
    rw [List.pairwise_cons] at hs
    rcases List.mem_cons.1 hp with rfl | hp
    · have := hs.1 _ hq.mem
      simp only at this
      exact .inr ⟨.head _, this⟩
    · rcases ih hp hs.2 with h | ⟨h1, h2⟩
      · exact .inl h
      · exact .inr ⟨.tail _ h1, h2⟩
theorem Put.keys {l l' : List (Nat × Blk)} {k : Nat} {b b' : Blk} (h : Put l k b b' l') : l'.map (·.1) = l.map (·.1) := by
  induction h with
  | head => rfl
  | tail _ ih => simp [ih]

theorem Put.right {p l l' : List (Nat × Blk)} {k : Nat} {b b' : Blk} (h : Put l k b b' l') : Put (p ++ l) k b b' (p ++ l') := by
  induction p with
  | nil => exact h
  | cons e p ih => exact .tail ih
theorem HsB.start (H : AH) : Hs H ⟨H.nx, H.bl, H.nx⟩ [] := ⟨(fun _ h => by cases h), Nat.le_refl _, Nat.le_refl _, fun _ _ => rfl, fun _ h => by simp at h, fun _ h => by simp at h, .nil⟩
theorem HsB.new {H0 H : AH} {l : List (Nat × Blk)} (h : HsB B H0 H l) (b : Blk) : HsB B H0 (H.app (some (H.nx, b))) ((H.nx, b) :: l) := by
  have hnx := h.nx
  refine ⟨fun b hb => by have := h.hi b hb; simp only [AH.app]; omega, ?_, ?_, fun j hj => ?_, fun p hp => ?_, fun p hp => ?_, ?_⟩
  · simp only [AH.app]; omega
  · have := h.lo; simp only [AH.app]; omega
  · simp only [AH.app, upd]; rw [if_neg (by omega)]; exact h.old j hj
  · rcases List.mem_cons.1 hp with rfl | hp
    · simp [AH.app, upd]
    · have := h.ge p hp
      simp only [AH.app, upd]; rw [if_neg (by omega)]; exact h.at_ p hp
  · rcases List.mem_cons.1 hp with rfl | hp
    · simp only [AH.app]; omega
    · have := h.ge p hp
      simp only [AH.app]; omega
  · rw [List.pairwise_cons]
    exact ⟨fun p hp => by have := (h.ge p hp).2; simp only; omega, h.srt⟩
theorem HsB.put {H0 H : AH} {l l' : List (Nat × Blk)} {k : Nat} {b b' : Blk} (h : HsB B H0 H l) (q : Put l k b b' l') : HsB B H0 (H.app (some (k, b'))) l' := by
  have hk := h.ge _ q.mem
  simp only at hk
  have hnx := h.nx
  refine ⟨fun b hb => by have := h.hi b hb; simp only [AH.app]; omega, ?_, ?_, fun j hj => ?_, fun p hp => ?_, fun p hp => ?_, ?_⟩
  · simp only [AH.app]; omega
  · have := h.lo; simp only [AH.app]; omega
  · simp only [AH.app, upd]; rw [if_neg (by omega)]; exact h.old j hj
  · rcases q.mem' p hp h.srt with rfl | ⟨h1, h2⟩
    · simp [AH.app, upd]
    · simp only [AH.app, upd]; rw [if_neg h2]; exact h.at_ p h1
  · rcases q.mem' p hp h.srt with rfl | ⟨h1, h2⟩
    · simp only [AH.app]; omega
    · have := h.ge p h1
      simp only [AH.app]; omega
  · have e := q.keys
    have h1 : (l.map (·.1)).Pairwise (fun a b => a ≠ b) := List.pairwise_map.2 h.srt
    rw [← e] at h1
    exact List.pairwise_map.1 h1
theorem HsB.none {H0 H : AH} {l : List (Nat × Blk)} (h : HsB B H0 H l) : Hs H0 H l := ⟨(fun _ h => by cases h), h.nx, h.lo, h.old, h.at_, h.ge, h.srt⟩
theorem HsB.perm {H0 H : AH} {l l' : List (Nat × Blk)} (h : HsB B H0 H l) (s : l.Perm l') : HsB B H0 H l' :=
  ⟨h.hi, h.nx, h.lo, h.old, fun p hp => h.at_ p (s.mem_iff.2 hp), fun p hp => h.ge p (s.mem_iff.2 hp), (s.pairwise_iff (fun h => h.symm)).1 h.srt⟩
/-- Two handles stand at different places. -/
inductive Apart : List (Nat × Blk) → Nat → Nat → Prop
  | hd {k h : Nat} {b b' : Blk} {l : List (Nat × Blk)} (m : (h, b') ∈ l) : Apart ((k, b) :: l) k h
  | hd' {k h : Nat} {b b' : Blk} {l : List (Nat × Blk)} (m : (k, b') ∈ l) : Apart ((h, b) :: l) k h
  | tl {e : Nat × Blk} {k h : Nat} {l : List (Nat × Blk)} (a : Apart l k h) : Apart (e :: l) k h
  | ap {k h : Nat} {b b' : Blk} {p l : List (Nat × Blk)} (m : (k, b) ∈ p) (n : (h, b') ∈ l) : Apart (p ++ l) k h
  | ap' {k h : Nat} {b b' : Blk} {p l : List (Nat × Blk)} (m : (h, b) ∈ p) (n : (k, b') ∈ l) : Apart (p ++ l) k h
  | right {k h : Nat} {p l : List (Nat × Blk)} (a : Apart l k h) : Apart (p ++ l) k h
  | left {k h : Nat} {p l : List (Nat × Blk)} (a : Apart p k h) : Apart (p ++ l) k h
theorem Apart.ne {l : List (Nat × Blk)} {k h : Nat} (hs : l.Pairwise (fun a b => a.1 ≠ b.1)) (a : Apart l k h) : k ≠ h := by
  induction a with
  | hd m => exact (List.pairwise_cons.1 hs).1 _ m
  | hd' m => exact ((List.pairwise_cons.1 hs).1 _ m).symm
  | tl _ ih => exact ih (List.pairwise_cons.1 hs).2
  | ap m n => exact (List.pairwise_append.1 hs).2.2 _ m _ n
  | ap' m n => exact ((List.pairwise_append.1 hs).2.2 _ m _ n).symm
  | right _ ih => exact ih (List.pairwise_append.1 hs).2.1
  | left _ ih => exact ih (List.pairwise_append.1 hs).1
theorem HsB.sub {H0 H : AH} {l l' : List (Nat × Blk)} (h : HsB B H0 H l) (s : l'.Sublist l) : HsB B H0 H l' :=
  ⟨h.hi, h.nx, h.lo, h.old, fun p hp => h.at_ p (s.subset hp), fun p hp => h.ge p (s.subset hp), h.srt.sublist s⟩

/-- A cell is a slice of these rows. -/
structure Rw (H : AH) (sz : Nat) (c : Cell) (r : List (List Cell)) : Prop where
  rows : rowsOf H.bl sz c = some r
  len : lenOf H.bl c = some r.length
structure Sl (H : AH) (sz : Nat) (c : Cell) (rows : List (List Cell)) : Prop extends Rw H sz c rows where
  refs : ∀ h ∈ refsC c, h < H.nx
theorem Rw.lst {H : AH} {sz : Nat} {rows : List (List Cell)} : Rw H sz (.lst sz rows) rows := ⟨by simp [rowsOf], rfl⟩
theorem Rw.nil {H : AH} {sz : Nat} : Rw H sz cnil [] := ⟨rfl, rfl⟩
theorem Rw.e0 {H : AH} {sz : Nat} : Rw H sz .e0 [] := ⟨rfl, rfl⟩
theorem Sl.lst {H : AH} {sz : Nat} {rows : List (List Cell)} : Sl H sz (.lst sz rows) rows := ⟨.lst, fun _ h => by simp [refsC] at h⟩
theorem Sl.nil {H : AH} {sz : Nat} : Sl H sz cnil [] := ⟨.nil, fun _ h => by simp [refsC] at h⟩
theorem Sl.e0 {H : AH} {sz : Nat} : Sl H sz .e0 [] := ⟨.e0, fun _ h => by simp [refsC] at h⟩
theorem rw_frame {H H' : AH} {sz : Nat} {c : Cell} {rows : List (List Cell)} (h : Rw H sz c rows) (e : ∀ k ∈ refsC c, H'.bl k = H.bl k) : Rw H' sz c rows := by
  cases c with
  | sl k n lo len => exact ⟨by have := h.rows; simp only [rowsOf] at this ⊢; rw [e k (by simp [refsC])]; exact this, h.len⟩
  | mp k =>
    have h1 := h.rows
    simp [rowsOf] at h1
  | sc v =>
    have h1 := h.rows
    have h2 := h.len
    unfold rowsOf at h1
    split at h1
    · injection h1 with h1
      subst h1
      simp_all
      exact .nil
    all_goals simp_all
  | lst _ _ => exact ⟨h.rows, h.len⟩
  | e0 => exact ⟨h.rows, h.len⟩
  | _ => have h1 := h.rows; simp [rowsOf] at h1
theorem Sl.up {H0 H : AH} {l : List (Nat × Blk)} {sz : Nat} {c : Cell} {rows : List (List Cell)} (h : Sl H0 sz c rows) (hs : HsB B H0 H l) : Sl H sz c rows :=
  ⟨rw_frame h.toRw (fun k hk => hs.old k (h.refs k hk)), fun k hk => Nat.lt_of_lt_of_le (h.refs k hk) hs.nx⟩
theorem Sl.arr {H0 H : AH} {l : List (Nat × Blk)} {sz k n : Nat} {rows : List (List Cell)} (hs : HsB B H0 H l) (hm : (k, .arr sz rows) ∈ l) (hn : rows.length = n) : Sl H sz (.sl k n 0 n) rows := by
  have h1 := hs.at_ _ hm
  simp only at h1
  refine ⟨⟨?_, by simp [lenOf, hn]⟩, fun j hj => ?_⟩
  · simp only [rowsOf, h1, hn, and_self, if_true, List.drop_zero]
    rw [← hn, List.take_length]
  · simp only [refsC, List.mem_singleton] at hj
    subst hj
    exact (hs.ge _ hm).2
theorem Rw.fn {H : AH} {sz : Nat} {c : Cell} {r r' : List (List Cell)} (h : Rw H sz c r) (h' : Rw H sz c r') : r = r' := by
  have := h.rows; rw [h'.rows] at this; injection this with this; exact this.symm

/-- A number is a natural number. -/
structure IsN (i : Int) (j : Nat) : Prop where
  eq : i = j
theorem IsN.c {j : Nat} : IsN (j : Int) j := ⟨rfl⟩
theorem IsN.s {j : Nat} : IsN ((j : Int) + 1) (j + 1) := ⟨(Int.natCast_succ j).symm⟩
theorem IsN.p {i : Int} {j : Nat} (h : IsN i j) (hj : 1 ≤ j) : IsN (i - 1) (j - 1) := ⟨by have := h.eq; omega⟩
theorem IsN.z : IsN 0 0 := ⟨rfl⟩
theorem IsN.o : IsN 1 1 := ⟨rfl⟩
theorem IsN.t {i : Int} (h : 0 ≤ i) : IsN i i.toNat := ⟨(Int.toNat_of_nonneg h).symm⟩

/-! The end of a function -/
def Cl (R : AV → Prop) : AV → Eff → Prop := fun r e => e = .clean ∧ R r
theorem Cl.eq {v : AV} : Cl (· = v) v .clean := ⟨rfl, rfl⟩
def Rt (P : Program) (fn : Func) (H0 : AH) (R : AV → Prop) : AX → Env → AH → Prop :=
  fun x e h => (x = .normal ∨ x = .jump .ret) ∧ H0.nx ≤ h.lo ∧ ∃ vs v, resultsA P fn e h.bl = some vs ∧ frzR h.bl H0.nx (single vs) = some v ∧ R v
theorem finish_clean {H h : AH} {r r' : AV} (hlo : H.nx ≤ h.lo) (hf : frzR h.bl H.nx r = some r') : finish false H h r = (r', .clean) := by
  unfold finish
  rw [if_neg (by omega)]
  simp [hf]
theorem Cv_of {P : Program} {f : FuncId} {fn : Func} {c : Code} {args : List AV} {H : AH} {R : AV → Prop} (hf : P.funcs[f]? = some fn) (hb : fn.body = some c) (hn : (fn.name == "runtime.NumGoroutine") = false) (ho : (fn.origin == "slices.Clone") = false)
    (h : ∀ h, Hs H h [] → Ev P c (Rt P fn H R) (fun t => args.getD t .und) h) (hl : args.isEmpty = false := by rfl) : Cv P f args H (Cl R) := by
  refine Cv.of hf hb hn (by simp [shutFn, hl]) ((h _ (HsB.start H)).mono (fun x e h' hq => ?_))
  obtain ⟨h1, h2, vs, v, h3, h4, h5⟩ := hq
  refine ⟨h1, vs, h3, ?_⟩
  rw [ho]
  simp only [finish_clean h2 h4]
  exact ⟨rfl, h5⟩
/-- What a result is, behind the call. -/
def fz (H0 h : AH) (x y : AV) : Prop := frzV h.bl H0.nx x = some y
theorem fz_i {H0 h : AH} {n : Int} : fz H0 h (vint n) (vint n) := rfl
theorem fz_b {H0 h : AH} {n : Bool} : fz H0 h (vbool n) (vbool n) := rfl
theorem fz_l {H0 h : AH} {sz : Nat} {r : List (List Cell)} : fz H0 h (.one (.lst sz r)) (.one (.lst sz r)) := rfl
theorem fz_c {H0 h : AH} {v : Value} : fz H0 h (.one (.sc v)) (.one (.sc v)) := rfl
theorem fz_u {H0 h : AH} : fz H0 h .und .und := rfl
theorem mapM_id {α β : Type} {f : α → Option β} {g : α → β} : ∀ {l : List α}, (∀ x ∈ l, f x = some (g x)) → l.mapM f = some (l.map g)
  | [], _ => rfl
  | x :: l, h => by
    rw [List.mapM_cons, h x (by simp)]
    simp only [Option.bind_eq_bind, Option.bind_some]
    rw [mapM_id (l := l) (fun y hy => h y (by simp [hy]))]
    rfl
/-- A cell that looks the same behind the call. -/
def flat : Cell → Bool
  | .sc _ | .e0 | .lst _ _ => true
  | _ => false
theorem frz_flat {bl : Nat → Blk} {b n : Nat} {c : Cell} (h : flat c = true) : frzC bl b (n + 1) c = some c := by
  cases c <;> simp [flat] at h <;> rfl
theorem fz_s {H0 h : AH} {l : List (Nat × Blk)} {sz k n : Nat} {rows : List (List Cell)} (hs : HsB B H0 h l) (hm : (k, .arr sz rows) ∈ l) (hn : rows.length = n) (hf : ∀ r ∈ rows, ∀ c ∈ r, flat c = true) : fz H0 h (.one (.sl k n 0 n)) (.one (.lst sz rows)) := by
  have h1 := hs.at_ _ hm
  have h2 := hs.ge _ hm
  simp only at h1 h2
  have : frzC h.bl H0.nx 6 (.sl k n 0 n) = some (.lst sz rows) := by
    rw [frzC]
    simp only [h2.1, if_true, h1, hn, List.drop_zero]
    rw [← hn, List.take_length, mapM_id (g := id)]
    · simp
    · intro r hr
      rw [mapM_id (g := id)]
      · simp
      · intro c hc
        exact frz_flat (hf r hr c hc)
  show (frzC h.bl H0.nx 6 (.sl k n 0 n)).map AV.one = some (.one (.lst sz rows))
  rw [this]; rfl
theorem fz_a {H0 h : AH} {cs : List Cell} (hf : ∀ c ∈ cs, flat c = true) : fz H0 h (.agg cs) (.agg cs) := by
  show (cs.mapM (frzC h.bl H0.nx 6)).map AV.agg = some (.agg cs)
  rw [mapM_id (f := frzC h.bl H0.nx 6) (g := id) (fun c hc => frz_flat (hf c hc))]
  simp

/-- A slice that was grown here, and its block, if there is one. -/
inductive Gr (sz : Nat) : Cell → List (List Cell) → List (Nat × Blk) → Prop
  | nil : Gr sz cnil [] []
  | arr {k n : Nat} {rows : List (List Cell)} (hn : rows.length = n) : Gr sz (.sl k n 0 n) rows [(k, .arr sz rows)]
theorem Gr.inv {sz : Nat} {c : Cell} {rows : List (List Cell)} {g : List (Nat × Blk)} (h : Gr sz c rows g) : (c = cnil ∧ rows = [] ∧ g = []) ∨ ∃ k n, c = .sl k n 0 n ∧ rows.length = n ∧ g = [(k, .arr sz rows)] := by
  cases h with
  | nil => exact .inl ⟨rfl, rfl, rfl⟩
  | arr hn => exact .inr ⟨_, _, rfl, hn, rfl⟩
/-- One list of blocks lies in another one. -/
inductive Inl (g : List (Nat × Blk)) : List (Nat × Blk) → Prop
  | here {l : List (Nat × Blk)} : Inl g (g ++ l)
  | refl : Inl g g
  | tail {e : Nat × Blk} {l : List (Nat × Blk)} (h : Inl g l) : Inl g (e :: l)
  | right {p l : List (Nat × Blk)} (h : Inl g l) : Inl g (p ++ l)
  | left {p l : List (Nat × Blk)} (h : Inl g p) : Inl g (p ++ l)
theorem Inl.sub {g l : List (Nat × Blk)} (h : Inl g l) : ∀ p ∈ g, p ∈ l := by
  induction h with
  | here => exact fun p hp => List.mem_append_left _ hp
  | refl => exact fun p hp => hp
  | tail _ ih => exact fun p hp => .tail _ (ih p hp)
  | right _ ih => exact fun p hp => List.mem_append_right _ (ih p hp)
  | left _ ih => exact fun p hp => List.mem_append_left _ (ih p hp)
theorem Inl.mem {g l : List (Nat × Blk)} {e : Nat × Blk} (h : Inl g l) (he : e ∈ g) : e ∈ l := h.sub e he

theorem Gr.rw {H0 H : AH} {g l : List (Nat × Blk)} {sz : Nat} {c : Cell} {rows : List (List Cell)} (h : Gr sz c rows g) (hs : HsB B H0 H l) (hg : Inl g l) : Rw H sz c rows := by
  cases h with
  | nil => exact .nil
  | arr hn => exact (Sl.arr hs (hg.sub _ (.head _)) hn).toRw
theorem Gr.sl {H0 H : AH} {g l : List (Nat × Blk)} {sz : Nat} {c : Cell} {rows : List (List Cell)} (h : Gr sz c rows g) (hs : HsB B H0 H l) (hg : Inl g l) : Sl H sz c rows := by
  cases h with
  | nil => exact .nil
  | arr hn => exact Sl.arr hs (hg.sub _ (.head _)) hn
theorem fz_o {α : Type} {H0 h : AH} {l : List (Nat × Blk)} {sz k n : Nat} {f : α → List Cell} {ll : List α} (hs : HsB B H0 h l) (hm : (k, .arr sz (ll.map f)) ∈ l) (hn : ll.length = n) (hf : ∀ e, (f e).all flat = true) : fz H0 h (.one (.sl k n 0 n)) (.one (.lst sz (ll.map f))) :=
  fz_s hs hm (by rw [List.length_map]; exact hn) (fun r hr c hc => by
    obtain ⟨e, _, rfl⟩ := List.mem_map.1 hr
    exact List.all_eq_true.1 (hf e) c hc)
section
variable {P : Program} {fn : Func} {H0 h : AH} {R : AV → Prop} {x : AX} {e : Env} {l : List (Nat × Blk)}
theorem Rt1 {t : Nat} {v : AV} (k : R v) (hr : fn.results = #[.tmp t] := by rfl) (hx : x = .normal ∨ x = .jump .ret := by first | exact .inr rfl | exact .inl rfl) (hs : HsB B H0 h l := by assumption) (hv : fz H0 h (e t) v := by (first | apply fz_i | apply fz_b | apply fz_l | apply fz_c | exact fz_o (by assumption) (by (focus ((repeat (first | apply List.Mem.head | apply List.Mem.tail | (apply List.mem_append_left; assumption) | apply List.mem_append_right | assumption | (apply Inl.mem; assumption; assumption))); first | done | fail))) (by (first | assumption | omega | (simp only [List.length_set, List.length_append, List.length_replicate, List.length_cons, List.length_nil]; omega))) (fun _ => rfl))) : Rt P fn H0 R x e h := by
  refine ⟨hx, hs.lo, [e t], v, by simp [resultsA, hr], ?_, k⟩
  show frzR h.bl H0.nx (e t) = some v
  unfold fz at hv
  cases he : e t with
  | tup vs => rw [he] at hv; simp [frzV] at hv
  | _ => rw [he] at hv; exact hv
theorem Rt2 {t u : Nat} {v w : AV} (k : R (.tup [v, w])) (hr : fn.results = #[.tmp t, .tmp u] := by rfl) (hx : x = .normal ∨ x = .jump .ret := by first | exact .inr rfl | exact .inl rfl) (hs : HsB B H0 h l := by assumption) (hv : fz H0 h (e t) v := by (first | apply fz_i | apply fz_b | apply fz_l | apply fz_c | exact fz_o (by assumption) (by (focus ((repeat (first | apply List.Mem.head | apply List.Mem.tail | (apply List.mem_append_left; assumption) | apply List.mem_append_right | assumption | (apply Inl.mem; assumption; assumption))); first | done | fail))) (by (first | assumption | omega | (simp only [List.length_set, List.length_append, List.length_replicate, List.length_cons, List.length_nil]; omega))) (fun _ => rfl))) (hw : fz H0 h (e u) w := by (first | apply fz_i | apply fz_b | apply fz_l | apply fz_c | exact fz_o (by assumption) (by (focus ((repeat (first | apply List.Mem.head | apply List.Mem.tail | (apply List.mem_append_left; assumption) | apply List.mem_append_right | assumption | (apply Inl.mem; assumption; assumption))); first | done | fail))) (by (first | assumption | omega | (simp only [List.length_set, List.length_append, List.length_replicate, List.length_cons, List.length_nil]; omega))) (fun _ => rfl))) : Rt P fn H0 R x e h := by
  refine ⟨hx, hs.lo, [e t, e u], _, by simp [resultsA, hr], ?_, k⟩
  show ((List.mapM (frzV h.bl H0.nx) [e t, e u]).map AV.tup) = _
  unfold fz at hv hw
  simp [hv, hw]
theorem Rt3 {t u s : Nat} {v w y : AV} (k : R (.tup [v, w, y])) (hr : fn.results = #[.tmp t, .tmp u, .tmp s] := by rfl) (hx : x = .normal ∨ x = .jump .ret := by first | exact .inr rfl | exact .inl rfl) (hs : HsB B H0 h l := by assumption) (hv : fz H0 h (e t) v := by (first | apply fz_i | apply fz_b | apply fz_l | apply fz_c | exact fz_o (by assumption) (by (focus ((repeat (first | apply List.Mem.head | apply List.Mem.tail | (apply List.mem_append_left; assumption) | apply List.mem_append_right | assumption | (apply Inl.mem; assumption; assumption))); first | done | fail))) (by (first | assumption | omega | (simp only [List.length_set, List.length_append, List.length_replicate, List.length_cons, List.length_nil]; omega))) (fun _ => rfl))) (hw : fz H0 h (e u) w := by (first | apply fz_i | apply fz_b | apply fz_l | apply fz_c | exact fz_o (by assumption) (by (focus ((repeat (first | apply List.Mem.head | apply List.Mem.tail | (apply List.mem_append_left; assumption) | apply List.mem_append_right | assumption | (apply Inl.mem; assumption; assumption))); first | done | fail))) (by (first | assumption | omega | (simp only [List.length_set, List.length_append, List.length_replicate, List.length_cons, List.length_nil]; omega))) (fun _ => rfl))) (hy : fz H0 h (e s) y := by (first | apply fz_i | apply fz_b | apply fz_l | apply fz_c | exact fz_o (by assumption) (by (focus ((repeat (first | apply List.Mem.head | apply List.Mem.tail | (apply List.mem_append_left; assumption) | apply List.mem_append_right | assumption | (apply Inl.mem; assumption; assumption))); first | done | fail))) (by (first | assumption | omega | (simp only [List.length_set, List.length_append, List.length_replicate, List.length_cons, List.length_nil]; omega))) (fun _ => rfl))) : Rt P fn H0 R x e h := by
  refine ⟨hx, hs.lo, [e t, e u, e s], _, by simp [resultsA, hr], ?_, k⟩
  show ((List.mapM (frzV h.bl H0.nx) [e t, e u, e s]).map AV.tup) = _
  unfold fz at hv hw hy
  simp [hv, hw, hy]
end
end Go.AM

namespace Go.AM
variable {B : Option Nat}

class UL (P : Program) (t : TypeId) (d : outParam TypeDesc) : Prop where
  eq : P.underlying t = some d
class SZ (P : Program) (t : TypeId) (n : outParam Nat) : Prop where
  eq : szOf P t = some n
class AG (P : Program) (t : TypeId) (b : outParam Bool) : Prop where
  eq : aggB P t = some b
class ZC (P : Program) (t : TypeId) (cs : outParam (List Cell)) : Prop where
  eq : zeroCells P t = some cs
/-- A struct's field: where it starts, whether it is a struct or an array, how many cells it has. -/
class FD (P : Program) (t : TypeId) (f : Nat) (off : outParam Nat) (agg : outParam Bool) (n : outParam Nat) : Prop where
  eq : ∃ fields fl, P.underlying t = some (.struct fields) ∧ fields[f]? = some fl ∧ fl.offset = off ∧ aggB P fl.type = some agg ∧ szOf P fl.type = some n ∧ 0 < n
/-- A slice's elements: how many cells, how many bytes. -/
class EL (P : Program) (t : TypeId) (e : outParam TypeId) (n : outParam Nat) : Prop where
  eq : ∃ i z, P.underlying t = some (.slice e) ∧ P.info? e = some i ∧ i.size = n ∧ zeroCells P e = some z ∧ z.length = n ∧ 0 < n ∧ 0 < i.bytes ∧ i.bytes ≤ 4096

/-- A struct's fields: where each starts, how many cells it has. -/
class ST (P : Program) (t : TypeId) (places : outParam (List (Nat × Nat))) : Prop where
  eq : ∃ fields, P.underlying t = some (.struct fields) ∧ fields.toList.mapM (fun f => (szOf P f.type).map fun s => (f.offset, s)) = some places

abbrev rdE (l : List Nat) : Evt := ⟨l, none, false, false, false⟩
abbrev wrE (l : List Nat) (h : Nat) (f : Bool) : Evt := ⟨l, some h, f, false, false⟩
abbrev clE : Evt := ⟨[], none, false, true, false⟩
abbrev mdE (h : Nat) : Evt := ⟨[], some h, true, true, false⟩

section
variable {P : Program} {ops : Array Oper} {m : Md} {i : Nat} {r : List Oper} {env : Env} {H : AH} {es : List (Nat × Evt)} {K : Env → AH → List (Nat × Evt) → Prop} {dst : Option Tmp} {ty : TypeId} {pos : String} {after : Array Edge} {op : Op}

theorem So_nil (h : K env H es) : So [] P ops m i env H es K := ⟨h⟩
theorem So_nilT {bits : Array Nat} {Q : Env → AH → Prop} (h : Q env H) (hb : ordOk bits es = true := by first | rfl | decide) : So [] P ops .tr i env H es (fun e h es => ordOk bits es = true ∧ Q e h) := ⟨⟨hb, h⟩⟩
theorem So_gy {j : Nat} {want : Bool} {d : Nat} (k : So (⟨dst, op, ty, pos, after, none⟩ :: r) P ops m i env H es K) (hj : (ops[j]?).bind (·.dst) = some d := by rfl) (hd : env d = vbool want := by rfl) : So (⟨dst, op, ty, pos, after, some (j, want)⟩ :: r) P ops m i env H es K := by
  have hw : wantedA ops env ⟨dst, op, ty, pos, after, some (j, want)⟩ = some true := by simp [wantedA, hj, hd]
  have k := k.un
  refine ⟨?_⟩
  simp only [So0, hw]
  simp only [So0, wantedA] at k
  exact k
theorem So_gn {j : Nat} {want : Bool} {d : Nat} (k : So r P ops m (i + 1) (putE env dst .und) H es K) (hj : (ops[j]?).bind (·.dst) = some d := by rfl) (hd : env d = vbool (!want) := by rfl) : So (⟨dst, op, ty, pos, after, some (j, want)⟩ :: r) P ops m i env H es K := by
  have hw : wantedA ops env ⟨dst, op, ty, pos, after, some (j, want)⟩ = some false := by cases want <;> simp [wantedA, hj, hd]
  refine ⟨?_⟩
  simp only [So0, hw]
  exact k.un
theorem So_gu {j : Nat} {want : Bool} {d : Nat} (k : So r P ops m (i + 1) (putE env dst .und) H es K) (hj : (ops[j]?).bind (·.dst) = some d := by rfl) (hd : env d = .und := by rfl) : So (⟨dst, op, ty, pos, after, some (j, want)⟩ :: r) P ops m i env H es K := by
  have hw : wantedA ops env ⟨dst, op, ty, pos, after, some (j, want)⟩ = some false := by simp [wantedA, hj, hd]
  refine ⟨?_⟩
  simp only [So0, hw]
  exact k.un
theorem upd_self {α : Type} {f : Nat → α} {k : Nat} {v : α} (h : f k = v) : upd f k v = f := by
  funext x; unfold upd; split
  · rename_i hx; rw [hx, h]
  · rfl
theorem So_g {j : Nat} {want t : Bool} {d : Nat} (k1 : t = want → So (⟨dst, op, ty, pos, after, none⟩ :: r) P ops m i (upd env d (vbool want)) H es K)
    (k2 : t = !want → So r P ops m (i + 1) (putE (upd env d (vbool (!want))) dst .und) H es K) (hj : (ops[j]?).bind (·.dst) = some d := by rfl) (hd : env d = vbool t := by rfl) : So (⟨dst, op, ty, pos, after, some (j, want)⟩ :: r) P ops m i env H es K := by
  by_cases ht : t = want
  · subst ht
    rw [upd_self hd] at k1
    exact So_gy (k1 rfl) hj hd
  · have ht : t = !want := by cases t <;> cases want <;> simp_all
    subst ht
    rw [upd_self hd] at k2
    exact So_gn (k2 rfl) hj hd

section
variable {j d : Nat} {p : Prop} [Decidable p]
theorem So_gT (k1 : p → So (⟨dst, op, ty, pos, after, none⟩ :: r) P ops m i (upd env d (vbool true)) H es K) (k2 : ¬p → So r P ops m (i + 1) (putE (upd env d (vbool false)) dst .und) H es K) (hj : (ops[j]?).bind (·.dst) = some d := by rfl) (hd : env d = vbool (decide p) := by rfl) :
    So (⟨dst, op, ty, pos, after, some (j, true)⟩ :: r) P ops m i env H es K := So_g (fun h => k1 (of_decide_eq_true h)) (fun h => k2 (of_decide_eq_false h)) hj hd
theorem So_gF (k1 : p → So r P ops m (i + 1) (putE (upd env d (vbool true)) dst .und) H es K) (k2 : ¬p → So (⟨dst, op, ty, pos, after, none⟩ :: r) P ops m i (upd env d (vbool false)) H es K) (hj : (ops[j]?).bind (·.dst) = some d := by rfl) (hd : env d = vbool (decide p) := by rfl) :
    So (⟨dst, op, ty, pos, after, some (j, false)⟩ :: r) P ops m i env H es K := So_g (fun h => k2 (of_decide_eq_false h)) (fun h => k1 (of_decide_eq_true h)) hj hd
theorem So_gTn (k1 : ¬p → So (⟨dst, op, ty, pos, after, none⟩ :: r) P ops m i (upd env d (vbool true)) H es K) (k2 : p → So r P ops m (i + 1) (putE (upd env d (vbool false)) dst .und) H es K) (hj : (ops[j]?).bind (·.dst) = some d := by rfl) (hd : env d = vbool (decide (¬p)) := by rfl) :
    So (⟨dst, op, ty, pos, after, some (j, true)⟩ :: r) P ops m i env H es K := So_gT k1 (fun h => k2 (Decidable.not_not.1 h)) hj hd
theorem So_gFn (k1 : ¬p → So r P ops m (i + 1) (putE (upd env d (vbool true)) dst .und) H es K) (k2 : p → So (⟨dst, op, ty, pos, after, none⟩ :: r) P ops m i (upd env d (vbool false)) H es K) (hj : (ops[j]?).bind (·.dst) = some d := by rfl) (hd : env d = vbool (decide (¬p)) := by rfl) :
    So (⟨dst, op, ty, pos, after, some (j, false)⟩ :: r) P ops m i env H es K := So_gF k1 (fun h => k2 (Decidable.not_not.1 h)) hj hd
variable {t : Bool}
theorem So_gTm (k1 : t = false → So (⟨dst, op, ty, pos, after, none⟩ :: r) P ops m i (upd env d (vbool true)) H es K) (k2 : t = true → So r P ops m (i + 1) (putE (upd env d (vbool false)) dst .und) H es K) (hj : (ops[j]?).bind (·.dst) = some d := by rfl) (hd : env d = vbool (!t) := by rfl) :
    So (⟨dst, op, ty, pos, after, some (j, true)⟩ :: r) P ops m i env H es K := So_g (fun h => k1 (by simpa using h)) (fun h => k2 (by simpa using h)) hj hd
theorem So_gFm (k1 : t = false → So r P ops m (i + 1) (putE (upd env d (vbool true)) dst .und) H es K) (k2 : t = true → So (⟨dst, op, ty, pos, after, none⟩ :: r) P ops m i (upd env d (vbool false)) H es K) (hj : (ops[j]?).bind (·.dst) = some d := by rfl) (hd : env d = vbool (!t) := by rfl) :
    So (⟨dst, op, ty, pos, after, some (j, false)⟩ :: r) P ops m i env H es K := So_g (fun h => k2 (by simpa using h)) (fun h => k1 (by simpa using h)) hj hd
theorem So_gTb (k1 : t = true → So (⟨dst, op, ty, pos, after, none⟩ :: r) P ops m i (upd env d (vbool true)) H es K) (k2 : t = false → So r P ops m (i + 1) (putE (upd env d (vbool false)) dst .und) H es K) (hj : (ops[j]?).bind (·.dst) = some d := by rfl) (hd : env d = vbool t := by rfl) :
    So (⟨dst, op, ty, pos, after, some (j, true)⟩ :: r) P ops m i env H es K := So_g k1 k2 hj hd
theorem So_gFb (k1 : t = true → So r P ops m (i + 1) (putE (upd env d (vbool true)) dst .und) H es K) (k2 : t = false → So (⟨dst, op, ty, pos, after, none⟩ :: r) P ops m i (upd env d (vbool false)) H es K) (hj : (ops[j]?).bind (·.dst) = some d := by rfl) (hd : env d = vbool t := by rfl) :
    So (⟨dst, op, ty, pos, after, some (j, false)⟩ :: r) P ops m i env H es K := So_g k2 k1 hj hd
end

theorem ad_still {i : Nat} {e : Evt} (h : e.touch = false) : ad m es i e = es := by cases m <;> simp [ad, h]
theorem So_aop {o : Oper} (hg : o.guard = none) (hne : ∀ f args ats, o.op ≠ .call { callee := .value f, args := args, argTypes := ats }) {v : AV} {d : Option (Nat × Blk)} (ha : aop P H.nx H.bl env o = some (v, d)) (hd : m = .st → d = none)
    (k : So r P ops m (i + 1) (putE env o.dst v) (H.app d) (ad m es i (evt env o H (.op d))) K) : So (o :: r) P ops m i env H es K := by
  have hw : wantedA ops env o = some true := by simp [wantedA, hg]
  refine ⟨?_⟩
  unfold So0
  rw [hw]
  simp only
  exact ⟨v, d, ha, hd, k.un⟩
/-- What looks at no memory. -/
theorem So_pure {o : Oper} (hg : o.guard = none) (hne : ∀ f args ats, o.op ≠ .call { callee := .value f, args := args, argTypes := ats }) {v : AV} (ha : aop P H.nx H.bl env o = some (v, none)) (hl : looks env o = [])
    (k : So r P ops m (i + 1) (putE env o.dst v) H es K) : So (o :: r) P ops m i env H es K :=
  So_aop hg hne ha (fun _ => rfl) (by rw [ad_still (by simp [evt, hl, Evt.touch])]; exact k)
/-- What reads. -/
theorem So_rd {o : Oper} (hg : o.guard = none) (hne : ∀ f args ats, o.op ≠ .call { callee := .value f, args := args, argTypes := ats }) {v : AV} {l : List Nat} (ha : aop P H.nx H.bl env o = some (v, none)) (hl : looks env o = l)
    (k : So r P ops m (i + 1) (putE env o.dst v) H (ad m es i (rdE l)) K) : So (o :: r) P ops m i env H es K :=
  So_aop hg hne ha (fun _ => rfl) (by rw [show evt env o H (.op none) = rdE l by simp [evt, hl]]; exact k)

section
variable {x : Operand}
theorem So_move (k : So r P ops m (i + 1) (putE env dst (evo env x)) H es K) : So (⟨dst, .move x, ty, pos, after, none⟩ :: r) P ops m i env H es K :=
  So_pure rfl (by intros; simp) rfl rfl k
theorem So_assign (k : So r P ops m (i + 1) (putE env dst (evo env x)) H es K) : So (⟨dst, .assign x, ty, pos, after, none⟩ :: r) P ops m i env H es K :=
  So_pure rfl (by intros; simp) rfl rfl k
theorem So_mc {c : Cell} (k : So r P ops m (i + 1) (putE env dst (.one c)) H es K) (hx : evo env x = .one c := by rfl) : So (⟨dst, .move x, ty, pos, after, none⟩ :: r) P ops m i env H es K := So_move (by rw [hx]; exact k)
theorem So_ma {c : List Cell} (k : So r P ops m (i + 1) (putE env dst (.agg c)) H es K) (hx : evo env x = .agg c := by rfl) : So (⟨dst, .move x, ty, pos, after, none⟩ :: r) P ops m i env H es K := So_move (by rw [hx]; exact k)
theorem So_mv {v : AV} (k : So r P ops m (i + 1) (putE env dst v) H es K) (hx : evo env x = v := by rfl) : So (⟨dst, .move x, ty, pos, after, none⟩ :: r) P ops m i env H es K := So_move (by rw [hx]; exact k)
theorem So_ac {c : Cell} (k : So r P ops m (i + 1) (putE env dst (.one c)) H es K) (hx : evo env x = .one c := by rfl) : So (⟨dst, .assign x, ty, pos, after, none⟩ :: r) P ops m i env H es K := So_assign (by rw [hx]; exact k)
theorem So_aa {c : List Cell} (k : So r P ops m (i + 1) (putE env dst (.agg c)) H es K) (hx : evo env x = .agg c := by rfl) : So (⟨dst, .assign x, ty, pos, after, none⟩ :: r) P ops m i env H es K := So_assign (by rw [hx]; exact k)
theorem So_av {v : AV} (k : So r P ops m (i + 1) (putE env dst v) H es K) (hx : evo env x = v := by rfl) : So (⟨dst, .assign x, ty, pos, after, none⟩ :: r) P ops m i env H es K := So_assign (by rw [hx]; exact k)
theorem So_pick {c y : Operand} {t : Bool} (hc : evo env c = vbool t) (k : So r P ops m (i + 1) (putE env dst (if t then evo env x else evo env y)) H es K) : So (⟨dst, .pick c x y, ty, pos, after, none⟩ :: r) P ops m i env H es K :=
  So_pure rfl (by intros; simp) (by simp only [aop, hc]) rfl k
theorem So_pb {c y : Operand} {t u w : Bool} (k : So r P ops m (i + 1) (putE env dst (vbool (if t then u else w))) H es K) (hc : evo env c = vbool t := by rfl) (hx : evo env x = vbool u := by rfl) (hy : evo env y = vbool w := by rfl) : So (⟨dst, .pick c x y, ty, pos, after, none⟩ :: r) P ops m i env H es K :=
  So_pick hc (by cases t <;> simp only [hx, hy] <;> exact k)
theorem So_pt {c y : Operand} {u : AV} (k : So r P ops m (i + 1) (putE env dst u) H es K) (hc : evo env c = vbool true := by rfl) (hx : evo env x = u := by rfl) : So (⟨dst, .pick c x y, ty, pos, after, none⟩ :: r) P ops m i env H es K := So_pick hc (by rw [if_pos rfl, hx]; exact k)
theorem So_pf {c y : Operand} {u : AV} (k : So r P ops m (i + 1) (putE env dst u) H es K) (hc : evo env c = vbool false := by rfl) (hx : evo env y = u := by rfl) : So (⟨dst, .pick c x y, ty, pos, after, none⟩ :: r) P ops m i env H es K := So_pick hc (by rw [if_neg (by simp), hx]; exact k)
end

/-! Numbers -/
theorem plain2 {o : Oper} {bop : BinOp} {t t' : TypeId} {x y : Operand} {u w : Value} {cu cw : Cell} {v : Value} {c : AV} (hop : o.op = .binOp bop t x y t') (hx : evo env x = .one cu) (hy : evo env y = .one cw) (hu : cu.toV = some u) (hw : cw.toV = some w)
    (he : ev P (do eqGuard bop t x y u w; binOp bop t u w) = some v) (hv : ofV v = some c) : plainOp P env o = some (c, none) := by
  unfold plainOp
  rw [if_pos]
  · have : execOp (fun x => ((evo env x).toV).getD undef) o = (do pure (.value (← (do eqGuard bop t x y u w; binOp bop t u w)))) := by
      unfold execOp
      simp only [hop, hx, hy, AV.toV, hu, hw, Option.getD_some]
    rw [this]
    have : ∀ (s : Sem Value), ev P s = some v → ev P (do pure (Next.value (← s))) = some (Next.value v) := by
      intro s hs
      induction s with
      | pure b => simp only [ev] at hs; injection hs with hs; subst hs; rfl
      | program k ih => exact ih P hs
      | mark m k ih => exact ih hs
      | _ => simp [ev] at hs
    rw [this _ he]
    simp only [hv]
    rfl
  · rw [hop]; simp [Op.operands, hx, hy, AV.toV, hu, hw]

theorem aop_bin {o : Oper} {bop : BinOp} {t t' : TypeId} {x y : Operand} {u w : Value} {v : Value} {c : AV} {nw : Nat} {bl : Nat → Blk} (hop : o.op = .binOp bop t x y t') (hx : evo env x = .one (.sc u)) (hy : evo env y = .one (.sc w))
    (he : ev P (do eqGuard bop t x y u w; binOp bop t u w) = some v) (hv : ofV v = some c) : aop P nw bl env o = some (c, none) := by
  have hp := plain2 (P := P) hop hx hy rfl rfl he hv
  have hnil : eqNil P env bop t x y = none := by
    unfold eqNil
    rw [hx, hy]
    cases P.underlying t with
    | none => rfl
    | some k => cases k <;> simp [unlike]
  unfold aop
  rw [hop]
  simp only
  cases bop <;> simp only [hnil, hp]

section
variable {t t' : TypeId} {x y : Operand} {a b : Int}
theorem So_bin {bop : BinOp} {u w v : Value} {c : AV} (k : So r P ops m (i + 1) (putE env dst c) H es K) (hx : evo env x = .one (.sc u)) (hy : evo env y = .one (.sc w)) (he : ev P (do eqGuard bop t x y u w; binOp bop t u w) = some v) (hv : ofV v = some c) :
    So (⟨dst, .binOp bop t x y t', ty, pos, after, none⟩ :: r) P ops m i env H es K := So_pure rfl (by intros; simp) (aop_bin rfl hx hy he hv) rfl k
theorem So_lss (k : So r P ops m (i + 1) (putE env dst (vbool (decide (a < b)))) H es K) (hx : evo env x = vint a := by rfl) (hy : evo env y = vint b := by rfl) : So (⟨dst, .binOp .lss t x y t', ty, pos, after, none⟩ :: r) P ops m i env H es K := So_bin k hx hy rfl rfl
theorem So_leq (k : So r P ops m (i + 1) (putE env dst (vbool (decide (a ≤ b)))) H es K) (hx : evo env x = vint a := by rfl) (hy : evo env y = vint b := by rfl) : So (⟨dst, .binOp .leq t x y t', ty, pos, after, none⟩ :: r) P ops m i env H es K := So_bin k hx hy rfl rfl
theorem So_gtr (k : So r P ops m (i + 1) (putE env dst (vbool (decide (b < a)))) H es K) (hx : evo env x = vint a := by rfl) (hy : evo env y = vint b := by rfl) : So (⟨dst, .binOp .gtr t x y t', ty, pos, after, none⟩ :: r) P ops m i env H es K := So_bin k hx hy rfl rfl
theorem So_geq (k : So r P ops m (i + 1) (putE env dst (vbool (decide (b ≤ a)))) H es K) (hx : evo env x = vint a := by rfl) (hy : evo env y = vint b := by rfl) : So (⟨dst, .binOp .geq t x y t', ty, pos, after, none⟩ :: r) P ops m i env H es K := So_bin k hx hy rfl rfl
theorem So_eql (k : So r P ops m (i + 1) (putE env dst (vbool (decide (a = b)))) H es K) (hx : evo env x = vint a := by rfl) (hy : evo env y = vint b := by rfl) : So (⟨dst, .binOp .eql t x y t', ty, pos, after, none⟩ :: r) P ops m i env H es K :=
  So_bin (c := vbool (a == b)) k hx hy rfl rfl
theorem So_neq (k : So r P ops m (i + 1) (putE env dst (vbool (decide (a ≠ b)))) H es K) (hx : evo env x = vint a := by rfl) (hy : evo env y = vint b := by rfl) : So (⟨dst, .binOp .neq t x y t', ty, pos, after, none⟩ :: r) P ops m i env H es K :=
  So_bin (c := vbool (a != b)) (by
    have : (a != b) = decide (a ≠ b) := by simp [bne, BEq.beq]
    rw [this]; exact k) hx hy rfl rfl
def fits (n : Int) : Prop := -9223372036854775808 ≤ n ∧ n < 9223372036854775808
theorem wrap_fits {n : Int} (h : fits n) : IntKind.i64.wrap n = n := by
  obtain ⟨h1, h2⟩ := h
  have e : IntKind.i64.wrap n = if n % 18446744073709551616 ≥ 9223372036854775808 then n % 18446744073709551616 - 18446744073709551616 else n % 18446744073709551616 := by
    unfold IntKind.wrap
    have s : IntKind.i64.signed = true := rfl
    have b : IntKind.i64.bits = 64 := rfl
    rw [s, b]
    simp
  rw [e]
  split <;> omega
theorem So_add (k : So r P ops m (i + 1) (putE env dst (vint (a + b))) H es K) (hx : evo env x = vint a := by rfl) (hy : evo env y = vint b := by rfl) (hf : fits (a + b) := by first | assumption | (unfold fits; omega)) : So (⟨dst, .binOp .add t x y t', ty, pos, after, none⟩ :: r) P ops m i env H es K :=
  So_bin (c := vint (IntKind.i64.wrap (a + b))) (by rw [wrap_fits hf]; exact k) hx hy rfl rfl
theorem So_sub (k : So r P ops m (i + 1) (putE env dst (vint (a - b))) H es K) (hx : evo env x = vint a := by rfl) (hy : evo env y = vint b := by rfl) (hf : fits (a - b) := by first | assumption | (unfold fits; omega)) : So (⟨dst, .binOp .sub t x y t', ty, pos, after, none⟩ :: r) P ops m i env H es K :=
  So_bin (c := vint (IntKind.i64.wrap (a - b))) (by rw [wrap_fits hf]; exact k) hx hy rfl rfl
theorem So_mul (k : So r P ops m (i + 1) (putE env dst (vint (a * b))) H es K) (hx : evo env x = vint a := by rfl) (hy : evo env y = vint b := by rfl) (hf : fits (a * b) := by first | assumption | (unfold fits; omega)) : So (⟨dst, .binOp .mul t x y t', ty, pos, after, none⟩ :: r) P ops m i env H es K :=
  So_bin (c := vint (IntKind.i64.wrap (a * b))) (by rw [wrap_fits hf]; exact k) hx hy rfl rfl
theorem fits_tdiv {a b : Int} (ha : -9223372036854775808 < a ∧ a < 9223372036854775808) : fits (a.tdiv b) := by
  have h1 := Int.natAbs_tdiv_le_natAbs a b
  unfold fits
  omega
theorem So_quo (k : So r P ops m (i + 1) (putE env dst (vint (a.tdiv b))) H es K) (hx : evo env x = vint a := by rfl) (hy : evo env y = vint b := by rfl) (hb : b ≠ 0 := by first | assumption | omega) (ha : -9223372036854775808 < a ∧ a < 9223372036854775808 := by first | assumption | omega) :
    So (⟨dst, .binOp .quo t x y t', ty, pos, after, none⟩ :: r) P ops m i env H es K := by
  refine So_bin (v := .int .i64 (IntKind.i64.wrap (a.tdiv b))) (c := vint (IntKind.i64.wrap (a.tdiv b))) (by rw [wrap_fits (fits_tdiv ha)]; exact k) hx hy ?_ rfl
  show ev P (if b = 0 then runtimePanic _ else _) = _
  rw [if_neg hb]
  rfl
theorem So_rem (k : So r P ops m (i + 1) (putE env dst (vint (a.tmod b))) H es K) (hx : evo env x = vint a := by rfl) (hy : evo env y = vint b := by rfl) (hb : b ≠ 0 := by first | assumption | omega) :
    So (⟨dst, .binOp .rem t x y t', ty, pos, after, none⟩ :: r) P ops m i env H es K := by
  refine So_bin (v := .int .i64 (a.tmod b)) (c := vint (a.tmod b)) k hx hy ?_ rfl
  show ev P (if b = 0 then runtimePanic _ else _) = _
  rw [if_neg hb]
  rfl
theorem So_not {t : TypeId} {b : Bool} (k : So r P ops m (i + 1) (putE env dst (vbool (!b))) H es K) (hx : evo env x = vbool b := by rfl) : So (⟨dst, .unOp .not t x, ty, pos, after, none⟩ :: r) P ops m i env H es K := by
  refine So_pure rfl (by intros; simp) (v := vbool (!b)) ?_ rfl k
  have e : execOp (fun x => ((evo env x).toV).getD undef) ⟨dst, .unOp .not t x, ty, pos, after, none⟩ = (do pure (.value (← Op.unary .not (.bool b)))) := by
    unfold execOp
    simp only [hx, AV.toV, Cell.toV, Option.getD_some]
  simp only [aop, plainOp]
  rw [if_pos (by simp [Op.operands, hx, AV.toV, Cell.toV]), e]
  rfl
theorem So_notd {t : TypeId} {p : Prop} [Decidable p] (k : So r P ops m (i + 1) (putE env dst (vbool (decide (¬p)))) H es K) (hx : evo env x = vbool (decide p) := by rfl) : So (⟨dst, .unOp .not t x, ty, pos, after, none⟩ :: r) P ops m i env H es K :=
  So_not (by rw [← decide_not]; exact k) hx
theorem So_neg {t : TypeId} {a : Int} (k : So r P ops m (i + 1) (putE env dst (vint (-a))) H es K) (hx : evo env x = vint a := by rfl) (hf : fits (-a) := by first | assumption | (unfold fits; omega)) : So (⟨dst, .unOp .neg t x, ty, pos, after, none⟩ :: r) P ops m i env H es K := by
  refine So_pure rfl (by intros; simp) (v := vint (IntKind.i64.wrap (0 - a))) ?_ rfl (by rw [Int.zero_sub, wrap_fits hf]; exact k)
  have e : execOp (fun x => ((evo env x).toV).getD undef) ⟨dst, .unOp .neg t x, ty, pos, after, none⟩ = (do pure (.value (← Op.unary .neg (.int .i64 a)))) := by
    unfold execOp
    simp only [hx, AV.toV, Cell.toV, Option.getD_some]
  simp only [aop, plainOp]
  rw [if_pos (by simp [Op.operands, hx, AV.toV, Cell.toV]), e]
  rfl
end
section
variable {x : Operand}
theorem So_ex {j : Nat} {xs : List AV} {v : AV} (k : So r P ops m (i + 1) (putE env dst v) H es K) (hx : evo env x = .tup xs := by rfl) (hv : xs[j]? = some v := by rfl) : So (⟨dst, .extract x j, ty, pos, after, none⟩ :: r) P ops m i env H es K :=
  So_pure rfl (by intros; simp) (v := v) (by simp only [aop, hx, hv]; rfl) rfl k
theorem So_mf {f : FuncId} {xs ys : Array Operand} {p q : List Cell} (k : So r P ops m (i + 1) (putE env dst (.one (.fn (.func f) p q))) H es K) (hp : xs.toList.mapM (fun x => (evo env x).cell) = some p := by rfl) (hq : ys.toList.mapM (fun x => (evo env x).cell) = some q := by rfl) :
    So (⟨dst, .makeFunc (.func f) xs ys, ty, pos, after, none⟩ :: r) P ops m i env H es K :=
  So_pure rfl (by intros; simp) (by simp only [aop, hp, hq]) rfl k

/-! Memory -/
section
variable {s : TypeId} {f off n : Nat} {agg : Bool}
theorem So_fa [I : FD P s f off agg n] {h o : Nat} (k : So r P ops m (i + 1) (putE env dst (.one (.bp h (o + off)))) H es K) (hx : evo env x = .one (.bp h o) := by rfl) : So (⟨dst, .fieldAddr s x f, ty, pos, after, none⟩ :: r) P ops m i env H es K := by
  refine So_pure rfl (by intros; simp) ?_ rfl k
  obtain ⟨fields, fl, h1, h2, h3, h4, h5, h6⟩ := I.eq
  obtain ⟨m, rfl⟩ : ∃ m, n = m + 1 := ⟨n - 1, by omega⟩
  simp only [aop, h1, hx, AV.cell, h2, h5, h3]
theorem So_fe [I : FD P s f off agg n] {c : Cell} {sz j o : Nat} (k : So r P ops m (i + 1) (putE env dst (.one (.ep c sz j (o + off)))) H es K) (hx : evo env x = .one (.ep c sz j o) := by rfl) : So (⟨dst, .fieldAddr s x f, ty, pos, after, none⟩ :: r) P ops m i env H es K := by
  refine So_pure rfl (by intros; simp) ?_ rfl k
  obtain ⟨fields, fl, h1, h2, h3, h4, h5, h6⟩ := I.eq
  obtain ⟨m, rfl⟩ : ∃ m, n = m + 1 := ⟨n - 1, by omega⟩
  simp only [aop, h1, hx, AV.cell, h2, h5, h3]
theorem So_f [I : FD P s f off false n] {cs : List Cell} {c : Cell} (k : So r P ops m (i + 1) (putE env dst (.one c)) H es K) (hx : evo env x = .agg cs := by rfl) (hc : cs[off]? = some c := by rfl) : So (⟨dst, .field s x f, ty, pos, after, none⟩ :: r) P ops m i env H es K := by
  refine So_pure rfl (by intros; simp) ?_ rfl k
  obtain ⟨fields, fl, h1, h2, h3, h4, h5, h6⟩ := I.eq
  simp only [aop, h1, hx, h2, h4, h3, hc]
  rfl
theorem So_ff [I : FD P s f off true n] {cs : List Cell} (k : So r P ops m (i + 1) (putE env dst (.agg ((cs.drop off).take n))) H es K) (hx : evo env x = .agg cs := by rfl) (hl : off + n ≤ cs.length := by exact Nat.le_of_ble_eq_true rfl) : So (⟨dst, .field s x f, ty, pos, after, none⟩ :: r) P ops m i env H es K := by
  refine So_pure rfl (by intros; simp) ?_ rfl k
  obtain ⟨fields, fl, h1, h2, h3, h4, h5, h6⟩ := I.eq
  simp only [aop, h1, hx, h2, h4, h5, h3, if_pos hl]
end

theorem take1 {α : Type} {l : List α} {o : Nat} {c : α} (hc : l[o]? = some c) : (l.drop o).take 1 = [c] := by
  have hlt := (List.getElem?_eq_some_iff.1 hc).1
  rw [List.drop_eq_getElem_cons hlt]
  have := (List.getElem?_eq_some_iff.1 hc).2
  simp [this]
variable {t : TypeId} {H0 : AH} {l : List (Nat × Blk)}
theorem So_lb {h o : Nat} {cs : List Cell} {c : Cell} [I : AG P t false] (k : So r P ops m (i + 1) (putE env dst (.one c)) H (ad m es i (rdE [h])) K) (hx : evo env x = .one (.bp h o) := by rfl) (hs : HsB B H0 H l := by assumption) (hb : (h, .box cs) ∈ l := by (focus ((repeat (first | apply List.Mem.head | apply List.Mem.tail | (apply List.mem_append_left; assumption) | apply List.mem_append_right | assumption | (apply Inl.mem; assumption; assumption))); first | done | fail))) (hc : cs[o]? = some c := by rfl) :
    So (⟨dst, .load t x, ty, pos, after, none⟩ :: r) P ops m i env H es K := by
  refine So_rd rfl (by intros; simp) (l := [h]) ?_ (by simp [looks, hx, refsV, refsC]) k
  have hb := hs.at_ _ hb
  have hlt := (List.getElem?_eq_some_iff.1 hc).1
  simp only at hb
  simp only [aop, hx, AV.cell, I.eq, rdPtr, hb, if_pos (show o + 1 ≤ cs.length from hlt), take1 hc]
theorem So_la {h o n : Nat} {cs : List Cell} [I : AG P t true] [J : SZ P t n] (k : So r P ops m (i + 1) (putE env dst (.agg ((cs.drop o).take n))) H (ad m es i (rdE [h])) K) (hx : evo env x = .one (.bp h o) := by rfl) (hs : HsB B H0 H l := by assumption) (hb : (h, .box cs) ∈ l := by (focus ((repeat (first | apply List.Mem.head | apply List.Mem.tail | (apply List.mem_append_left; assumption) | apply List.mem_append_right | assumption | (apply Inl.mem; assumption; assumption))); first | done | fail))) (hl : o + n ≤ cs.length := by exact Nat.le_of_ble_eq_true rfl) :
    So (⟨dst, .load t x, ty, pos, after, none⟩ :: r) P ops m i env H es K := by
  refine So_rd rfl (by intros; simp) (l := [h]) ?_ (by simp [looks, hx, refsV, refsC]) k
  have hb := hs.at_ _ hb
  simp only at hb
  simp only [aop, hx, AV.cell, I.eq, J.eq, rdPtr, hb, if_pos hl]
  rfl
theorem So_le {a : Cell} {sz j o : Nat} {rows : List (List Cell)} {row : List Cell} {c : Cell} [I : AG P t false] (hx : evo env x = .one (.ep a sz j o)) (hr : Rw H sz a rows) (hi : rows[j]? = some row) (hc : row[o]? = some c) (k : So r P ops m (i + 1) (putE env dst (.one c)) H (ad m es i (rdE (refsC a))) K) :
    So (⟨dst, .load t x, ty, pos, after, none⟩ :: r) P ops m i env H es K := by
  refine So_rd rfl (by intros; simp) (l := refsC a) ?_ (by simp [looks, hx, refsV, refsC]) k
  have hlt := (List.getElem?_eq_some_iff.1 hc).1
  simp only [aop, hx, AV.cell, I.eq, rdPtr, hr.rows, hi, if_pos (show o + 1 ≤ row.length from hlt), take1 hc]
theorem So_lea {a : Cell} {sz j o n : Nat} {rows : List (List Cell)} {row : List Cell} [I : AG P t true] [J : SZ P t n] (hx : evo env x = .one (.ep a sz j o)) (hr : Rw H sz a rows) (hi : rows[j]? = some row) (hl : o + n ≤ row.length) (k : So r P ops m (i + 1) (putE env dst (.agg ((row.drop o).take n))) H (ad m es i (rdE (refsC a))) K) :
    So (⟨dst, .load t x, ty, pos, after, none⟩ :: r) P ops m i env H es K := by
  refine So_rd rfl (by intros; simp) (l := refsC a) ?_ (by simp [looks, hx, refsV, refsC]) k
  simp only [aop, hx, AV.cell, I.eq, J.eq, rdPtr, hr.rows, hi, if_pos hl]
  rfl
section
variable {α : Type} {a : Cell} {sz j o n : Nat} {f : α → List Cell} {ll : List α} {e : α}
/-- A cell of a row, where the rows are made of a list's elements; the element is known. -/
theorem So_lx {c : Cell} [I : AG P t false] (k : So r P ops m (i + 1) (putE env dst (.one c)) H (ad m es i (rdE (refsC a))) K) (hx : evo env x = .one (.ep a sz j o) := by rfl) (hr : Rw H sz a (ll.map f) := by (first | apply Rw.lst | (apply Gr.rw; assumption; assumption; (focus ((repeat (first | apply Inl.here | apply Inl.refl | assumption | apply Inl.tail | apply Inl.right)); first | done | fail))) | (apply Sl.toRw; apply Sl.up; assumption; assumption) | exact (Sl.arr (by assumption) (by (focus ((repeat (first | apply List.Mem.head | apply List.Mem.tail | (apply List.mem_append_left; assumption) | apply List.mem_append_right | assumption | (apply Inl.mem; assumption; assumption))); first | done | fail))) rfl).toRw)) (he : ll[j]? = some e := by assumption) (hc : (f e)[o]? = some c := by rfl) :
    So (⟨dst, .load t x, ty, pos, after, none⟩ :: r) P ops m i env H es K :=
  So_le hx hr (row := f e) (by rw [List.getElem?_map, he]; rfl) hc k
theorem So_lxa [I : AG P t true] [J : SZ P t n] (k : So r P ops m (i + 1) (putE env dst (.agg (((f e).drop o).take n))) H (ad m es i (rdE (refsC a))) K) (hx : evo env x = .one (.ep a sz j o) := by rfl) (hr : Rw H sz a (ll.map f) := by (first | apply Rw.lst | (apply Gr.rw; assumption; assumption; (focus ((repeat (first | apply Inl.here | apply Inl.refl | assumption | apply Inl.tail | apply Inl.right)); first | done | fail))) | (apply Sl.toRw; apply Sl.up; assumption; assumption) | exact (Sl.arr (by assumption) (by (focus ((repeat (first | apply List.Mem.head | apply List.Mem.tail | (apply List.mem_append_left; assumption) | apply List.mem_append_right | assumption | (apply Inl.mem; assumption; assumption))); first | done | fail))) rfl).toRw)) (he : ll[j]? = some e := by assumption) (hl : ∀ e, o + n ≤ (f e).length := by exact fun _ => Nat.le_of_ble_eq_true rfl) :
    So (⟨dst, .load t x, ty, pos, after, none⟩ :: r) P ops m i env H es K :=
  So_lea hx hr (row := f e) (by rw [List.getElem?_map, he]; rfl) (hl e) k
/-- The element is new. -/
theorem So_ln {g : α → Cell} [I : AG P t false] (k : ∀ e, ll[j]? = some e → So r P ops m (i + 1) (putE env dst (.one (g e))) H (ad m es i (rdE (refsC a))) K) (hx : evo env x = .one (.ep a sz j o) := by rfl) (hr : Rw H sz a (ll.map f) := by (first | apply Rw.lst | (apply Gr.rw; assumption; assumption; (focus ((repeat (first | apply Inl.here | apply Inl.refl | assumption | apply Inl.tail | apply Inl.right)); first | done | fail))) | (apply Sl.toRw; apply Sl.up; assumption; assumption) | exact (Sl.arr (by assumption) (by (focus ((repeat (first | apply List.Mem.head | apply List.Mem.tail | (apply List.mem_append_left; assumption) | apply List.mem_append_right | assumption | (apply Inl.mem; assumption; assumption))); first | done | fail))) rfl).toRw)) (hlt : j < ll.length := by omega) (hc : ∀ e, (f e)[o]? = some (g e) := by exact fun _ => rfl) :
    So (⟨dst, .load t x, ty, pos, after, none⟩ :: r) P ops m i env H es K :=
  So_lx (k _ (List.getElem?_eq_getElem hlt)) hx hr (List.getElem?_eq_getElem hlt) (hc _)
theorem So_lna [I : AG P t true] [J : SZ P t n] (k : ∀ e, ll[j]? = some e → So r P ops m (i + 1) (putE env dst (.agg (((f e).drop o).take n))) H (ad m es i (rdE (refsC a))) K) (hx : evo env x = .one (.ep a sz j o) := by rfl) (hr : Rw H sz a (ll.map f) := by (first | apply Rw.lst | (apply Gr.rw; assumption; assumption; (focus ((repeat (first | apply Inl.here | apply Inl.refl | assumption | apply Inl.tail | apply Inl.right)); first | done | fail))) | (apply Sl.toRw; apply Sl.up; assumption; assumption) | exact (Sl.arr (by assumption) (by (focus ((repeat (first | apply List.Mem.head | apply List.Mem.tail | (apply List.mem_append_left; assumption) | apply List.mem_append_right | assumption | (apply Inl.mem; assumption; assumption))); first | done | fail))) rfl).toRw)) (hlt : j < ll.length := by omega) (hl : ∀ e, o + n ≤ (f e).length := by exact fun _ => Nat.le_of_ble_eq_true rfl) :
    So (⟨dst, .load t x, ty, pos, after, none⟩ :: r) P ops m i env H es K :=
  So_lxa (k _ (List.getElem?_eq_getElem hlt)) hx hr (List.getElem?_eq_getElem hlt) hl
end
theorem ev_bind {α β : Type} {s : Sem α} {k : α → Sem β} : ev P (s >>= k) = (ev P s).bind (fun a => ev P (k a)) := by
  show ev P (Sem.bind s k) = _
  induction s with
  | pure b => simp [Sem.bind, ev]
  | program g ih => simp only [Sem.bind, ev]; exact ih P
  | mark m g ih => simp only [Sem.bind, ev]; exact ih
  | _ => simp [Sem.bind, ev]
theorem ev_underlying {t : TypeId} {d : TypeDesc} (h : P.underlying t = some d) : ev P (underlying t) = some d := by
  unfold underlying
  rw [ev_bind, show ev P program = some P from rfl]
  simp only [Option.bind_some, h]
  rfl
theorem So_len0 {e : TypeId} [I : UL P t (.slice e)] (k : So r P ops m (i + 1) (putE env dst (vint 0)) H es K) (hx : evo env x = .one cnil := by rfl) :
    So (⟨dst, .call { callee := .builtin .len, args := #[x], argTypes := #[t] }, ty, pos, after, none⟩ :: r) P ops m i env H es K := by
  refine So_pure rfl (by intros; simp) (v := vint 0) ?_ (by simp [looks, hx, refsV, refsC]) k
  have hp : plainOp P env ⟨dst, .call { callee := .builtin .len, args := #[x], argTypes := #[t] }, ty, pos, after, none⟩ = some (vint 0, none) := by
    unfold plainOp
    rw [if_pos (by simp [Op.operands, Call.operands, hx, AV.toV, Cell.toV])]
    have : ev P (execOp (fun x => ((evo env x).toV).getD undef) ⟨dst, .call { callee := .builtin .len, args := #[x], argTypes := #[t] }, ty, pos, after, none⟩) = some (.value (.int .i64 0)) := by
      unfold execOp
      simp only [resolve, List.map_toArray, List.map_cons, List.map_nil, hx, AV.toV, Cell.toV, Option.getD_some, pure_bind, invoke, builtin]
      simp only [ev_bind, Builtin.len_, List.getElem?_toArray, List.getElem?_cons_zero, ev_underlying I.eq, Option.bind_some]
      rfl
    rw [this]
    rfl
  simp only [aop, aopBuiltin, hx, AV.cell, hp]
theorem So_len {e : TypeId} {sz n : Nat} {c : Cell} {rows : List (List Cell)} [I : UL P t (.slice e)] (k : So r P ops m (i + 1) (putE env dst (vint n)) H (ad m es i (rdE (refsC c))) K) (hx : evo env x = .one c := by rfl) (hr : Rw H sz c rows := by (first | apply Rw.lst | (apply Gr.rw; assumption; assumption; (focus ((repeat (first | apply Inl.here | apply Inl.refl | assumption | apply Inl.tail | apply Inl.right)); first | done | fail))) | (apply Sl.toRw; apply Sl.up; assumption; assumption) | exact (Sl.arr (by assumption) (by (focus ((repeat (first | apply List.Mem.head | apply List.Mem.tail | (apply List.mem_append_left; assumption) | apply List.mem_append_right | assumption | (apply Inl.mem; assumption; assumption))); first | done | fail))) rfl).toRw)) (hn : rows.length = n := by first | exact List.length_map _ | rfl) :
    So (⟨dst, .call { callee := .builtin .len, args := #[x], argTypes := #[t] }, ty, pos, after, none⟩ :: r) P ops m i env H es K := by
  subst hn
  have h3 := hr.rows
  cases c with
  | sc v =>
    unfold rowsOf at h3
    split at h3
    · rename_i heq
      injection heq with heq
      injection h3 with h3
      subst heq h3
      rw [ad_still rfl] at k
      exact So_len0 k hx
    · rename_i heq; cases heq
    · rename_i heq; cases heq
    · rename_i heq; cases heq
    · cases h3
  | mp h => simp [rowsOf] at h3
  | _ =>
    refine So_rd rfl (by intros; simp) (v := vint rows.length) (l := refsC _) ?_ (by simp [looks, hx, refsV]) k
    have h1 : (#[t] : Array TypeId)[0]?.bind P.underlying = some (.slice e) := I.eq
    have h2 := hr.len
    simp only [aop, aopBuiltin, hx, AV.cell, h2, h1]
theorem So_ia {ix : Operand} {e : TypeId} {s j : Nat} {c : Cell} {a : Int} {rows : List (List Cell)} [I : UL P t (.slice e)] [J : SZ P e s] (k : So r P ops m (i + 1) (putE env dst (.one (.ep c s j 0))) H (ad m es i (rdE (refsC c))) K) (hx : evo env x = .one c := by rfl) (hi : evo env ix = vint a := by rfl) (hj : IsN a j := by (first | apply IsN.z | apply IsN.o | apply IsN.s | apply IsN.c | (apply IsN.p IsN.c; omega) | (apply IsN.t; omega))) (hr : Rw H s c rows := by (first | apply Rw.lst | (apply Gr.rw; assumption; assumption; (focus ((repeat (first | apply Inl.here | apply Inl.refl | assumption | apply Inl.tail | apply Inl.right)); first | done | fail))) | (apply Sl.toRw; apply Sl.up; assumption; assumption) | exact (Sl.arr (by assumption) (by (focus ((repeat (first | apply List.Mem.head | apply List.Mem.tail | (apply List.mem_append_left; assumption) | apply List.mem_append_right | assumption | (apply Inl.mem; assumption; assumption))); first | done | fail))) rfl).toRw)) (h0 : j < rows.length := by first | omega | (simp only [List.length_map, List.length_cons]; omega)) :
    So (⟨dst, .indexAddr t x ix, ty, pos, after, none⟩ :: r) P ops m i env H es K := by
  refine So_rd rfl (by intros; simp) (l := refsC c) ?_ (by simp [looks, hx, refsV]) k
  have h1 := hj.eq
  have h2 : 0 ≤ a ∧ a < (rows.length : Int) := by omega
  have h3 : a.toNat = j := by omega
  simp only [aop, I.eq, hx, hi, AV.cell, intOf?, J.eq, hr.len, hr.rows, if_pos h2, h3]

theorem So_box {e : TypeId} {cs : List Cell} (k : ∀ h H', HsB B H0 H' ((h, .box cs) :: l) → So r P ops m (i + 1) (putE env dst (.one (.bp h 0))) H' (ad m es i (wrE [] h true)) K) (hm : m ≠ .st := by decide) (hx : (evo env x).cells = some cs := by rfl) (hs : HsB B H0 H l := by assumption) : So (⟨dst, .box e x, ty, pos, after, none⟩ :: r) P ops m i env H es K :=
  So_aop rfl (by intros; simp) (d := some (H.nx, .box cs)) (by simp only [aop, hx]; rfl) (fun h => absurd h hm) (by
    have := k H.nx _ (hs.new (.box cs))
    simpa [evt, looks] using this)
theorem So_alloc {e : TypeId} {cs : List Cell} [I : ZC P e cs] (k : ∀ h H', HsB B H0 H' ((h, .box cs) :: l) → So r P ops m (i + 1) (putE env dst (.one (.bp h 0))) H' (ad m es i (wrE [] h true)) K) (hm : m ≠ .st := by decide) (hs : HsB B H0 H l := by assumption) : So (⟨dst, .alloc e, ty, pos, after, none⟩ :: r) P ops m i env H es K :=
  So_aop rfl (by intros; simp) (d := some (H.nx, .box cs)) (by simp only [aop, I.eq]; rfl) (fun h => absurd h hm) (by
    have := k H.nx _ (hs.new (.box cs))
    simpa [evt, looks] using this)
theorem So_st {y : Operand} {h o n : Nat} {cs vs : List Cell} {l' : List (Nat × Blk)} [I : SZ P t n] (k : ∀ H', HsB B H0 H' l' → So r P ops m (i + 1) (putE env dst .und) H' (ad m es i (wrE [h] h false)) K) (hm : m ≠ .st := by decide) (hx : evo env x = .one (.bp h o) := by rfl) (hy : (evo env y).cells = some vs := by rfl) (hs : HsB B H0 H l := by assumption) (hb : Put l h (.box cs) (.box (putCells cs o vs)) l' := by (focus ((repeat (first | apply Put.head | assumption | apply Put.tail | apply Put.right)); first | done | fail))) (hn : vs.length = n := by rfl) (hl : o + vs.length ≤ cs.length := by exact Nat.le_of_ble_eq_true rfl) :
    So (⟨dst, .store t x y, ty, pos, after, none⟩ :: r) P ops m i env H es K := by
  subst hn
  have hb' := hs.at_ _ hb.mem
  have hlt := (hs.ge _ hb.mem).2
  simp only at hb' hlt
  refine So_aop rfl (by intros; simp) (d := some (h, .box (putCells cs o vs))) (by simp only [aop, hx, hy, AV.cell, I.eq, wrPtr, hb', if_pos hl]; rfl) (fun h => absurd h hm) ?_
  have := k _ (hs.put hb)
  have e : evt env ⟨dst, .store t x y, ty, pos, after, none⟩ H (.op (some (h, .box (putCells cs o vs)))) = wrE [h] h false := by
    simp only [evt, looks, hx, refsV, refsC, Option.map_some]
    congr
    simp; omega
  rw [e]
  exact this
/-- An element of a slice of one's own is written. -/
theorem So_se {y : Operand} {h n sz j o w : Nat} {rows : List (List Cell)} {row vs : List Cell} {l' : List (Nat × Blk)} [I : SZ P t w] (hw : vs.length = w) (hm : m ≠ .st) (hx : evo env x = .one (.ep (.sl h n 0 n) sz j o)) (hy : (evo env y).cells = some vs) (hs : HsB B H0 H l) (hrow : rows[j]? = some row) (hn : rows.length = n) (hl : o + vs.length ≤ row.length)
    (hb : Put l h (.arr sz rows) (.arr sz (rows.set j (putCells row o vs))) l') (k : ∀ H', HsB B H0 H' l' → So r P ops m (i + 1) (putE env dst .und) H' (ad m es i (wrE [h] h false)) K) :
    So (⟨dst, .store t x y, ty, pos, after, none⟩ :: r) P ops m i env H es K := by
  subst hw
  have hb' := hs.at_ _ hb.mem
  have hlt := (hs.ge _ hb.mem).2
  have hj := (List.getElem?_eq_some_iff.1 hrow).1
  simp only at hb' hlt
  refine So_aop rfl (by intros; simp) (v := .und) (d := some (h, .arr sz (rows.set j (putCells row o vs)))) ?_ (fun h => absurd h hm) ?_
  · simp only [aop, hx, hy, AV.cell, I.eq, wrPtr, hb']
    rw [if_pos trivial, if_pos ⟨trivial, hn, by omega⟩]
    simp only [Nat.zero_add, hrow, if_pos hl]
    rfl
  have := k _ (hs.put hb)
  have e : evt env ⟨dst, .store t x y, ty, pos, after, none⟩ H (.op (some (h, .arr sz (rows.set j (putCells row o vs))))) = wrE [h] h false := by
    simp only [evt, looks, hx, refsV, refsC, Option.map_some]
    congr
    simp; omega
  rw [e]
  exact this
end

/-! Calls -/
theorem So_call {f : Operand} {args : Array Operand} {ats : Array TypeId} {fc : Cell} {R : AV → Eff → Prop} (hf : (evo env f).cell = some fc) (hc : Cc P fc (args.toList.map (evo env)) H R) (k : ∀ v e, R v e → (m = .st → e = .clean) ∧ So r P ops m (i + 1) (putE env dst v) (e.app H) (ad m es i (evt env ⟨dst, .call { callee := .value f, args := args, argTypes := ats }, ty, pos, after, none⟩ H (.call e))) K) :
    So (⟨dst, .call { callee := .value f, args := args, argTypes := ats }, ty, pos, after, none⟩ :: r) P ops m i env H es K := by
  have hw : wantedA ops env ⟨dst, .call { callee := .value f, args := args, argTypes := ats }, ty, pos, after, none⟩ = some true := rfl
  refine ⟨?_⟩
  unfold So0
  rw [hw]
  exact ⟨fc, hf, hc.mono (fun v e h => ⟨(k v e h).1, (k v e h).2.un⟩)⟩
/-- A call of a function that changes nothing. -/
theorem So_cv {f : FuncId} {args : Array Operand} {ats : Array TypeId} {R : AV → Prop} (hc : Cv P f (args.toList.map (evo env)) H (Cl R)) (k : ∀ v, R v → So r P ops m (i + 1) (putE env dst v) H (ad m es i clE) K) :
    So (⟨dst, .call { callee := .value (.func f), args := args, argTypes := ats }, ty, pos, after, none⟩ :: r) P ops m i env H es K := by
  refine So_call (fc := .fn (.func f) [] []) (R := Cl R) rfl ?_ (fun v' e h => ?_)
  · rw [Cc_func]; simpa using hc
  · obtain ⟨rfl, h⟩ := h
    exact ⟨fun _ => rfl, k v' h⟩
theorem So_fn {f : FuncId} {args : Array Operand} {ats : Array TypeId} {v : AV} (hc : Cv P f (args.toList.map (evo env)) H (Cl (· = v))) (k : So r P ops m (i + 1) (putE env dst v) H (ad m es i clE) K) :
    So (⟨dst, .call { callee := .value (.func f), args := args, argTypes := ats }, ty, pos, after, none⟩ :: r) P ops m i env H es K :=
  So_cv hc (fun _ h => h ▸ k)
theorem So_cl {f : Operand} {args : Array Operand} {ats : Array TypeId} {fc : Cell} {R : AV → Prop} (hc : Cc P fc (args.toList.map (evo env)) H (Cl R)) (hf : evo env f = .one fc) (k : ∀ v, R v → So r P ops m (i + 1) (putE env dst v) H (ad m es i clE) K) :
    So (⟨dst, .call { callee := .value f, args := args, argTypes := ats }, ty, pos, after, none⟩ :: r) P ops m i env H es K := by
  refine So_call (fc := fc) (R := Cl R) (by rw [hf]; rfl) hc (fun v' e h => ?_)
  obtain ⟨rfl, h⟩ := h
  exact ⟨fun _ => rfl, k v' h⟩

theorem So_cl1 {f : Operand} {args : Array Operand} {ats : Array TypeId} {fc : Cell} {v : AV} (hc : Cc P fc (args.toList.map (evo env)) H (Cl (· = v))) (k : So r P ops m (i + 1) (putE env dst v) H (ad m es i clE) K) (hf : evo env f = .one fc := by rfl) :
    So (⟨dst, .call { callee := .value f, args := args, argTypes := ats }, ty, pos, after, none⟩ :: r) P ops m i env H es K :=
  So_cl hc hf (fun _ h => h ▸ k)

variable {a b : Code} {c : Operand} {Q : AX → Env → AH → Prop}
theorem Ev_ct (k : Ev P a Q env H) (hc : evo env c = vbool true := by rfl) : Ev P (.cond c a b) Q env H := (Ev_cond hc).2 k
theorem Ev_cf (k : Ev P b Q env H) (hc : evo env c = vbool false := by rfl) : Ev P (.cond c a b) Q env H := (Ev_cond hc).2 k
theorem Ev_cs {t : Bool} (k1 : t = true → Ev P a Q env H) (k2 : t = false → Ev P b Q env H) (hc : evo env c = vbool t := by rfl) : Ev P (.cond c a b) Q env H := by
  cases t
  · exact Ev_cf (k2 rfl) hc
  · exact Ev_ct (k1 rfl) hc
theorem Ev_cd {p : Prop} [Decidable p] (k1 : p → Ev P a Q env H) (k2 : ¬p → Ev P b Q env H) (hc : evo env c = vbool (decide p) := by rfl) : Ev P (.cond c a b) Q env H := Ev_cs (fun h => k1 (of_decide_eq_true h)) (fun h => k2 (of_decide_eq_false h)) hc
theorem Ev_cn {p : Prop} [Decidable p] (k1 : ¬p → Ev P a Q env H) (k2 : p → Ev P b Q env H) (hc : evo env c = vbool (decide (¬p)) := by rfl) : Ev P (.cond c a b) Q env H := Ev_cd k1 (fun h => k2 (Decidable.not_not.1 h)) hc
theorem Ev_cm {t : Bool} (k1 : t = false → Ev P a Q env H) (k2 : t = true → Ev P b Q env H) (hc : evo env c = vbool (!t) := by rfl) : Ev P (.cond c a b) Q env H := Ev_cs (fun h => k1 (by simpa using h)) (fun h => k2 (by simpa using h)) hc
theorem form1 {e : Env} {a : Nat} {x : AV} (h1 : e a = x) : ∃ e0, e = upd e0 a x := ⟨e, by rw [upd_self h1]⟩
theorem form2 {e : Env} {a b : Nat} {x y : AV} (h1 : e a = x) (h2 : e b = y) : ∃ e0, e = upd (upd e0 a x) b y := ⟨e, by rw [upd_self h1, upd_self h2]⟩
theorem form3 {e : Env} {a b c : Nat} {x y z : AV} (h1 : e a = x) (h2 : e b = y) (h3 : e c = z) : ∃ e0, e = upd (upd (upd e0 a x) b y) c z := ⟨e, by rw [upd_self h1, upd_self h2, upd_self h3]⟩
theorem form4 {e : Env} {a b c d : Nat} {x y z w : AV} (h1 : e a = x) (h2 : e b = y) (h3 : e c = z) (h4 : e d = w) : ∃ e0, e = upd (upd (upd (upd e0 a x) b y) c z) d w := ⟨e, by rw [upd_self h1, upd_self h2, upd_self h3, upd_self h4]⟩
theorem form5 {e : Env} {a b c d g : Nat} {x y z w u : AV} (h1 : e a = x) (h2 : e b = y) (h3 : e c = z) (h4 : e d = w) (h5 : e g = u) : ∃ e0, e = upd (upd (upd (upd (upd e0 a x) b y) c z) d w) g u := ⟨e, by rw [upd_self h1, upd_self h2, upd_self h3, upd_self h4, upd_self h5]⟩
theorem form6 {e : Env} {a b c d g k : Nat} {x y z w u v : AV} (h1 : e a = x) (h2 : e b = y) (h3 : e c = z) (h4 : e d = w) (h5 : e g = u) (h6 : e k = v) : ∃ e0, e = upd (upd (upd (upd (upd (upd e0 a x) b y) c z) d w) g u) k v := ⟨e, by rw [upd_self h1, upd_self h2, upd_self h3, upd_self h4, upd_self h5, upd_self h6]⟩
theorem form7 {e : Env} {a b c d g k p : Nat} {x y z w u v q : AV} (h1 : e a = x) (h2 : e b = y) (h3 : e c = z) (h4 : e d = w) (h5 : e g = u) (h6 : e k = v) (h7 : e p = q) : ∃ e0, e = upd (upd (upd (upd (upd (upd (upd e0 a x) b y) c z) d w) g u) k v) p q := ⟨e, by rw [upd_self h1, upd_self h2, upd_self h3, upd_self h4, upd_self h5, upd_self h6, upd_self h7]⟩
theorem form8 {e : Env} {a b c d g k p s : Nat} {x y z w u v q t : AV} (h1 : e a = x) (h2 : e b = y) (h3 : e c = z) (h4 : e d = w) (h5 : e g = u) (h6 : e k = v) (h7 : e p = q) (h8 : e s = t) : ∃ e0, e = upd (upd (upd (upd (upd (upd (upd (upd e0 a x) b y) c z) d w) g u) k v) p q) s t := ⟨e, by rw [upd_self h1, upd_self h2, upd_self h3, upd_self h4, upd_self h5, upd_self h6, upd_self h7, upd_self h8]⟩
theorem take_any {α : Type} {p : α → Bool} {l : List α} {i : Nat} {x : α} (h : (l.take i).any p = false) (hx : l[i]? = some x) (hp : p x = false) : (l.take (i + 1)).any p = false := by
  rw [List.take_add_one, hx]
  simp [List.any_append, h, hp]
theorem any_true {α : Type} {p : α → Bool} {l : List α} {i : Nat} {x : α} (hx : l[i]? = some x) (hp : p x = true) : l.any p = true := by
  rw [List.any_eq_true]
  exact ⟨x, List.mem_of_getElem? hx, hp⟩
theorem Cc_fn {f : FuncId} {args : List AV} {H : AH} {R : AV → Eff → Prop} (h : Cv P f args H R) : Cc P (.fn (.func f) [] []) args H R := Cc_func.2 (by simpa using h)
/-- A loop that counts up to a bound. -/
theorem Ev_for (N : Nat) (J : Nat → Env → AH → Prop) (step : ∀ i e h, i ≤ N → J i e h → Ev P a (thenQ (fun e h => i < N ∧ J (i + 1) e h) Q) e h) (h0 : J 0 env H) : Ev P (.loop a) Q env H := by
  refine Ev.loop (fun m e h => ∃ i, m = N - i ∧ i ≤ N ∧ J i e h) ?_ ⟨0, rfl, Nat.zero_le _, h0⟩
  rintro m e h ⟨i, rfl, hi, hj⟩
  refine (step i e h hi hj).mono (fun x e h hq => ?_)
  cases x with
  | normal => exact ⟨N - (i + 1), by have := hq.1; omega, i + 1, rfl, hq.1, hq.2⟩
  | jump j => exact hq
/-- A loop that counts up from a number to a bound. -/
theorem Ev_from (N k : Nat) (hk : k ≤ N) (J : Nat → Env → AH → Prop) (step : ∀ i e h, k ≤ i → i ≤ N → J i e h → Ev P a (thenQ (fun e h => i < N ∧ J (i + 1) e h) Q) e h) (h0 : J k env H) : Ev P (.loop a) Q env H := by
  refine Ev.loop (fun m e h => ∃ i, m = N - i ∧ k ≤ i ∧ i ≤ N ∧ J i e h) ?_ ⟨k, rfl, Nat.le_refl _, hk, h0⟩
  rintro m e h ⟨i, rfl, hk, hi, hj⟩
  refine (step i e h hk hi hj).mono (fun x e h hq => ?_)
  cases x with
  | normal => exact ⟨N - (i + 1), by have := hq.1; omega, i + 1, rfl, by omega, hq.1, hq.2⟩
  | jump j => exact hq
theorem vint_s {i : Nat} : vint ((i : Int) + 1) = vint ((i + 1 : Nat) : Int) := rfl
theorem drop_at {α : Type} {l : List α} {i : Nat} {x : α} (h : l[i]? = some x) : l.drop i = x :: l.drop (i + 1) := by
  obtain ⟨h1, h2⟩ := List.getElem?_eq_some_iff.1 h
  rw [List.drop_eq_getElem_cons h1, h2]
theorem all_false {α : Type} {p : α → Bool} {l : List α} {i : Nat} {x : α} (hx : l[i]? = some x) (hp : p x = false) : l.all p = false := by
  rw [List.all_eq_false]
  exact ⟨x, List.mem_of_getElem? hx, by simp [hp]⟩
theorem take_all {α : Type} {p : α → Bool} {l : List α} {i : Nat} {x : α} (h : (l.take i).all p = true) (hx : l[i]? = some x) (hp : p x = true) : (l.take (i + 1)).all p = true := by
  rw [List.take_add_one, hx]
  simp [List.all_append, h, hp]
end
end Go.AM

namespace Go.AM
variable {B : Option Nat}
section
variable {P : Program} {ops : Array Oper} {m : Md} {i : Nat} {r : List Oper} {env : Env} {H : AH} {es : List (Nat × Evt)} {K : Env → AH → List (Nat × Evt) → Prop} {dst : Option Tmp} {ty : TypeId} {pos : String} {after : Array Edge} {op : Op}
section
variable {t t' : TypeId} {x y : Operand} {a b : Bool}
theorem ev_eqb [I : UL P t .bool] : ev P (Op.equal t (.bool a) (.bool b)) = some (a == b) := by
  unfold Op.equal Op.maxDepth
  rw [Op.equalIn, ev_bind, ev_underlying I.eq]
  rfl
theorem So_eqb [I : UL P t .bool] (k : So r P ops m (i + 1) (putE env dst (vbool (decide (a = b)))) H es K) (hx : evo env x = vbool a := by rfl) (hy : evo env y = vbool b := by rfl) : So (⟨dst, .binOp .eql t x y t', ty, pos, after, none⟩ :: r) P ops m i env H es K :=
  So_bin (c := vbool (decide (a = b))) (v := .bool (decide (a = b))) k hx hy (by
    show ev P (Op.equal t (.bool a) (.bool b) >>= fun c => pure (Value.bool c)) = _
    rw [ev_bind, ev_eqb]; cases a <;> cases b <;> rfl) rfl
theorem So_neb [I : UL P t .bool] (k : So r P ops m (i + 1) (putE env dst (vbool (decide (a ≠ b)))) H es K) (hx : evo env x = vbool a := by rfl) (hy : evo env y = vbool b := by rfl) : So (⟨dst, .binOp .neq t x y t', ty, pos, after, none⟩ :: r) P ops m i env H es K :=
  So_bin (c := vbool (decide (a ≠ b))) (v := .bool (decide (a ≠ b))) k hx hy (by
    show ev P (Op.equal t (.bool a) (.bool b) >>= fun c => pure (Value.bool !c)) = _
    rw [ev_bind, ev_eqb]; cases a <;> cases b <;> rfl) rfl
end

/-- The heap below is as it was. -/
structure Fr (H H' : AH) : Prop where
  nx : H.nx ≤ H'.nx
  old : ∀ j, j < H.nx → H'.bl j = H.bl j
theorem Fr.refl (H : AH) : Fr H H := ⟨Nat.le_refl _, fun _ _ => rfl⟩
theorem Fr.trans {A B C : AH} (h : Fr A B) (g : Fr B C) : Fr A C := ⟨Nat.le_trans h.nx g.nx, fun j hj => (g.old j (Nat.lt_of_lt_of_le hj h.nx)).trans (h.old j hj)⟩
theorem HsB.fr {H0 H : AH} {l : List (Nat × Blk)} (h : HsB B H0 H l) : Fr H0 H := ⟨h.nx, h.old⟩
theorem Sl.fr {H H' : AH} {sz : Nat} {c : Cell} {rows : List (List Cell)} (h : Sl H sz c rows) (f : Fr H H') : Sl H' sz c rows :=
  ⟨rw_frame h.toRw (fun k hk => f.old k (h.refs k hk)), fun k hk => Nat.lt_of_lt_of_le (h.refs k hk) f.nx⟩
/-- A box of somebody else's. -/
structure Bx (H : AH) (h : Nat) (cs : List Cell) : Prop where
  lt : h < H.nx
  eq : H.bl h = .box cs
theorem Bx.fr {H H' : AH} {h : Nat} {cs : List Cell} (b : Bx H h cs) (f : Fr H H') : Bx H' h cs := ⟨Nat.lt_of_lt_of_le b.lt f.nx, (f.old h b.lt).trans b.eq⟩
theorem HsB.bx {H0 H : AH} {l : List (Nat × Blk)} {h : Nat} {cs : List Cell} (hs : HsB B H0 H l) (hb : (h, .box cs) ∈ l) : Bx H h cs := ⟨(hs.ge _ hb).2, hs.at_ _ hb⟩
section
variable {x : Operand} {t : TypeId} {H0 : AH} {l : List (Nat × Blk)}
theorem So_lp {h o : Nat} {cs : List Cell} {c : Cell} [I : AG P t false] (k : So r P ops m (i + 1) (putE env dst (.one c)) H (ad m es i (rdE [h])) K) (hx : evo env x = .one (.bp h o) := by rfl) (hs : HsB B H0 H l := by assumption) (hb : Bx H0 h cs := by assumption) (hc : cs[o]? = some c := by rfl) :
    So (⟨dst, .load t x, ty, pos, after, none⟩ :: r) P ops m i env H es K := by
  refine So_rd rfl (by intros; simp) (l := [h]) ?_ (by simp [looks, hx, refsV, refsC]) k
  have hb := (hb.fr hs.fr).eq
  have hlt := (List.getElem?_eq_some_iff.1 hc).1
  simp only [aop, hx, AV.cell, I.eq, rdPtr, hb, if_pos (show o + 1 ≤ cs.length from hlt), take1 hc]
theorem So_lpa {h o n : Nat} {cs : List Cell} [I : AG P t true] [J : SZ P t n] (k : So r P ops m (i + 1) (putE env dst (.agg ((cs.drop o).take n))) H (ad m es i (rdE [h])) K) (hx : evo env x = .one (.bp h o) := by rfl) (hs : HsB B H0 H l := by assumption) (hb : Bx H0 h cs := by assumption) (hl : o + n ≤ cs.length := by exact Nat.le_of_ble_eq_true rfl) :
    So (⟨dst, .load t x, ty, pos, after, none⟩ :: r) P ops m i env H es K := by
  refine So_rd rfl (by intros; simp) (l := [h]) ?_ (by simp [looks, hx, refsV, refsC]) k
  have hb := (hb.fr hs.fr).eq
  simp only [aop, hx, AV.cell, I.eq, J.eq, rdPtr, hb, if_pos hl]
  rfl
end
theorem plain_b2 {o : Oper} {b : Builtin} {x y : Operand} {ats : Array TypeId} {u w v : Value} {c : AV} (hop : o.op = .call { callee := .builtin b, args := #[x, y], argTypes := ats }) (hx : evo env x = .one (.sc u)) (hy : evo env y = .one (.sc w))
    (he : ev P (do invoke (.builtin b ats o.type (#[x, y].map fun | .const _ => true | _ => false)) #[u, w]) = some (.value v)) (hv : ofV v = some c) : plainOp P env o = some (c, none) := by
  unfold plainOp
  rw [if_pos (by rw [hop]; simp [Op.operands, Call.operands, hx, hy, AV.toV, Cell.toV])]
  have : ev P (execOp (fun x => ((evo env x).toV).getD undef) o) = some (.value v) := by
    unfold execOp
    rw [hop]
    simp only [resolve, List.map_toArray, List.map_cons, List.map_nil, hx, hy, AV.toV, Cell.toV, Option.getD_some, pure_bind] at he ⊢
    exact he
  rw [this]
  simp only [hv]
  rfl
theorem So_min {x y : Operand} {ats : Array TypeId} {a b : Int} (k : So r P ops m (i + 1) (putE env dst (vint (min a b))) H es K) (hx : evo env x = vint a := by rfl) (hy : evo env y = vint b := by rfl) :
    So (⟨dst, .call { callee := .builtin .min, args := #[x, y], argTypes := ats }, ty, pos, after, none⟩ :: r) P ops m i env H es K := by
  have e : (if b < a then b else a) = min a b := by split <;> omega
  rw [← e] at k
  refine So_pure rfl (by intros; simp) ?_ (by simp [looks, hx, hy, refsV, refsC]) k
  simp only [aop, aopBuiltin]
  exact plain_b2 (v := .int .i64 (if b < a then b else a)) rfl hx hy rfl rfl
theorem So_max {x y : Operand} {ats : Array TypeId} {a b : Int} (k : So r P ops m (i + 1) (putE env dst (vint (max a b))) H es K) (hx : evo env x = vint a := by rfl) (hy : evo env y = vint b := by rfl) :
    So (⟨dst, .call { callee := .builtin .max, args := #[x, y], argTypes := ats }, ty, pos, after, none⟩ :: r) P ops m i env H es K := by
  have e : (if b > a then b else a) = max a b := by split <;> omega
  rw [← e] at k
  refine So_pure rfl (by intros; simp) ?_ (by simp [looks, hx, hy, refsV, refsC]) k
  simp only [aop, aopBuiltin]
  exact plain_b2 (v := .int .i64 (if b > a then b else a)) rfl hx hy rfl rfl
end
theorem dT {p : Prop} [Decidable p] (h : p) : vbool true = vbool (decide p) := congrArg vbool (decide_eq_true h).symm
theorem dF {p : Prop} [Decidable p] (h : ¬p) : vbool false = vbool (decide p) := congrArg vbool (decide_eq_false h).symm
theorem dI {p q : Prop} [Decidable p] [Decidable q] (h : p ↔ q) : vbool (decide p) = vbool (decide q) := congrArg vbool (decide_eq_decide.2 h)
theorem getD_in {α : Type} {l : List α} {i : Nat} (h : i < l.length) : ∃ x, l[i]? = some x ∧ x ∈ l := ⟨_, List.getElem?_eq_getElem h, List.getElem_mem h⟩
theorem uniq {α : Type} {o : Option α} {x y : α} (h : o = some x) (g : o = some y) : x = y := by rw [h] at g; injection g
end Go.AM

namespace Go.AM
variable {B : Option Nat}
def AllOk (bits : Array Nat) (es : List (Nat × Evt)) (j : Nat) (d : Evt) : Prop := ∀ e ∈ es, e.2.conf d = false ∨ (bits.getD j 0).testBit e.1 = true
theorem all_nil {bits : Array Nat} {j : Nat} {d : Evt} : AllOk bits [] j d := fun _ h => by simp at h
theorem all_ad {bits : Array Nat} {es : List (Nat × Evt)} {j : Nat} {d : Evt} {i : Nat} {e : Evt} (h : AllOk bits es j d) (h2 : e.conf d = false ∨ (bits.getD j 0).testBit i = true) : AllOk bits (ad .tr es i e) j d := by
  intro x hx
  unfold ad at hx
  simp only at hx
  split at hx
  · rcases List.mem_append.1 hx with hx | hx
    · exact h x hx
    · simp at hx; subst hx; exact h2
  · exact h x hx
theorem ok_nil {bits : Array Nat} : ordOk bits [] = true := rfl
theorem ok_snoc {bits : Array Nat} {d : Nat × Evt} : ∀ {es : List (Nat × Evt)}, ordOk bits es = true → AllOk bits es d.1 d.2 → ordOk bits (es ++ [d]) = true := by
  intro es
  induction es with
  | nil => intro _ _; rfl
  | cons e es ih =>
    intro h ha
    simp only [ordOk, List.cons_append, Bool.and_eq_true, List.all_eq_true, Bool.or_eq_true, Bool.not_eq_true'] at h ⊢
    refine ⟨fun x hx => ?_, ih h.2 (fun y hy => ha y (by simp [hy]))⟩
    rcases List.mem_append.1 hx with hx | hx
    · exact h.1 x hx
    · simp at hx; subst hx; exact ha e (by simp)
theorem ok_ad {bits : Array Nat} {es : List (Nat × Evt)} {i : Nat} {e : Evt} (h : ordOk bits es = true) (h2 : AllOk bits es i e) : ordOk bits (ad .tr es i e) = true := by
  unfold ad
  simp only
  split
  · exact ok_snoc h h2
  · exact h
theorem conf_rr {a b : List Nat} : (rdE a).conf (rdE b) = false := by simp [Evt.conf]
theorem conf_rc {a : List Nat} : (rdE a).conf clE = false := by simp [Evt.conf]
theorem conf_cr {a : List Nat} : clE.conf (rdE a) = false := by simp [Evt.conf]
theorem conf_cc : clE.conf clE = false := by simp [Evt.conf]
theorem conf_cw {l : List Nat} {h : Nat} : clE.conf (wrE l h true) = false := by simp [Evt.conf]
theorem conf_wr {l b : List Nat} {h : Nat} {f : Bool} (hn : h ∉ b) : (wrE l h f).conf (rdE b) = false := by simp [Evt.conf, hn]
theorem conf_rw {a l : List Nat} {h : Nat} {f : Bool} (hn : h ∉ a) : (rdE a).conf (wrE l h f) = false := by simp [Evt.conf, hn]
theorem conf_ww {a b : List Nat} {h g : Nat} {f f' : Bool} (h1 : h ∉ b) (h2 : g ≠ h) (h3 : g ∉ a) : (wrE a h f).conf (wrE b g f') = false := by simp [Evt.conf, h1, h2, h3]
theorem conf_rm {a : List Nat} {h : Nat} (hn : h ∉ a) : (rdE a).conf (mdE h) = false := by simp [Evt.conf, hn]
theorem conf_mr {b : List Nat} {h : Nat} (hn : h ∉ b) : (mdE h).conf (rdE b) = false := by simp [Evt.conf, hn]
theorem conf_mw {b : List Nat} {h g : Nat} (hn : h ∉ b) (h2 : g ≠ h) : (mdE h).conf (wrE b g true) = false := by simp [Evt.conf, hn, h2]
theorem conf_cm {h : Nat} : clE.conf (mdE h) = false := by simp [Evt.conf]
theorem Sl.ni {H0 H : AH} {l : List (Nat × Blk)} {sz : Nat} {c : Cell} {rows : List (List Cell)} {k : Nat} {b : Blk} (hc : Sl H0 sz c rows) (hs : HsB B H0 H l) (hm : (k, b) ∈ l) : k ∉ refsC c := fun h => by
  have h1 := hc.refs k h
  have h2 := (hs.ge _ hm).1
  simp only at h2
  omega
theorem Bx.ne {H0 H : AH} {l : List (Nat × Blk)} {cs : List Cell} {k h : Nat} {b : Blk} (hb : Bx H0 h cs) (hs : HsB B H0 H l) (hm : (k, b) ∈ l) : k ∉ [h] := fun e => by
  have h1 := hb.lt
  have h2 := (hs.ge _ hm).1
  simp only at h2
  simp at e
  omega
theorem ni_nil {k : Nat} : k ∉ ([] : List Nat) := by simp
theorem ni_cons {k h : Nat} {l : List Nat} (h1 : k ≠ h) (h2 : k ∉ l) : k ∉ h :: l := by simp [h1, h2]
theorem ni_one {k h : Nat} (hn : k ≠ h) : k ∉ [h] := by simpa using hn
section
variable {P : Program} {ops : Array Oper} {m : Md} {i : Nat} {r : List Oper} {env : Env} {H : AH} {es : List (Nat × Evt)} {K : Env → AH → List (Nat × Evt) → Prop} {dst : Option Tmp} {ty : TypeId} {pos : String} {after : Array Edge} {op : Op}
/-! What comes next: to choose among the rules. -/
theorem q_mv {x : Operand} (k : So (⟨dst, .move x, ty, pos, after, none⟩ :: r) P ops m i env H es K) : So (⟨dst, .move x, ty, pos, after, none⟩ :: r) P ops m i env H es K := k
theorem q_as {x : Operand} (k : So (⟨dst, .assign x, ty, pos, after, none⟩ :: r) P ops m i env H es K) : So (⟨dst, .assign x, ty, pos, after, none⟩ :: r) P ops m i env H es K := k
theorem q_ld {t : TypeId} {x : Operand} (k : So (⟨dst, .load t x, ty, pos, after, none⟩ :: r) P ops m i env H es K) : So (⟨dst, .load t x, ty, pos, after, none⟩ :: r) P ops m i env H es K := k
theorem q_fa {s : TypeId} {x : Operand} {f : Nat} (k : So (⟨dst, .fieldAddr s x f, ty, pos, after, none⟩ :: r) P ops m i env H es K) : So (⟨dst, .fieldAddr s x f, ty, pos, after, none⟩ :: r) P ops m i env H es K := k
theorem q_f {s : TypeId} {x : Operand} {f : Nat} (k : So (⟨dst, .field s x f, ty, pos, after, none⟩ :: r) P ops m i env H es K) : So (⟨dst, .field s x f, ty, pos, after, none⟩ :: r) P ops m i env H es K := k
theorem q_len {a : Array Operand} {t : Array TypeId} (k : So (⟨dst, .call { callee := .builtin .len, args := a, argTypes := t }, ty, pos, after, none⟩ :: r) P ops m i env H es K) : So (⟨dst, .call { callee := .builtin .len, args := a, argTypes := t }, ty, pos, after, none⟩ :: r) P ops m i env H es K := k
theorem q_bi {b : Builtin} {a : Array Operand} {t : Array TypeId} (k : So (⟨dst, .call { callee := .builtin b, args := a, argTypes := t }, ty, pos, after, none⟩ :: r) P ops m i env H es K) : So (⟨dst, .call { callee := .builtin b, args := a, argTypes := t }, ty, pos, after, none⟩ :: r) P ops m i env H es K := k
theorem q_cl {f : Operand} {a : Array Operand} {t : Array TypeId} (k : So (⟨dst, .call { callee := .value f, args := a, argTypes := t }, ty, pos, after, none⟩ :: r) P ops m i env H es K) : So (⟨dst, .call { callee := .value f, args := a, argTypes := t }, ty, pos, after, none⟩ :: r) P ops m i env H es K := k
theorem q_ia {t : TypeId} {x y : Operand} (k : So (⟨dst, .indexAddr t x y, ty, pos, after, none⟩ :: r) P ops m i env H es K) : So (⟨dst, .indexAddr t x y, ty, pos, after, none⟩ :: r) P ops m i env H es K := k
theorem q_bin {b : BinOp} {t t1 : TypeId} {x y : Operand} (k : So (⟨dst, .binOp b t x y t1, ty, pos, after, none⟩ :: r) P ops m i env H es K) : So (⟨dst, .binOp b t x y t1, ty, pos, after, none⟩ :: r) P ops m i env H es K := k
theorem q_pk {c x y : Operand} (k : So (⟨dst, .pick c x y, ty, pos, after, none⟩ :: r) P ops m i env H es K) : So (⟨dst, .pick c x y, ty, pos, after, none⟩ :: r) P ops m i env H es K := k
theorem q_un {u : UnOp} {t : TypeId} {x : Operand} (k : So (⟨dst, .unOp u t x, ty, pos, after, none⟩ :: r) P ops m i env H es K) : So (⟨dst, .unOp u t x, ty, pos, after, none⟩ :: r) P ops m i env H es K := k
theorem q_ex {x : Operand} {j : Nat} (k : So (⟨dst, .extract x j, ty, pos, after, none⟩ :: r) P ops m i env H es K) : So (⟨dst, .extract x j, ty, pos, after, none⟩ :: r) P ops m i env H es K := k
theorem q_st {t : TypeId} {x y : Operand} (k : So (⟨dst, .store t x y, ty, pos, after, none⟩ :: r) P ops m i env H es K) : So (⟨dst, .store t x y, ty, pos, after, none⟩ :: r) P ops m i env H es K := k
theorem q_nt (k : So [] P ops .tr i env H es K) : So [] P ops .tr i env H es K := k
theorem q_nil (k : So [] P ops m i env H es K) : So [] P ops m i env H es K := k
theorem q_g {g : Nat × Bool} (k : So (⟨dst, op, ty, pos, after, some g⟩ :: r) P ops m i env H es K) : So (⟨dst, op, ty, pos, after, some g⟩ :: r) P ops m i env H es K := k
theorem q_ev {c : Code} {Q : AX → Env → AH → Prop} (k : Ev P c Q env H) : Ev P c Q env H := k
theorem q_rt {fn : Func} {H0 : AH} {R : AV → Prop} {x : AX} (k : Rt P fn H0 R x env H) : Rt P fn H0 R x env H := k
end
section
variable {P : Program} {ops : Array Oper} {i : Nat} {env : Env} {H H0 : AH} {es : List (Nat × Evt)} {l : List (Nat × Blk)}
theorem So_nilP {bits : Array Nat} {Q : Env → AH → Prop} (h : Q env H) (hso : l.Pairwise (fun a b => a.1 ≠ b.1))
    (hb : ordOk bits es = true := by
      repeat' (first
        | with_reducible apply ok_ad | with_reducible apply all_ad | with_reducible apply ok_nil | with_reducible apply all_nil
        | (with_reducible apply Or.inl; first | with_reducible apply conf_rr | with_reducible apply conf_rc | with_reducible apply conf_cr | with_reducible apply conf_cc | with_reducible apply conf_cw | with_reducible apply conf_cm)
        | (with_reducible apply Or.inr; decide +kernel)
        | (with_reducible apply Or.inl; first | with_reducible apply conf_wr | with_reducible apply conf_rw | with_reducible apply conf_ww | with_reducible apply conf_rm | with_reducible apply conf_mr | with_reducible apply conf_mw)
        | apply ni_nil | ((with_reducible apply ni_one); apply Apart.ne hso; (focus ((repeat (first | (apply Apart.hd; (focus ((repeat (first | apply List.Mem.head | apply List.Mem.tail | (apply List.mem_append_left; assumption) | apply List.mem_append_right | assumption | (apply Inl.mem; assumption; assumption))); first | done | fail))) | (apply Apart.hd'; (focus ((repeat (first | apply List.Mem.head | apply List.Mem.tail | (apply List.mem_append_left; assumption) | apply List.mem_append_right | assumption | (apply Inl.mem; assumption; assumption))); first | done | fail))) | apply Apart.tl | (apply Apart.ap; assumption; (focus ((repeat (first | apply List.Mem.head | apply List.Mem.tail | (apply List.mem_append_left; assumption) | apply List.mem_append_right | assumption | (apply Inl.mem; assumption; assumption))); first | done | fail))) | (apply Apart.ap'; assumption; (focus ((repeat (first | apply List.Mem.head | apply List.Mem.tail | (apply List.mem_append_left; assumption) | apply List.mem_append_right | assumption | (apply Inl.mem; assumption; assumption))); first | done | fail))) | apply Apart.right)); first | done | fail))) | ((with_reducible apply Apart.ne hso); (focus ((repeat (first | (apply Apart.hd; (focus ((repeat (first | apply List.Mem.head | apply List.Mem.tail | (apply List.mem_append_left; assumption) | apply List.mem_append_right | assumption | (apply Inl.mem; assumption; assumption))); first | done | fail))) | (apply Apart.hd'; (focus ((repeat (first | apply List.Mem.head | apply List.Mem.tail | (apply List.mem_append_left; assumption) | apply List.mem_append_right | assumption | (apply Inl.mem; assumption; assumption))); first | done | fail))) | apply Apart.tl | (apply Apart.ap; assumption; (focus ((repeat (first | apply List.Mem.head | apply List.Mem.tail | (apply List.mem_append_left; assumption) | apply List.mem_append_right | assumption | (apply Inl.mem; assumption; assumption))); first | done | fail))) | (apply Apart.ap'; assumption; (focus ((repeat (first | apply List.Mem.head | apply List.Mem.tail | (apply List.mem_append_left; assumption) | apply List.mem_append_right | assumption | (apply Inl.mem; assumption; assumption))); first | done | fail))) | apply Apart.right)); first | done | fail))) | with_reducible apply ni_cons | (change _ ∉ []; exact ni_nil) | (change _ ∉ [_]; apply ni_one; apply Apart.ne hso; (focus ((repeat (first | (apply Apart.hd; (focus ((repeat (first | apply List.Mem.head | apply List.Mem.tail | (apply List.mem_append_left; assumption) | apply List.mem_append_right | assumption | (apply Inl.mem; assumption; assumption))); first | done | fail))) | (apply Apart.hd'; (focus ((repeat (first | apply List.Mem.head | apply List.Mem.tail | (apply List.mem_append_left; assumption) | apply List.mem_append_right | assumption | (apply Inl.mem; assumption; assumption))); first | done | fail))) | apply Apart.tl | (apply Apart.ap; assumption; (focus ((repeat (first | apply List.Mem.head | apply List.Mem.tail | (apply List.mem_append_left; assumption) | apply List.mem_append_right | assumption | (apply Inl.mem; assumption; assumption))); first | done | fail))) | (apply Apart.ap'; assumption; (focus ((repeat (first | apply List.Mem.head | apply List.Mem.tail | (apply List.mem_append_left; assumption) | apply List.mem_append_right | assumption | (apply Inl.mem; assumption; assumption))); first | done | fail))) | apply Apart.right)); first | done | fail))) | omega
        | (apply Sl.ni; assumption; assumption; (focus ((repeat (first | apply List.Mem.head | apply List.Mem.tail | (apply List.mem_append_left; assumption) | apply List.mem_append_right | assumption | (apply Inl.mem; assumption; assumption))); first | done | fail)))
        | (apply Bx.ne; assumption; assumption; (focus ((repeat (first | apply List.Mem.head | apply List.Mem.tail | (apply List.mem_append_left; assumption) | apply List.mem_append_right | assumption | (apply Inl.mem; assumption; assumption))); first | done | fail))))) :
    So [] P ops .tr i env H es (fun e h es => ordOk bits es = true ∧ Q e h) := ⟨⟨hb, h⟩⟩
theorem So_nilR {bits : Array Nat} {Q : Env → AH → Prop} (h : Q env H) (hs : HsB B H0 H l := by assumption)
    (hb : l.Pairwise (fun a b => a.1 ≠ b.1) → ordOk bits es = true := by
      intro hso
      repeat' (first
        | with_reducible apply ok_ad | with_reducible apply all_ad | with_reducible apply ok_nil | with_reducible apply all_nil
        | (with_reducible apply Or.inl; first | with_reducible apply conf_rr | with_reducible apply conf_rc | with_reducible apply conf_cr | with_reducible apply conf_cc | with_reducible apply conf_cw | with_reducible apply conf_cm)
        | (with_reducible apply Or.inr; decide +kernel)
        | (with_reducible apply Or.inl; first | with_reducible apply conf_wr | with_reducible apply conf_rw | with_reducible apply conf_ww | with_reducible apply conf_rm | with_reducible apply conf_mr | with_reducible apply conf_mw)
        | apply ni_nil | ((with_reducible apply ni_one); apply Apart.ne hso; (focus ((repeat (first | (apply Apart.hd; (focus ((repeat (first | apply List.Mem.head | apply List.Mem.tail | (apply List.mem_append_left; assumption) | apply List.mem_append_right | assumption | (apply Inl.mem; assumption; assumption))); first | done | fail))) | (apply Apart.hd'; (focus ((repeat (first | apply List.Mem.head | apply List.Mem.tail | (apply List.mem_append_left; assumption) | apply List.mem_append_right | assumption | (apply Inl.mem; assumption; assumption))); first | done | fail))) | apply Apart.tl | (apply Apart.ap; assumption; (focus ((repeat (first | apply List.Mem.head | apply List.Mem.tail | (apply List.mem_append_left; assumption) | apply List.mem_append_right | assumption | (apply Inl.mem; assumption; assumption))); first | done | fail))) | (apply Apart.ap'; assumption; (focus ((repeat (first | apply List.Mem.head | apply List.Mem.tail | (apply List.mem_append_left; assumption) | apply List.mem_append_right | assumption | (apply Inl.mem; assumption; assumption))); first | done | fail))) | apply Apart.right)); first | done | fail))) | ((with_reducible apply Apart.ne hso); (focus ((repeat (first | (apply Apart.hd; (focus ((repeat (first | apply List.Mem.head | apply List.Mem.tail | (apply List.mem_append_left; assumption) | apply List.mem_append_right | assumption | (apply Inl.mem; assumption; assumption))); first | done | fail))) | (apply Apart.hd'; (focus ((repeat (first | apply List.Mem.head | apply List.Mem.tail | (apply List.mem_append_left; assumption) | apply List.mem_append_right | assumption | (apply Inl.mem; assumption; assumption))); first | done | fail))) | apply Apart.tl | (apply Apart.ap; assumption; (focus ((repeat (first | apply List.Mem.head | apply List.Mem.tail | (apply List.mem_append_left; assumption) | apply List.mem_append_right | assumption | (apply Inl.mem; assumption; assumption))); first | done | fail))) | (apply Apart.ap'; assumption; (focus ((repeat (first | apply List.Mem.head | apply List.Mem.tail | (apply List.mem_append_left; assumption) | apply List.mem_append_right | assumption | (apply Inl.mem; assumption; assumption))); first | done | fail))) | apply Apart.right)); first | done | fail))) | with_reducible apply ni_cons | (change _ ∉ []; exact ni_nil) | (change _ ∉ [_]; apply ni_one; apply Apart.ne hso; (focus ((repeat (first | (apply Apart.hd; (focus ((repeat (first | apply List.Mem.head | apply List.Mem.tail | (apply List.mem_append_left; assumption) | apply List.mem_append_right | assumption | (apply Inl.mem; assumption; assumption))); first | done | fail))) | (apply Apart.hd'; (focus ((repeat (first | apply List.Mem.head | apply List.Mem.tail | (apply List.mem_append_left; assumption) | apply List.mem_append_right | assumption | (apply Inl.mem; assumption; assumption))); first | done | fail))) | apply Apart.tl | (apply Apart.ap; assumption; (focus ((repeat (first | apply List.Mem.head | apply List.Mem.tail | (apply List.mem_append_left; assumption) | apply List.mem_append_right | assumption | (apply Inl.mem; assumption; assumption))); first | done | fail))) | (apply Apart.ap'; assumption; (focus ((repeat (first | apply List.Mem.head | apply List.Mem.tail | (apply List.mem_append_left; assumption) | apply List.mem_append_right | assumption | (apply Inl.mem; assumption; assumption))); first | done | fail))) | apply Apart.right)); first | done | fail))) | omega
        | (apply Sl.ni; assumption; assumption; (focus ((repeat (first | apply List.Mem.head | apply List.Mem.tail | (apply List.mem_append_left; assumption) | apply List.mem_append_right | assumption | (apply Inl.mem; assumption; assumption))); first | done | fail)))
        | (apply Bx.ne; assumption; assumption; (focus ((repeat (first | apply List.Mem.head | apply List.Mem.tail | (apply List.mem_append_left; assumption) | apply List.mem_append_right | assumption | (apply Inl.mem; assumption; assumption))); first | done | fail))))) :
    So [] P ops .tr i env H es (fun e h es => ordOk bits es = true ∧ Q e h) := ⟨⟨hb hs.srt, h⟩⟩
end
end Go.AM

namespace Go.AM
variable {B : Option Nat}
section
variable {P : Program} {ops : Array Oper} {m : Md} {i : Nat} {r : List Oper} {env : Env} {H H0 : AH} {es : List (Nat × Evt)} {K : Env → AH → List (Nat × Evt) → Prop} {dst : Option Tmp} {ty : TypeId} {pos : String} {after : Array Edge} {op : Op} {l : List (Nat × Blk)}
theorem bound_n {i : Int} {j d : Nat} (h : IsN i j) : boundA (some (vint i)) d = some j := by
  have := h.eq
  simp only [boundA, intOf?]
  rw [if_pos (by omega)]
  congr
  omega
section
variable {α : Type} {t e : TypeId} {sz : Nat} {f : α → List Cell} {ll : List α} {x : Operand}
theorem So_slice {lo hi : Option Operand} {a b : Nat} [I : UL P t (.slice e)] [J : SZ P e sz] (hx : evo env x = .one (.lst sz (ll.map f))) (hlo : boundA (lo.map (evo env)) 0 = some a) (hhi : boundA (hi.map (evo env)) ll.length = some b) (hab : a ≤ b ∧ b ≤ ll.length)
    (k : So r P ops m (i + 1) (putE env dst (.one (.lst sz (((ll.drop a).take (b - a)).map f)))) H es K) : So (⟨dst, .slice t x lo hi none, ty, pos, after, none⟩ :: r) P ops m i env H es K := by
  refine So_pure rfl (by intros; simp) ?_ (by simp [looks, hx, refsV, refsC]) k
  simp only [aop, I.eq, hx, AV.cell, J.eq, sliceA, lenOf, rowsOf, if_true, List.length_map, hlo, hhi, if_pos hab, Option.map_none]
  simp [List.map_drop, List.map_take]
theorem So_slh {hi : Operand} {b : Nat} {n : Int} [I : UL P t (.slice e)] [J : SZ P e sz] (k : So r P ops m (i + 1) (putE env dst (.one (.lst sz ((ll.take b).map f)))) H es K) (hx : evo env x = .one (.lst sz (ll.map f)) := by rfl) (hh : evo env hi = vint n := by rfl) (hn : IsN n b := by (first | apply IsN.z | apply IsN.o | apply IsN.s | apply IsN.c | (apply IsN.p IsN.c; omega) | (apply IsN.t; omega))) (hb : b ≤ ll.length := by omega) :
    So (⟨dst, .slice t x none (some hi) none, ty, pos, after, none⟩ :: r) P ops m i env H es K :=
  So_slice (a := 0) (b := b) hx rfl (by rw [Option.map_some, hh]; exact bound_n hn) ⟨Nat.zero_le _, hb⟩ (by rw [List.drop_zero, Nat.sub_zero]; exact k)
theorem So_sll {lo : Operand} {a : Nat} {n : Int} [I : UL P t (.slice e)] [J : SZ P e sz] (k : So r P ops m (i + 1) (putE env dst (.one (.lst sz ((ll.drop a).map f)))) H es K) (hx : evo env x = .one (.lst sz (ll.map f)) := by rfl) (hh : evo env lo = vint n := by rfl) (hn : IsN n a := by (first | apply IsN.z | apply IsN.o | apply IsN.s | apply IsN.c | (apply IsN.p IsN.c; omega) | (apply IsN.t; omega))) (ha : a ≤ ll.length := by omega) :
    So (⟨dst, .slice t x (some lo) none none, ty, pos, after, none⟩ :: r) P ops m i env H es K :=
  So_slice (a := a) (b := ll.length) hx (by rw [Option.map_some, hh]; exact bound_n hn) rfl ⟨ha, Nat.le_refl _⟩ (by rw [List.take_of_length_le (by simp)]; exact k)
theorem q_sl {y z w : Option Operand} (k : So (⟨dst, .slice t x y z w, ty, pos, after, none⟩ :: r) P ops m i env H es K) : So (⟨dst, .slice t x y z w, ty, pos, after, none⟩ :: r) P ops m i env H es K := k
end

/-! Slices of one's own: the block holds a list's elements. -/
section
variable {α : Type} {t : TypeId} {x : Operand} {f : α → List Cell} {ll : List α} {e : α} {sz j o n k0 : Nat}
theorem own_rw {H0 H : AH} {l : List (Nat × Blk)} {h sz n : Nat} {f : α → List Cell} {ll : List α} (hs : HsB B H0 H l) (hm : (h, .arr sz (ll.map f)) ∈ l) (hn : ll.length = n) : Rw H sz (.sl h n 0 n) (ll.map f) := (Sl.arr hs hm (by rw [List.length_map]; exact hn)).toRw
theorem own_sl {H0 H : AH} {l : List (Nat × Blk)} {h sz n : Nat} {f : α → List Cell} {ll : List α} (hs : HsB B H0 H l) (hm : (h, .arr sz (ll.map f)) ∈ l) (hn : ll.length = n) : Sl H sz (.sl h n 0 n) (ll.map f) := Sl.arr hs hm (by rw [List.length_map]; exact hn)
theorem So_lenO {te : TypeId} {h : Nat} [I : UL P t (.slice te)] (k : So r P ops m (i + 1) (putE env dst (vint n)) H (ad m es i (rdE [h])) K) (hx : evo env x = .one (.sl h n 0 n) := by rfl) :
    So (⟨dst, .call { callee := .builtin .len, args := #[x], argTypes := #[t] }, ty, pos, after, none⟩ :: r) P ops m i env H es K := by
  refine So_rd rfl (by intros; simp) (v := vint n) (l := [h]) ?_ (by simp [looks, hx, refsV, refsC]) k
  have h1 : (#[t] : Array TypeId)[0]?.bind P.underlying = some (.slice te) := I.eq
  simp only [aop, aopBuiltin, hx, AV.cell, lenOf, h1]
theorem So_iaO {ix : Operand} {te : TypeId} {h : Nat} {a : Int} [I : UL P t (.slice te)] [J : SZ P te sz] (k : So r P ops m (i + 1) (putE env dst (.one (.ep (.sl h n 0 n) sz j 0))) H (ad m es i (rdE [h])) K) (hx : evo env x = .one (.sl h n 0 n) := by rfl) (hi : evo env ix = vint a := by rfl) (hj : IsN a j := by (first | apply IsN.z | apply IsN.o | apply IsN.s | apply IsN.c | (apply IsN.p IsN.c; omega) | (apply IsN.t; omega))) (hs : HsB B H0 H l := by assumption) (hm : (h, .arr sz (ll.map f)) ∈ l := by (focus ((repeat (first | apply List.Mem.head | apply List.Mem.tail | (apply List.mem_append_left; assumption) | apply List.mem_append_right | assumption | (apply Inl.mem; assumption; assumption))); first | done | fail))) (hn : ll.length = n := by (first | assumption | omega | (simp only [List.length_set, List.length_append, List.length_replicate, List.length_cons, List.length_nil]; omega))) (h0 : j < n := by omega) :
    So (⟨dst, .indexAddr t x ix, ty, pos, after, none⟩ :: r) P ops m i env H es K :=
  So_ia (rows := ll.map f) k hx hi hj (own_rw hs hm hn) (by rw [List.length_map]; omega)
theorem So_lxO {h : Nat} {c : Cell} [I : AG P t false] (k : So r P ops m (i + 1) (putE env dst (.one c)) H (ad m es i (rdE [h])) K) (hx : evo env x = .one (.ep (.sl h n 0 n) sz j o) := by rfl) (hs : HsB B H0 H l := by assumption) (hm : (h, .arr sz (ll.map f)) ∈ l := by (focus ((repeat (first | apply List.Mem.head | apply List.Mem.tail | (apply List.mem_append_left; assumption) | apply List.mem_append_right | assumption | (apply Inl.mem; assumption; assumption))); first | done | fail))) (hn : ll.length = n := by (first | assumption | omega | (simp only [List.length_set, List.length_append, List.length_replicate, List.length_cons, List.length_nil]; omega))) (he : ll[j]? = some e := by assumption) (hc : (f e)[o]? = some c := by rfl) :
    So (⟨dst, .load t x, ty, pos, after, none⟩ :: r) P ops m i env H es K := So_lx k hx (own_rw hs hm hn) he hc
theorem So_lnO {h : Nat} {g : α → Cell} [I : AG P t false] (k : ∀ e, ll[j]? = some e → So r P ops m (i + 1) (putE env dst (.one (g e))) H (ad m es i (rdE [h])) K) (hx : evo env x = .one (.ep (.sl h n 0 n) sz j o) := by rfl) (hs : HsB B H0 H l := by assumption) (hm : (h, .arr sz (ll.map f)) ∈ l := by (focus ((repeat (first | apply List.Mem.head | apply List.Mem.tail | (apply List.mem_append_left; assumption) | apply List.mem_append_right | assumption | (apply Inl.mem; assumption; assumption))); first | done | fail))) (hn : ll.length = n := by (first | assumption | omega | (simp only [List.length_set, List.length_append, List.length_replicate, List.length_cons, List.length_nil]; omega))) (hlt : j < ll.length := by omega) (hc : ∀ e, (f e)[o]? = some (g e) := by exact fun _ => rfl) :
    So (⟨dst, .load t x, ty, pos, after, none⟩ :: r) P ops m i env H es K := So_ln k hx (own_rw hs hm hn) hlt hc
theorem So_lxaO {h w : Nat} [I : AG P t true] [J : SZ P t w] (k : So r P ops m (i + 1) (putE env dst (.agg (((f e).drop o).take w))) H (ad m es i (rdE [h])) K) (hx : evo env x = .one (.ep (.sl h n 0 n) sz j o) := by rfl) (hs : HsB B H0 H l := by assumption) (hm : (h, .arr sz (ll.map f)) ∈ l := by (focus ((repeat (first | apply List.Mem.head | apply List.Mem.tail | (apply List.mem_append_left; assumption) | apply List.mem_append_right | assumption | (apply Inl.mem; assumption; assumption))); first | done | fail))) (hn : ll.length = n := by (first | assumption | omega | (simp only [List.length_set, List.length_append, List.length_replicate, List.length_cons, List.length_nil]; omega))) (he : ll[j]? = some e := by assumption) (hl : ∀ e, o + w ≤ (f e).length := by exact fun _ => Nat.le_of_ble_eq_true rfl) :
    So (⟨dst, .load t x, ty, pos, after, none⟩ :: r) P ops m i env H es K := So_lxa k hx (own_rw hs hm hn) he hl
theorem So_lnaO {h w : Nat} [I : AG P t true] [J : SZ P t w] (k : ∀ e, ll[j]? = some e → So r P ops m (i + 1) (putE env dst (.agg (((f e).drop o).take w))) H (ad m es i (rdE [h])) K) (hx : evo env x = .one (.ep (.sl h n 0 n) sz j o) := by rfl) (hs : HsB B H0 H l := by assumption) (hm : (h, .arr sz (ll.map f)) ∈ l := by (focus ((repeat (first | apply List.Mem.head | apply List.Mem.tail | (apply List.mem_append_left; assumption) | apply List.mem_append_right | assumption | (apply Inl.mem; assumption; assumption))); first | done | fail))) (hn : ll.length = n := by (first | assumption | omega | (simp only [List.length_set, List.length_append, List.length_replicate, List.length_cons, List.length_nil]; omega))) (hlt : j < ll.length := by omega) (hl : ∀ e, o + w ≤ (f e).length := by exact fun _ => Nat.le_of_ble_eq_true rfl) :
    So (⟨dst, .load t x, ty, pos, after, none⟩ :: r) P ops m i env H es K := So_lna k hx (own_rw hs hm hn) hlt hl
/-- A whole element is written. -/
theorem So_stO {y : Operand} {h : Nat} {e' : α} {l' : List (Nat × Blk)} [I : SZ P t sz] (k : ∀ H', HsB B H0 H' l' → So r P ops m (i + 1) (putE env dst .und) H' (ad m es i (wrE [h] h false)) K) (hm : m ≠ .st := by decide) (hx : evo env x = .one (.ep (.sl h n 0 n) sz j 0) := by rfl) (hs : HsB B H0 H l := by assumption) (hb : Put l h (.arr sz (ll.map f)) (.arr sz ((ll.set j e').map f)) l' := by (focus ((repeat (first | apply Put.head | assumption | apply Put.tail | apply Put.right)); first | done | fail))) (hy : (evo env y).cells = some (f e') := by rfl) (hn : ll.length = n := by (first | assumption | omega | (simp only [List.length_set, List.length_append, List.length_replicate, List.length_cons, List.length_nil]; omega))) (hj : j < ll.length := by omega) (hf : ∀ e, (f e).length = sz := by exact fun _ => rfl) :
    So (⟨dst, .store t x y, ty, pos, after, none⟩ :: r) P ops m i env H es K := by
  have hput : putCells (f (ll[j]'hj)) 0 (f e') = f e' := by
    simp [putCells, hf]
  refine So_se (rows := ll.map f) (row := f (ll[j]'hj)) (w := sz) (hf e') hm hx hy hs (by rw [List.getElem?_map, List.getElem?_eq_getElem hj]; rfl) (by rw [List.length_map]; exact hn) (by rw [hf, hf]; omega) ?_ k
  rw [hput, ← List.map_set]
  exact hb
theorem So_ms {te : TypeId} {a : Int} {z : List Cell} {e0 : α} [I : EL P t te sz] [J : ZC P te z] {x' : Operand} (k : ∀ h H', HsB B H0 H' ((h, .arr sz ((List.replicate n e0).map f)) :: l) → So r P ops m (i + 1) (putE env dst (.one (.sl h n 0 n))) H' (ad m es i (wrE [] h true)) K) (hm : m ≠ .st := by decide) (hx : evo env x = vint a := by rfl) (hx' : evo env x' = vint a := by rfl) (hn : IsN a n := by (first | apply IsN.z | apply IsN.o | apply IsN.s | apply IsN.c | (apply IsN.p IsN.c; omega) | (apply IsN.t; omega))) (hz : f e0 = z := by rfl) (hs : HsB B H0 H l := by assumption) (hb : n ≤ 34359738367 := by omega) :
    So (⟨dst, .makeSlice t x x', ty, pos, after, none⟩ :: r) P ops m i env H es K := by
  obtain ⟨i1, z1, h1, h2, h3, h4, h5, h6, h7, h8⟩ := I.eq
  have hzz : z1 = z := by have := J.eq; rw [h4] at this; injection this
  subst hzz
  have hna := hn.eq
  have hbytes : (i1.bytes : Int) * a ≤ 140737488355328 := by
    rw [hna]
    have : i1.bytes * n ≤ 4096 * 34359738367 := Nat.mul_le_mul h8 hb
    have h9 : ((i1.bytes * n : Nat) : Int) ≤ 140737488355328 := by omega
    rw [Int.natCast_mul] at h9
    exact h9
  refine So_aop rfl (by intros; simp) (v := .one (.sl H.nx n 0 n)) (d := some (H.nx, .arr sz ((List.replicate n e0).map f))) ?_ (fun h => absurd h hm) (by
    have := k H.nx _ (hs.new (.arr sz ((List.replicate n e0).map f)))
    simpa [evt, looks] using this)
  simp only [aop, h1, hx, hx', intOf?, h2, h4]
  rw [if_pos ⟨by omega, by omega, by omega, by omega, hbytes, by omega⟩]
  have : a.toNat = n := by omega
  rw [this, h5, List.map_replicate, hz]
end
section
variable {fn : Func} {h : AH} {R : AV → Prop} {x : AX} {e : Env}
theorem Ro1 {t : Nat} {v : AV} (k : R v) (hr : fn.results = #[.tmp t] := by rfl) (hx : x = .normal ∨ x = .jump .ret := by first | exact .inr rfl | exact .inl rfl) (hs : HsB B H0 h l := by assumption) (hv : fz H0 h (e t) v := by (first | apply fz_i | apply fz_b | apply fz_l | apply fz_c | exact fz_o (by assumption) (by (focus ((repeat (first | apply List.Mem.head | apply List.Mem.tail | (apply List.mem_append_left; assumption) | apply List.mem_append_right | assumption | (apply Inl.mem; assumption; assumption))); first | done | fail))) (by (first | assumption | omega | (simp only [List.length_set, List.length_append, List.length_replicate, List.length_cons, List.length_nil]; omega))) (fun _ => rfl))) : Rt P fn H0 R x e h := Rt1 k hr hx hs hv
theorem Ro2 {t u : Nat} {v w : AV} (k : R (.tup [v, w])) (hr : fn.results = #[.tmp t, .tmp u] := by rfl) (hx : x = .normal ∨ x = .jump .ret := by first | exact .inr rfl | exact .inl rfl) (hs : HsB B H0 h l := by assumption) (hv : fz H0 h (e t) v := by (first | apply fz_i | apply fz_b | apply fz_l | apply fz_c | exact fz_o (by assumption) (by (focus ((repeat (first | apply List.Mem.head | apply List.Mem.tail | (apply List.mem_append_left; assumption) | apply List.mem_append_right | assumption | (apply Inl.mem; assumption; assumption))); first | done | fail))) (by (first | assumption | omega | (simp only [List.length_set, List.length_append, List.length_replicate, List.length_cons, List.length_nil]; omega))) (fun _ => rfl))) (hw : fz H0 h (e u) w := by (first | apply fz_i | apply fz_b | apply fz_l | apply fz_c | exact fz_o (by assumption) (by (focus ((repeat (first | apply List.Mem.head | apply List.Mem.tail | (apply List.mem_append_left; assumption) | apply List.mem_append_right | assumption | (apply Inl.mem; assumption; assumption))); first | done | fail))) (by (first | assumption | omega | (simp only [List.length_set, List.length_append, List.length_replicate, List.length_cons, List.length_nil]; omega))) (fun _ => rfl))) : Rt P fn H0 R x e h := Rt2 k hr hx hs hv hw
theorem Ro3 {t u s : Nat} {v w y : AV} (k : R (.tup [v, w, y])) (hr : fn.results = #[.tmp t, .tmp u, .tmp s] := by rfl) (hx : x = .normal ∨ x = .jump .ret := by first | exact .inr rfl | exact .inl rfl) (hs : HsB B H0 h l := by assumption) (hv : fz H0 h (e t) v := by (first | apply fz_i | apply fz_b | apply fz_l | apply fz_c | exact fz_o (by assumption) (by (focus ((repeat (first | apply List.Mem.head | apply List.Mem.tail | (apply List.mem_append_left; assumption) | apply List.mem_append_right | assumption | (apply Inl.mem; assumption; assumption))); first | done | fail))) (by (first | assumption | omega | (simp only [List.length_set, List.length_append, List.length_replicate, List.length_cons, List.length_nil]; omega))) (fun _ => rfl))) (hw : fz H0 h (e u) w := by (first | apply fz_i | apply fz_b | apply fz_l | apply fz_c | exact fz_o (by assumption) (by (focus ((repeat (first | apply List.Mem.head | apply List.Mem.tail | (apply List.mem_append_left; assumption) | apply List.mem_append_right | assumption | (apply Inl.mem; assumption; assumption))); first | done | fail))) (by (first | assumption | omega | (simp only [List.length_set, List.length_append, List.length_replicate, List.length_cons, List.length_nil]; omega))) (fun _ => rfl))) (hy : fz H0 h (e s) y := by (first | apply fz_i | apply fz_b | apply fz_l | apply fz_c | exact fz_o (by assumption) (by (focus ((repeat (first | apply List.Mem.head | apply List.Mem.tail | (apply List.mem_append_left; assumption) | apply List.mem_append_right | assumption | (apply Inl.mem; assumption; assumption))); first | done | fail))) (by (first | assumption | omega | (simp only [List.length_set, List.length_append, List.length_replicate, List.length_cons, List.length_nil]; omega))) (fun _ => rfl))) : Rt P fn H0 R x e h := Rt3 k hr hx hs hv hw hy
end
theorem form9 {e : Env} {a0 a1 a2 a3 a4 a5 a6 a7 a8 : Nat} {x0 x1 x2 x3 x4 x5 x6 x7 x8 : AV} (h0 : e a0 = x0) (h1 : e a1 = x1) (h2 : e a2 = x2) (h3 : e a3 = x3) (h4 : e a4 = x4) (h5 : e a5 = x5) (h6 : e a6 = x6) (h7 : e a7 = x7) (h8 : e a8 = x8) : ∃ e0, e = upd (upd (upd (upd (upd (upd (upd (upd (upd e0 a0 x0) a1 x1) a2 x2) a3 x3) a4 x4) a5 x5) a6 x6) a7 x7) a8 x8 := ⟨e, by rw [upd_self h0, upd_self h1, upd_self h2, upd_self h3, upd_self h4, upd_self h5, upd_self h6, upd_self h7, upd_self h8]⟩
theorem form10 {e : Env} {a0 a1 a2 a3 a4 a5 a6 a7 a8 a9 : Nat} {x0 x1 x2 x3 x4 x5 x6 x7 x8 x9 : AV} (h0 : e a0 = x0) (h1 : e a1 = x1) (h2 : e a2 = x2) (h3 : e a3 = x3) (h4 : e a4 = x4) (h5 : e a5 = x5) (h6 : e a6 = x6) (h7 : e a7 = x7) (h8 : e a8 = x8) (h9 : e a9 = x9) : ∃ e0, e = upd (upd (upd (upd (upd (upd (upd (upd (upd (upd e0 a0 x0) a1 x1) a2 x2) a3 x3) a4 x4) a5 x5) a6 x6) a7 x7) a8 x8) a9 x9 := ⟨e, by rw [upd_self h0, upd_self h1, upd_self h2, upd_self h3, upd_self h4, upd_self h5, upd_self h6, upd_self h7, upd_self h8, upd_self h9]⟩
theorem form11 {e : Env} {a0 a1 a2 a3 a4 a5 a6 a7 a8 a9 a10 : Nat} {x0 x1 x2 x3 x4 x5 x6 x7 x8 x9 x10 : AV} (h0 : e a0 = x0) (h1 : e a1 = x1) (h2 : e a2 = x2) (h3 : e a3 = x3) (h4 : e a4 = x4) (h5 : e a5 = x5) (h6 : e a6 = x6) (h7 : e a7 = x7) (h8 : e a8 = x8) (h9 : e a9 = x9) (h10 : e a10 = x10) : ∃ e0, e = upd (upd (upd (upd (upd (upd (upd (upd (upd (upd (upd e0 a0 x0) a1 x1) a2 x2) a3 x3) a4 x4) a5 x5) a6 x6) a7 x7) a8 x8) a9 x9) a10 x10 := ⟨e, by rw [upd_self h0, upd_self h1, upd_self h2, upd_self h3, upd_self h4, upd_self h5, upd_self h6, upd_self h7, upd_self h8, upd_self h9, upd_self h10]⟩
theorem form12 {e : Env} {a0 a1 a2 a3 a4 a5 a6 a7 a8 a9 a10 a11 : Nat} {x0 x1 x2 x3 x4 x5 x6 x7 x8 x9 x10 x11 : AV} (h0 : e a0 = x0) (h1 : e a1 = x1) (h2 : e a2 = x2) (h3 : e a3 = x3) (h4 : e a4 = x4) (h5 : e a5 = x5) (h6 : e a6 = x6) (h7 : e a7 = x7) (h8 : e a8 = x8) (h9 : e a9 = x9) (h10 : e a10 = x10) (h11 : e a11 = x11) : ∃ e0, e = upd (upd (upd (upd (upd (upd (upd (upd (upd (upd (upd (upd e0 a0 x0) a1 x1) a2 x2) a3 x3) a4 x4) a5 x5) a6 x6) a7 x7) a8 x8) a9 x9) a10 x10) a11 x11 := ⟨e, by rw [upd_self h0, upd_self h1, upd_self h2, upd_self h3, upd_self h4, upd_self h5, upd_self h6, upd_self h7, upd_self h8, upd_self h9, upd_self h10, upd_self h11]⟩
theorem form13 {e : Env} {a0 a1 a2 a3 a4 a5 a6 a7 a8 a9 a10 a11 a12 : Nat} {x0 x1 x2 x3 x4 x5 x6 x7 x8 x9 x10 x11 x12 : AV} (h0 : e a0 = x0) (h1 : e a1 = x1) (h2 : e a2 = x2) (h3 : e a3 = x3) (h4 : e a4 = x4) (h5 : e a5 = x5) (h6 : e a6 = x6) (h7 : e a7 = x7) (h8 : e a8 = x8) (h9 : e a9 = x9) (h10 : e a10 = x10) (h11 : e a11 = x11) (h12 : e a12 = x12) : ∃ e0, e = upd (upd (upd (upd (upd (upd (upd (upd (upd (upd (upd (upd (upd e0 a0 x0) a1 x1) a2 x2) a3 x3) a4 x4) a5 x5) a6 x6) a7 x7) a8 x8) a9 x9) a10 x10) a11 x11) a12 x12 := ⟨e, by rw [upd_self h0, upd_self h1, upd_self h2, upd_self h3, upd_self h4, upd_self h5, upd_self h6, upd_self h7, upd_self h8, upd_self h9, upd_self h10, upd_self h11, upd_self h12]⟩
theorem form14 {e : Env} {a0 a1 a2 a3 a4 a5 a6 a7 a8 a9 a10 a11 a12 a13 : Nat} {x0 x1 x2 x3 x4 x5 x6 x7 x8 x9 x10 x11 x12 x13 : AV} (h0 : e a0 = x0) (h1 : e a1 = x1) (h2 : e a2 = x2) (h3 : e a3 = x3) (h4 : e a4 = x4) (h5 : e a5 = x5) (h6 : e a6 = x6) (h7 : e a7 = x7) (h8 : e a8 = x8) (h9 : e a9 = x9) (h10 : e a10 = x10) (h11 : e a11 = x11) (h12 : e a12 = x12) (h13 : e a13 = x13) : ∃ e0, e = upd (upd (upd (upd (upd (upd (upd (upd (upd (upd (upd (upd (upd (upd e0 a0 x0) a1 x1) a2 x2) a3 x3) a4 x4) a5 x5) a6 x6) a7 x7) a8 x8) a9 x9) a10 x10) a11 x11) a12 x12) a13 x13 := ⟨e, by rw [upd_self h0, upd_self h1, upd_self h2, upd_self h3, upd_self h4, upd_self h5, upd_self h6, upd_self h7, upd_self h8, upd_self h9, upd_self h10, upd_self h11, upd_self h12, upd_self h13]⟩
theorem form15 {e : Env} {a0 a1 a2 a3 a4 a5 a6 a7 a8 a9 a10 a11 a12 a13 a14 : Nat} {x0 x1 x2 x3 x4 x5 x6 x7 x8 x9 x10 x11 x12 x13 x14 : AV} (h0 : e a0 = x0) (h1 : e a1 = x1) (h2 : e a2 = x2) (h3 : e a3 = x3) (h4 : e a4 = x4) (h5 : e a5 = x5) (h6 : e a6 = x6) (h7 : e a7 = x7) (h8 : e a8 = x8) (h9 : e a9 = x9) (h10 : e a10 = x10) (h11 : e a11 = x11) (h12 : e a12 = x12) (h13 : e a13 = x13) (h14 : e a14 = x14) : ∃ e0, e = upd (upd (upd (upd (upd (upd (upd (upd (upd (upd (upd (upd (upd (upd (upd e0 a0 x0) a1 x1) a2 x2) a3 x3) a4 x4) a5 x5) a6 x6) a7 x7) a8 x8) a9 x9) a10 x10) a11 x11) a12 x12) a13 x13) a14 x14 := ⟨e, by rw [upd_self h0, upd_self h1, upd_self h2, upd_self h3, upd_self h4, upd_self h5, upd_self h6, upd_self h7, upd_self h8, upd_self h9, upd_self h10, upd_self h11, upd_self h12, upd_self h13, upd_self h14]⟩
theorem form16 {e : Env} {a0 a1 a2 a3 a4 a5 a6 a7 a8 a9 a10 a11 a12 a13 a14 a15 : Nat} {x0 x1 x2 x3 x4 x5 x6 x7 x8 x9 x10 x11 x12 x13 x14 x15 : AV} (h0 : e a0 = x0) (h1 : e a1 = x1) (h2 : e a2 = x2) (h3 : e a3 = x3) (h4 : e a4 = x4) (h5 : e a5 = x5) (h6 : e a6 = x6) (h7 : e a7 = x7) (h8 : e a8 = x8) (h9 : e a9 = x9) (h10 : e a10 = x10) (h11 : e a11 = x11) (h12 : e a12 = x12) (h13 : e a13 = x13) (h14 : e a14 = x14) (h15 : e a15 = x15) : ∃ e0, e = upd (upd (upd (upd (upd (upd (upd (upd (upd (upd (upd (upd (upd (upd (upd (upd e0 a0 x0) a1 x1) a2 x2) a3 x3) a4 x4) a5 x5) a6 x6) a7 x7) a8 x8) a9 x9) a10 x10) a11 x11) a12 x12) a13 x13) a14 x14) a15 x15 := ⟨e, by rw [upd_self h0, upd_self h1, upd_self h2, upd_self h3, upd_self h4, upd_self h5, upd_self h6, upd_self h7, upd_self h8, upd_self h9, upd_self h10, upd_self h11, upd_self h12, upd_self h13, upd_self h14, upd_self h15]⟩
end
end Go.AM

namespace Go.AM
variable {B : Option Nat}

theorem Gr.fz {H0 h : AH} {g l : List (Nat × Blk)} {sz : Nat} {c : Cell} {rows : List (List Cell)} (hg : Gr sz c rows g) (hs : HsB B H0 h l) (hi : Inl g l) (hf : ∀ r ∈ rows, ∀ c ∈ r, flat c = true) : ∃ c', fz H0 h (.one c) (.one c') ∧ ∀ H, Sl H sz c' rows := by
  cases hg with
  | nil => exact ⟨cnil, rfl, fun _ => .nil⟩
  | arr hn => exact ⟨_, fz_s hs (hi.sub _ (.head _)) hn hf, fun _ => .lst⟩

section
variable {P : Program} {ops : Array Oper} {m : Md} {i : Nat} {r : List Oper} {env : Env} {H H0 : AH} {es : List (Nat × Evt)} {K : Env → AH → List (Nat × Evt) → Prop} {dst : Option Tmp} {ty : TypeId} {pos : String} {after : Array Edge} {op : Op} {l : List (Nat × Blk)}
section
variable {t e : TypeId} {sz : Nat} {x y : Operand} {cx : Cell} {new rows : List (List Cell)}
theorem ap_bytes {a b : Nat} (hb : b ≤ 4096) (hn : a ≤ 34359738367) : a * b ≤ LIM := by
  have h9 : a * b ≤ 34359738367 * 4096 := Nat.mul_le_mul hn hb
  unfold LIM; omega
/-- Behind nothing. -/
theorem So_ap0 {c0 : Cell} [I : EL P t e sz] (k : ∀ h H', HsB B H0 H' ((h, .arr sz new) :: l) → So r P ops m (i + 1) (putE env dst (.one (.sl h new.length 0 new.length))) H' (ad m es i (wrE (refsC cx) h true)) K) (hc0 : c0 = cnil ∨ c0 = .e0 := by first | exact .inl rfl | exact .inr rfl) (hm : m ≠ .st := by decide) (hx : evo env x = .one c0 := by rfl) (hy : evo env y = .one cx := by rfl) (hr : Rw H sz cx new := by (first | apply Rw.lst | (apply Gr.rw; assumption; assumption; (focus ((repeat (first | apply Inl.here | apply Inl.refl | assumption | apply Inl.tail | apply Inl.right)); first | done | fail))) | (apply Sl.toRw; apply Sl.up; assumption; assumption) | exact (Sl.arr (by assumption) (by (focus ((repeat (first | apply List.Mem.head | apply List.Mem.tail | (apply List.mem_append_left; assumption) | apply List.mem_append_right | assumption | (apply Inl.mem; assumption; assumption))); first | done | fail))) rfl).toRw)) (hne : new.isEmpty = false := by rfl) (hb : new.length ≤ 34359738367 := by first | exact Nat.le_of_ble_eq_true rfl | (simp only [List.length_map]; omega) | omega) (hs : HsB B H0 H l := by assumption) :
    So (⟨dst, .call { callee := .builtin .append, args := #[x, y], argTypes := #[t, t] }, ty, pos, after, none⟩ :: r) P ops m i env H es K := by
  obtain ⟨i1, z1, h1, h2, h3, h4, h5, h6, h7, h8⟩ := I.eq
  refine So_aop rfl (by intros; simp) (v := .one (.sl H.nx new.length 0 new.length)) (d := some (H.nx, .arr sz new)) ?_ (fun h => absurd h hm) ?_
  · simp only [aop, aopBuiltin, if_true, h1, hx, hy, AV.cell, h2, h3, hr.rows, h4, if_pos (show 0 < i1.bytes ∧ 0 < sz ∧ z1.length = sz from ⟨h7, h6, h5⟩), appendA, hne, Bool.false_eq_true, if_false]
    rcases hc0 with rfl | rfl <;> simp only [if_pos (ap_bytes h8 hb)]
  · have := k H.nx _ (hs.new (.arr sz new))
    have e : evt env ⟨dst, .call { callee := .builtin .append, args := #[x, y], argTypes := #[t, t] }, ty, pos, after, none⟩ H (.op (some (H.nx, .arr sz new))) = wrE (refsC cx) H.nx true := by
      rcases hc0 with rfl | rfl <;> simp [evt, looks, hx, hy, refsV, refsC]
    rw [e]
    exact this
/-- Behind what was grown here. -/
theorem So_ap1 {h n : Nat} {l' : List (Nat × Blk)} [I : EL P t e sz] (k : ∀ H', HsB B H0 H' l' → So r P ops m (i + 1) (putE env dst (.one (.sl h (n + new.length) 0 (n + new.length)))) H' (ad m es i (wrE (h :: refsC cx) h false)) K) (hm : m ≠ .st := by decide) (hx : evo env x = .one (.sl h n 0 n) := by rfl) (hy : evo env y = .one cx := by rfl) (hr : Rw H sz cx new := by (first | apply Rw.lst | (apply Gr.rw; assumption; assumption; (focus ((repeat (first | apply Inl.here | apply Inl.refl | assumption | apply Inl.tail | apply Inl.right)); first | done | fail))) | (apply Sl.toRw; apply Sl.up; assumption; assumption) | exact (Sl.arr (by assumption) (by (focus ((repeat (first | apply List.Mem.head | apply List.Mem.tail | (apply List.mem_append_left; assumption) | apply List.mem_append_right | assumption | (apply Inl.mem; assumption; assumption))); first | done | fail))) rfl).toRw)) (hs : HsB B H0 H l := by assumption) (hb : Put l h (.arr sz rows) (.arr sz (rows ++ new)) l' := by (focus ((repeat (first | apply Put.head | assumption | apply Put.tail | apply Put.right)); first | done | fail))) (hne : new.isEmpty = false := by rfl) (hn : rows.length = n := by (first | assumption | omega | (simp only [List.length_set, List.length_append, List.length_replicate, List.length_cons, List.length_nil]; omega))) (hbd : n + new.length ≤ 34359738367 := by first | (simp only [List.length_map, List.length_cons, List.length_nil]; omega) | omega) :
    So (⟨dst, .call { callee := .builtin .append, args := #[x, y], argTypes := #[t, t] }, ty, pos, after, none⟩ :: r) P ops m i env H es K := by
  obtain ⟨i1, z1, h1, h2, h3, h4, h5, h6, h7, h8⟩ := I.eq
  have hb' := hs.at_ _ hb.mem
  have hlt := (hs.ge _ hb.mem).2
  simp only at hb' hlt
  refine So_aop rfl (by intros; simp) (v := .one (.sl h (n + new.length) 0 (n + new.length))) (d := some (h, .arr sz (rows ++ new))) ?_ (fun h => absurd h hm) ?_
  · simp only [aop, aopBuiltin, if_true, h1, hx, hy, AV.cell, h2, h3, hr.rows, h4, if_pos (show 0 < i1.bytes ∧ 0 < sz ∧ z1.length = sz from ⟨h7, h6, h5⟩), appendA, hne, Bool.false_eq_true, if_false, hb']
    rw [if_pos ⟨trivial, hn, trivial, trivial, ap_bytes h8 hbd⟩]
  · have := k _ (hs.put hb)
    have e : evt env ⟨dst, .call { callee := .builtin .append, args := #[x, y], argTypes := #[t, t] }, ty, pos, after, none⟩ H (.op (some (h, .arr sz (rows ++ new)))) = wrE (h :: refsC cx) h false := by
      simp only [evt, looks, List.flatMap_cons, List.flatMap_nil, hx, hy, refsV, refsC, Option.map_some, List.append_nil, List.singleton_append]
      congr
      simp; omega
    rw [e]
    exact this
/-- Nothing is put behind what was grown here. -/
theorem So_apN {c : Cell} {g : List (Nat × Blk)} [I : EL P t e sz] (hg : Gr sz c rows g) (hi : Inl g l) (hs : HsB B H0 H l) (hx : evo env x = .one c) (hy : evo env y = .one cx) (hr : Rw H sz cx []) (k : So r P ops m (i + 1) (putE env dst (.one c)) H (ad m es i (rdE (refsC c ++ refsC cx))) K) :
    So (⟨dst, .call { callee := .builtin .append, args := #[x, y], argTypes := #[t, t] }, ty, pos, after, none⟩ :: r) P ops m i env H es K := by
  obtain ⟨i1, z1, h1, h2, h3, h4, h5, h6, h7, h8⟩ := I.eq
  refine So_rd rfl (by intros; simp) (v := .one c) (l := refsC c ++ refsC cx) ?_ (by simp [looks, hx, hy, refsV]) k
  simp only [aop, aopBuiltin, if_true, h1, hx, hy, AV.cell, h2, h3, hr.rows, h4, if_pos (show 0 < i1.bytes ∧ 0 < sz ∧ z1.length = sz from ⟨h7, h6, h5⟩), appendA, List.isEmpty_nil]
  cases hg with
  | nil => rfl
  | @arr k n _ hn =>
    have := hs.at_ _ (hi.sub _ (.head _))
    simp only at this
    simp only [this, hn, and_self, if_true]
end
/-- Behind what was grown, where the order is not drawn; the blocks before it are given up. -/
theorem So_apg {t e : TypeId} {sz : Nat} {x y : Operand} {cx c : Cell} {new rows : List (List Cell)} {pre g : List (Nat × Blk)} [I : EL P t e sz] (hg : Gr sz c rows g) (hs : HsB B H0 H (pre ++ (g ++ l))) (hx : evo env x = .one c) (hy : evo env y = .one cx) (hr : Rw H sz cx new) (hbd : rows.length + new.length ≤ 34359738367)
    (k : ∀ c' g' H', Gr sz c' (rows ++ new) g' → HsB B H0 H' (g' ++ l) → So r P ops .pl (i + 1) (putE env dst (.one c')) H' es K) :
    So (⟨dst, .call { callee := .builtin .append, args := #[x, y], argTypes := #[t, t] }, ty, pos, after, none⟩ :: r) P ops .pl i env H es K := by
  cases hne : new.isEmpty with
  | true =>
    rw [List.isEmpty_iff] at hne
    subst hne
    rw [List.append_nil] at k
    exact So_apN hg (.right .here) hs hx hy hr (k c g H hg (hs.sub (List.sublist_append_right _ _)))
  | false =>
    cases hg with
    | nil => exact So_ap0 (fun h H' hs' => k _ _ H' (.arr rfl) (hs'.sub (.cons_cons _ (by simp)))) (.inl rfl) (by decide) hx hy hr hne (by simpa using hbd) hs
    | arr hn => exact So_ap1 (fun H' hs' => k _ [_] H' (.arr (by rw [List.length_append, hn])) (hs'.sub (List.sublist_append_right _ _))) (by decide) hx hy hr hs (.right .head) hne hn (by omega)
/-- The same; one block before it, as a literal makes it. -/
theorem So_apq {t e : TypeId} {sz : Nat} {x y : Operand} {cx c : Cell} {new rows : List (List Cell)} {p : Nat × Blk} {g : List (Nat × Blk)} [I : EL P t e sz] (k : ∀ c' g' H', Gr sz c' (rows ++ new) g' → HsB B H0 H' (g' ++ l) → So r P ops .pl (i + 1) (putE env dst (.one c')) H' es K)
    (hx : evo env x = .one c := by rfl) (hg : Gr sz c rows g := by assumption) (hs : HsB B H0 H (p :: (g ++ l)) := by assumption) (hy : evo env y = .one cx := by rfl) (hr : Rw H sz cx new := by (first | apply Rw.lst | (apply Gr.rw; assumption; assumption; (focus ((repeat (first | apply Inl.here | apply Inl.refl | assumption | apply Inl.tail | apply Inl.right)); first | done | fail))) | (apply Sl.toRw; apply Sl.up; assumption; assumption) | exact (Sl.arr (by assumption) (by (focus ((repeat (first | apply List.Mem.head | apply List.Mem.tail | (apply List.mem_append_left; assumption) | apply List.mem_append_right | assumption | (apply Inl.mem; assumption; assumption))); first | done | fail))) rfl).toRw)) (hbd : rows.length + new.length ≤ 34359738367 := by first | (simp only [List.length_map, List.length_cons, List.length_nil, List.length_append]; omega) | omega) :
    So (⟨dst, .call { callee := .builtin .append, args := #[x, y], argTypes := #[t, t] }, ty, pos, after, none⟩ :: r) P ops .pl i env H es K :=
  So_apg (pre := [p]) hg hs hx hy hr hbd k

/-- A slice literal of one element. -/
theorem So_bs {t te : TypeId} {sz : Nat} {x : Operand} {cs : List Cell} [I : EL P t te sz] (k : ∀ h H', HsB B H0 H' ((h, .arr sz [cs]) :: l) → So r P ops m (i + 1) (putE env dst (.one (.sl h 1 0 1))) H' (ad m es i (wrE [] h true)) K) (hm : m ≠ .st := by decide) (hx : (evo env x).cells = some cs := by rfl) (hl : cs.length = sz := by rfl) (hz : sz ≤ 16777216 := by exact Nat.le_of_ble_eq_true rfl) (hs : HsB B H0 H l := by assumption) :
    So (⟨dst, .buildSlice t 1 #[(0, x)], ty, pos, after, none⟩ :: r) P ops m i env H es K := by
  obtain ⟨i1, z1, h1, h2, h3, h4, h5, h6, h7, h8⟩ := I.eq
  have hsz : szOf P te = some sz := by simp [szOf, h2, h3]
  refine So_aop rfl (by intros; simp) (v := .one (.sl H.nx 1 0 1)) (d := some (H.nx, .arr sz [cs])) ?_ (fun h => absurd h hm) (by
    have := k H.nx _ (hs.new (.arr sz [cs]))
    simpa [evt, looks] using this)
  have hf : fillA (fun i => some (i * sz, sz)) z1 [(0, cs)] = some cs := by
    simp only [fillA, Nat.zero_mul, Nat.zero_add]
    rw [if_pos ⟨hl, by omega⟩]
    simp [putCells, hl, h5]
  have hch : chunk sz 1 cs = [cs] := by simp [chunk, ← hl]
  simp only [aop, h1, List.mapM_cons, List.mapM_nil, hx, Option.map_some, Option.pure_def, Option.bind_eq_bind, Option.bind_some, h4, h5]
  rw [if_pos ⟨h6, by omega, hsz⟩]
  simp [hf, hch]
theorem So_bs0 {t te : TypeId} {sz : Nat} [I : EL P t te sz] (k : ∀ h H', HsB B H0 H' ((h, .arr sz []) :: l) → So r P ops m (i + 1) (putE env dst (.one (.sl h 0 0 0))) H' (ad m es i (wrE [] h true)) K) (hm : m ≠ .st := by decide) (hs : HsB B H0 H l := by assumption) :
    So (⟨dst, .buildSlice t 0 #[], ty, pos, after, none⟩ :: r) P ops m i env H es K := by
  obtain ⟨i1, z1, h1, h2, h3, h4, h5, h6, h7, h8⟩ := I.eq
  have hsz : szOf P te = some sz := by simp [szOf, h2, h3]
  refine So_aop rfl (by intros; simp) (v := .one (.sl H.nx 0 0 0)) (d := some (H.nx, .arr sz [])) ?_ (fun h => absurd h hm) (by
    have := k H.nx _ (hs.new (.arr sz []))
    simpa [evt, looks] using this)
  simp only [aop, h1, List.mapM_nil, Option.pure_def, h4, h5]
  rw [if_pos ⟨h6, by omega, hsz⟩]
  simp [fillA, chunk]
/-- A struct literal. -/
theorem So_bd {t : TypeId} {parts : Array (Nat × Operand)} {z cs : List Cell} {ps : List (Nat × List Cell)} {places : List (Nat × Nat)} [I : ZC P t z] [J : ST P t places] (k : So r P ops m (i + 1) (putE env dst (.agg cs)) H es K) (hp : parts.toList.mapM (fun p => ((evo env p.2).cells).map fun cs => (p.1, cs)) = some ps := by rfl) (hf : fillA (places[·]?) z ps = some cs := by rfl) :
    So (⟨dst, .build t parts, ty, pos, after, none⟩ :: r) P ops m i env H es K := by
  obtain ⟨fields, h1, h2⟩ := J.eq
  refine So_pure rfl (by intros; simp) ?_ (by simp [looks]) k
  simp only [aop, I.eq, hp, h1, h2, hf]
  rfl

/-! Calls that change the heap -/
/-- What the events of a call may be. -/
theorem So_cf {f : Operand} {args : Array Operand} {ats : Array TypeId} {fc : Cell} {R : AV → AH → Prop} (hc : Cc P fc (args.toList.map (evo env)) H (fun v e => R v (e.app H))) (hf : (evo env f).cell = some fc) (hm : m ≠ .st) (k : ∀ v H' ev, R v H' → So r P ops m (i + 1) (putE env dst v) H' (ad m es i ev) K) :
    So (⟨dst, .call { callee := .value f, args := args, argTypes := ats }, ty, pos, after, none⟩ :: r) P ops m i env H es K :=
  So_call hf hc (fun v e h => ⟨fun h => absurd h hm, k v _ _ h⟩)
theorem So_fx {f : FuncId} {args : Array Operand} {ats : Array TypeId} {R : AV → AH → Prop} (hc : Cv P f (args.toList.map (evo env)) H (fun v e => R v (e.app H))) (k : ∀ v H' ev, R v H' → So r P ops m (i + 1) (putE env dst v) H' (ad m es i ev) K) (hm : m ≠ .st := by decide) :
    So (⟨dst, .call { callee := .value (.func f), args := args, argTypes := ats }, ty, pos, after, none⟩ :: r) P ops m i env H es K :=
  So_cf (fc := .fn (.func f) [] []) (Cc_fn hc) rfl hm k
end
/-! slices.Clone -/
section
variable {P : Program} {H H0 : AH} {l : List (Nat × Blk)}
theorem res1 {fn : Func} {t : Nat} {e : Env} {bl : Nat → Blk} {v : AV} (hr : fn.results = #[.tmp t]) (he : e t = v) : resultsA P fn e bl = some [v] := by simp [resultsA, hr, he]
theorem Cv_keep {f : FuncId} {fn : Func} {c : Code} {args : List AV} {sz n : Nat} {rows : List (List Cell)} (hf : P.funcs[f]? = some fn) (hb : fn.body = some c) (hn : (fn.name == "runtime.NumGoroutine") = false) (ho : (fn.origin == "slices.Clone") = true) (hfl : ∀ r ∈ rows, ∀ c ∈ r, frz0 c = some c) (hrn : rows.length = n)
    (h : ∀ h, Hs H h [] → Ev P c (fun x e h => (x = .normal ∨ x = .jump .ret) ∧ ∃ kb l, resultsA P fn e h.bl = some [.one (.sl kb n 0 n)] ∧ Hs H h l ∧ (kb, .arr sz rows) ∈ l) (fun t => args.getD t .und) h) (hl : args.isEmpty = false := by rfl) : Cv P f args H (fun r e => r = .one (.sl H.nx n 0 n) ∧ e = .made (.arr sz rows)) := by
  refine Cv.of hf hb hn (by simp [shutFn, hl]) ((h _ (HsB.start H)).mono (fun x e h' hq => ?_))
  obtain ⟨h1, kb, l, h2, h3, h4⟩ := hq
  refine ⟨h1, _, h2, ?_⟩
  have h5 := h3.at_ _ h4
  have h6 := h3.ge _ h4
  have h7 := h3.lo
  simp only at h5 h6
  have h8 : (rows.mapM fun r => List.mapM frz0 r) = some rows := by
    rw [mapM_id (g := id)]
    · simp
    · intro r hr
      rw [mapM_id (g := id) (fun c hc => hfl r hr c hc)]
      simp
  have : finish (fn.origin == "slices.Clone") H h' (single [.one (.sl kb n 0 n)]) = (.one (.sl H.nx n 0 n), .made (.arr sz rows)) := by
    rw [ho]
    unfold finish
    rw [if_neg (by omega)]
    simp only [if_true, single, keepRow, h6.1, h5, hrn, and_self, h8, Option.map_some]
  rw [this]
  exact ⟨rfl, rfl⟩
theorem Cv_keep0 {f : FuncId} {fn : Func} {c : Code} {args : List AV} {v : Value} (hf : P.funcs[f]? = some fn) (hb : fn.body = some c) (hn : (fn.name == "runtime.NumGoroutine") = false)
    (h : ∀ h, Hs H h [] → Ev P c (fun x e h => (x = .normal ∨ x = .jump .ret) ∧ ∃ l, resultsA P fn e h.bl = some [.one (.sc v)] ∧ Hs H h l) (fun t => args.getD t .und) h) (hl : args.isEmpty = false := by rfl) : Cv P f args H (Cl (· = .one (.sc v))) := by
  refine Cv.of hf hb hn (by simp [shutFn, hl]) ((h _ (HsB.start H)).mono (fun x e h' hq => ?_))
  obtain ⟨h1, l, h2, h3⟩ := hq
  refine ⟨h1, _, h2, ?_⟩
  have h7 := h3.lo
  have : finish (fn.origin == "slices.Clone") H h' (single [.one (.sc v)]) = (.one (.sc v), .clean) := by
    unfold finish
    rw [if_neg (by omega)]
    cases (fn.origin == "slices.Clone") <;> simp [single, keepRow, frzR, frzV, frzC]
  rw [this]
  exact ⟨rfl, rfl⟩
variable {ops : Array Oper} {m : Md} {i : Nat} {r : List Oper} {env : Env} {es : List (Nat × Evt)} {K : Env → AH → List (Nat × Evt) → Prop} {dst : Option Tmp} {ty : TypeId} {pos : String} {after : Array Edge}
/-- A call that leaves one slice behind. -/
theorem So_md {f : FuncId} {args : Array Operand} {ats : Array TypeId} {n sz : Nat} {rows : List (List Cell)} (hc : Cv P f (args.toList.map (evo env)) H (fun r e => r = .one (.sl H.nx n 0 n) ∧ e = .made (.arr sz rows))) (k : ∀ h H', HsB B H0 H' ((h, .arr sz rows) :: l) → So r P ops m (i + 1) (putE env dst (.one (.sl h n 0 n))) H' (ad m es i (mdE h)) K) (hm : m ≠ .st := by decide) (hs : HsB B H0 H l := by assumption) :
    So (⟨dst, .call { callee := .value (.func f), args := args, argTypes := ats }, ty, pos, after, none⟩ :: r) P ops m i env H es K := by
  refine So_call (fc := .fn (.func f) [] []) rfl (Cc_fn hc) (fun v e h => ?_)
  obtain ⟨rfl, rfl⟩ := h
  exact ⟨fun h => absurd h hm, k H.nx _ (hs.new _)⟩
/-- Is it nil? -/
theorem So_nq {t t' te : TypeId} {x : Operand} {h n o len : Nat} [I : UL P t (.slice te)] (k : So r P ops m (i + 1) (putE env dst (vbool false)) H es K) (hx : evo env x = .one (.sl h n o len) := by rfl) :
    So (⟨dst, .binOp .eql t x (.const (.slice none 0 0)) t', ty, pos, after, none⟩ :: r) P ops m i env H es K := by
  refine So_pure rfl (by intros; simp) (v := vbool false) ?_ (by simp [looks]) k
  have h2 : evo env (.const (.slice none 0 0)) = .one cnil := rfl
  have h3 : eqNil P env .eql t x (.const (.slice none 0 0)) = some (vbool false) := by
    unfold eqNil
    rw [I.eq, hx, h2]
    rfl
  simp only [aop, h3]
theorem So_nq0 {t t' te : TypeId} {x : Operand} [I : UL P t (.slice te)] (k : So r P ops m (i + 1) (putE env dst (vbool true)) H es K) (hx : evo env x = .one cnil := by rfl) :
    So (⟨dst, .binOp .eql t x (.const (.slice none 0 0)) t', ty, pos, after, none⟩ :: r) P ops m i env H es K := by
  refine So_bin (c := vbool true) (v := .bool true) k hx rfl ?_ rfl
  show ev P (Op.equal t (.slice none 0 0) (.slice none 0 0) >>= fun c => pure (Value.bool c)) = _
  have : ev P (Op.equal t (.slice none 0 0) (.slice none 0 0)) = some true := by
    unfold Op.equal Op.maxDepth
    rw [Op.equalIn, ev_bind, ev_underlying I.eq]
    rfl
  rw [ev_bind, this]
  rfl
end

/-! Ranging over a function -/
section
variable {P : Program} {H H0 : AH} {env : Env} {l : List (Nat × Blk)}
theorem Ev_range {g : Operand} {params : Array Nat} {assign body : Code} {f : FuncId} {p q : List Cell} {Q : AX → Env → AH → Prop} (S : Option Jump → List (Nat × Blk) → Prop) (hg : evo env g = .one (.fn (.func f) p q)) (hs : HsB B H0 H l)
    (hc : ∀ k H1, HsB B H0 H1 ((k, .loop ⟨params.toList, env, assign, body, true, none, false⟩) :: l) →
      Cv P f (p.map .one ++ [.one (.yl k)] ++ q.map .one) H1 (fun _ e => ∃ B' j l2 l3, HsB B' H0 (e.app H1) l2 ∧ Put l2 k (.loop ⟨params.toList, env, assign, body, j.isNone, j, false⟩) (.loop ⟨params.toList, env, assign, body, j.isNone, j, true⟩) l3 ∧ S j l3))
    (kn : ∀ H3 l3, Hs H0 H3 l3 → S none l3 → Q .normal env H3) (kj : ∀ H3 l3 j, Hs H0 H3 l3 → S (some j) l3 → Q (.jump j) env H3) : Ev P (.rangeFunc g params assign body) Q env H := by
  have h1 := hs.new (.loop ⟨params.toList, env, assign, body, true, none, false⟩)
  obtain ⟨n, r, e, h2, B', j, l2, l3, h3, h4, h5⟩ := hc _ _ h1
  have h6 := h3.at_ _ h4.mem
  simp only at h6
  have h7 := (h3.put h4).none
  refine ⟨n + 1, ?_⟩
  cases j with
  | none =>
    refine ⟨.normal, env, _, ?_, kn _ _ h7 h5⟩
    rw [aexec]
    simp only [hg, AV.cell, h2, h6, Option.isNone_none]
    simp
  | some j =>
    refine ⟨.jump j, env, _, ?_, kj _ _ _ h7 h5⟩
    rw [aexec]
    simp only [hg, AV.cell, h2, h6, Option.isNone_some]
    simp
def isNormal : AX → Bool
  | .normal => true
  | _ => false
def jumpOf : AX → Option Jump
  | .normal => none
  | .jump j => some j
theorem HsB.putk {l' : List (Nat × Blk)} {k : Nat} {b b' : Blk} (h : HsB B H0 H l) (q : Put l k b b' l') : HsB (some k) H0 (H.app (some (k, b'))) l' := by
  have h' := h.put q
  exact ⟨fun b e => by injection e with e; subst e; simp only [AH.app]; omega, h'.nx, h'.lo, h'.old, h'.at_, h'.ge, h'.srt⟩
/-- The loop's body is called. -/
theorem Cc_yl {k : Nat} {ps : List Nat} {env : Env} {assign body : Code} {args : List AV} {env2 : Env} {l1 : List (Nat × Blk)} {R : AV → Eff → Prop} (hs : HsB B H0 H l) (hb : Put l k (.loop ⟨ps, env, assign, body, true, none, false⟩) (.loop ⟨ps, env, assign, body, false, none, false⟩) l1) (hn : args.length = ps.length)
    (ha : Ev P assign (fun x e h => x = .normal ∧ e = env2 ∧ h = H) (setParams env ps args) H)
    (hbody : ∀ H1, Hs H0 H1 l1 → Ev P body (fun x _ h => ∃ B' l2 l3, HsB B' H0 h l2 ∧ Put l2 k (.loop ⟨ps, env, assign, body, false, none, false⟩) (.loop ⟨ps, env, assign, body, isNormal x, jumpOf x, false⟩) l3 ∧
      ∀ H4, HsB (some k) H0 H4 l3 → R (.one (.sc (.bool (isNormal x)))) (.full H4)) env2 H1) : Cc P (.yl k) args H R := by
  have h6 := hs.at_ _ hb.mem
  simp only at h6
  obtain ⟨n1, x1, e1, h1, h2, rfl, rfl, rfl⟩ := ha
  obtain ⟨n2, x2, e2, h3, h4, B', l2, l3, h5, h7, h8⟩ := hbody _ (hs.put hb).none
  have h9 := h5.at_ _ h7.mem
  simp only at h9
  have h10 := h5.putk h7
  have h2' := aexec_mono (Nat.le_max_left n1 n2) h2
  have h4' := aexec_mono (Nat.le_max_right n1 n2) h4
  refine ⟨max n1 n2, ?_⟩
  cases x2 with
  | normal =>
    refine ⟨_, _, ?_, h8 _ h10⟩
    simp only [callCell, h6, hn, if_true, h2', and_self, h4', h9]
    rfl
  | jump j =>
    refine ⟨_, _, ?_, h8 _ h10⟩
    simp only [callCell, h6, hn, if_true, h2', and_self, h4', h9]
    rfl
/-- The same of any record. -/
theorem Cc_yr {k : Nat} {r : LoopRec} {args : List AV} {env2 : Env} {l1 : List (Nat × Blk)} {R : AV → Eff → Prop} (hs : HsB B H0 H l) (hr : r.ready = true) (hp : r.pending = none) (ho : r.over = false) (hb : Put l k (.loop r) (.loop { r with ready := false }) l1) (hn : args.length = r.params.length)
    (ha : Ev P r.assign (fun x e h => x = .normal ∧ e = env2 ∧ h = H) (setParams r.env r.params args) H)
    (hbody : ∀ H1, Hs H0 H1 l1 → Ev P r.body (fun x _ h => ∃ B' l2 l3, HsB B' H0 h l2 ∧ Put l2 k (.loop { r with ready := false }) (.loop { r with ready := isNormal x, pending := jumpOf x }) l3 ∧
      ∀ H4, HsB (some k) H0 H4 l3 → R (.one (.sc (.bool (isNormal x)))) (.full H4)) env2 H1) : Cc P (.yl k) args H R := by
  obtain ⟨ps, env, assign, body, ready, pending, over⟩ := r
  simp only at hr hp ho
  subst hr hp ho
  exact Cc_yl hs hb hn ha hbody
/-- A function that changes what lies below it, or returns what it has made: its contract, seen from where it is called. -/
theorem Cv_full {f : FuncId} {fn : Func} {c : Code} {args : List AV} {R : AV → AH → Prop} (hf : P.funcs[f]? = some fn) (hb : fn.body = some c) (hn : (fn.name == "runtime.NumGoroutine") = false) (ho : (fn.origin == "slices.Clone") = false) (hs : HsB B H0 H l)
    (h : ∀ h, Hs H0 h l → Ev P c (fun x e h => (x = .normal ∨ x = .jump .ret) ∧ ∃ B' vs l', resultsA P fn e h.bl = some vs ∧ HsB B' H0 h l' ∧ ((∃ b, B' = some b ∧ b < H.nx) ∨ ∀ bl b, frzR bl b (single vs) = none) ∧ ∀ H', HsB B' H0 H' l' → R (single vs) H') (fun t => args.getD t .und) h) (hl : args.isEmpty = false := by rfl) : Cv P f args H (fun r e => R r (e.app H)) := by
  have hs0 : Hs H0 ⟨H.nx, H.bl, H.nx⟩ l := ⟨(fun _ h => by cases h), hs.nx, hs.nx, hs.old, hs.at_, hs.ge, hs.srt⟩
  refine Cv.of hf hb hn (by simp [shutFn, hl]) ((h _ hs0).mono (fun x e h' hq => ?_))
  obtain ⟨h1, B', vs, l', h2, h3, h4, h6⟩ := hq
  refine ⟨h1, vs, h2, ?_⟩
  rw [ho]
  have h5 : HsB B' H0 ⟨h'.nx, h'.bl, min H.lo h'.lo⟩ l' := ⟨fun b e => by have := h3.hi b e; simp only; omega, h3.nx, by have := hs.lo; have := h3.lo; simp only; omega, h3.old, h3.at_, h3.ge, h3.srt⟩
  by_cases hlo : h'.lo < H.nx
  · unfold finish
    rw [if_pos hlo]
    exact h6 _ h5
  · rcases h4 with ⟨b, e, hb⟩ | h4
    · have := h3.hi b e
      omega
    · unfold finish
      rw [if_neg hlo]
      simp only [Bool.false_eq_true, if_false, h4]
      exact h6 _ h5
end
end Go.AM

namespace Go.AM
variable {B : Option Nat}
abbrev vword (n : Nat) : AV := .one (.sc (.int .u64 (n : Int)))
theorem wrap_word {κ : IntKind} (hk : κ = .i64 ∨ κ = .u64) {n : Nat} (h : n < 9223372036854775808) : κ.wrap (n : Int) = n := by
  rcases hk with rfl | rfl
  · exact wrap_fits ⟨by omega, by omega⟩
  · unfold IntKind.wrap
    have s : IntKind.u64.signed = false := rfl
    have b : IntKind.u64.bits = 64 := rfl
    rw [s, b]
    simp
    omega
section
variable {P : Program} {ops : Array Oper} {m : Md} {i : Nat} {r : List Oper} {env : Env} {H : AH} {es : List (Nat × Evt)} {K : Env → AH → List (Nat × Evt) → Prop} {dst : Option Tmp} {ty : TypeId} {pos : String} {after : Array Edge} {op : Op}
variable {t t' : TypeId} {x y : Operand} {κ : IntKind} {a b : Int} {a' b' : Nat}
theorem So_shl (k : So r P ops m (i + 1) (putE env dst (.one (.sc (.int κ ((a' * 2 ^ b' : Nat) : Int))))) H es K) (hx : evo env x = .one (.sc (.int κ a)) := by rfl) (hy : evo env y = vint b := by rfl) (ha : IsN a a' := by (first | apply IsN.z | apply IsN.o | apply IsN.s | apply IsN.c | (apply IsN.p IsN.c; omega) | (apply IsN.t; omega))) (hb : IsN b b' := by (first | apply IsN.z | apply IsN.o | apply IsN.s | apply IsN.c | (apply IsN.p IsN.c; omega) | (apply IsN.t; omega))) (hl : b' < 63 := by omega) (hs : a' * 2 ^ b' < 9223372036854775808 := by first | assumption | omega) (hk : κ = .i64 ∨ κ = .u64 := by first | exact .inl rfl | exact .inr rfl) :
    So (⟨dst, .binOp .shl t x y t', ty, pos, after, none⟩ :: r) P ops m i env H es K := by
  have h1 := ha.eq
  have h2 := hb.eq
  subst h1 h2
  refine So_bin (v := .int κ ((a' * 2 ^ b' : Nat) : Int)) (c := .one (.sc (.int κ ((a' * 2 ^ b' : Nat) : Int)))) k hx hy ?_ rfl
  show ev P (Op.shift .shl κ a' .i64 b') = _
  unfold Op.shift
  rw [if_neg (by omega)]
  have hbit : κ.bits = 64 := by rcases hk with rfl | rfl <;> rfl
  have : min (b' : Int).toNat κ.bits = b' := by rw [hbit]; omega
  simp only [this]
  have e : (a' : Int) * 2 ^ b' = ((a' * 2 ^ b' : Nat) : Int) := by push_cast; rfl
  rw [e, wrap_word hk hs]
  rfl
theorem So_shr (k : So r P ops m (i + 1) (putE env dst (.one (.sc (.int κ ((a' / 2 ^ b' : Nat) : Int))))) H es K) (hx : evo env x = .one (.sc (.int κ a)) := by rfl) (hy : evo env y = vint b := by rfl) (ha : IsN a a' := by (first | apply IsN.z | apply IsN.o | apply IsN.s | apply IsN.c | (apply IsN.p IsN.c; omega) | (apply IsN.t; omega))) (hb : IsN b b' := by (first | apply IsN.z | apply IsN.o | apply IsN.s | apply IsN.c | (apply IsN.p IsN.c; omega) | (apply IsN.t; omega))) (hs : a' < 9223372036854775808 := by first | assumption | omega) (hk : κ = .i64 ∨ κ = .u64 := by first | exact .inl rfl | exact .inr rfl) :
    So (⟨dst, .binOp .shr t x y t', ty, pos, after, none⟩ :: r) P ops m i env H es K := by
  have h1 := ha.eq
  have h2 := hb.eq
  subst h1 h2
  refine So_bin (v := .int κ ((a' / 2 ^ b' : Nat) : Int)) (c := .one (.sc (.int κ ((a' / 2 ^ b' : Nat) : Int)))) k hx hy ?_ rfl
  show ev P (Op.shift .shr κ a' .i64 b') = _
  unfold Op.shift
  rw [if_neg (by omega)]
  have hbit : κ.bits = 64 := by rcases hk with rfl | rfl <;> rfl
  have e1 : (a' : Int).fdiv (2 ^ min (b' : Int).toNat κ.bits) = ((a' / 2 ^ b' : Nat) : Int) := by
    rw [hbit, Int.toNat_natCast]
    have e2 : ((2 : Int) ^ min b' 64) = ((2 ^ min b' 64 : Nat) : Int) := by push_cast; rfl
    rw [e2, Int.fdiv_eq_ediv_of_nonneg _ (Int.natCast_nonneg _), ← Int.natCast_ediv]
    congr 1
    by_cases h : b' ≤ 64
    · rw [Nat.min_eq_left h]
    · rw [Nat.min_eq_right (by omega), Nat.div_eq_of_lt (by omega), Nat.div_eq_of_lt]
      calc a' < 2 ^ 64 := by omega
        _ ≤ 2 ^ b' := Nat.pow_le_pow_right (by omega) (by omega)
  simp only [e1]
  rfl
theorem So_and1 (k : So r P ops m (i + 1) (putE env dst (.one (.sc (.int κ ((a' % 2 : Nat) : Int))))) H es K) (hx : evo env x = .one (.sc (.int κ a)) := by rfl) (hy : evo env y = .one (.sc (.int κ 1)) := by rfl) (ha : IsN a a' := by (first | apply IsN.z | apply IsN.o | apply IsN.s | apply IsN.c | (apply IsN.p IsN.c; omega) | (apply IsN.t; omega))) (hs : a' < 9223372036854775808 := by first | assumption | omega) (hk : κ = .i64 ∨ κ = .u64 := by first | exact .inl rfl | exact .inr rfl) :
    So (⟨dst, .binOp .and t x y t', ty, pos, after, none⟩ :: r) P ops m i env H es K := by
  have h1 := ha.eq
  subst h1
  refine So_bin (v := .int κ ((a' % 2 : Nat) : Int)) (c := .one (.sc (.int κ ((a' % 2 : Nat) : Int)))) k hx hy ?_ rfl
  have e1 : ev P (binOp .and t (.int κ a') (.int κ 1)) = ev P (Op.intBits .and κ a' 1) := by
    show ev P (if κ ≠ κ then _ else _) = _
    rw [if_neg (by simp)]
  show ev P (binOp .and t (.int κ a') (.int κ 1)) = _
  rw [e1]
  have hbit : κ.bits = 64 := by rcases hk with rfl | rfl <;> rfl
  have e2 : (BitVec.ofInt κ.bits (a' : Int) &&& BitVec.ofInt κ.bits 1).toNat = a' % 2 := by
    rw [hbit]
    simp only [BitVec.toNat_and, BitVec.toNat_ofInt]
    have h1 : ((a' : Int) % ((2 ^ 64 : Nat) : Int)).toNat = a' := by omega
    have h2 : ((1 : Int) % ((2 ^ 64 : Nat) : Int)).toNat = 1 := by decide
    rw [h1, h2, Nat.and_one_is_mod]
  unfold Op.intBits
  simp only [e2]
  rw [wrap_word hk (by omega)]
  rfl
/-! Numbers without a sign -/
theorem So_lssw (k : So r P ops m (i + 1) (putE env dst (vbool (decide (a' < b')))) H es K) (hx : evo env x = .one (.sc (.int .u64 a)) := by rfl) (hy : evo env y = .one (.sc (.int .u64 b)) := by rfl) (ha : IsN a a' := by (first | apply IsN.z | apply IsN.o | apply IsN.s | apply IsN.c | (apply IsN.p IsN.c; omega) | (apply IsN.t; omega))) (hb : IsN b b' := by (first | apply IsN.z | apply IsN.o | apply IsN.s | apply IsN.c | (apply IsN.p IsN.c; omega) | (apply IsN.t; omega))) :
    So (⟨dst, .binOp .lss t x y t', ty, pos, after, none⟩ :: r) P ops m i env H es K := by
  have h1 := ha.eq
  have h2 := hb.eq
  subst h1 h2
  have e : (decide (a' < b')) = decide ((a' : Int) < (b' : Int)) := by rw [decide_eq_decide]; omega
  rw [e] at k
  exact So_bin k hx hy rfl rfl
theorem So_eqlw (k : So r P ops m (i + 1) (putE env dst (vbool (decide (a' = b')))) H es K) (hx : evo env x = .one (.sc (.int .u64 a)) := by rfl) (hy : evo env y = .one (.sc (.int .u64 b)) := by rfl) (ha : IsN a a' := by (first | apply IsN.z | apply IsN.o | apply IsN.s | apply IsN.c | (apply IsN.p IsN.c; omega) | (apply IsN.t; omega))) (hb : IsN b b' := by (first | apply IsN.z | apply IsN.o | apply IsN.s | apply IsN.c | (apply IsN.p IsN.c; omega) | (apply IsN.t; omega))) :
    So (⟨dst, .binOp .eql t x y t', ty, pos, after, none⟩ :: r) P ops m i env H es K := by
  have h1 := ha.eq
  have h2 := hb.eq
  subst h1 h2
  have e : (decide (a' = b')) = ((a' : Int) == (b' : Int)) := by rw [show ((a' : Int) == (b' : Int)) = decide ((a' : Int) = (b' : Int)) from rfl, decide_eq_decide]; omega
  rw [e] at k
  exact So_bin k hx hy rfl rfl
theorem So_neqw (k : So r P ops m (i + 1) (putE env dst (vbool (decide (a' ≠ b')))) H es K) (hx : evo env x = .one (.sc (.int .u64 a)) := by rfl) (hy : evo env y = .one (.sc (.int .u64 b)) := by rfl) (ha : IsN a a' := by (first | apply IsN.z | apply IsN.o | apply IsN.s | apply IsN.c | (apply IsN.p IsN.c; omega) | (apply IsN.t; omega))) (hb : IsN b b' := by (first | apply IsN.z | apply IsN.o | apply IsN.s | apply IsN.c | (apply IsN.p IsN.c; omega) | (apply IsN.t; omega))) :
    So (⟨dst, .binOp .neq t x y t', ty, pos, after, none⟩ :: r) P ops m i env H es K := by
  have h1 := ha.eq
  have h2 := hb.eq
  subst h1 h2
  have e : (decide (a' ≠ b')) = ((a' : Int) != (b' : Int)) := by
    have : ((a' : Int) != (b' : Int)) = decide ((a' : Int) ≠ (b' : Int)) := by simp [bne, BEq.beq]
    rw [this, decide_eq_decide]; omega
  rw [e] at k
  exact So_bin k hx hy rfl rfl
theorem So_addw (k : So r P ops m (i + 1) (putE env dst (vword (a' + b'))) H es K) (hx : evo env x = .one (.sc (.int .u64 a)) := by rfl) (hy : evo env y = .one (.sc (.int .u64 b)) := by rfl) (ha : IsN a a' := by (first | apply IsN.z | apply IsN.o | apply IsN.s | apply IsN.c | (apply IsN.p IsN.c; omega) | (apply IsN.t; omega))) (hb : IsN b b' := by (first | apply IsN.z | apply IsN.o | apply IsN.s | apply IsN.c | (apply IsN.p IsN.c; omega) | (apply IsN.t; omega))) (hs : a' + b' < 9223372036854775808 := by first | assumption | omega) :
    So (⟨dst, .binOp .add t x y t', ty, pos, after, none⟩ :: r) P ops m i env H es K := by
  have h1 := ha.eq
  have h2 := hb.eq
  subst h1 h2
  refine So_bin (v := .int .u64 (IntKind.u64.wrap ((a' : Int) + (b' : Int)))) (c := vword (a' + b')) k hx hy rfl ?_
  rw [← Int.natCast_add, wrap_word (.inr rfl) hs]
  rfl
end
section
variable {P : Program} {ops : Array Oper} {m : Md} {i : Nat} {r : List Oper} {env : Env} {H H0 : AH} {es : List (Nat × Evt)} {K : Env → AH → List (Nat × Evt) → Prop} {dst : Option Tmp} {ty : TypeId} {pos : String} {after : Array Edge} {l : List (Nat × Blk)}
theorem sl_drop {H : AH} {sz a : Nat} {c : Cell} {rows : List (List Cell)} (h : Sl H sz c rows) (ha : a ≤ rows.length) : ∃ c', sliceA H.bl sz c (some (vint a)) none none = some (.one c') ∧ Sl H sz c' (rows.drop a) := by
  have h1 := h.rows
  have h2 := h.len
  have hb : boundA (some (vint (a : Int))) 0 = some a := bound_n .c
  have hb2 : boundA none rows.length = some rows.length := rfl
  have hab : a ≤ rows.length ∧ rows.length ≤ rows.length := ⟨ha, Nat.le_refl _⟩
  unfold sliceA
  simp only [h1, h2, hb, hb2, hab, and_self, if_true]
  cases c with
  | sc v =>
    refine ⟨.sc v, rfl, ?_⟩
    unfold rowsOf at h1
    split at h1
    · injection h1 with h1
      subst h1
      simpa using h
    · rename_i heq; cases heq
    · rename_i heq; cases heq
    · rename_i heq; cases heq
    · cases h1
  | e0 =>
    refine ⟨.e0, rfl, ?_⟩
    simp only [rowsOf] at h1
    injection h1 with h1
    subst h1
    simpa using h
  | lst sz' rs =>
    simp only [rowsOf] at h1
    split at h1
    · injection h1 with h1
      subst h1
      refine ⟨_, rfl, ?_⟩
      have : rs.length - a = (rs.drop a).length := by simp
      rw [this, List.take_length]
      exact .lst
    · cases h1
  | sl k n lo len =>
    simp only
    simp only [lenOf] at h2
    injection h2 with h2
    subst h2
    by_cases h3 : a = rows.length ∧ 0 < a
    · rw [if_pos h3]
      refine ⟨_, rfl, ?_⟩
      rw [h3.1, List.drop_length]
      exact .lst
    · rw [if_neg h3]
      refine ⟨_, rfl, ⟨?_, ?_⟩, fun j hj => h.refs j (by simpa [refsC] using hj)⟩
      · simp only [rowsOf] at h1 ⊢
        split at h1
        · rename_i hbl
          split at h1
          · rename_i hc
            injection h1 with h1
            rw [if_pos hc]
            rw [← h1, List.drop_take, List.drop_drop]
            congr 2
            rw [h1]
          · cases h1
        · cases h1
      · simp [lenOf]
  | _ => simp [rowsOf] at h1
theorem So_slb {t e : TypeId} {sz a : Nat} {x lo : Operand} {c : Cell} {n : Int} {rows : List (List Cell)} [I : UL P t (.slice e)] [J : SZ P e sz] (k : ∀ c', Sl H0 sz c' (rows.drop a) → So r P ops m (i + 1) (putE env dst (.one c')) H (ad m es i (rdE (refsC c))) K) (hx : evo env x = .one c := by rfl) (hh : evo env lo = vint n := by rfl) (hn : IsN n a := by (first | apply IsN.z | apply IsN.o | apply IsN.s | apply IsN.c | (apply IsN.p IsN.c; omega) | (apply IsN.t; omega))) (hs : HsB B H0 H l := by assumption) (hr : Sl H0 sz c rows := by assumption) (ha : a ≤ rows.length := by first | omega | (simp only [List.length_map, List.length_cons]; omega)) :
    So (⟨dst, .slice t x (some lo) none none, ty, pos, after, none⟩ :: r) P ops m i env H es K := by
  obtain ⟨c', h1, h2⟩ := sl_drop hr ha
  have hn := hn.eq
  subst hn
  have h3 : sliceA H.bl sz c (some (vint a)) none none = some (.one c') := by
    obtain ⟨c'', h3, _⟩ := sl_drop (hr.up hs) ha
    have : sliceA H.bl sz c (some (vint a)) none none = sliceA H0.bl sz c (some (vint a)) none none := by
      unfold sliceA
      rw [(hr.up hs).rows, (hr.up hs).len, hr.rows, hr.len]
    rw [this, h1]
  refine So_rd rfl (by intros; simp) (v := .one c') (l := refsC c) ?_ (by simp [looks, hx, refsV]) (k c' h2)
  simp only [aop, I.eq, hx, AV.cell, J.eq, Option.map_some, hh, Option.map_none, h3]
end
section
variable {P : Program} {fn : Func} {H0 h : AH} {R : AV → Prop} {x : AX} {e : Env} {l : List (Nat × Blk)}
/-- The result stands in a box. -/
theorem RtC {a t n k : Nat} {cs : List Cell} [I : AG P t true] [J : SZ P t n] (q : R (.agg cs)) (hr : fn.results = #[.cell a t] := by rfl) (hx : x = .normal ∨ x = .jump .ret := by first | exact .inr rfl | exact .inl rfl) (hs : HsB B H0 h l := by assumption) (ha : e a = .one (.bp k 0) := by rfl) (hb : (k, .box cs) ∈ l := by (focus ((repeat (first | apply List.Mem.head | apply List.Mem.tail | (apply List.mem_append_left; assumption) | apply List.mem_append_right | assumption | (apply Inl.mem; assumption; assumption))); first | done | fail))) (hl : cs.length = n := by rfl) (hf : ∀ c ∈ cs, flat c = true := by exact List.all_eq_true.1 rfl) : Rt P fn H0 R x e h := by
  refine ⟨hx, hs.lo, [.agg cs], .agg cs, ?_, ?_, q⟩
  · have h1 := hs.at_ _ hb
    simp only at h1
    have h2 : (cs.drop 0).take n = cs := by rw [List.drop_zero, ← hl, List.take_length]
    simp only [resultsA, hr, List.mapM_cons, List.mapM_nil, ha, AV.cell, I.eq, J.eq, rdPtr, h1, Nat.zero_add, if_pos (show n ≤ cs.length by omega), h2]
    rfl
  · exact fz_a (H0 := H0) (h := h) hf
/-- A result in a box and another one. -/
theorem RtCT {a t n k u : Nat} {cs cs' : List Cell} {v : AV} [I : AG P t true] [J : SZ P t n] (q : R (.tup [.agg cs', v])) (hf : fz H0 h (.agg cs) (.agg cs')) (hr : fn.results = #[.cell a t, .tmp u] := by rfl) (hx : x = .normal ∨ x = .jump .ret := by first | exact .inr rfl | exact .inl rfl) (hs : HsB B H0 h l := by assumption) (ha : e a = .one (.bp k 0) := by rfl) (hb : (k, .box cs) ∈ l := by (focus ((repeat (first | apply List.Mem.head | apply List.Mem.tail | (apply List.mem_append_left; assumption) | apply List.mem_append_right | assumption | (apply Inl.mem; assumption; assumption))); first | done | fail))) (hl : cs.length = n := by rfl) (hv : fz H0 h (e u) v := by (first | apply fz_i | apply fz_b | apply fz_l | apply fz_c | exact fz_o (by assumption) (by (focus ((repeat (first | apply List.Mem.head | apply List.Mem.tail | (apply List.mem_append_left; assumption) | apply List.mem_append_right | assumption | (apply Inl.mem; assumption; assumption))); first | done | fail))) (by (first | assumption | omega | (simp only [List.length_set, List.length_append, List.length_replicate, List.length_cons, List.length_nil]; omega))) (fun _ => rfl))) : Rt P fn H0 R x e h := by
  refine ⟨hx, hs.lo, [.agg cs, e u], .tup [.agg cs', v], ?_, ?_, q⟩
  · have h1 := hs.at_ _ hb
    simp only at h1
    have h2 : (cs.drop 0).take n = cs := by rw [List.drop_zero, ← hl, List.take_length]
    simp only [resultsA, hr, List.mapM_cons, List.mapM_nil, ha, AV.cell, I.eq, J.eq, rdPtr, h1, Nat.zero_add, if_pos (show n ≤ cs.length by omega), h2]
    rfl
  · show ((List.mapM (frzV h.bl H0.nx) [.agg cs, e u]).map AV.tup) = _
    unfold fz at hf hv
    simp [hf, hv]
theorem fz_cons {c c' : Cell} {cs cs' : List Cell} (h1 : fz H0 h (.one c) (.one c')) (h2 : fz H0 h (.agg cs) (.agg cs')) : fz H0 h (.agg (c :: cs)) (.agg (c' :: cs')) := by
  unfold fz at h1 h2 ⊢
  simp only [frzV, Option.map_eq_some_iff] at h1 h2 ⊢
  obtain ⟨a, h1, h3⟩ := h1
  obtain ⟨b, h2, h4⟩ := h2
  injection h3 with h3
  injection h4 with h4
  subst h3 h4
  exact ⟨_, by simp [List.mapM_cons, h1, h2], rfl⟩
theorem fz_anil : fz H0 h (.agg []) (.agg []) := rfl
end
end Go.AM

namespace Go.AM
variable {B : Option Nat}
section
variable {P : Program} {ops : Array Oper} {m : Md} {i : Nat} {r : List Oper} {env : Env} {H H0 : AH} {es : List (Nat × Evt)} {K : Env → AH → List (Nat × Evt) → Prop} {dst : Option Tmp} {ty : TypeId} {pos : String} {after : Array Edge} {op : Op} {l : List (Nat × Blk)}
/-- Appending behind what was grown; two blocks stand before it. -/
theorem So_apr {t e : TypeId} {sz : Nat} {x y : Operand} {cx c : Cell} {new rows : List (List Cell)} {p q : Nat × Blk} {g : List (Nat × Blk)} [I : EL P t e sz] (k : ∀ c' g' H', Gr sz c' (rows ++ new) g' → HsB B H0 H' (g' ++ l) → So r P ops .pl (i + 1) (putE env dst (.one c')) H' es K)
    (hx : evo env x = .one c := by rfl) (hg : Gr sz c rows g := by assumption) (hs : HsB B H0 H (p :: q :: (g ++ l)) := by assumption) (hy : evo env y = .one cx := by rfl) (hr : Rw H sz cx new := by (first | apply Rw.lst | (apply Gr.rw; assumption; assumption; (focus ((repeat (first | apply Inl.here | apply Inl.refl | assumption | apply Inl.tail | apply Inl.right)); first | done | fail))) | (apply Sl.toRw; apply Sl.up; assumption; assumption) | exact (Sl.arr (by assumption) (by (focus ((repeat (first | apply List.Mem.head | apply List.Mem.tail | (apply List.mem_append_left; assumption) | apply List.mem_append_right | assumption | (apply Inl.mem; assumption; assumption))); first | done | fail))) rfl).toRw)) (hbd : rows.length + new.length ≤ 34359738367 := by first | (simp only [List.length_map, List.length_cons, List.length_nil, List.length_append]; omega) | omega) :
    So (⟨dst, .call { callee := .builtin .append, args := #[x, y], argTypes := #[t, t] }, ty, pos, after, none⟩ :: r) P ops .pl i env H es K :=
  So_apg (pre := [p, q]) hg hs hx hy hr hbd k
end
theorem sl_flat {sz : Nat} {c : Cell} {rows : List (List Cell)} (h : ∀ H, Sl H sz c rows) : flat c = true := by
  have h2 := (h ⟨0, fun _ => .none, 0⟩).rows
  cases c <;> first | rfl | (simp [rowsOf] at h2; done)
theorem fz_flat {H0 h : AH} {c : Cell} (hf : flat c = true) : fz H0 h (.one c) (.one c) := by
  show (frzC h.bl H0.nx 6 c).map AV.one = _
  rw [frz_flat hf]; rfl
theorem Ev.cast {P : Program} {c c' : Code} {Q : AX → Env → AH → Prop} {e : Env} {H : AH} (h : c = c') (k : Ev P c' Q e H) : Ev P c Q e H := h ▸ k
end Go.AM
