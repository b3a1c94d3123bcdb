/- The abstract machine: cells, heap, operations, code, calls. -/
import Derived.RangeFuncLeaves
import Derived.RangeFuncIn
import Derived.OrdersIn
import Derived.WalkKit
namespace Go.AM

/-- A tree of reads of the program's own tables alone, evaluated without a world. -/
def ev {α : Type} (P : Program) : Sem α → Option α
  | .pure a => some a
  | .program k => ev P (k P)
  | .mark _ k => ev P k
  | _ => none

inductive Cell where
  | sc (v : Value)
  | lst (sz : Nat) (rows : List (List Cell))
  | e0
  | sl (h n lo len : Nat)
  | ep (a : Cell) (sz i off : Nat)
  | bp (h off : Nat)
  | fn (f : Fn) (first caps : List Cell)
  | mp (h : Nat)
  | yl (h : Nat)
  deriving Inhabited

inductive AV where
  | one (c : Cell)
  | agg (cs : List Cell)
  | tup (vs : List AV)
  | und
  | bad
  deriving Inhabited

abbrev Env := Nat → AV

inductive Jump where
  | ret
  | exit (id : Nat)
  | goto (l : Nat)
  deriving Inhabited, DecidableEq

structure LoopRec where
  params : List Nat
  env : Env
  assign : Code
  body : Code
  ready : Bool
  pending : Option Jump
  over : Bool

inductive Blk where
  | none
  | dead
  | box (cs : List Cell)
  | arr (sz : Nat) (rows : List (List Cell))
  | map (ents : List (Value × AV))
  | loop (r : LoopRec)

structure AH where
  nx : Nat
  bl : Nat → Blk
  lo : Nat

def upd {α : Type} (f : Nat → α) (k : Nat) (v : α) : Nat → α := fun x => if x = k then v else f x
def AH.app (H : AH) : Option (Nat × Blk) → AH
  | none => H
  | some (h, b) => ⟨max H.nx (h + 1), upd H.bl h b, min H.lo h⟩

/-- A value of one cell that bears no address. -/
def plainC : Value → Bool
  | .bool _ | .int _ _ | .float _ _ | .complex _ _ _ | .string _ | .pointer none | .slice none 0 0 | .map none | .chan none | .nilFunc | .nilIface => true
  | _ => false

def evo (env : Env) : Operand → AV
  | .tmp t => env t
  | .const v => if plainC v then .one (.sc v) else .bad
  | .global _ => .bad
  | .func f => .one (.fn (.func f) [] [])

def AV.cells : AV → Option (List Cell)
  | .one c => some [c]
  | .agg cs => some cs
  | _ => none
def AV.cell : AV → Option Cell
  | .one c => some c
  | _ => none

def Cell.toV : Cell → Option Value
  | .sc v => some v
  | _ => none
mutual
def AV.toV : AV → Option Value
  | .one c => c.toV
  | .agg cs => (cs.mapM Cell.toV).map fun l => .agg l.toArray
  | .tup vs => (AV.toVs vs).map fun l => .tuple l.toArray
  | _ => none
def AV.toVs : List AV → Option (List Value)
  | [] => some []
  | v :: r => match v.toV, AV.toVs r with
    | some x, some l => some (x :: l)
    | _, _ => none
end
def ofPlain (v : Value) : Option Cell := if plainC v then some (.sc v) else none
def ofV1 : Value → Option AV
  | .agg cs => (cs.toList.mapM ofPlain).map .agg
  | v => (ofPlain v).map .one
def ofV : Value → Option AV
  | .tuple vs => (vs.toList.mapM ofV1).map .tup
  | v => ofV1 v

/-! Types -/
def aggB (P : Program) (t : TypeId) : Option Bool := match P.underlying t with
  | some (.struct _) | some (.array _ _) => some true
  | some _ => some false
  | none => none
def szOf (P : Program) (t : TypeId) : Option Nat := (P.info? t).map (·.size)
def zeroCells (P : Program) (t : TypeId) : Option (List Cell) :=
  match P.info? t with
  | some i => match i.zero with
    | some v => v.cells.toList.mapM ofPlain
    | none => none
  | none => none
def putCells (cells : List Cell) (off : Nat) (v : List Cell) : List Cell := cells.take off ++ v ++ cells.drop (off + v.length)
def fillA (place : Nat → Option (Nat × Nat)) (cells : List Cell) : List (Nat × List Cell) → Option (List Cell)
  | [] => some cells
  | (i, v) :: rest =>
    match place i with
    | none => none
    | some (off, size) => if v.length = size ∧ off + v.length ≤ cells.length then fillA place (putCells cells off v) rest else none
def chunk (sz : Nat) : Nat → List Cell → List (List Cell)
  | 0, _ => []
  | n + 1, l => l.take sz :: chunk sz n (l.drop sz)

/-! Reads -/
def rowsOf (bl : Nat → Blk) (sz : Nat) : Cell → Option (List (List Cell))
  | .sc (.slice none 0 0) => some []
  | .e0 => some []
  | .lst sz' rows => if sz' = sz then some rows else none
  | .sl h n lo len => match bl h with
    | .arr sz' rows => if sz' = sz ∧ rows.length = n then some ((rows.drop lo).take len) else none
    | _ => none
  | _ => none
def lenOf (bl : Nat → Blk) : Cell → Option Nat
  | .sc (.slice none 0 0) => some 0
  | .sc (.map none) => some 0
  | .sc (.string s) => some s.size
  | .e0 => some 0
  | .lst _ rows => some rows.length
  | .sl _ _ _ len => some len
  | .mp h => match bl h with
    | .map ents => some ents.length
    | _ => none
  | _ => none
def rdPtr (bl : Nat → Blk) (n : Nat) : Cell → Option (List Cell)
  | .bp h off => match bl h with
    | .box cs => if off + n ≤ cs.length then some ((cs.drop off).take n) else none
    | _ => none
  | .ep a sz i off => match rowsOf bl sz a with
    | some rows => match rows[i]? with
      | some r => if off + n ≤ r.length then some ((r.drop off).take n) else none
      | none => none
    | none => none
  | _ => none
def wrPtr (bl : Nat → Blk) (v : List Cell) : Cell → Option (Nat × Blk)
  | .bp h off => match bl h with
    | .box cs => if off + v.length ≤ cs.length then some (h, .box (putCells cs off v)) else none
    | _ => none
  | .ep (.sl h n lo len) sz i off => match bl h with
    | .arr sz' rows => if sz' = sz ∧ rows.length = n ∧ i < len then
        match rows[lo + i]? with
        | some r => if off + v.length ≤ r.length then some (h, .arr sz (rows.set (lo + i) (putCells r off v))) else none
        | none => none
      else none
    | _ => none
  | _ => none

def intOf? : AV → Option Int
  | .one (.sc (.int _ n)) => some n
  | _ => none
def LIM : Nat := 140737488355328
/-- nil against what is not: at the type. -/
def unlike : TypeDesc → Value → Cell → Bool
  | .slice _, .slice none 0 0, .lst _ (_ :: _) | .slice _, .slice none 0 0, .sl _ _ _ _ => true
  | .pointer _, .pointer none, .ep _ _ _ _ | .pointer _, .pointer none, .bp _ _ => true
  | .map _ _, .map none, .mp _ => true
  | .func _ _ _, .nilFunc, .fn _ _ _ => true
  | _, _, _ => false

def mapFind (P : Program) (kt : TypeId) (k : Value) (ents : List (Value × AV)) : Option (Option (Nat × Unit)) :=
  ev P (do
    let r ← Instr.findKey kt k (ents.map fun e => { key := e.1, val := .nilFunc, born := 0 })
    pure (r.map fun x => (x.1, ())))

/-- append: rows behind a slice. -/
def appendA (nw : Nat) (bl : Nat → Blk) (sz bytes : Nat) (s : Cell) (new : List (List Cell)) : Option (AV × Option (Nat × Blk)) :=
  if new.isEmpty then
    match s with
    | .sc (.slice none 0 0) => some (.one s, none)
    | .e0 => some (.one s, none)
    | .sl h n lo len => match bl h with
      | .arr sz' rows => if sz' = sz ∧ rows.length = n then some (.one (.sl h n lo len), none) else none
      | _ => none
    | _ => none
  else
    match s with
    | .sc (.slice none 0 0) | .e0 =>
      if new.length * bytes ≤ LIM then some (.one (.sl nw new.length 0 new.length), some (nw, .arr sz new)) else none
    | .sl h n lo len => match bl h with
      | .arr sz' rows =>
        if sz' = sz ∧ rows.length = n ∧ lo = 0 ∧ len = n ∧ (n + new.length) * bytes ≤ LIM then
          some (.one (.sl h (n + new.length) 0 (n + new.length)), some (h, .arr sz (rows ++ new))) else none
      | _ => none
    | _ => none

/-- An operation that looks at plain values and the program's tables alone. -/
def plainOp (P : Program) (env : Env) (o : Oper) : Option (AV × Option (Nat × Blk)) :=
  if o.op.operands.toList.all (fun x => ((evo env x).toV).isSome) then
    match ev P (execOp (fun x => ((evo env x).toV).getD undef) o) with
    | some (.value v) => (ofV v).map fun a => (a, none)
    | _ => none
  else none

def boundA (v : Option AV) (dflt : Nat) : Option Nat :=
  match v with
  | none => some dflt
  | some a => match intOf? a with
    | some i => if 0 ≤ i then some i.toNat else none
    | none => none

def sliceA (bl : Nat → Blk) (sz : Nat) (c : Cell) (lo hi mx : Option AV) : Option AV :=
  match lenOf bl c, rowsOf bl sz c with
  | some n, some rows =>
    match boundA lo 0, boundA hi n with
    | some l, some h =>
      if l ≤ h ∧ h ≤ n then
        match mx with
        | some m => match boundA (some m) 0, hi with
          | some m, some _ => if m = 0 ∧ l = 0 ∧ h = 0 then some (.one .e0) else none
          | _, _ => none
        | none =>
          match c with
          | .sc _ => some (.one c)
          | .e0 => some (.one c)
          | .lst _ _ => some (.one (.lst sz ((rows.drop l).take (h - l))))
          | .sl hh n' lo' _ => if l = h ∧ 0 < l then some (.one (.lst sz [])) else some (.one (.sl hh n' (lo' + l) (h - l)))
          | _ => none
      else none
    | _, _ => none
  | _, _ => none

def aopBuiltin (P : Program) (nw : Nat) (bl : Nat → Blk) (env : Env) (o : Oper) (c : Call) (b : Builtin) : Option (AV × Option (Nat × Blk)) :=
  match b with
  | .len => match c.args.toList with
    | [x] => match (evo env x).cell with
      | some (.sc _) => plainOp P env o
      | some (.mp h) => match lenOf bl (.mp h), c.argTypes[0]?.bind P.underlying with
        | some n, some (.map _ _) => some (.one (.sc (.int .i64 n)), none)
        | _, _ => none
      | some q => match lenOf bl q, c.argTypes[0]?.bind P.underlying with
        | some n, some (.slice _) => some (.one (.sc (.int .i64 n)), none)
        | _, _ => none
      | none => none
    | _ => none
  | .append => match c.args.toList, c.argTypes.toList with
    | [s, x], [t, t'] =>
      if t = t' then
        match P.underlying t, (evo env s).cell, (evo env x).cell with
        | some (.slice e), some sc, some xc =>
          match P.info? e with
          | some i => match rowsOf bl i.size xc with
            | some new => match zeroCells P e with
              | some z => if 0 < i.bytes ∧ 0 < i.size ∧ z.length = i.size then appendA nw bl i.size i.bytes sc new else none
              | none => none
            | none => none
          | none => none
        | _, _, _ => none
      else none
    | _, _ => none
  | .min | .max => plainOp P env o
  | _ => none

def eqNil (P : Program) (env : Env) (op : BinOp) (t : TypeId) (x y : Operand) : Option AV :=
  match P.underlying t, evo env x, evo env y with
  | some k, .one (.sc v), .one c => if unlike k v c then some (.one (.sc (.bool (match op with | .neq => true | _ => false)))) else none
  | some k, .one c, .one (.sc v) => if unlike k v c then some (.one (.sc (.bool (match op with | .neq => true | _ => false)))) else none
  | _, _, _ => none

def aop (P : Program) (nw : Nat) (bl : Nat → Blk) (env : Env) (o : Oper) : Option (AV × Option (Nat × Blk)) :=
  match o.op with
  | .move x | .assign x => some (evo env x, none)
  | .pick c a b => match evo env c with
    | .one (.sc (.bool t)) => some (if t then evo env a else evo env b, none)
    | _ => none
  | .alloc e => (zeroCells P e).map fun z => (.one (.bp nw 0), some (nw, .box z))
  | .box _ x => (evo env x).cells.map fun cs => (.one (.bp nw 0), some (nw, .box cs))
  | .build t parts =>
    match zeroCells P t, parts.toList.mapM (fun p => ((evo env p.2).cells).map fun cs => (p.1, cs)), P.underlying t with
    | some z, some ps, some (.struct fields) => match fields.toList.mapM (fun f => (szOf P f.type).map fun s => (f.offset, s)) with
      | some places => (fillA (places[·]?) z ps).map fun cs => (.agg cs, none)
      | none => none
    | some z, some ps, some (.array _ e) => match szOf P e with
      | some s => (fillA (fun i => some (i * s, s)) z ps).map fun cs => (.agg cs, none)
      | none => none
    | _, _, _ => none
  | .buildSlice t len parts =>
    match P.underlying t, parts.toList.mapM (fun p => ((evo env p.2).cells).map fun cs => (p.1, cs)) with
    | some (.slice e), some ps =>
      match zeroCells P e with
      | some z => if 0 < z.length ∧ len * z.length ≤ 2 ^ 24 ∧ szOf P e = some z.length then
          (fillA (fun i => some (i * z.length, z.length)) (List.replicate len z).flatten ps).map fun cs =>
            (.one (.sl nw len 0 len), some (nw, .arr z.length (chunk z.length len cs)))
        else none
      | none => none
    | _, _ => none
  | .load t a => match (evo env a).cell with
    | some p => match aggB P t, szOf P t with
      | some true, some s => (rdPtr bl s p).map fun cs => (.agg cs, none)
      | some false, _ => match rdPtr bl 1 p with
        | some [c] => some (.one c, none)
        | _ => none
      | _, _ => none
    | none => none
  | .store t a x => match (evo env a).cell, (evo env x).cells with
    | some p, some cs => if szOf P t = some cs.length then (wrPtr bl cs p).map fun d => (.und, some d) else none
    | _, _ => none
  | .nilCheck x => match (evo env x).cell with
    | some (.bp h off) => some (.one (.bp h off), none)
    | some (.ep a sz i off) => some (.one (.ep a sz i off), none)
    | some (.fn (.func f) p q) => some (.one (.fn (.func f) p q), none)
    | _ => none
  | .binOp op t x y _ => match op with
    | .eql | .neq => match eqNil P env op t x y with
      | some r => some (r, none)
      | none => plainOp P env o
    | _ => plainOp P env o
  | .unOp .. | .convert .. => plainOp P env o
  | .makeFunc f first caps =>
    match first.toList.mapM (fun x => (evo env x).cell), caps.toList.mapM (fun x => (evo env x).cell) with
    | some p, some q => some (.one (.fn f p q), none)
    | _, _ => none
  | .makeMap t r => match r, P.underlying t with
    | none, some (.map _ _) => some (.one (.mp nw), some (nw, .map []))
    | _, _ => none
  | .makeSlice t l c => match P.underlying t, intOf? (evo env l), intOf? (evo env c) with
    | some (.slice e), some l, some c =>
      match zeroCells P e, P.info? e with
      | some z, some i => if 0 ≤ l ∧ l ≤ c ∧ 0 < z.length ∧ z.length = i.size ∧ i.bytes * c ≤ 140737488355328 ∧ c ≤ 140737488355328 then
          some (.one (.sl nw l.toNat 0 l.toNat), some (nw, .arr z.length (List.replicate l.toNat z)))
        else none
      | _, _ => none
    | _, _, _ => none
  | .slice t x lo hi mx => match P.underlying t, (evo env x).cell with
    | some (.slice e), some c => match szOf P e with
      | some s => (sliceA bl s c (lo.map (evo env)) (hi.map (evo env)) (mx.map (evo env))).map fun v => (v, none)
      | none => none
    | _, _ => none
  | .fieldAddr s x f => match P.underlying s, (evo env x).cell with
    | some (.struct fields), some p => match fields[f]? with
      | some fl => match szOf P fl.type with
        | some (_ + 1) => match p with
          | .bp h off => some (.one (.bp h (off + fl.offset)), none)
          | .ep a sz i off => some (.one (.ep a sz i (off + fl.offset)), none)
          | _ => none
        | _ => none
      | none => none
    | _, _ => none
  | .field t x f => match P.underlying t, evo env x with
    | some (.struct fields), .agg cs => match fields[f]? with
      | some fl => match aggB P fl.type, szOf P fl.type with
        | some true, some s => if fl.offset + s ≤ cs.length then some (.agg ((cs.drop fl.offset).take s), none) else none
        | some false, _ => (cs[fl.offset]?).map fun c => (.one c, none)
        | _, _ => none
      | none => none
    | _, _ => none
  | .indexAddr t x ix => match P.underlying t, (evo env x).cell, intOf? (evo env ix) with
    | some (.slice e), some c, some i =>
      match szOf P e with
      | some s => match lenOf bl c, rowsOf bl s c with
        | some n, some _ => if 0 ≤ i ∧ i < n then some (.one (.ep c s i.toNat 0), none) else none
        | _, _ => none
      | none => none
    | some (.array n e), some (.bp h off), some i => match szOf P e with
      | some s => if 0 ≤ i ∧ i < n then some (.one (.bp h (off + i.toNat * s)), none) else none
      | none => none
    | _, _, _ => none
  | .index t x ix => match P.underlying t, evo env x, intOf? (evo env ix) with
    | some (.array n e), .agg cs, some i => if 0 ≤ i ∧ i < n then
        match aggB P e, szOf P e with
        | some true, some s => if i.toNat * s + s ≤ cs.length then some (.agg ((cs.drop (i.toNat * s)).take s), none) else none
        | some false, some s => (cs[i.toNat * s]?).map fun c => (.one c, none)
        | _, _ => none
      else none
    | _, _, _ => plainOp P env o
  | .extract x i => match evo env x with
    | .tup vs => (vs[i]?).map fun v => (v, none)
    | _ => none
  | .call c => match c.callee with
    | .builtin b => aopBuiltin P nw bl env o c b
    | _ => none
  | _ => none

/-! What is asked of code ahead: its numbers of temporaries; the order of what a region's operations hand each other. -/
def namesOf (ops : Array Oper) (o : Oper) : List Nat :=
  o.dst.toList ++ o.op.operands.toList.filterMap (fun | .tmp t => some t | _ => none) ++ (match o.guard with
    | some (j, _) => ((ops[j]?).bind (·.dst)).toList
    | none => [])
def tempOk (ops : Array Oper) : Bool :=
  let bits := Region.before ops
  ops.toList.zipIdx.all fun (o, j) => (namesOf ops o).all fun t =>
    ops.toList.zipIdx.all fun (o', i) => o'.dst != some t || i == j || (bits.getD (max i j) 0).testBit (min i j)
def dstOk (N : Nat) (o : Oper) : Bool := match o.dst with
  | some d => decide (d < N)
  | none => true
def edgesOk (ops : Array Oper) : Bool := ops.toList.zipIdx.all fun (o, i) => o.after.toList.all fun e => !Region.binds .any e || decide (e.on < i)
def codeOk (N : Nat) : Code → Bool
  | .region _ ops draw => ops.toList.all (dstOk N) && (!draw || (tempOk ops && edgesOk ops))
  | .seq a b | .cond _ a b => codeOk N a && codeOk N b
  | .block _ b | .loop b | .scope b => codeOk N b
  | .rangeFunc _ params assign body => params.toList.all (fun t => decide (t < N)) && codeOk N assign && codeOk N body
  | _ => true
def progOk (P : Program) : Bool := P.funcs.toList.all fun fn => match fn.body with
  | some c => codeOk fn.ntmps c
  | none => true

/-! Regions, code, calls -/
def yieldedA (ops : Array Oper) (env : Env) (j : Nat) : Option Bool :=
  match (ops[j]?).bind (·.dst) with
  | some d => match env d with
    | .one (.sc (.bool b)) => some b
    | _ => none
  | none => none
def wantedA (ops : Array Oper) (env : Env) (o : Oper) : Option Bool :=
  match o.guard with
  | none => some true
  | some (j, want) => match (ops[j]?).bind (·.dst) with
    | some d => match env d with
      | .one (.sc (.bool b)) => some (b == want)
      | .und => some false
      | _ => none
    | none => none
def putE (env : Env) (d : Option Nat) (v : AV) : Env := match d with
  | none => env
  | some d => upd env d v

/-- What a call leaves behind: the heap as it was; one row more; another heap. -/
inductive Eff where
  | clean
  | made (b : Blk)
  | full (H : AH)
def Eff.app (H : AH) : Eff → AH
  | .clean => H
  | .made b => H.app (some (H.nx, b))
  | .full H' => H'
abbrev CallFn := Cell → List AV → AH → Option (AV × Eff)

inductive Del where
  | op (d : Option (Nat × Blk))
  | call (e : Eff)
def Del.app (H : AH) : Del → AH
  | .op d => H.app d
  | .call e => e.app H
/-- One operation that is carried out. -/
def step1 (P : Program) (call : CallFn) (env : Env) (H : AH) (o : Oper) : Option (AV × Del) :=
  match o.op with
  | .call { callee := .value f, args, .. } => match (evo env f).cell with
    | some fc => (call fc (args.toList.map (evo env)) H).map fun r => (r.1, .call r.2)
    | none => none
  | _ => (aop P H.nx H.bl env o).map fun r => (r.1, .op r.2)

/-! What an operation looks at, for regions that draw their order. -/
def refsC : Cell → List Nat
  | .sl h _ _ _ => [h]
  | .bp h _ => [h]
  | .mp h => [h]
  | .yl h => [h]
  | .ep a _ _ _ => refsC a
  | _ => []
def refsV : AV → List Nat
  | .one c => refsC c
  | _ => []
def looks (env : Env) (o : Oper) : List Nat := match o.op with
  | .load _ a | .store _ a _ => refsV (evo env a)
  | .indexAddr _ x _ | .slice _ x _ _ _ => refsV (evo env x)
  | .call { callee := .builtin _, args, .. } => args.toList.flatMap fun x => refsV (evo env x)
  | _ => []
structure Evt where
  reads : List Nat
  wr : Option Nat
  fresh : Bool
  call : Bool
  all : Bool
def Evt.touch (a : Evt) : Bool := !a.reads.isEmpty || a.wr.isSome || a.call || a.all
/-- a stands before b in the text: may they not come up the other way round? -/
def Evt.conf (a b : Evt) : Bool :=
  (a.all && b.touch) || (b.all && a.touch) ||
  (match a.wr with
   | some h => b.reads.contains h || b.wr == some h || b.call
   | none => false) ||
  (match b.wr with
   | some h => a.reads.contains h || (a.call && !b.fresh)
   | none => false)
def ordOk (bits : Array Nat) : List (Nat × Evt) → Bool
  | [] => true
  | e :: r => r.all (fun d => !e.2.conf d.2 || (bits.getD d.1 0).testBit e.1) && ordOk bits r
def evt (env : Env) (o : Oper) (H : AH) : Del → Evt
  | .op d => ⟨looks env o, d.map (·.1), (match d with
    | some (h, _) => h == H.nx
    | none => false), false, false⟩
  | .call .clean => ⟨[], none, false, true, false⟩
  | .call (.made _) => ⟨[], some H.nx, true, true, false⟩
  | .call (.full _) => ⟨[], none, false, true, true⟩

/-- One operation, its guard looked at. -/
def stepD (P : Program) (call : CallFn) (ops : Array Oper) (o : Oper) (env : Env) (H : AH) : Option (Env × AH × Option Evt) :=
  match wantedA ops env o with
  | some true => match step1 P call env H o with
    | some (v, d) => some (putE env o.dst v, d.app H, some (evt env o H d))
    | none => none
  | some false => some (putE env o.dst .und, H, none)
  | none => none
def aops (P : Program) (call : CallFn) (ops : Array Oper) : List Oper → Env → AH → Option (Env × AH)
  | [], env, H => some (env, H)
  | o :: r, env, H => match stepD P call ops o env H with
    | some (env', H', _) => aops P call ops r env' H'
    | none => none
def aopsD (P : Program) (call : CallFn) (ops : Array Oper) : Nat → List Oper → Env → AH → Option (Env × AH × List (Nat × Evt))
  | _, [], env, H => some (env, H, [])
  | i, o :: r, env, H => match stepD P call ops o env H with
    | some (env', H', e) => match aopsD P call ops (i + 1) r env' H' with
      | some (env2, H2, es) => some (env2, H2, match e with
        | some e => (i, e) :: es
        | none => es)
      | none => none
    | none => none

def resultsA (P : Program) (fn : Func) (env : Env) (bl : Nat → Blk) : Option (List AV) :=
  fn.results.toList.mapM fun
    | .tmp t => some (env t)
    | .cell a t => match (env a).cell with
      | some p => match aggB P t, szOf P t with
        | some true, some s => (rdPtr bl s p).map .agg
        | some false, _ => match rdPtr bl 1 p with
          | some [c] => some (.one c)
          | _ => none
        | _, _ => none
      | none => none

def frzC (bl : Nat → Blk) (base : Nat) : Nat → Cell → Option Cell
  | 0, _ => none
  | n + 1, c => match c with
    | .sc v => some (.sc v)
    | .e0 => some .e0
    | .lst sz rows => some (.lst sz rows)
    | .fn f [] [] => some (.fn f [] [])
    | .sl h n' lo len => if base ≤ h then
        match bl h with
        | .arr sz rows => if rows.length = n' then (((rows.drop lo).take len).mapM fun r => List.mapM (frzC bl base n) r).map (.lst sz) else none
        | _ => none
      else none
    | _ => none
def frzV (bl : Nat → Blk) (base : Nat) : AV → Option AV
  | .one c => (frzC bl base 6 c).map .one
  | .agg cs => (cs.mapM (frzC bl base 6)).map .agg
  | .und => some .und
  | _ => none
def frzR (bl : Nat → Blk) (base : Nat) : AV → Option AV
  | .tup vs => (vs.mapM (frzV bl base)).map .tup
  | v => frzV bl base v

def single : List AV → AV
  | [v] => v
  | vs => .tup vs
inductive AX where
  | normal
  | jump (j : Jump)
  deriving Inhabited
def setParams : Env → List Nat → List AV → Env
  | env, t :: ts, v :: vs => setParams (upd env t v) ts vs
  | env, _, _ => env
def frz0 : Cell → Option Cell
  | .sc v => some (.sc v)
  | .e0 => some .e0
  | .lst sz rows => some (.lst sz rows)
  | .fn f [] [] => some (.fn f [] [])
  | _ => none
def keepRow (bl : Nat → Blk) (base : Nat) : AV → Option (Nat × Blk)
  | .one (.sl h n 0 len) => if base ≤ h ∧ len = n then
      match bl h with
      | .arr sz rows => if rows.length = n then (rows.mapM fun r => List.mapM frz0 r).map fun rows' => (n, .arr sz rows') else none
      | _ => none
    else none
  | _ => none
def finish (keep : Bool) (H H1 : AH) (r : AV) : AV × Eff :=
  if H1.lo < H.nx then (r, .full ⟨H1.nx, H1.bl, min H.lo H1.lo⟩)
  else match (if keep then keepRow H1.bl H.nx r else none) with
    | some (n, b) => (.one (.sl H.nx n 0 n), .made b)
    | none => match frzR H1.bl H.nx r with
      | some r' => (r', .clean)
      | none => (r, .full ⟨H1.nx, H1.bl, min H.lo H1.lo⟩)
def callCell (aexec : Code → Env → AH → Option (AX × Env × AH)) (acall : FuncId → List AV → AH → Option (AV × Eff)) (fc : Cell) (args : List AV) (H : AH) : Option (AV × Eff) :=
  match fc with
  | .fn (.func f) first caps => acall f (first.map .one ++ args ++ caps.map .one) H
  | .yl l => match H.bl l with
    | .loop r => if args.length = r.params.length then
        match aexec r.assign (setParams r.env r.params args) H with
        | some (.normal, env2, H2) => match H2.bl l with
          | .loop r2 => if r2.ready = true ∧ r2.over = false then
              match aexec r.body env2 (H2.app (some (l, .loop { r2 with ready := false }))) with
              | some (x, _, H4) => match H4.bl l with
                | .loop r4 => match x with
                  | .normal => some (.one (.sc (.bool true)), .full (H4.app (some (l, .loop { r4 with ready := true, pending := none, over := false }))))
                  | .jump j => some (.one (.sc (.bool false)), .full (H4.app (some (l, .loop { r4 with ready := false, pending := some j, over := false }))))
                | _ => none
              | none => none
            else none
          | _ => none
        | _ => none
      else none
    | _ => none
  | _ => none

/-- A function of no arguments with a number or a Bool as its result runs over a heap of its own. -/
def HZ : AH := ⟨0, fun _ => .none, 0⟩
def shutFn (P : Program) (fn : Func) (args : List AV) : Bool := args.isEmpty && match fn.resultTypes.toList with
  | [t] => match P.underlying t with
    | some .bool | some (.int _) => true
    | _ => false
  | _ => false
def closedR : AV × Eff → Option (AV × Eff)
  | (.one (.sc v), .clean) => some (.one (.sc v), .clean)
  | _ => none

mutual
def aexec (P : Program) : Nat → Code → Env → AH → Option (AX × Env × AH)
  | 0, _, _, _ => none
  | n + 1, c, env, H => match c with
    | .skip | .label _ => some (.normal, env, H)
    | .region _ ops draw => if draw then
        match aopsD P (callCell (aexec P n) (acall P n)) ops 0 ops.toList env H with
        | some (env', H', es) => if ordOk (Region.before ops) es then some (.normal, env', H') else none
        | none => none
      else (aops P (callCell (aexec P n) (acall P n)) ops ops.toList env H).map fun r => (.normal, r.1, r.2)
    | .seq a b => match aexec P n a env H with
      | some (.normal, env', H') => aexec P n b env' H'
      | r => r
    | .cond c a b => match evo env c with
      | .one (.sc (.bool t)) => aexec P n (if t then a else b) env H
      | _ => none
    | .block id b => match aexec P n b env H with
      | some (.jump (.exit i), env', H') => if i = id then some (.normal, env', H') else some (.jump (.exit i), env', H')
      | r => r
    | .loop b => match aexec P n b env H with
      | some (.normal, env', H') => aexec P n (.loop b) env' H'
      | r => r
    | .exit id => some (.jump (.exit id), env, H)
    | .goto l => some (.jump (.goto l), env, H)
    | .ret => some (.jump .ret, env, H)
    | .rangeFunc g params assign body =>
      match (evo env g).cell with
      | some (.fn (.func f) first caps) =>
        let H1 := H.app (some (H.nx, .loop ⟨params.toList, env, assign, body, true, none, false⟩))
        match acall P n f (first.map .one ++ [.one (.yl H.nx)] ++ caps.map .one) H1 with
        | some (_, e) => let H2 := e.app H1
          match H2.bl H.nx with
          | .loop r => if r.over = true then none else match r.pending, r.ready with
            | none, true => some (.normal, env, H2.app (some (H.nx, .loop { r with over := true })))
            | some j, false => some (.jump j, env, H2.app (some (H.nx, .loop { r with over := true })))
            | _, _ => none
          | _ => none
        | none => none
      | _ => none
    | .scope b => match aexec P n b env H with
      | some (.jump (.goto _), _, _) => none
      | r => r
    | .refuse _ => none
def acall (P : Program) : Nat → FuncId → List AV → AH → Option (AV × Eff)
  | 0, _, _, _ => none
  | n + 1, f, args, H => match P.funcs[f]? with
    | some fn => match fn.body with
      | some c => if fn.name == "runtime.NumGoroutine" then none else if shutFn P fn args then
        match aexec P n c (fun t => args.getD t .und) HZ with
        | some (.normal, env', H1) | some (.jump .ret, env', H1) => (resultsA P fn env' H1.bl).bind fun vs => closedR (finish (fn.origin == "slices.Clone") HZ H1 (single vs))
        | _ => none
      else
        match aexec P n c (fun t => args.getD t .und) ⟨H.nx, H.bl, H.nx⟩ with
        | some (.normal, env', H1) | some (.jump .ret, env', H1) => (resultsA P fn env' H1.bl).map fun vs => finish (fn.origin == "slices.Clone") H H1 (single vs)
        | _ => none
      | none => none
    | none => none
end

end Go.AM
