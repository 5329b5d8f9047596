/- From the model's code to the pure machine's: what is taken, and what is checked on the way. Definitions alone. -/
import Derived.Test.YtkoiolkkceknhaaPmDef
namespace Go.PM

/-! ### types -/
def isAggD : TypeDesc → Bool
  | .struct _ | .array _ _ => true
  | _ => false
/-- Is it an aggregate; its cells; its zero value's cells; its bytes. -/
def tinfo (P : Program) (t : TypeId) : Option (Bool × Nat × List Value × Nat) :=
  match P.info? t, P.underlying t with
  | some i, some u => match i.zero with
    | some z => some (isAggD u, i.size, pcells z, i.bytes)
    | none => none
  | _, _ => none
def elemInfo (P : Program) (t : TypeId) : Option (Bool × Nat × List Value × Nat) :=
  match P.underlying t with
  | some (.slice e) => tinfo P e
  | _ => none

/-! ### operands -/
def constOk : Value → Bool
  | .bool _ | .int _ _ | .string _ | .pointer none | .slice none 0 0 | .nilFunc | .nilIface => true
  | .agg cs => cs.all fun | .bool _ | .int _ _ | .string _ | .pointer none | .slice none 0 0 | .nilFunc | .nilIface => true | _ => false
  | .tuple vs => vs.isEmpty
  | _ => false
def opndOk : Operand → Bool
  | .tmp _ | .func _ => true
  | .const v => constOk v
  | .global _ => false

/-! ### operations -/
/-- Structs of whole numbers, bools and strings, each in a cell of its own, in order. -/
def plainFields (P : Program) : Nat → List Field → Option (List CK)
  | _, [] => some []
  | i, f :: fs =>
    if f.name != "_" && f.offset == i then
      match (P.info? f.type).map (·.size), P.underlying f.type, plainFields P (i + 1) fs with
      | some 1, some (.int _), some ks => some (.int :: ks)
      | some 1, some .bool, some ks => some (.bool :: ks)
      | some 1, some .string, some ks => some (.str :: ks)
      | _, _, _ => none
    else none
def plainStruct (P : Program) (t : TypeId) : Option (List CK) :=
  match P.underlying t with
  | some (.struct fs) => if P.stoodInHeld t || P.eqGuardType P.depth t then none else plainFields P 0 fs.toList
  | _ => none

def isConst : Operand → Bool
  | .const _ => true
  | _ => false
def isNilC : Operand → Bool
  | .const (.slice none 0 0) => true
  | _ => false

def prepBin (P : Program) (op : BinOp) (t : TypeId) (x y : Operand) : Option POp :=
  match P.underlying t with
  | some (.int _) | some .string => some (.bin op x y)
  | some .bool => match op with
    | .eql => some (.eqb false x y)
    | .neq => some (.eqb true x y)
    | _ => none
  | some (.slice _) => match op with
    | .eql => if isNilC y then some (.isnil false x) else none
    | .neq => if isNilC y then some (.isnil true x) else none
    | _ => none
  | some (.struct _) => match op, plainStruct P t with
      | .eql, some ks => some (.eqagg false ks x y)
      | .neq, some ks => some (.eqagg true ks x y)
      | _, _ => none
  | _ => none

def isAppD : TypeDesc → Bool
  | .slice _ | .string => true
  | _ => false

def prepBuiltin (P : Program) (b : Builtin) (args : Array Operand) (ts : Array TypeId) : Option POp :=
  match b, args.toList, ts.toList with
  | .len, [x], t :: _ => match P.underlying t with
    | some .string => some (.slen x)
    | some (.slice _) => some (.len x)
    | _ => none
  | .cap, [x], t :: _ => match P.underlying t with
    | some (.slice _) => some (.capnil x)
    | _ => none
  | .min, [x, y], _ => some (.min x y)
  | .max, [x, y], _ => some (.max x y)
  | .append, [x, y], s :: t :: _ => match elemInfo P s, P.underlying t with
    | some (_, size, zero, bytes), some (.int _) => if zero.all scal && zero.all constOk && 1 ≤ zero.length && size == zero.length then some (.appz zero bytes x y) else none
    | some (_, size, zero, bytes), some d => if isAppD d then (if size == zero.length then some (.app size bytes x y) else none) else none
    | _, _ => none
  | .copy, [x, y], t :: _ => match elemInfo P t with
    | some (_, size, _, _) => some (.copy size x y)
    | _ => none
  | .clear, [x], t :: _ => match elemInfo P t with
    | some (_, size, zero, _) => if zero.all scal && zero.all constOk && size == zero.length && 1 ≤ zero.length then some (.clear zero x) else none
    | _ => none
  | _, _, _ => none

def prepOp (P : Program) (o : Op) : Option POp :=
  if o.operands.all opndOk then
    match o with
    | .move x | .assign x => some (.mv x)
    | .pick c a b => some (.pick c a b)
    | .binOp op t x y _ => prepBin P op t x y
    | .unOp op _ x => some (.un op x)
    | .convert s d x => match P.underlying s, P.underlying d with
      | some (.int _), some (.int k) => some (.cvt k x)
      | some .string, some .string => some (.cvs x)
      | some (.slice e), some .string => match P.underlying e with
        | some (.int .u8) => some (.b2s x)
        | _ => none
      | _, _ => none
    | .extract x i => some (.ext x i)
    | .field t x i => match P.underlying t with
      | some (.struct fs) => match fs[i]? with
        | some f => (tinfo P f.type).map fun (agg, size, _, _) => .fld agg f.offset size x
        | none => none
      | _ => none
    | .build t parts => match P.underlying t, tinfo P t with
      | some (.struct fs), some (_, _, zero, _) =>
        match fs.toList.mapM fun f => (P.info? f.type).map fun i => (f.offset, i.size) with
        | some places => if zero.all constOk then some (.build zero places parts.toList) else none
        | none => none
      | _, _ => none
    | .nilCheck x => some (.chk x)
    | .fieldAddr t x i => match P.underlying t with
      | some (.struct fs) => match fs[i]? with
        | some f => match P.info? f.type with
          | some i => if i.size = 0 then none else some (.faddr f.offset x)
          | none => none
        | none => none
      | _ => none
    | .indexAddr t x i => (elemInfo P t).map fun (_, size, _, _) => .iaddr size x i
    | .index t x i => match P.underlying t with
      | some .string => some (.sidx x i)
      | _ => none
    | .slice t x lo hi mx => match P.underlying t with
      | some .string => if mx.isNone then some (.ssub x lo hi) else none
      | some (.slice e) => (tinfo P e).map fun (_, size, _, _) => .sub size x lo hi mx
      | _ => none
    | .makeInterface _ _ | .panic _ => some .die
    | .makeFunc (.func f) first caps => if first.isEmpty then some (.mkfn f caps.toList) else none
    | .load t p => (tinfo P t).map fun (agg, size, _, _) => .load agg size p
    | .store t p v => (P.info? t).map fun i => .store i.size p v
    | .alloc t => match tinfo P t with
      | some (_, _, zero, _) => if zero.all scal && zero.all constOk then some (.new zero) else none
      | none => none
    | .box _ x => some (.box x)
    | .makeSlice t l c => match elemInfo P t with
      | some (_, size, zero, bytes) => if zero.all scal && zero.all constOk && size == zero.length && 1 ≤ size then some (.make zero bytes l c) else none
      | none => none
    | .buildSlice t n parts => match elemInfo P t with
      | some (_, size, zero, _) => if zero.all scal && zero.all constOk && size == zero.length && 1 ≤ size && n * size ≤ 16777216 then some (.lit zero n parts.toList) else none
      | none => none
    | .call { callee := .builtin b, args, argTypes } => prepBuiltin P b args argTypes
    | .call { callee := .value (.func f), args, .. } => some (.call f args.toList)
    | .call { callee := .value (.tmp t), args, .. } => some (.callv (.tmp t) args.toList)
    | _ => none
  else none

/-! ### regions -/
inductive Cls where
  | pure | look | quiet | write
  deriving DecidableEq
def clsOf (E : Cfg) : POp → Cls
  | .load .. | .b2s _ => .look
  | .sub _ _ _ _ mx => if mx.isSome then .quiet else .look
  | .new _ | .box _ | .make .. | .lit .. => .quiet
  | .call f _ => if E.eff f then .write else .quiet
  | .store .. | .app .. | .appz .. | .copy .. | .clear .. | .callv .. => .write
  | _ => .pure
/-- Whose block an operation looks at, or writes. -/
def touch : POp → Option Operand
  | .load _ _ p => some p
  | .sub _ x _ _ _ => some x
  | .b2s x => some x
  | .store _ p _ => some p
  | .app _ _ x _ => some x
  | .appz _ _ x _ => some x
  | .copy _ x _ => some x
  | .clear _ x => some x
  | _ => none

def edgesMask (o : Oper) (M : List Nat) : Nat :=
  o.after.toList.foldr (fun e s => if Region.binds .any e then s ||| 2 ^ e.on ||| M.getD e.on 0 else s) 0
def masksGo : List Oper → List Nat → List Nat
  | [], acc => acc
  | o :: os, acc => masksGo os (acc ++ [edgesMask o acc])

def tmpsOf (xs : Array Operand) : List Nat := xs.toList.filterMap fun | .tmp t => some t | _ => none
/-- The temporaries that an operation reads, its guard's among them. -/
def readsOf (ops : List Oper) (o : Oper) : List Nat :=
  tmpsOf o.op.operands ++ (match o.guard with | some (j, _) => ((ops[j]?).bind (·.dst)).toList | none => [])
/-- One of the two is ahead of the other. -/
def ahead (M : List Nat) (i j : Nat) : Bool := (M.getD (Nat.max i j) 0).testBit (Nat.min i j)

def guardOf (ops : List Oper) (i : Nat) (o : Oper) : Option (Option (Nat × Bool)) :=
  match o.guard with
  | none => some none
  | some (j, want) => if j < i then match (ops[j]?).bind (·.dst) with
      | some d => some (some (d, want))
      | none => none
    else none

/-- No operation from place i to before place j writes the temporary. -/
def unwritten (ops : List Oper) (i j : Nat) : Operand → Bool
  | .tmp t => (ops.take j).drop i |>.all fun o => o.dst != some t
  | _ => false

def conflicts (E : Cfg) (ops : List Oper) (ps : List POp) (M : List Nat) (j : Nat) (pj : POp) : Option (List (Operand × Operand)) :=
  (List.range j).foldr (fun i acc => match acc, ps[i]? with
    | some l, some pi =>
      match clsOf E pi, clsOf E pj with
      | .look, .write | .write, .look =>
        if ahead M i j then some l
        else match touch pi, touch pj with
          | some a, some b => if unwritten ops i j a then some ((a, b) :: l) else none
          | _, _ => none
      | .write, .write | .quiet, .write | .write, .quiet => if ahead M i j then some l else none
      | _, _ => some l
    | _, _ => none) (some [])

def guardAnc (mask : Nat) : Option (Nat × Bool) → Bool
  | some (j, _) => mask.testBit j
  | none => true
def dstOk (n : Nat) : Option Nat → Bool
  | some d => decide (d < n)
  | none => true

def prepPI (E : Cfg) (ops : List Oper) (ps : List POp) (M : List Nat) (n : Nat) (draw : Bool) (i : Nat) : Option PI :=
  match ops[i]?, ps[i]? with
  | some o, some p =>
    if dstOk n o.dst then
      match guardOf ops i o with
      | none => none
      | some g =>
        if draw then
          if (o.after.toList.all fun e => !Region.binds .any e || decide (e.on < i))
            && guardAnc (M.getD i 0) o.guard
            && ((o.dst.toList ++ readsOf ops o).all fun t => (List.range ops.length).all fun k => match ops[k]? with
                | some ok => ok.dst != some t || k == i || ahead M i k
                | none => true)
            && (M.getD i 0 == edgesMask o M)
          then (conflicts E ops ps M i p).map fun cf => { dst := o.dst, op := p, g := g, quiet := (match clsOf E p with | .quiet => true | _ => false), cf := cf }
          else none
        else some { dst := o.dst, op := p, g := g }
    else none
  | _, _ => none

def prepRegion (P : Program) (E : Cfg) (n : Nat) (ops : Array Oper) (draw : Bool) : Option (List PI) :=
  match ops.toList.mapM fun o => prepOp P o.op with
  | some ps =>
    let M := if draw then masksGo ops.toList [] else []
    (List.range ops.size).mapM fun i => prepPI E ops.toList ps M n draw i
  | none => none

def prepCode (P : Program) (E : Cfg) (n : Nat) : Code → Option PCode
  | .skip => some .skip
  | .region _ ops draw => (prepRegion P E n ops draw).map .reg
  | .seq a b => match prepCode P E n a, prepCode P E n b with
    | some a, some b => some (.seq a b)
    | _, _ => none
  | .cond c a b => if opndOk c then match prepCode P E n a, prepCode P E n b with
      | some a, some b => some (.cond c a b)
      | _, _ => none
    else none
  | .block id a => (prepCode P E n a).map (.block id)
  | .loop a => (prepCode P E n a).map .loop
  | .exit id => some (.exit id)
  | .ret => some .ret
  | _ => none

def prepFunc (P : Program) (E : Cfg) (fn : Func) : Option PFunc :=
  match fn.body with
  | none => none
  | some c =>
    if fn.name == "runtime.NumGoroutine" then none else
    match fn.results.toList.mapM fun | .tmp t => some (.tmp t) | .cell t ty => (tinfo P ty).map fun (agg, size, _, _) => .cell t agg size with
    | none => none
    | some res => (prepCode P E fn.ntmps c).map fun body => { ntmps := fn.ntmps, res := res, body := body }

def tabOf (P : Program) (E : Cfg) : Tab := fun f => (P.funcs[f]?).bind (prepFunc P E)

end Go.PM
