/- The pure machine PM: a deterministic reading of the model's code over a heap of its own, in the text's order; definitions alone. -/
import Derived.Orders
namespace Go.PM

/-! ### values, environments, heaps -/
abbrev Env := Nat → Value
def put (ρ : Env) : Option Nat → Value → Env
  | none, _ => ρ
  | some d, v => fun k => if k = d then v else ρ k

def ev (ρ : Env) : Operand → Value
  | .tmp t => ρ t
  | .const v => v
  | .global _ => undef
  | .func f => .func (.func f) #[] #[]

/-- A block: dead (moved away by an append), or a row of cells; opn: the machine's block may have more cells behind these. -/
inductive Blk where
  | dead
  | row (cells : List Value) (esz : Nat) (opn : Bool)
  deriving Inhabited
abbrev Heap := List Blk

def pcells : Value → List Value
  | .agg cs => cs.toList
  | v => [v]
def scal : Value → Bool
  | .agg _ | .tuple _ => false
  | _ => true

/-- What a cell of plain data holds. -/
inductive CK where
  | int | bool | str

inductive POp where
  | mv (x : Operand)
  | pick (c a b : Operand)
  | bin (op : BinOp) (x y : Operand)
  | eqb (neg : Bool) (x y : Operand)
  | isnil (neg : Bool) (x : Operand)
  | eqagg (neg : Bool) (ks : List CK) (x y : Operand)
  | un (op : UnOp) (x : Operand)
  | cvt (k : IntKind) (x : Operand)
  | cvs (x : Operand)
  | ext (x : Operand) (i : Nat)
  | fld (agg : Bool) (off size : Nat) (x : Operand)
  | build (zero : List Value) (places : List (Nat × Nat)) (parts : List (Nat × Operand))
  | chk (x : Operand)
  | faddr (off : Nat) (x : Operand)
  | iaddr (size : Nat) (x i : Operand)
  | sidx (x i : Operand)
  | ssub (x : Operand) (lo hi : Option Operand)
  | mkfn (fn : Nat) (caps : List Operand)
  | len (x : Operand)
  | slen (x : Operand)
  | capnil (x : Operand)
  | min (x y : Operand)
  | max (x y : Operand)
  | die
  -- these read the heap
  | load (agg : Bool) (size : Nat) (p : Operand)
  | sub (size : Nat) (x : Operand) (lo hi mx : Option Operand)
  | b2s (x : Operand)
  -- these make memory
  | new (zero : List Value)
  | box (x : Operand)
  | make (zero : List Value) (bytes : Nat) (len cap : Operand)
  | lit (zero : List Value) (len : Nat) (parts : List (Nat × Operand))
  | call (f : Nat) (args : List Operand)
  -- these write
  | store (size : Nat) (p v : Operand)
  | app (size bytes : Nat) (x y : Operand)
  | appz (zero : List Value) (bytes : Nat) (x n : Operand)
  | copy (size : Nat) (x y : Operand)
  | clear (zero : List Value) (x : Operand)
  | callv (fv : Operand) (args : List Operand)
  deriving Inhabited

/-! ### operations that look at values alone -/
def pbin : BinOp → Value → Value → Option Value
  | .shl, .int k a, .int _ b => if b < 0 then none else some (.int k (k.wrap (a * 2 ^ Nat.min b.toNat k.bits)))
  | .shr, .int k a, .int _ b => if b < 0 then none else some (.int k (a.fdiv (2 ^ Nat.min b.toNat k.bits)))
  | op, .int k a, .int k' b =>
    if k = k' then
      match op with
      | .add => some (.int k (k.wrap (a + b)))
      | .sub => some (.int k (k.wrap (a - b)))
      | .mul => some (.int k (k.wrap (a * b)))
      | .quo => if b = 0 then none else some (.int k (k.wrap (a.tdiv b)))
      | .rem => if b = 0 then none else some (.int k (a.tmod b))
      | .and => some (.int k (k.wrap ((BitVec.ofInt k.bits a &&& BitVec.ofInt k.bits b).toNat : Int)))
      | .or => some (.int k (k.wrap ((BitVec.ofInt k.bits a ||| BitVec.ofInt k.bits b).toNat : Int)))
      | .xor => some (.int k (k.wrap ((BitVec.ofInt k.bits a ^^^ BitVec.ofInt k.bits b).toNat : Int)))
      | .andNot => some (.int k (k.wrap ((BitVec.ofInt k.bits a &&& ~~~ BitVec.ofInt k.bits b).toNat : Int)))
      | .eql => some (.bool (a == b))
      | .neq => some (.bool (a != b))
      | .lss => some (.bool (a < b))
      | .leq => some (.bool (a ≤ b))
      | .gtr => some (.bool (a > b))
      | .geq => some (.bool (a ≥ b))
      | _ => none
    else none
  | op, .string a, .string b =>
    match op with
    | .add => if ((a.size + b.size : Nat) : Int) > IntKind.i64.max then none else some (.string (a ++ b))
    | .eql => some (.bool (a.toList == b.toList))
    | .neq => some (.bool (!(a.toList == b.toList)))
    | .lss => some (.bool (Op.bytesLess a.toList b.toList))
    | .leq => some (.bool (Op.bytesLess a.toList b.toList || a.toList == b.toList))
    | .gtr => some (.bool (!(Op.bytesLess a.toList b.toList || a.toList == b.toList)))
    | .geq => some (.bool (!(Op.bytesLess a.toList b.toList)))
    | _ => none
  | _, _, _ => none

def pun : UnOp → Value → Option Value
  | .neg, .int k n => some (.int k (k.wrap (0 - n)))
  | .not, .bool b => some (.bool !b)
  | _, _ => none

def eqCell : CK → Value → Value → Option Bool
  | .int, .int k a, .int k' b => if k = k' then some (a == b) else none
  | .bool, .bool a, .bool b => some (a == b)
  | .str, .string a, .string b => some (a == b)
  | _, _, _ => none
def eqCells : List CK → List Value → List Value → Option Bool
  | [], [], [] => some true
  | k :: ks, x :: xs, y :: ys => match eqCell k x y with
    | some true => eqCells ks xs ys
    | some false => some false
    | none => none
  | _, _, _ => none

def pfill (places : List (Nat × Nat)) (cells : List Value) : List (Nat × Value) → Option (List Value)
  | [] => some cells
  | (i, v) :: rest =>
    match places[i]? with
    | none => none
    | some (off, size) =>
      if (pcells v).length = size ∧ off + size ≤ cells.length then
        pfill places (cells.take off ++ pcells v ++ cells.drop (off + size)) rest
      else none

/-- A bound of a slice expression: what stands there, from 0 to top, or what stands for it. -/
def pbound (v : Option Value) (dflt : Option Nat) (top : Nat) : Option Nat :=
  match v with
  | none => dflt
  | some (.int _ i) => if 0 ≤ i ∧ i ≤ top then some i.toNat else none
  | _ => none
def psliceB (lo hi : Option Value) (n : Nat) : Option (Nat × Nat) :=
  match pbound hi (some n) n with
  | none => none
  | some h => match pbound lo (some 0) h with
    | none => none
    | some l => some (l, h)

def ppure (o : POp) (ρ : Env) : Option Value :=
  match o with
  | .mv x => some (ev ρ x)
  | .pick c a b => match ev ρ c with
    | .bool t => some (if t then ev ρ a else ev ρ b)
    | _ => none
  | .bin op x y => pbin op (ev ρ x) (ev ρ y)
  | .eqb neg x y => match ev ρ x, ev ρ y with
    | .bool a, .bool b => some (.bool ((a == b) != neg))
    | _, _ => none
  | .isnil neg x => match ev ρ x with
    | .slice none _ _ => some (.bool (true != neg))
    | .slice (some _) _ _ => some (.bool (false != neg))
    | _ => none
  | .eqagg neg ks x y => match ev ρ x, ev ρ y with
    | .agg a, .agg b => (eqCells ks a.toList b.toList).map fun t => .bool (t != neg)
    | _, _ => none
  | .un op x => pun op (ev ρ x)
  | .cvt k x => match ev ρ x with
    | .int _ n => some (.int k (k.wrap n))
    | _ => none
  | .cvs x => match ev ρ x with
    | .string s => some (.string s)
    | _ => none
  | .ext x i => match ev ρ x with
    | .tuple vs => vs[i]?
    | _ => none
  | .fld agg off size x => match ev ρ x with
    | .agg cs => if agg then (if off + size ≤ cs.size then some (.agg (cs.extract off (off + size))) else none) else cs[off]?
    | _ => none
  | .build zero places parts => (pfill places zero (parts.map fun (i, x) => (i, ev ρ x))).map fun cs => .agg cs.toArray
  | .chk x => match ev ρ x with
    | .pointer (some a) => some (.pointer (some a))
    | _ => none
  | .faddr off x => match ev ρ x with
    | .pointer (some ⟨b, o, none⟩) => some (.pointer (some ⟨b, o + off, none⟩))
    | _ => none
  | .iaddr size x i => match ev ρ x, ev ρ i with
    | .slice (some ⟨b, o, none⟩) n _, .int _ i => if 0 ≤ i ∧ i < n then some (.pointer (some ⟨b, o + i.toNat * size, none⟩)) else none
    | _, _ => none
  | .sidx x i => match ev ρ x, ev ρ i with
    | .string s, .int _ i => if 0 ≤ i ∧ i < s.size then some (.int .u8 ((s.data.toList.getD i.toNat 0).toNat : Int)) else none
    | _, _ => none
  | .ssub x lo hi => match ev ρ x with
    | .string s => match psliceB (lo.map (ev ρ)) (hi.map (ev ρ)) s.size with
      | some (l, h) => some (.string (s.extract l h))
      | none => none
    | _ => none
  | .mkfn f caps => some (.func (.func f) #[] (caps.map (ev ρ)).toArray)
  | .slen x => match ev ρ x with
    | .string s => some (.int .i64 s.size)
    | _ => none
  | .len x => match ev ρ x with
    | .slice _ n _ => some (.int .i64 n)
    | _ => none
  | .capnil x => match ev ρ x with
    | .slice none _ 0 => some (.int .i64 0)
    | _ => none
  | .min x y => match ev ρ x, ev ρ y with
    | .int k a, .int _ b => some (.int k (if b < a then b else a))
    | _, _ => none
  | .max x y => match ev ρ x, ev ρ y with
    | .int k a, .int _ b => some (.int k (if b > a then b else a))
    | _, _ => none
  | _ => none

/-! ### the heap -/
def Heap.cells (H : Heap) (b : Nat) : Option (List Value) :=
  match H[b]? with
  | some (.row cs _ _) => some cs
  | _ => none
/-- n cells of block b, from o on. -/
def Heap.read (H : Heap) (b o n : Nat) : Option (List Value) :=
  match H[b]? with
  | some (.row cs _ _) => if o + n ≤ cs.length then some ((cs.drop o).take n) else none
  | _ => none
def splice (cs : List Value) (o : Nat) (new : List Value) : List Value := cs.take o ++ new ++ cs.drop (o + new.length)
/-- New contents of cells of block b, from o on; only of a block from lo on. -/
def Heap.write (H : Heap) (lo b o : Nat) (new : List Value) : Option Heap :=
  match H[b]? with
  | some (.row cs e p) => if lo ≤ b ∧ o + new.length ≤ cs.length ∧ new.all scal then some (H.set b (.row (splice cs o new) e p)) else none
  | _ => none
def zcells (n : Nat) (zero : List Value) : List Value := (List.range (n * zero.length)).map fun i => zero.getD (i % zero.length) undef

inductive Out where
  | val (v : Value) (H : Heap)
  | call (f : Nat) (args : List Value)

/-- The n first elements of what is appended or copied. -/
def psource (H : Heap) (size n : Nat) : Value → Option (List Value)
  | .slice (some ⟨b, o, none⟩) _ _ => H.read b o (n * size)
  | .slice none _ _ => if n = 0 then some [] else none
  | .string s => if size = 1 then some ((s.data.toList.take n).map fun b => .int .u8 b.toNat) else none
  | _ => none
def plenOf : Value → Option Nat
  | .slice _ n _ => some n
  | .string s => some s.size
  | _ => none

/-- append of new cells (need: the elements then) to a slice. -/
def pappend (lo size bytes : Nat) (x : Value) (add : Nat) (new : List Value) (H : Heap) : Option (Value × Heap) :=
  if 1 ≤ bytes ∧ 1 ≤ size ∧ new.all scal ∧ new.length = add * size then
    match x with
    | .slice none n c =>
      if n = 0 ∧ c = 0 then
        if add = 0 then some (.slice none 0 0, H)
        else if add * bytes ≤ 140737488355328 then some (.slice (some ⟨H.length, 0, none⟩) add add, H ++ [.row new size true])
        else none
      else none
    | .slice (some ⟨b, o, none⟩) n c =>
      match H[b]? with
      | some (.row cs e p) =>
        if e = size ∧ o + n * size ≤ cs.length then
          if n + add ≤ c then
            if add = 0 then some (.slice (some ⟨b, o, none⟩) n c, H)
            else (H.write lo b (o + n * size) new).map fun H' => (.slice (some ⟨b, o, none⟩) (n + add) c, H')
          else if (n + add) * bytes ≤ 140737488355328 then
            if p then
              if lo ≤ b then some (.slice (some ⟨H.length, 0, none⟩) (n + add) (n + add), H.set b .dead ++ [.row ((cs.drop o).take (n * size) ++ new) size true])
              else none
            else some (.slice (some ⟨H.length, 0, none⟩) (n + add) (n + add), H ++ [.row ((cs.drop o).take (n * size) ++ new) size true])
          else none
        else none
      | _ => none
    | _ => none
  else none

/-- x[lo:hi:mx]; where a third bound leaves no room at all, the new slice is told as one of a block of its own, with nothing in it. -/
def psub (size : Nat) (x : Value) (lo hi mx : Option Value) (H : Heap) : Option (Value × Heap) :=
  match x with
  | .slice none n c => if n = 0 ∧ c = 0 then
      match pbound mx (some 0) 0 with
      | none => none
      | some m => match pbound hi (if mx.isSome then none else some 0) m with
        | none => none
        | some h => match pbound lo (some 0) h with
          | none => none
          | some _ => some (.slice none 0 0, H)
    else none
  | .slice (some ⟨b, o, none⟩) n c =>
    match H[b]? with
    | some (.row _ e _) =>
      if e = size then
        match pbound mx (some c) c with
        | none => none
        | some m => match pbound hi (if mx.isSome then none else some n) m with
          | none => none
          | some h => match pbound lo (some 0) h with
            | none => none
            | some l =>
              if mx.isSome ∧ m = l then some (.slice (some ⟨H.length, 0, none⟩) 0 0, H ++ [.row [] size false])
              else some (.slice (some ⟨b, o + l * size, none⟩) (h - l) (m - l), H)
      else none
    | _ => none
  | _ => none

def pbytes : List Value → Option (List UInt8)
  | [] => some []
  | .int .u8 n :: r => (pbytes r).map (UInt8.ofNat n.toNat :: ·)
  | _ => none

def pload (agg : Bool) (size : Nat) (v : Value) (H : Heap) : Option Value :=
  match v with
  | .pointer (some ⟨b, o, none⟩) =>
    if agg then (H.read b o size).map fun cs => .agg cs.toArray
    else match H.read b o 1 with
      | some [v] => some v
      | _ => none
  | _ => none

def pop (lo : Nat) (o : POp) (ρ : Env) (H : Heap) : Option Out :=
  match o with
  | .load agg size p => (pload agg size (ev ρ p) H).map fun v => .val v H
  | .sub size x l h m => (psub size (ev ρ x) (l.map (ev ρ)) (h.map (ev ρ)) (m.map (ev ρ)) H).map fun (v, H') => .val v H'
  | .b2s x => match ev ρ x with
    | .slice none _ _ => some (.val (.string ByteArray.empty) H)
    | .slice (some ⟨b, o, none⟩) n _ => match H.read b o n with
      | some cs => (pbytes cs).map fun bs => .val (.string ⟨bs.toArray⟩) H
      | none => none
    | _ => none
  | .new zero => some (.val (.pointer (some ⟨H.length, 0, none⟩)) (H ++ [.row zero zero.length false]))
  | .box x => if (pcells (ev ρ x)).all scal then some (.val (.pointer (some ⟨H.length, 0, none⟩)) (H ++ [.row (pcells (ev ρ x)) (pcells (ev ρ x)).length false])) else none
  | .make zero bytes l c => match ev ρ l, ev ρ c with
    | .int .i64 l, .int .i64 c => if 0 ≤ l ∧ l ≤ c ∧ c * bytes ≤ 281474976710656 ∧ c ≤ 9223372036854775807 then
        some (.val (.slice (some ⟨H.length, 0, none⟩) l.toNat c.toNat) (H ++ [.row (zcells c.toNat zero) zero.length false])) else none
    | _, _ => none
  | .lit zero n parts =>
    match pfill ((List.range n).map fun i => (i * zero.length, zero.length)) (zcells n zero) (parts.map fun (i, x) => (i, ev ρ x)) with
    | some cs => if cs.all scal then some (.val (.slice (some ⟨H.length, 0, none⟩) n n) (H ++ [.row cs zero.length false])) else none
    | none => none
  | .store size p v => match ev ρ p with
    | .pointer (some ⟨b, o, none⟩) => if (pcells (ev ρ v)).length = size then (H.write lo b o (pcells (ev ρ v))).map fun H' => .val undef H' else none
    | _ => none
  | .app size bytes x y => match plenOf (ev ρ y) with
    | some n => match psource H size n (ev ρ y) with
      | some new => (pappend lo size bytes (ev ρ x) n new H).map fun (v, H') => .val v H'
      | none => none
    | none => none
  | .appz zero bytes x n => match ev ρ n with
    | .int .i64 n => if 0 ≤ n ∧ n * bytes ≤ 140737488355328 then (pappend lo zero.length bytes (ev ρ x) n.toNat (zcells n.toNat zero) H).map fun (v, H') => .val v H' else none
    | _ => none
  | .copy size x y => match ev ρ x, plenOf (ev ρ y) with
    | .slice none _ _, some _ => some (.val (.int .i64 0) H)
    | .slice (some ⟨b, o, none⟩) d _, some s => match psource H size (Nat.min s d) (ev ρ y) with
      | some new => (H.write lo b o new).map fun H' => .val (.int .i64 (Nat.min s d)) H'
      | none => none
    | _, _ => none
  | .clear zero x => match ev ρ x with
    | .slice none _ _ => some (.val undef H)
    | .slice (some ⟨b, o, none⟩) n _ => if n = 0 then some (.val undef H) else (H.write lo b o (zcells n zero)).map fun H' => .val undef H'
    | _ => none
  | .call f args => some (.call f (args.map (ev ρ)))
  | .callv fv args => match ev ρ fv with
    | .func (.func f) first caps => some (.call f (first.toList ++ args.map (ev ρ) ++ caps.toList))
    | _ => none
  | o => (ppure o ρ).map (.val · H)

/-! ### code -/
/-- An operation in its place: where its value goes; under which temporary's word it is done; quiet: what lies there may not be written by it; cf: of what it must keep off. -/
structure PI where
  dst : Option Nat
  op : POp
  g : Option (Nat × Bool) := none
  quiet : Bool := false
  cf : List (Operand × Operand) := []
  deriving Inhabited

inductive PCode where
  | skip
  | reg (ops : List PI)
  | seq (a b : PCode)
  | cond (c : Operand) (a b : PCode)
  | block (id : Nat) (a : PCode)
  | loop (a : PCode)
  | exit (id : Nat)
  | ret
  deriving Inhabited

/-- Where a result stands: a temporary; or a variable in memory, to which a temporary leads. -/
inductive PRes where
  | tmp (t : Nat)
  | cell (t : Nat) (agg : Bool) (size : Nat)
  deriving Inhabited

structure PFunc where
  ntmps : Nat
  res : List PRes
  body : PCode
  deriving Inhabited

inductive Ex where
  | normal
  | exit (id : Nat)
  | ret

abbrev Caller := Nat → List Value → Nat → Heap → Option (Value × Heap)

def wantedP (g : Option (Nat × Bool)) (ρ : Env) : Option Bool :=
  match g with
  | none => some true
  | some (t, want) => match ρ t with
    | .bool b => some (b == want)
    | .tuple _ => some false
    | _ => none

def blkOf : Value → Option Nat
  | .pointer (some a) => some a.block
  | .slice (some a) _ _ => some a.block
  | _ => none
def keepsOff (ρ : Env) (c : Operand × Operand) : Bool :=
  match blkOf (ev ρ c.1), blkOf (ev ρ c.2) with
  | some a, some b => a != b
  | _, _ => true

/-- What an operation in its place comes to, and the heap then. -/
def pval (call : Caller) (lo : Nat) (i : PI) (ρ : Env) (H : Heap) : Option (Value × Heap) :=
  match wantedP i.g ρ with
  | none => none
  | some false => some (undef, H)
  | some true =>
    if i.cf.all (keepsOff ρ) then
      match pop lo i.op ρ H with
      | some (.val v H') => some (v, H')
      | some (.call f args) => call f args (if i.quiet then H.length else lo) H
      | none => none
    else none
def pstep (call : Caller) (lo : Nat) (i : PI) (ρ : Env) (H : Heap) : Option (Env × Heap) :=
  match pval call lo i ρ H with
  | some (v, H') => some (put ρ i.dst v, H')
  | none => none

def psteps (call : Caller) (lo : Nat) : List PI → Env → Heap → Option (Env × Heap)
  | [], ρ, H => some (ρ, H)
  | i :: is, ρ, H => match pstep call lo i ρ H with
    | some (ρ', H') => psteps call lo is ρ' H'
    | none => none

def ploop (body : Env → Heap → Option (Ex × Env × Heap)) : Nat → Env → Heap → Option (Ex × Env × Heap)
  | 0, _, _ => none
  | n + 1, ρ, H => match body ρ H with
    | some (.normal, ρ', H') => ploop body n ρ' H'
    | r => r

def pcode (call : Caller) (lo n : Nat) : PCode → Env → Heap → Option (Ex × Env × Heap)
  | .skip, ρ, H => some (.normal, ρ, H)
  | .reg ops, ρ, H => (psteps call lo ops ρ H).map fun (ρ', H') => (.normal, ρ', H')
  | .seq a b, ρ, H => match pcode call lo n a ρ H with
    | some (.normal, ρ', H') => pcode call lo n b ρ' H'
    | r => r
  | .cond c a b, ρ, H => match ev ρ c with
    | .bool t => if t then pcode call lo n a ρ H else pcode call lo n b ρ H
    | _ => none
  | .block id a, ρ, H => match pcode call lo n a ρ H with
    | some (.exit id', ρ', H') => if id' = id then some (.normal, ρ', H') else some (.exit id', ρ', H')
    | r => r
  | .loop a, ρ, H => ploop (pcode call lo n a) n ρ H
  | .exit id, ρ, H => some (.exit id, ρ, H)
  | .ret, ρ, H => some (.ret, ρ, H)

def pres1 (ρ : Env) (H : Heap) : PRes → Option Value
  | .tmp t => some (ρ t)
  | .cell t agg size => pload agg size (ρ t) H
def presAll (ρ : Env) (H : Heap) : List PRes → Option (List Value)
  | [] => some []
  | r :: rs => match pres1 ρ H r, presAll ρ H rs with
    | some v, some vs => some (v :: vs)
    | _, _ => none
def presult (res : List PRes) (ρ : Env) (H : Heap) : Option Value :=
  match presAll ρ H res with
  | some [v] => some v
  | some vs => some (.tuple vs.toArray)
  | none => none

def penv (args : List Value) : Env := fun k => args.getD k undef

/-- What a translation's functions are told by from outside: prims by a law of their own; eff: which calls may write what their arguments lead to, in a statement of open order. -/
structure Cfg where
  prim : Nat → Option (List Value → Heap → Option Value)
  eff : Nat → Bool

abbrev Tab := Nat → Option PFunc

def pcall (E : Cfg) (T : Tab) : Nat → Caller
  | 0, _, _, _, _ => none
  | n + 1, f, args, lo, H =>
    match E.prim f with
    | some p => (p args H).map (·, H)
    | none => match T f with
      | none => none
      | some pf =>
        if args.length ≤ pf.ntmps then
          match pcode (pcall E T n) lo n pf.body (penv args) H with
          | some (.normal, ρ, H') | some (.ret, ρ, H') => (presult pf.res ρ H').map (·, H')
          | _ => none
        else none

end Go.PM
