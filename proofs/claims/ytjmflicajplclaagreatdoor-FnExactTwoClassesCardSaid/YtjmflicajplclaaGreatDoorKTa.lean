/- Texts of a claim, in one: part 1. -/
import Derived.Orders
import Derived.Laws.Entries
import Derived.Laws.AppendOwn
import Derived.Laws.MakeOwn
import Derived.Laws.Build
import Derived.Laws.Rows
import Derived.Laws.World
import Derived.Laws.Strings
import Derived.Laws.BytesString
import Derived.Lib.ItoaNum
import Derived.Laws.StructEq
import Derived.Laws.Cover3
set_option linter.unusedSimpArgs false
set_option linter.unusedVariables false
namespace Go.PM
abbrev Env:=Nat→Value
def put (ρ:Env):Option Nat→Value→Env
 | none,_=>ρ
 | some d,v=>fun k=>if k=d then v else ρ k
def ev (ρ:Env):Operand→Value
 | .tmp t=>ρ t
 | .const v=>v
 | .global _=>undef
 | .func f => .func (.func f) #[] #[]
inductive QU where
 | dead
 | row (cells:List Value) (kJ:Nat) (Sw:Bool)
 deriving Inhabited
abbrev aE:=List QU
def aO:Value→List Value
 | .agg cs=>cs.toList
 | v=>[v]
def fS:Value→Bool
 | .agg _ | .tuple _=>false
 | _=>true
inductive CK where
 | int | bool | str
inductive nK where
 | mv (x:Operand)
 | pick (c a b:Operand)
 | bin (op:BinOp) (x y:Operand)
 | eqb (neg:Bool) (x y:Operand)
 | isnil (neg:Bool) (x:Operand)
 | eqagg (neg:Bool) (ks:List CK) (x y:Operand)
 | un (op:UnOp) (x:Operand)
 | cvt (k:IntKind) (x:Operand)
 | cvs (x:Operand)
 | ext (x:Operand) (i:Nat)
 | fld (agg:Bool) (off size:Nat) (x:Operand)
 | build (zero:List Value) (places:List (Nat×Nat)) (parts:List (Nat×Operand))
 | chk (x:Operand)
 | faddr (off:Nat) (x:Operand)
 | iaddr (size:Nat) (x i:Operand)
 | sidx (x i:Operand)
 | ssub (x:Operand) (lo hi:Option Operand)
 | mkfn (fn:Nat) (fT:List Operand)
 | len (x:Operand)
 | slen (x:Operand)
 | acP (x:Operand)
 | min (x y:Operand)
 | max (x y:Operand)
 | die
 | load (agg:Bool) (size:Nat) (p:Operand)
 | sub (size:Nat) (x:Operand) (lo hi mx:Option Operand)
 | b2s (x:Operand)
 | new (zero:List Value)
 | box (x:Operand)
 | make (zero:List Value) (bytes:Nat) (len cap:Operand)
 | lit (zero:List Value) (len:Nat) (parts:List (Nat×Operand))
 | call (f:Nat) (args:List Operand)
 | store (size:Nat) (p v:Operand)
 | app (size bytes:Nat) (x y:Operand)
 | appz (zero:List Value) (bytes:Nat) (x n:Operand)
 | copy (size:Nat) (x y:Operand)
 | clear (zero:List Value) (x:Operand)
 | callv (fv:Operand) (args:List Operand)
 deriving Inhabited
def dI:BinOp→Value→Value→Option Value
 | .shl,.int k a,.int _ b=>if b<0 then none else some (.int k (k.wrap (a*2^Nat.min b.toNat k.bits)))
 | .shr,.int k a,.int _ b=>if b<0 then none else some (.int k (a.fdiv (2^Nat.min b.toNat k.bits)))
 |
  op,.int k a,.int k' b =>
  if k=k' then
   match op with
   | .add=>some (.int k (k.wrap (a+b)))
   | .sub=>some (.int k (k.wrap (a-b)))
   | .mul=>some (.int k (k.wrap (a*b)))
   | .quo=>if b=0 then none else some (.int k (k.wrap (a.tdiv b)))
   | .rem=>if b=0 then none else some (.int k (a.tmod b))
   | .and=>some (.int k (k.wrap ((BitVec.ofInt k.bits a &&& BitVec.ofInt k.bits b).toNat:Int)))
   | .or=>some (.int k (k.wrap ((BitVec.ofInt k.bits a ||| BitVec.ofInt k.bits b).toNat:Int)))
   | .xor=>some (.int k (k.wrap ((BitVec.ofInt k.bits a ^^^ BitVec.ofInt k.bits b).toNat:Int)))
   | .andNot=>some (.int k (k.wrap ((BitVec.ofInt k.bits a &&& ~~~ BitVec.ofInt k.bits b).toNat:Int)))
   | .eql=>some (.bool (a == b))
   | .neq=>some (.bool (a != b))
   | .lss=>some (.bool (a<b))
   | .leq=>some (.bool (a≤b))
   | .gtr=>some (.bool (a>b))
   | .geq=>some (.bool (a≥b))
   | _=>none
  else none
 |
  op,.string a,.string b =>
  match op with
  | .add=>if ((a.size+b.size:Nat):Int)>IntKind.i64.max then none else some (.string (a++b))
  | .eql=>some (.bool (a.toList == b.toList))
  | .neq=>some (.bool (!(a.toList == b.toList)))
  | .lss=>some (.bool (Op.bytesLess a.toList b.toList))
  | .leq=>some (.bool (Op.bytesLess a.toList b.toList||a.toList == b.toList))
  | .gtr=>some (.bool (!(Op.bytesLess a.toList b.toList||a.toList == b.toList)))
  | .geq=>some (.bool (!(Op.bytesLess a.toList b.toList)))
  | _=>none
 | _,_,_=>none
def pun:UnOp→Value→Option Value
 | .neg,.int k n=>some (.int k (k.wrap (0-n)))
 | .not,.bool b=>some (.bool !b)
 | _,_=>none
def tC:CK→Value→Value→Option Bool
 | .int,.int k a,.int k' b=>if k=k' then some (a == b) else none
 | .bool,.bool a,.bool b=>some (a == b)
 | .str,.string a,.string b=>some (a == b)
 | _,_,_=>none
def pE:List CK→List Value→List Value→Option Bool
 | [],[],[]=>some true
 |
  k::ks,x::xs,y::ys=>match tC k x y with
  | some true=>pE ks xs ys
  | some false=>some false
  | none=>none
 | _,_,_=>none
def vO (places:List (Nat×Nat)) (cells:List Value):List (Nat×Value)→Option (List Value)
 | []=>some cells
 |
  (i,v)::rest =>
  match places[i]? with
  | none=>none
  |
   some (off,size) =>
   if (aO v).length=size∧off+size≤cells.length then
    vO places (cells.take off++aO v++cells.drop (off+size)) rest
   else none
def eU (v:Option Value) (azT:Option Nat) (top:Nat):Option Nat :=
 match v with
 | none=>azT
 | some (.int _ i)=>if 0≤i∧i≤top then some i.toNat else none
 | _=>none
def zJ (lo hi:Option Value) (n:Nat):Option (Nat×Nat) :=
 match eU hi (some n) n with
 | none=>none
 |
  some h=>match eU lo (some 0) h with
  | none=>none
  | some l=>some (l,h)
def iM (o:nK) (ρ:Env):Option Value :=
 match o with
 | .mv x=>some (ev ρ x)
 |
  .pick c a b=>match ev ρ c with
  | .bool t=>some (if t then ev ρ a else ev ρ b)
  | _=>none
 | .bin op x y=>dI op (ev ρ x) (ev ρ y)
 |
  .eqb neg x y=>match ev ρ x,ev ρ y with
  | .bool a,.bool b=>some (.bool ((a == b) != neg))
  | _,_=>none
 |
  .isnil neg x=>match ev ρ x with
  | .slice none _ _=>some (.bool (true != neg))
  | .slice (some _) _ _=>some (.bool (false != neg))
  | _=>none
 |
  .eqagg neg ks x y=>match ev ρ x,ev ρ y with
  | .agg a,.agg b=>(pE ks a.toList b.toList).map fun t => .bool (t != neg)
  | _,_=>none
 | .un op x=>pun op (ev ρ x)
 |
  .cvt k x=>match ev ρ x with
  | .int _ n=>some (.int k (k.wrap n))
  | _=>none
 |
  .cvs x=>match ev ρ x with
  | .string s=>some (.string s)
  | _=>none
 |
  .ext x i=>match ev ρ x with
  | .tuple vs=>vs[i]?
  | _=>none
 |
  .fld agg off size x=>match ev ρ x with
  | .agg cs=>if agg then (if off+size≤cs.size then some (.agg (cs.extract off (off+size))) else none) else cs[off]?
  | _=>none
 | .build zero places parts=>(vO places zero (parts.map fun(i,x)=>(i,ev ρ x))).map fun cs => .agg cs.toArray
 |
  .chk x=>match ev ρ x with
  | .pointer (some a)=>some (.pointer (some a))
  | _=>none
 |
  .faddr off x=>match ev ρ x with
  | .pointer (some ⟨b,o,none⟩)=>some (.pointer (some ⟨b,o+off,none⟩))
  | _=>none
 |
  .iaddr size x i=>match ev ρ x,ev ρ i with
  | .slice (some ⟨b,o,none⟩) n _,.int _ i=>if 0≤i∧i<n then some (.pointer (some ⟨b,o+i.toNat*size,none⟩)) else none
  | _,_=>none
 |
  .sidx x i=>match ev ρ x,ev ρ i with
  | .string s,.int _ i=>if 0≤i∧i<s.size then some (.int .u8 ((s.data.toList.getD i.toNat 0).toNat:Int)) else none
  | _,_=>none
 |
  .ssub x lo hi=>match ev ρ x with
  |
   .string s=>match zJ (lo.map (ev ρ)) (hi.map (ev ρ)) s.size with
   | some (l,h)=>some (.string (s.extract l h))
   | none=>none
  | _=>none
 | .mkfn f fT=>some (.func (.func f) #[] (fT.map (ev ρ)).toArray)
 |
  .slen x=>match ev ρ x with
  | .string s=>some (.int .i64 s.size)
  | _=>none
 |
  .len x=>match ev ρ x with
  | .slice _ n _=>some (.int .i64 n)
  | _=>none
 |
  .acP x=>match ev ρ x with
  | .slice none _ 0=>some (.int .i64 0)
  | _=>none
 |
  .min x y=>match ev ρ x,ev ρ y with
  | .int k a,.int _ b=>some (.int k (if b<a then b else a))
  | _,_=>none
 |
  .max x y=>match ev ρ x,ev ρ y with
  | .int k a,.int _ b=>some (.int k (if b>a then b else a))
  | _,_=>none
 | _=>none
def aE.cells (H:aE) (b:Nat):Option (List Value) :=
 match H[b]? with
 | some (.row cs _ _)=>some cs
 | _=>none
def aE.read (H:aE) (b o n:Nat):Option (List Value) :=
 match H[b]? with
 | some (.row cs _ _)=>if o+n≤cs.length then some ((cs.drop o).take n) else none
 | _=>none
def iT (cs:List Value) (o:Nat) (new:List Value):List Value:=cs.take o++new++cs.drop (o+new.length)
def aE.write (H:aE) (lo b o:Nat) (new:List Value):Option aE :=
 match H[b]? with
 | some (.row cs e p)=>if lo≤b∧o+new.length≤cs.length∧new.all fS then some (H.set b (.row (iT cs o new) e p)) else none
 | _=>none
def cZ (n:Nat) (zero:List Value):List Value:=(List.range (n*zero.length)).map fun i=>zero.getD (i % zero.length) undef
inductive Out where
 | val (v:Value) (H:aE)
 | call (f:Nat) (args:List Value)
def jD (H:aE) (size n:Nat):Value→Option (List Value)
 | .slice (some ⟨b,o,none⟩) _ _=>H.read b o (n*size)
 | .slice none _ _=>if n=0 then some [] else none
 | .string s=>if size=1 then some ((s.data.toList.take n).map fun b => .int .u8 b.toNat) else none
 | _=>none
def rY:Value→Option Nat
 | .slice _ n _=>some n
 | .string s=>some s.size
 | _=>none
def eO (lo size bytes:Nat) (x:Value) (add:Nat) (new:List Value) (H:aE):Option (Value×aE) :=
 if 1≤bytes∧1≤size∧new.all fS∧new.length=add*size then
  match x with
  |
   .slice none n c =>
   if n=0∧c=0 then
    if add=0 then some (.slice none 0 0,H)
    else if add*bytes≤140737488355328 then some (.slice (some ⟨H.length,0,none⟩) add add,H++[.row new size true])
    else none
   else none
  |
   .slice (some ⟨b,o,none⟩) n c =>
   match H[b]? with
   |
    some (.row cs e p) =>
    if e=size∧o+n*size≤cs.length then
     if n+add≤c then
      if add=0 then some (.slice (some ⟨b,o,none⟩) n c,H)
      else (H.write lo b (o+n*size) new).map fun H'=>(.slice (some ⟨b,o,none⟩) (n+add) c,H')
     else if (n+add)*bytes≤140737488355328 then
      if p then
       if lo≤b then some (.slice (some ⟨H.length,0,none⟩) (n+add) (n+add),H.set b .dead++[.row ((cs.drop o).take (n*size)++new) size true])
       else none
      else some (.slice (some ⟨H.length,0,none⟩) (n+add) (n+add),H++[.row ((cs.drop o).take (n*size)++new) size true])
     else none
    else none
   | _=>none
  | _=>none
 else none
def CA (size:Nat) (x:Value) (lo hi mx:Option Value) (H:aE):Option (Value×aE) :=
 match x with
 |
  .slice none n c=>if n=0∧c=0 then
   match eU mx (some 0) 0 with
   | none=>none
   |
    some m=>match eU hi (if mx.isSome then none else some 0) m with
    | none=>none
    |
     some h=>match eU lo (some 0) h with
     | none=>none
     | some _=>some (.slice none 0 0,H)
  else none
 |
  .slice (some ⟨b,o,none⟩) n c =>
  match H[b]? with
  |
   some (.row _ e _) =>
   if e=size then
    match eU mx (some c) c with
    | none=>none
    |
     some m=>match eU hi (if mx.isSome then none else some n) m with
     | none=>none
     |
      some h=>match eU lo (some 0) h with
      | none=>none
      |
       some l =>
       if mx.isSome∧m=l then some (.slice (some ⟨H.length,0,none⟩) 0 0,H++[.row [] size false])
       else some (.slice (some ⟨b,o+l*size,none⟩) (h-l) (m-l),H)
   else none
  | _=>none
 | _=>none
def tF:List Value→Option (List UInt8)
 | []=>some []
 | .int .u8 n::r=>(tF r).map (UInt8.ofNat n.toNat :: ·)
 | _=>none
def nS (agg:Bool) (size:Nat) (v:Value) (H:aE):Option Value :=
 match v with
 |
  .pointer (some ⟨b,o,none⟩) =>
  if agg then (H.read b o size).map fun cs => .agg cs.toArray
  else match H.read b o 1 with
   | some [v]=>some v
   | _=>none
 | _=>none
def pop (lo:Nat) (o:nK) (ρ:Env) (H:aE):Option Out :=
 match o with
 | .load agg size p=>(nS agg size (ev ρ p) H).map fun v => .val v H
 | .sub size x l h m=>(CA size (ev ρ x) (l.map (ev ρ)) (h.map (ev ρ)) (m.map (ev ρ)) H).map fun(v,H') => .val v H'
 |
  .b2s x=>match ev ρ x with
  | .slice none _ _=>some (.val (.string ByteArray.empty) H)
  |
   .slice (some ⟨b,o,none⟩) n _=>match H.read b o n with
   | some cs=>(tF cs).map fun bs => .val (.string ⟨bs.toArray⟩) H
   | none=>none
  | _=>none
 | .new zero=>some (.val (.pointer (some ⟨H.length,0,none⟩)) (H++[.row zero zero.length false]))
 | .box x=>if (aO (ev ρ x)).all fS then some (.val (.pointer (some ⟨H.length,0,none⟩)) (H++[.row (aO (ev ρ x)) (aO (ev ρ x)).length false])) else none
 |
  .make zero bytes l c=>match ev ρ l,ev ρ c with
  | .int .i64 l,.int .i64 c=>if 0≤l∧l≤c∧c*bytes≤281474976710656∧c≤9223372036854775807 then
    some (.val (.slice (some ⟨H.length,0,none⟩) l.toNat c.toNat) (H++[.row (cZ c.toNat zero) zero.length false])) else none
  | _,_=>none
 |
  .lit zero n parts =>
  match vO ((List.range n).map fun i=>(i*zero.length,zero.length)) (cZ n zero) (parts.map fun(i,x)=>(i,ev ρ x)) with
  | some cs=>if cs.all fS then some (.val (.slice (some ⟨H.length,0,none⟩) n n) (H++[.row cs zero.length false])) else none
  | none=>none
 |
  .store size p v=>match ev ρ p with
  | .pointer (some ⟨b,o,none⟩)=>if (aO (ev ρ v)).length=size then (H.write lo b o (aO (ev ρ v))).map fun H' => .val undef H' else none
  | _=>none
 |
  .app size bytes x y=>match rY (ev ρ y) with
  |
   some n=>match jD H size n (ev ρ y) with
   | some new=>(eO lo size bytes (ev ρ x) n new H).map fun(v,H') => .val v H'
   | none=>none
  | none=>none
 |
  .appz zero bytes x n=>match ev ρ n with
  | .int .i64 n=>if 0≤n∧n*bytes≤140737488355328 then (eO lo zero.length bytes (ev ρ x) n.toNat (cZ n.toNat zero) H).map fun(v,H') => .val v H' else none
  | _=>none
 |
  .copy size x y=>match ev ρ x,rY (ev ρ y) with
  | .slice none _ _,some _=>some (.val (.int .i64 0) H)
  |
   .slice (some ⟨b,o,none⟩) d _,some s=>match jD H size (Nat.min s d) (ev ρ y) with
   | some new=>(H.write lo b o new).map fun H' => .val (.int .i64 (Nat.min s d)) H'
   | none=>none
  | _,_=>none
 |
  .clear zero x=>match ev ρ x with
  | .slice none _ _=>some (.val undef H)
  | .slice (some ⟨b,o,none⟩) n _=>if n=0 then some (.val undef H) else (H.write lo b o (cZ n zero)).map fun H' => .val undef H'
  | _=>none
 | .call f args=>some (.call f (args.map (ev ρ)))
 |
  .callv fv args=>match ev ρ fv with
  | .func (.func f) first fT=>some (.call f (first.toList++args.map (ev ρ)++fT.toList))
  | _=>none
 | o=>(iM o ρ).map (.val · H)
structure PI where
 dst:Option Nat
 op:nK
 g:Option (Nat×Bool):=none
 quiet:Bool:=false
 cf:List (Operand×Operand):=[]
 deriving Inhabited
inductive aD where
 | skip
 | dC (ops:List PI)
 | seq (a b:aD)
 | cond (c:Operand) (a b:aD)
 | block (id:Nat) (a:aD)
 | loop (a:aD)
 | exit (id:Nat)
 | ret
 deriving Inhabited
inductive Bd where
 | tmp (t:Nat)
 | cell (t:Nat) (agg:Bool) (size:Nat)
 deriving Inhabited
structure aR where
 ntmps:Nat
 res:List Bd
 body:aD
 deriving Inhabited
inductive Ex where
 | normal
 | exit (id:Nat)
 | ret
abbrev gG:=Nat→List Value→Nat→aE→Option (Value×aE)
def zP (g:Option (Nat×Bool)) (ρ:Env):Option Bool :=
 match g with
 | none=>some true
 |
  some (t,want)=>match ρ t with
  | .bool b=>some (b == want)
  | .tuple _=>some false
  | _=>none
def iX:Value→Option Nat
 | .pointer (some a)=>some a.block
 | .slice (some a) _ _=>some a.block
 | _=>none
def AR (ρ:Env) (c:Operand×Operand):Bool :=
 match iX (ev ρ c.1),iX (ev ρ c.2) with
 | some a,some b=>a != b
 | _,_=>true
def yR (call:gG) (lo:Nat) (i:PI) (ρ:Env) (H:aE):Option (Value×aE) :=
 match zP i.g ρ with
 | none=>none
 | some false=>some (undef,H)
 |
  some true =>
  if i.cf.all (AR ρ) then
   match pop lo i.op ρ H with
   | some (.val v H')=>some (v,H')
   | some (.call f args)=>call f args (if i.quiet then H.length else lo) H
   | none=>none
  else none
def yO (call:gG) (lo:Nat) (i:PI) (ρ:Env) (H:aE):Option (Env×aE) :=
 match yR call lo i ρ H with
 | some (v,H')=>some (put ρ i.dst v,H')
 | none=>none
def gT (call:gG) (lo:Nat):List PI→Env→aE→Option (Env×aE)
 | [],ρ,H=>some (ρ,H)
 |
  i::is,ρ,H=>match yO call lo i ρ H with
  | some (bI,H')=>gT call lo is bI H'
  | none=>none
def wW (body:Env→aE→Option (Ex×Env×aE)):Nat→Env→aE→Option (Ex×Env×aE)
 | 0,_,_=>none
 |
  n+1,ρ,H=>match body ρ H with
  | some (.normal,bI,H')=>wW body n bI H'
  | r=>r
def dL (call:gG) (lo n:Nat):aD→Env→aE→Option (Ex×Env×aE)
 | .skip,ρ,H=>some (.normal,ρ,H)
 | .dC ops,ρ,H=>(gT call lo ops ρ H).map fun(bI,H')=>(.normal,bI,H')
 |
  .seq a b,ρ,H=>match dL call lo n a ρ H with
  | some (.normal,bI,H')=>dL call lo n b bI H'
  | r=>r
 |
  .cond c a b,ρ,H=>match ev ρ c with
  | .bool t=>if t then dL call lo n a ρ H else dL call lo n b ρ H
  | _=>none
 |
  .block id a,ρ,H=>match dL call lo n a ρ H with
  | some (.exit SM,bI,H')=>if SM=id then some (.normal,bI,H') else some (.exit SM,bI,H')
  | r=>r
 | .loop a,ρ,H=>wW (dL call lo n a) n ρ H
 | .exit id,ρ,H=>some (.exit id,ρ,H)
 | .ret,ρ,H=>some (.ret,ρ,H)
def Vz (ρ:Env) (H:aE):Bd→Option Value
 | .tmp t=>some (ρ t)
 | .cell t agg size=>nS agg size (ρ t) H
def BB (ρ:Env) (H:aE):List Bd→Option (List Value)
 | []=>some []
 |
  r::rs=>match Vz ρ H r,BB ρ H rs with
  | some v,some vs=>some (v::vs)
  | _,_=>none
def qH (res:List Bd) (ρ:Env) (H:aE):Option Value :=
 match BB ρ H res with
 | some [v]=>some v
 | some vs=>some (.tuple vs.toArray)
 | none=>none
def XL (args:List Value):Env:=fun k=>args.getD k undef
structure AX where
 Ba:Nat→Option (List Value→aE→Option Value)
 eff:Nat→Bool
abbrev Zl:=Nat→Option aR
def mB (E:AX) (T:Zl):Nat→gG
 | 0,_,_,_,_=>none
 |
  n+1,f,args,lo,H =>
  match E.Ba f with
  | some p=>(p args H).map (·,H)
  |
   none=>match T f with
   | none=>none
   |
    some pf =>
    if args.length≤pf.ntmps then
     match dL (mB E T n) lo n pf.body (XL args) H with
     | some (.normal,ρ,H') | some (.ret,ρ,H')=>(qH pf.res ρ H').map (·,H')
     | _=>none
    else none
def LT (n:Nat):Operand := .tmp n
def LI (n:Int):Operand := .const (.int .i64 n)
def LG:Operand := .const (.bool true)
def LF:Operand := .const (.bool false)
def LL (n:Nat):nK := .load false 1 (.tmp n)
def LK (n:Nat):nK := .load true 3 (.tmp n)
def LX (n k:Nat):nK := .ext (.tmp n) k
def LA (k n:Nat):nK := .faddr k (.tmp n)
def LO (d:Nat) (p:nK):PI:=⟨some d,p,none,false,[]⟩
def LQ (d:Nat) (p:nK):PI:=⟨some d,p,none,true,[]⟩
def LN (p:nK):PI:=⟨none,p,none,false,[]⟩
def LM (d s:Nat):PI:=⟨some d,.mv (.tmp s),none,false,[]⟩
def LY (g d:Nat) (p:nK):PI:=⟨some d,p,some (g,true),false,[]⟩
def LZ (g d:Nat) (p:nK):PI:=⟨some d,p,some (g,false),false,[]⟩
def LS (l:List PI) (c:aD):aD := .seq (.dC l) c
end Go.PM
namespace Go.PM
def CU:TypeDesc→Bool
 | .struct _ | .array _ _=>true
 | _=>false
def mA (P:Program) (t:TypeId):Option (Bool×Nat×List Value×Nat) :=
 match P.info? t,P.underlying t with
 |
  some i,some u=>match i.zero with
  | some z=>some (CU u,i.size,aO z,i.bytes)
  | none=>none
 | _,_=>none
def jX (P:Program) (t:TypeId):Option (Bool×Nat×List Value×Nat) :=
 match P.underlying t with
 | some (.slice e)=>mA P e
 | _=>none
def kM:Value→Bool
 | .bool _ | .int _ _ | .string _ | .pointer none | .slice none 0 0 | .nilFunc | .nilIface=>true
 | .agg cs=>cs.all fun | .bool _ | .int _ _ | .string _ | .pointer none | .slice none 0 0 | .nilFunc | .nilIface=>true | _=>false
 | .tuple vs=>vs.isEmpty
 | _=>false
def PC:Operand→Bool
 | .tmp _ | .func _=>true
 | .const v=>kM v
 | .global _=>false
def uO (P:Program):Nat→List Field→Option (List CK)
 | _,[]=>some []
 |
  i,f::fs =>
  if f.name != "_"&&f.offset == i then
   match (P.info? f.type).map (·.size),P.underlying f.type,uO P (i+1) fs with
   | some 1,some (.int _),some ks=>some (.int::ks)
   | some 1,some .bool,some ks=>some (.bool::ks)
   | some 1,some .string,some ks=>some (.str::ks)
   | _,_,_=>none
  else none
def CX (P:Program) (t:TypeId):Option (List CK) :=
 match P.underlying t with
 | some (.struct fs)=>if P.stoodInHeld t||P.eqGuardType P.depth t then none else uO P 0 fs.toList
 | _=>none
def Qs:Operand→Bool
 | .const (.slice none 0 0)=>true
 | _=>false
def BO (P:Program) (op:BinOp) (t:TypeId) (x y:Operand):Option nK :=
 match P.underlying t with
 | some (.int _) | some .string=>some (.bin op x y)
 |
  some .bool=>match op with
  | .eql=>some (.eqb false x y)
  | .neq=>some (.eqb true x y)
  | _=>none
 |
  some (.slice _)=>match op with
  | .eql=>if Qs y then some (.isnil false x) else none
  | .neq=>if Qs y then some (.isnil true x) else none
  | _=>none
 | some (.struct _)=>match op,CX P t with
   | .eql,some ks=>some (.eqagg false ks x y)
   | .neq,some ks=>some (.eqagg true ks x y)
   | _,_=>none
 | _=>none
def Lg:TypeDesc→Bool
 | .slice _ | .string=>true
 | _=>false
def oN (P:Program) (b:Builtin) (args:Array Operand) (ts:Array TypeId):Option nK :=
 match b,args.toList,ts.toList with
 |
  .len,[x],t::_=>match P.underlying t with
  | some .string=>some (.slen x)
  | some (.slice _)=>some (.len x)
  | _=>none
 |
  .cap,[x],t::_=>match P.underlying t with
  | some (.slice _)=>some (.acP x)
  | _=>none
 | .min,[x,y],_=>some (.min x y)
 | .max,[x,y],_=>some (.max x y)
 |
  .append,[x,y],s::t::_=>match jX P s,P.underlying t with
  | some (_,size,zero,bytes),some (.int _)=>if zero.all fS&&zero.all kM&&1≤zero.length&&size == zero.length then some (.appz zero bytes x y) else none
  | some (_,size,zero,bytes),some d=>if Lg d then (if size == zero.length then some (.app size bytes x y) else none) else none
  | _,_=>none
 |
  .copy,[x,y],t::_=>match jX P t with
  | some (_,size,_,_)=>some (.copy size x y)
  | _=>none
 |
  .clear,[x],t::_=>match jX P t with
  | some (_,size,zero,_)=>if zero.all fS&&zero.all kM&&size == zero.length&&1≤zero.length then some (.clear zero x) else none
  | _=>none
 | _,_,_=>none
def pK (P:Program) (o:Op):Option nK :=
 if o.operands.all PC then
  match o with
  | .move x | .assign x=>some (.mv x)
  | .pick c a b=>some (.pick c a b)
  | .binOp op t x y _=>BO P op t x y
  | .unOp op _ x=>some (.un op x)
  |
   .convert s d x=>match P.underlying s,P.underlying d with
   | some (.int _),some (.int k)=>some (.cvt k x)
   | some .string,some .string=>some (.cvs x)
   |
    some (.slice e),some .string=>match P.underlying e with
    | some (.int .u8)=>some (.b2s x)
    | _=>none
   | _,_=>none
  | .extract x i=>some (.ext x i)
  |
   .field t x i=>match P.underlying t with
   |
    some (.struct fs)=>match fs[i]? with
    | some f=>(mA P f.type).map fun(agg,size,_,_) => .fld agg f.offset size x
    | none=>none
   | _=>none
  |
   .build t parts=>match P.underlying t,mA P t with
   |
    some (.struct fs),some (_,_,zero,_) =>
    match fs.toList.mapM fun f=>(P.info? f.type).map fun i=>(f.offset,i.size) with
    | some places=>if zero.all kM then some (.build zero places parts.toList) else none
    | none=>none
   | _,_=>none
  | .nilCheck x=>some (.chk x)
  |
   .fieldAddr t x i=>match P.underlying t with
   |
    some (.struct fs)=>match fs[i]? with
    |
     some f=>match P.info? f.type with
     | some i=>if i.size=0 then none else some (.faddr f.offset x)
     | none=>none
    | none=>none
   | _=>none
  | .indexAddr t x i=>(jX P t).map fun(_,size,_,_) => .iaddr size x i
  |
   .index t x i=>match P.underlying t with
   | some .string=>some (.sidx x i)
   | _=>none
  |
   .slice t x lo hi mx=>match P.underlying t with
   | some .string=>if mx.isNone then some (.ssub x lo hi) else none
   | some (.slice e)=>(mA P e).map fun(_,size,_,_) => .sub size x lo hi mx
   | _=>none
  | .makeInterface _ _ | .panic _=>some .die
  | .makeFunc (.func f) first fT=>if first.isEmpty then some (.mkfn f fT.toList) else none
  | .load t p=>(mA P t).map fun(agg,size,_,_) => .load agg size p
  | .store t p v=>(P.info? t).map fun i => .store i.size p v
  |
   .alloc t=>match mA P t with
   | some (_,_,zero,_)=>if zero.all fS&&zero.all kM then some (.new zero) else none
   | none=>none
  | .box _ x=>some (.box x)
  |
   .makeSlice t l c=>match jX P t with
   | some (_,size,zero,bytes)=>if zero.all fS&&zero.all kM&&size == zero.length&&1≤size then some (.make zero bytes l c) else none
   | none=>none
  |
   .buildSlice t n parts=>match jX P t with
   | some (_,size,zero,_)=>if zero.all fS&&zero.all kM&&size == zero.length&&1≤size&&n*size≤16777216 then some (.lit zero n parts.toList) else none
   | none=>none
  | .call { callee := .builtin b,args,argTypes }=>oN P b args argTypes
  | .call { callee := .value (.func f),args,.. }=>some (.call f args.toList)
  | .call { callee := .value (.tmp t),args,.. }=>some (.callv (.tmp t) args.toList)
  | _=>none
 else none
inductive Cls where
 | pure | look | quiet | write
 deriving DecidableEq
def fU (E:AX):nK→Cls
 | .load .. | .b2s _ => .look
 | .sub _ _ _ _ mx=>if mx.isSome then .quiet else .look
 | .new _ | .box _ | .make .. | .lit .. | .callv .. => .quiet
 | .call f _=>if E.eff f then .write else .quiet
 | .store .. | .app .. | .appz .. | .copy .. | .clear .. => .write
 | _ => .pure
def EC:nK→Option Operand
 | .load _ _ p=>some p
 | .sub _ x _ _ _=>some x
 | .b2s x=>some x
 | .store _ p _=>some p
 | .app _ _ x _=>some x
 | .appz _ _ x _=>some x
 | .copy _ x _=>some x
 | .clear _ x=>some x
 | _=>none
def wO (o:Oper) (M:List Nat):Nat :=
 o.after.toList.foldr (fun e s=>if Region.binds .any e then s ||| 2^e.on ||| M.getD e.on 0 else s) 0
def PX:List Oper→List Nat→List Nat
 | [],acc=>acc
 | o::os,acc=>PX os (acc++[wO o acc])
def tmpsOf (xs:Array Operand):List Nat:=xs.toList.filterMap fun | .tmp t=>some t | _=>none
def wD (ops:List Oper) (o:Oper):List Nat :=
 tmpsOf o.op.operands++(match o.guard with | some (j,_)=>((ops[j]?).bind (·.dst)).toList | none=>[])
def ahead (M:List Nat) (i j:Nat):Bool:=(M.getD (Nat.max i j) 0).testBit (Nat.min i j)
def guardOf (ops:List Oper) (i:Nat) (o:Oper):Option (Option (Nat×Bool)) :=
 match o.guard with
 | none=>some none
 |
  some (j,want)=>if j<i then match (ops[j]?).bind (·.dst) with
   | some d=>some (some (d,want))
   | none=>none
  else none
def D2 (ops:List Oper) (i j:Nat):Operand→Bool
 | .tmp t=>(ops.take j).drop i |>.all fun o=>o.dst != some t
 | _=>false
def conflicts (E:AX) (ops:List Oper) (ps:List nK) (M:List Nat) (j:Nat) (pj:nK):Option (List (Operand×Operand)) :=
 (List.range j).foldr (fun i acc=>match acc,ps[i]? with
  |
   some l,some pi =>
   match fU E pi,fU E pj with
   |
    .look,.write | .write,.look =>
    if ahead M i j then some l
    else match EC pi,EC pj with
     | some a,some b=>if D2 ops i j a then some ((a,b)::l) else none
     | _,_=>none
   | .write,.write | .quiet,.write | .write,.quiet=>if ahead M i j then some l else none
   | _,_=>some l
  | _,_=>none) (some [])
def acU (mask:Nat):Option (Nat×Bool)→Bool
 | some (j,_)=>mask.testBit j
 | none=>true
def ajH (n:Nat):Option Nat→Bool
 | some d=>decide (d<n)
 | none=>true
def TD (E:AX) (ops:List Oper) (ps:List nK) (M:List Nat) (n:Nat) (draw:Bool) (i:Nat):Option PI :=
 match ops[i]?,ps[i]? with
 |
  some o,some p =>
  if ajH n o.dst then
   match guardOf ops i o with
   | none=>none
   |
    some g =>
    if draw then
     if (o.after.toList.all fun e => !Region.binds .any e||decide (e.on<i))
      && acU (M.getD i 0) o.guard
      && (
       (o.dst.toList++wD ops o).all fun t=>(List.range ops.length).all fun k=>match ops[k]? with
       | some ok=>ok.dst != some t||k == i||ahead M i k
       | none=>true)
      && (M.getD i 0 == wO o M)
     then (conflicts E ops ps M i p).map fun cf=>{ dst:=o.dst,op:=p,g:=g,quiet:=(match fU E p with | .quiet=>true | _=>false),cf:=cf }
     else none
    else some { dst:=o.dst,op:=p,g:=g }
  else none
 | _,_=>none
def xZ (P:Program) (E:AX) (n:Nat) (ops:Array Oper) (draw:Bool):Option (List PI) :=
 match ops.toList.mapM fun o=>pK P o.op with
 |
  some ps =>
  let M:=if draw then PX ops.toList [] else []
  (List.range ops.size).mapM fun i=>TD E ops.toList ps M n draw i
 | none=>none
def iG (P:Program) (E:AX) (n:Nat):Code→Option aD
 | .skip=>some .skip
 | .region _ ops draw=>(xZ P E n ops draw).map .dC
 |
  .seq a b=>match iG P E n a,iG P E n b with
  | some a,some b=>some (.seq a b)
  | _,_=>none
 |
  .cond c a b=>if PC c then match iG P E n a,iG P E n b with
   | some a,some b=>some (.cond c a b)
   | _,_=>none
  else none
 | .block id a=>(iG P E n a).map (.block id)
 | .loop a=>(iG P E n a).map .loop
 | .exit id=>some (.exit id)
 | .ret=>some .ret
 | _=>none
def Mw (P:Program) (E:AX) (fn:Func):Option aR :=
 match fn.body with
 | none=>none
 |
  some c =>
  if fn.name == "runtime.NumGoroutine" then none else
  match fn.results.toList.mapM fun | .tmp t=>some (.tmp t) | .cell t ty=>(mA P ty).map fun(agg,size,_,_) => .cell t agg size with
  | none=>none
  | some res=>(iG P E fn.ntmps c).map fun body=>{ ntmps:=fn.ntmps,res:=res,body:=body }
def Te (P:Program) (E:AX):Zl:=fun f=>(P.funcs[f]?).bind (Mw P E)
end Go.PM
namespace Go.PM
structure Loc where
 rb:Nat
 base:Nat
 kJ:Nat
 Pw:Nat
 Sw:Bool
abbrev dO:=Nat→Option Loc
inductive RV (m:dO):Value→Value→Prop
 | bool (b:Bool):RV m (.bool b) (.bool b)
 | int (k:IntKind) (n:Int):RV m (.int k n) (.int k n)
 | str (s:ByteArray):RV m (.string s) (.string s)
 | abM:RV m (.pointer none) (.pointer none)
 | ptr (b o:Nat) (l:Loc) (h:m b=some l):RV m (.pointer (some ⟨b,o,none⟩)) (.pointer (some ⟨l.rb,l.base+o,none⟩))
 | R5:RV m (.slice none 0 0) (.slice none 0 0)
 | slice (b o n c:Nat) (l:Loc) (ra:Addr) (rc:Nat) (h:m b=some l) (hn:n≤c) (hc:c≤rc) (hx:l.Sw=false→rc=c)
  (ha:rc=0∨(ra=⟨l.rb,l.base+o,none⟩∧l.base+o+rc*l.kJ≤l.Pw)):RV m (.slice (some ⟨b,o,none⟩) n c) (.slice (some ra) n rc)
 | nilFunc:RV m .nilFunc .nilFunc
 | nilIface:RV m .nilIface .nilIface
 | func (fn:Fn) (f g c d:Array Value) (h1:f.size=g.size) (h2:∀i,i<f.size→RV m (f.getD i undef) (g.getD i undef))
  (h3:c.size=d.size) (h4:∀i,i<c.size→RV m (c.getD i undef) (d.getD i undef)):RV m (.func fn f c) (.func fn g d)
 | agg (f g:Array Value) (h1:f.size=g.size) (h2:∀i,i<f.size→RV m (f.getD i undef) (g.getD i undef)):RV m (.agg f) (.agg g)
 | tuple (f g:Array Value) (h1:f.size=g.size) (h2:∀i,i<f.size→RV m (f.getD i undef) (g.getD i undef)):RV m (.tuple f) (.tuple g)
theorem RV.mono {m m':dO} (hm:∀b l,m b=some l→m' b=some l) {v r:Value} (h:RV m v r):RV m' v r:=by
 induction h with
 | bool b=>exact .bool b
 | int k n=>exact .int k n
 | str s=>exact .str s
 | abM=>exact .abM
 | ptr b o l h=>exact .ptr b o l (hm _ _ h)
 | R5=>exact .R5
 | slice b o n c l ra rc h hn hc hx ha=>exact .slice b o n c l ra rc (hm _ _ h) hn hc hx ha
 | nilFunc=>exact .nilFunc
 | nilIface=>exact .nilIface
 | func fn f g c d h1 _ h3 _ i2 i4=>exact .func fn f g c d h1 i2 h3 i4
 | agg f g h1 _ i2=>exact .agg f g h1 i2
 | tuple f g h1 _ i2=>exact .tuple f g h1 i2
theorem RV.undef (m:dO):RV m undef undef := .tuple _ _ rfl (fun i hi=>absurd hi (by simp))
def RL (m:dO) (xs ys:List Value):Prop:=xs.length=ys.length∧∀i,i<xs.length→RV m (xs.getD i Go.undef) (ys.getD i Go.undef)
theorem RL.mono {m m':dO} (hm:∀b l,m b=some l→m' b=some l) {xs ys:List Value} (h:RL m xs ys):RL m' xs ys :=
 ⟨h.1,fun i hi=>(h.2 i hi).mono hm⟩
theorem RL.nil (m:dO):RL m [] []:=⟨rfl,fun i hi=>absurd hi (by simp)⟩
theorem RL.cons {m:dO} {x y:Value} {xs ys:List Value} (h:RV m x y) (hs:RL m xs ys):RL m (x::xs) (y::ys):=by
 refine⟨by simp[hs.1],fun i hi => ?_⟩
 cases i with
 | zero=>simpa using h
 | succ i=>simpa using hs.2 i (by simpa using hi)
theorem RL.jU {m:dO} {x y:Value} {xs ys:List Value} (h:RL m (x::xs) (y::ys)):RV m x y∧RL m xs ys:=by
 refine⟨by simpa using h.2 0 (by simp),by simpa using h.1,fun i hi => ?_⟩
 simpa using h.2 (i+1) (by simpa using hi)
theorem RL.append {m:dO} {xs ys us vs:List Value} (h:RL m xs ys) (h':RL m us vs):RL m (xs++us) (ys++vs):=by
 induction xs generalizing ys with
 |
  nil =>
  cases ys with
  | nil=>simpa using h'
  | cons y ys=>exact absurd h.1 (by simp)
 |
  cons x xs ih =>
  cases ys with
  | nil=>exact absurd h.1 (by simp)
  | cons y ys=>exact RL.cons h.jU.1 (ih h.jU.2)
theorem RL.take {m:dO} {xs ys:List Value} (h:RL m xs ys) (n:Nat):RL m (xs.take n) (ys.take n):=by
 refine⟨by simp[h.1],fun i hi => ?_⟩
 simp only[List.length_take] at hi
 have:=h.2 i (by omega)
 simpa[List.getD_eq_getElem?_getD,List.getElem?_take,show i<n by omega] using this
theorem RL.drop {m:dO} {xs ys:List Value} (h:RL m xs ys) (n:Nat):RL m (xs.drop n) (ys.drop n):=by
 refine⟨by simp[h.1],fun i hi => ?_⟩
 simp only[List.length_drop] at hi
 have:=h.2 (n+i) (by omega)
 simpa[List.getD_eq_getElem?_getD,List.getElem?_drop] using this
theorem yW (a:Array Value) (i:Nat):a.toList.getD i Go.undef=a.getD i Go.undef:=by simp
theorem RL.arr {m:dO} {f g:Array Value} (h1:f.size=g.size) (h2:∀i,i<f.size→RV m (f.getD i Go.undef) (g.getD i Go.undef)):RL m f.toList g.toList :=
 ⟨by simpa using h1,fun i hi=>by simpa using h2 i (by simpa using hi)⟩
theorem RL.ajB {m:dO} {xs ys:List Value} (h:RL m xs ys):RV m (.agg xs.toArray) (.agg ys.toArray) :=
 .agg _ _ (by simpa using h.1) (fun i hi=>by simpa using h.2 i (by simpa using hi))
theorem RL.Wh {m:dO} {xs ys:List Value} (h:RL m xs ys):RV m (.tuple xs.toArray) (.tuple ys.toArray) :=
 .tuple _ _ (by simpa using h.1) (fun i hi=>by simpa using h.2 i (by simpa using hi))
theorem RL.map {m:dO} {α:Type} {f g:α→Value}:∀ {l:List α},(∀x∈l,RV m (f x) (g x))→RL m (l.map f) (l.map g)
 | [],_=>RL.nil m
 | x::l,h=>RL.cons (h x (by simp)) (RL.map fun y hy=>h y (by simp[hy]))
theorem RV.aO {m:dO} {v r:Value} (h:RV m v r):RL m (aO v) (aO r):=by
 cases h with
 | agg f g h1 h2=>exact RL.arr h1 h2
 | _=>exact RL.cons (by first | exact .bool _ | exact .int _ _ | exact .str _ | exact .abM | (exact .ptr _ _ _ (by assumption)) | exact .R5 | (exact .slice _ _ _ _ _ _ _ (by assumption) (by assumption) (by assumption) (by assumption) (by assumption)) | exact .nilFunc | exact .nilIface | (exact .func _ _ _ _ _ (by assumption) (by assumption) (by assumption) (by assumption)) | (exact .tuple _ _ (by assumption) (by assumption))) (RL.nil m)
theorem RV.fS {m:dO} {v r:Value} (h:RV m v r):fS r=fS v:=by cases h<;>rfl
theorem RL.fS {m:dO} {xs ys:List Value} (h:RL m xs ys):ys.all PM.fS=xs.all PM.fS:=by
 induction xs generalizing ys with
 |
  nil =>
  cases ys with
  | nil=>rfl
  | cons y ys=>exact absurd h.1 (by simp)
 |
  cons x xs ih =>
  cases ys with
  | nil=>exact absurd h.1 (by simp)
  | cons y ys=>simp[h.jU.1.fS,ih h.jU.2]
theorem fV (v:Value):v.cells.toList=aO v:=by cases v<;>rfl
theorem eZ (v:Value):v.cells.size=(aO v).length:=by rw[←fV];simp
theorem Qc (v:Value):v.oneCell'=fS v:=by cases v<;>rfl
theorem RV.const {m:dO} {v:Value} (h:kM v=true):RV m v v:=by
 have one:∀u:Value,(match u with | .bool _ | .int _ _ | .string _ | .pointer none | .slice none 0 0 | .nilFunc | .nilIface=>true | _=>false)=true→RV m u u:=by
  intro u hu
  split at hu<;>first | exact .bool _ | exact .int _ _ | exact .str _ | exact .abM | exact .R5 | exact .nilFunc | exact .nilIface | cases hu
 unfold kM at h
 split at h
 case h_8 cs =>
  refine .agg _ _ rfl fun i hi=>one _ ?_
  have:=Array.all_eq_true.1 h i hi
  have e:cs.getD i Go.undef=cs[i]:=by simp[hi]
  rw[e]
  exact this
 case h_9 vs =>
  have:vs = #[]:=by simpa using h
  subst this
  exact RV.undef m
 all_goals first | exact .bool _ | exact .int _ _ | exact .str _ | exact .abM | exact .R5 | exact .nilFunc | exact .nilIface | cases h
theorem UX {m:dO} {ρ:Env} {a:Act} {x:Operand} (hx:PC x=true) (ht:∀t,x = .tmp t→RV m (ρ t) (a.tmps.getD t Go.undef)):RV m (ev ρ x) (a.eval x):=by
 cases x with
 | tmp t=>exact ht t rfl
 | const v=>exact RV.const hx
 | global g=>cases hx
 | func f=>exact .func _ _ _ _ _ rfl (fun i hi=>absurd hi (by simp)) rfl (fun i hi=>absurd hi (by simp))
def Live (H:aE) (b:Nat):Prop:=∃cs e p,H[b]? = some (.row cs e p)∧(cs≠[]∨p=true)
theorem Live.lt {H:aE} {b:Nat} (h:Live H b):b<H.length:=by
 obtain⟨cs,e,p,h,_⟩:=h
 exact(List.getElem?_eq_some_iff.1 h).1
def agO:List (Nat×Array Value):=[]
 ++ [(3,(Lib.pow10Tab.map fun z=>Value.int .u64 z).toArray)]
def Ps (w:World):Prop:=∀x∈agO,∃e fz,w.heap[x.1]? = some (.cells x.2 e fz)
def amS (m:dO) (L0:Nat) (H:aE) (w:World):Prop :=
 ∀x∈agO,(∃e fz,w.heap[x.1]? = some (.cells x.2 e fz))∧∀b l,L0≤b→m b=some l→Live H b→l.rb≠x.1
structure Rel (m:dO) (L0:Nat) (H:aE) (w:World):Prop where
 valid:∀b l,m b=some l→∃arr e fz,w.heap[l.rb]? = some (.cells arr e fz)∧arr.size=l.Pw∧(L0≤b→∀j,l.base≤j→j<l.Pw→¬(fz.1≤j∧j<fz.2))
 row:∀b l cs e p,m b=some l→H[b]? = some (.row cs e p)→l.kJ=e∧l.Sw=p∧l.base+cs.length≤l.Pw ∧
  ∀i,i<cs.length→∃rv,w.cell? ⟨l.rb,l.base+i,none⟩=some rv∧RV m (cs.getD i Go.undef) rv∧fS (cs.getD i Go.undef)=true
 inj:∀b1 b2 l1 l2,L0≤b1→m b1=some l1→m b2=some l2→Live H b1→Live H b2→l1.rb=l2.rb→b1=b2
 Dw:amS m L0 H w
structure Ext (lo:Nat) (H H':aE):Prop where
 len:H.length≤H'.length
 low:∀b,b<lo→b<H.length→H'[b]? = H[b]?
 liv:∀b,b<H.length→Live H' b→Live H b
theorem Ext.refl (lo:Nat) (H:aE):Ext lo H H:=⟨Nat.le_refl _,fun _ _ _=>rfl,fun _ _ h=>h⟩
theorem Ext.trans {lo:Nat} {H H1 H2:aE} (h:Ext lo H H1) (h':Ext lo H1 H2):Ext lo H H2 :=
 ⟨Nat.le_trans h.len h'.len,fun b hb hl=>(h'.low b hb (Nat.lt_of_lt_of_le hl h.len)).trans (h.low b hb hl),
  fun b hb hl=>h.liv b hb (h'.liv b (Nat.lt_of_lt_of_le hb h.len) hl)⟩
structure Trans (lo:Nat) (m:dO) (H:aE) (w:World) (m':dO) (H':aE) (w':World):Prop where
 ext:∀b l,m b=some l→m' b=some l
 new:∀b l,m' b=some l→m b=none→(H.length≤b∧b<H'.length) ∧
  (w.heap.size≤l.rb∨¬Live H' b∨∃b0 l0,lo≤b0∧m b0=some l0∧Live H b0∧l0.rb=l.rb)
 size:w.heap.size≤w'.heap.size
 cJ:∀rb,rb<w.heap.size→(∀b l,lo≤b→m b=some l→Live H b→l.rb≠rb)→w'.heap[rb]? = w.heap[rb]?
 same:w'.os=w.os∧w'.output=w.output∧w'.tape=w.tape
theorem Trans.refl (lo:Nat) (m:dO) (H:aE) (w:World):Trans lo m H w m H w :=
 ⟨fun _ _ h=>h,fun b l h h'=>(by rw[h] at h';cases h'),Nat.le_refl _,fun _ _ _=>rfl,rfl,rfl,rfl⟩
theorem Trans.trans {lo:Nat} {m m1 m2:dO} {H H1 H2:aE} {w w1 w2:World} (hf:∀b,H.length≤b→b<H2.length→m b=none)
  (e1:Ext lo H H1) (e2:Ext lo H1 H2) (h1:Trans lo m H w m1 H1 w1) (h2:Trans lo m1 H1 w1 m2 H2 w2):Trans lo m H w m2 H2 w2:=by
 have Bj:∀b l,m b=some l→b<H2.length→b<H.length:=fun b l hm hb=>by
  rcases Nat.lt_or_ge b H.length with h | h
  ·exact h
  ·rw[hf b h hb] at hm;cases hm
 refine⟨fun b l h=>h2.ext _ _ (h1.ext _ _ h),fun b l h hn => ?_,Nat.le_trans h1.size h2.size,fun rb CE hk => ?_,
  h2.same.1.trans h1.same.1,h2.same.2.1.trans h1.same.2.1,h2.same.2.2.trans h1.same.2.2⟩
 ·cases Qx:m1 b with
  |
   some l1 =>
   have:l1=l:=by have:=h2.ext _ _ Qx;rw[h] at this;injection this with this;exact this.symm
   subst this
   obtain⟨⟨ha,hb⟩,hc⟩:=h1.new b l1 Qx hn
   refine⟨⟨ha,Nat.lt_of_lt_of_le hb e2.len⟩,?_⟩
   rcases hc with hc | hc | hc
   ·exact .inl hc
   ·exact .inr (.inl fun hl=>hc (e2.liv b hb hl))
   ·exact .inr (.inr hc)
  |
   none =>
   obtain⟨⟨ha,hb⟩,hc⟩:=h2.new b l h Qx
   refine⟨⟨Nat.le_trans e1.len ha,hb⟩,?_⟩
   rcases hc with hc | hc | ⟨b0,l0,dK,hm0,Bi,Cv⟩
   ·exact .inl (Nat.le_trans h1.size hc)
   ·exact .inr (.inl hc)
   ·cases TV:m b0 with
    |
     some lb =>
     have:lb=l0:=by have:=h1.ext _ _ TV;rw[hm0] at this;injection this with this;exact this.symm
     subst this
     have bF:=Bj b0 lb TV (Nat.lt_of_lt_of_le Bi.lt e2.len)
     exact .inr (.inr ⟨b0,lb,dK,TV,e1.liv b0 bF Bi,Cv⟩)
    |
     none =>
     obtain⟨_,hd⟩:=h1.new b0 l0 hm0 TV
     rcases hd with hd | hd | ⟨b1,l1,g1,g2,g3,g4⟩
     ·exact .inl (Cv▸hd)
     ·exact absurd Bi hd
     ·exact .inr (.inr ⟨b1,l1,g1,g2,g3,g4.trans Cv⟩)
 ·rw[h2.cJ rb (Nat.lt_of_lt_of_le CE h1.size) ?_,h1.cJ rb CE hk]
  intro b l dK Qx hl hr
  cases TV:m b with
  |
   some lb =>
   have:lb=l:=by have:=h1.ext _ _ TV;rw[Qx] at this;injection this with this;exact this.symm
   subst this
   have bF:=Bj b lb TV (Nat.lt_of_lt_of_le hl.lt e2.len)
   exact hk b lb dK TV (e1.liv b bF hl) hr
  |
   none =>
   obtain⟨_,hd⟩:=h1.new b l Qx TV
   rcases hd with hd | hd | ⟨b0,l0,g1,g2,g3,g4⟩
   ·omega
   ·exact hd hl
   ·exact hk b0 l0 g1 g2 g3 (g4.trans hr)
end Go.PM
namespace Go.PM
section
variable {P:Program} {m:dO}
theorem Vw {op:BinOp} {t:TypeId} {x y:Operand} {v vx vy rx ry:Value} (hv:dI op vx vy=some v) (hx:RV m vx rx) (hy:RV m vy ry):∃rv,RV m v rv∧∀w,(do eqGuard op t x y rx ry;binOp op t rx ry:Sem Value).run P w = .ok rv w:=by
 unfold dI at hv
 split at hv
 ·cases hx;cases hy
  split at hv
  ·cases hv
  ·rename_i hb
   cases hv
   exact⟨_,.int _ _,fun w=>by
    show (if _ then _ else _:Sem Value).run P w=_
    rw[if_neg hb];rfl⟩
 ·cases hx;cases hy
  split at hv
  ·cases hv
  ·rename_i hb
   cases hv
   exact⟨_,.int _ _,fun w=>by
    show (if _ then _ else _:Sem Value).run P w=_
    rw[if_neg hb];rfl⟩
 ·cases hx;cases hy
  rename_i k a k' b _ _
  split at hv
  ·rename_i hk
   subst hk
   have e:∀(z:Sem Value),(if k≠k then (stuck "BinOp: operands of different kinds":Sem Value) else z)=z:=fun z=>if_neg (by simp)
   split at hv<;>first
    | (cases hv;done)
    | (cases hv;exact⟨_,.int _ _,fun w=>by
       show (if k≠k then _ else _:Sem Value).run P w=_
       rw[e];rfl⟩)
    | (cases hv;exact⟨_,.bool _,fun w=>by
       show (if k≠k then _ else _:Sem Value).run P w=_
       rw[e];rfl⟩)
    | (
      split at hv
      · cases hv
      · rename_i hb
        cases hv
        exact⟨_,.int _ _,fun w=>by
         show (if k≠k then _ else _:Sem Value).run P w=_
         rw[e]
         show (if b=0 then _ else _:Sem Value).run P w=_
         rw[if_neg hb];rfl⟩)
  ·cases hv
 ·cases hx;cases hy
  rename_i a b _ _
  split at hv<;>first
   | (cases hv;done)
   | (cases hv;exact⟨_,.bool _,fun w=>rfl⟩)
   | (
     split at hv
     ·cases hv
     ·rename_i hb
      cases hv
      exact⟨_,.str _,fun w=>by
       show (if _ then _ else _:Sem Value).run P w=_
       rw[if_neg hb];rfl⟩)
 ·cases hv
theorem V9 {neg:Bool} {t:TypeId} {x y:Operand} {a b:Bool} (h:P.underlying t=some .bool) (w:World) :
  (do eqGuard (if neg then .neq else .eql) t x y (.bool a) (.bool b);binOp (if neg then .neq else .eql) t (.bool a) (.bool b):Sem Value).run P w = .ok (.bool ((a == b) != neg)) w:=by
 cases neg
 ·show ((Op.equal t (.bool a) (.bool b)) >>= fun r=>pure (.bool r):Sem Value).run P w=_
  rw[Sem.run_bind,run_equal_bool w t a b h]
  cases a<;>cases b<;>rfl
 ·show ((Op.equal t (.bool a) (.bool b)) >>= fun r=>pure (.bool !r):Sem Value).run P w=_
  rw[Sem.run_bind,run_equal_bool w t a b h]
  cases a<;>cases b<;>rfl
theorem D6 {neg:Bool} {t e:TypeId} {x y:Operand} {a:Option Addr} {n c:Nat} (h:P.underlying t=some (.slice e)) (w:World) :
  (do eqGuard (if neg then .neq else .eql) t x y (.slice a n c) (.slice none 0 0);binOp (if neg then .neq else .eql) t (.slice a n c) (.slice none 0 0):Sem Value).run P w = .ok (.bool (a.isNone != neg)) w:=by
 cases neg
 ·show ((Op.equal t (.slice a n c) (.slice none 0 0)) >>= fun r=>pure (.bool r):Sem Value).run P w=_
  rw[Sem.run_bind,run_equal_slice_nil w t e a n c h]
  cases a<;>rfl
 ·show ((Op.equal t (.slice a n c) (.slice none 0 0)) >>= fun r=>pure (.bool !r):Sem Value).run P w=_
  rw[Sem.run_bind,run_equal_slice_nil w t e a n c h]
  cases a<;>rfl
theorem DG (t:TypeId) (d:TypeDesc) (h:P.underlying t=some d) (w:World):(isAgg t).run P w = .ok (CU d) w:=by
 unfold isAgg
 rw[Sem.run_bind,run_underlying h,Result.andThen_ok]
 cases d<;>rfl
theorem run_sizeOf (t:TypeId) (i:TypeInfo) (h:P.info? t=some i) (w:World):(sizeOf t).run P w = .ok i.size w:=by
 simp[sizeOf,typeInfo,h]
theorem BF (t:TypeId) (d:TypeDesc) (h:P.underlying t=some d) (hd:CU d=false) (zs:Array Value) (i:Nat) (hz:i<zs.size) (w:World) :
  (part t zs i).run P w = .ok zs[i] w:=by
 unfold part
 rw[Sem.run_bind,DG t d h w,Result.andThen_ok,hd]
 simp[hz]
theorem Pk (t:TypeId) (d:TypeDesc) (n:TypeInfo) (h:P.underlying t=some d) (hn:P.info? t=some n) (hd:CU d=true) (zs:Array Value) (i:Nat) (w:World) :
  (part t zs i).run P w = .ok (.agg (zs.extract i (i+n.size))) w:=by
 unfold part
 rw[Sem.run_bind,DG t d h w,Result.andThen_ok,hd]
 simp[run_sizeOf t n hn]
theorem MT {a b:Value} {c:Bool} (h:tC .int a b=some c):∃k n n',a = .int k n∧b = .int k n'∧c=(n == n'):=by
 cases a<;>cases b<;>simp[tC] at h
 obtain⟨rfl,rfl⟩:=h
 exact⟨_,_,_,rfl,rfl,rfl⟩
theorem Jf {a b:Value} {c:Bool} (h:tC .bool a b=some c):∃n n',a = .bool n∧b = .bool n'∧c=(n == n'):=by
 cases a<;>cases b<;>simp[tC] at h
 subst h
 exact⟨_,_,rfl,rfl,rfl⟩
theorem L5 {a b:Value} {c:Bool} (h:tC .str a b=some c):∃n n',a = .string n∧b = .string n'∧c=(n == n'):=by
 cases a<;>cases b<;>simp[tC] at h
 subst h
 exact⟨_,_,rfl,rfl,rfl⟩
theorem Gj (d:Nat) (xs ys:Array Value) (w:World):∀(fs:List Field) (ks:List CK) (i:Nat) (r:Bool),
  uO P i fs=some ks→pE ks (xs.toList.drop i) (ys.toList.drop i)=some r→(Op.eqFields (d+1) xs ys fs).run P w = .ok r w
 |
  [],ks,i,r,hp,he=>by
  cases hp
  unfold pE at he
  split at he
  ·cases he;rfl
  ·rename_i h _ _;cases h
  ·cases he
 |
  f::fs,ks,i,r,hp,he=>by
  unfold uO at hp
  split at hp
  ·rename_i hno
   simp only[Bool.and_eq_true,bne_iff_ne,ne_eq,beq_iff_eq] at hno
   obtain⟨Y9,alQ⟩:=hno
   have key:∀(k:CK) (ks':List CK) (dd:TypeDesc),P.underlying f.type=some dd→CU dd=false→uO P (i+1) fs=some ks'→ks=k::ks' →
     (∀a b c,tC k a b=some c→(Op.equalIn (d+1) f.type a b).run P w = .ok c w)→(Op.eqFields (d+1) xs ys (f::fs)).run P w = .ok r w:=by
    intro k ks' dd hu hdd De hks hq
    subst hks
    have hlx:i<xs.size:=by
     rcases Nat.lt_or_ge i xs.size with h | h
     ·exact h
     ·rw[List.drop_eq_nil_of_le (by simpa using h)] at he;cases he
    have hly:i<ys.size:=by
     rcases Nat.lt_or_ge i ys.size with h | h
     ·exact h
     ·rw[List.drop_eq_nil_of_le (as:=ys.toList) (by simpa using h)] at he
      rw[List.drop_eq_getElem_cons (by simpa using hlx)] at he
      cases he
    have e1:xs.toList.drop i=xs[i]::xs.toList.drop (i+1):=by rw[List.drop_eq_getElem_cons (by simpa using hlx)];rfl
    have e2:ys.toList.drop i=ys[i]::ys.toList.drop (i+1):=by rw[List.drop_eq_getElem_cons (by simpa using hly)];rfl
    rw[e1,e2,pE] at he
    simp only[Op.eqFields,Y9,ne_eq,not_false_eq_true,if_true,Sem.run_bind,alQ,BF f.type dd hu hdd xs i hlx,BF f.type dd hu hdd ys i hly,Result.andThen_ok]
    cases hc:tC k xs[i] ys[i] with
    | none=>rw[hc] at he;cases he
    |
     some b =>
     rw[hq _ _ b hc]
     cases b
     ·rw[hc] at he
      cases he
      rfl
     ·rw[hc] at he
      simp only[Result.andThen_ok,Bool.not_true,Bool.false_eq_true,if_false]
      exact Gj d xs ys w fs ks' (i+1) r De he
   split at hp
   ·rename_i ks' _ hu De
    cases hp
    refine key .int ks' _ hu rfl De rfl fun a b c h => ?_
    obtain⟨k,n,n',rfl,rfl,rfl⟩:=MT h
    exact run_equalIn_int w d f.type _ _ _ _ hu
   ·rename_i ks' _ hu De
    cases hp
    refine key .bool ks' _ hu rfl De rfl fun a b c h => ?_
    obtain⟨n,n',rfl,rfl,rfl⟩:=Jf h
    exact run_equalIn_bool w d f.type _ _ hu
   ·rename_i ks' _ hu De
    cases hp
    refine key .str ks' _ hu rfl De rfl fun a b c h => ?_
    obtain⟨n,n',rfl,rfl,rfl⟩:=L5 h
    simp[Op.equalIn,run_underlying hu]
   ·cases hp
  ·cases hp
end
end Go.PM
namespace Go.PM
section
variable {P:Program} {m:dO}
theorem T5 {k:CK} {a b a' b':Value} {c:Bool} (ha:RV m a a') (hb:RV m b b') (h:tC k a b=some c):tC k a' b'=some c:=by
 cases k
 ·obtain⟨k,n,n',rfl,rfl,rfl⟩:=MT h
  cases ha;cases hb;exact h
 ·obtain⟨n,n',rfl,rfl,rfl⟩:=Jf h
  cases ha;cases hb;exact h
 ·obtain⟨n,n',rfl,rfl,rfl⟩:=L5 h
  cases ha;cases hb;exact h
theorem QF:∀ {ks:List CK} {xs ys Im ys':List Value} {r:Bool},RL m xs Im→RL m ys ys'→pE ks xs ys=some r→pE ks Im ys'=some r:=by
 intro ks
 induction ks with
 |
  nil =>
  intro xs ys Im ys' r hx hy h
  cases xs with
  | cons x xs=>cases ys<;>cases h
  |
   nil =>
   cases ys with
   | cons y ys=>cases h
   |
    nil =>
    have e1:Im=[]:=List.eq_nil_of_length_eq_zero hx.1.symm
    have e2:ys'=[]:=List.eq_nil_of_length_eq_zero hy.1.symm
    subst e1;subst e2;exact h
 |
  cons k ks ih =>
  intro xs ys Im ys' r hx hy h
  cases xs with
  | nil=>cases ys<;>cases h
  |
   cons x xs =>
   cases ys with
   | nil=>cases h
   |
    cons y ys =>
    cases Im with
    | nil=>exact absurd hx.1 (by simp)
    |
     cons x' Im =>
     cases ys' with
     | nil=>exact absurd hy.1 (by simp)
     |
      cons y' ys' =>
      rw[pE] at h ⊢
      cases hc:tC k x y with
      | none=>rw[hc] at h;cases h
      |
       some c =>
       rw[hc] at h
       rw[T5 hx.jU.1 hy.jU.1 hc]
       cases c
       ·exact h
       ·exact ih hx.jU.2 hy.jU.2 h
theorem Of {neg:Bool} {t:TypeId} {x y:Operand} {a b:Array Value} {ks:List CK} {r:Bool} (h:CX P t=some ks) (he:pE ks a.toList b.toList=some r) (w:World) :
  (do eqGuard (if neg then .neq else .eql) t x y (.agg a) (.agg b);binOp (if neg then .neq else .eql) t (.agg a) (.agg b):Sem Value).run P w = .ok (.bool (r != neg)) w:=by
 unfold CX at h
 split at h
 ·rename_i fs hu
  split at h
  ·cases h
  ·rename_i hg
   simp only[Bool.or_eq_true,not_or,Bool.not_eq_true] at hg
   have Zn:P.fieldsOf t=fs:=by simp[Program.fieldsOf,hu]
   have hh:(Op.equal t (.agg a) (.agg b)).run P w = .ok r w:=by
    show (Op.equalIn (9998+1+1) t (.agg a) (.agg b)).run P w=_
    rw[run_equalIn_struct w (9998+1) t a b (by rw[Zn];exact hu) hg.1,Zn]
    exact Gj 9998 a b w fs.toList ks 0 r h (by simpa using he)
   have hgd:∀op,(eqGuard op t x y (.agg a) (.agg b)).run P w = .ok () w:=by
    intro op
    cases op<;>first | rfl | (show ((program >>= fun p=>program >>= fun q=>_):Sem Unit).run P w=_;simp[hg.2])
   rw[Sem.run_bind,hgd,Result.andThen_ok]
   cases neg
   ·show ((Op.equal t (.agg a) (.agg b)) >>= fun r=>pure (.bool r):Sem Value).run P w=_
    rw[Sem.run_bind,hh]
    cases r<;>rfl
   ·show ((Op.equal t (.agg a) (.agg b)) >>= fun r=>pure (.bool !r):Sem Value).run P w=_
    rw[Sem.run_bind,hh]
    cases r<;>rfl
 ·cases h
theorem alJ {op:UnOp} {v vx rx:Value} (hv:pun op vx=some v) (hx:RV m vx rx):∃rv,RV m v rv∧∀w,(Op.unary op rx).run P w = .ok rv w:=by
 unfold pun at hv
 split at hv
 ·cases hx;cases hv;exact⟨_,.int _ _,fun w=>rfl⟩
 ·cases hx;cases hv;exact⟨_,.bool _,fun w=>rfl⟩
 ·cases hv
theorem RL.getElem? {xs ys:List Value} (h:RL m xs ys) (i:Nat) (v:Value) (hv:xs[i]? = some v):∃r,ys[i]? = some r∧RV m v r:=by
 have hi:=(List.getElem?_eq_some_iff.1 hv).1
 have hr:=h.2 i hi
 have kX:i<ys.length:=h.1▸hi
 refine⟨ys[i],List.getElem?_eq_getElem kX,?_⟩
 simp only[List.getD_eq_getElem?_getD,hv,List.getElem?_eq_getElem kX,Option.getD_some] at hr
 exact hr
theorem aiD {t:TypeId} {fs:Array Field} {i:Nat} {f:Field} {agg:Bool} {size:Nat} {z:List Value} {by_:Nat} {v:Value} {cs rs:Array Value} (hu:P.underlying t=some (.struct fs)) (hf:fs[i]? = some f)
  (ht:mA P f.type=some (agg,size,z,by_)) (hv:(if agg then (if f.offset+size≤cs.size then some (Value.agg (cs.extract f.offset (f.offset+size))) else none) else cs[f.offset]?)=some v)
  (hr:RL m cs.toList rs.toList):∃rv,RV m v rv∧∀w,(Instr.field t (.agg rs) i).run P w = .ok rv w:=by
 unfold mA at ht
 split at ht
 ·rename_i n d hn hd
  split at ht
  ·rename_i z' hz
   cases ht
   have oP:∀w,(Instr.field t (.agg rs) i).run P w=(part f.type rs f.offset).run P w:=by
    intro w
    unfold Instr.field
    rw[Sem.run_bind,run_underlying hu,Result.andThen_ok]
    simp[hf,asAgg]
   cases ha:CU d with
   |
    true =>
    rw[ha] at hv
    simp only[if_true] at hv
    split at hv
    ·rename_i hb
     cases hv
     refine⟨.agg (rs.extract f.offset (f.offset+n.size)),?_,fun w=>by rw[oP,Pk f.type d n hd hn ha]⟩
     have h1:rs.size=cs.size:=by simpa using hr.1.symm
     refine .agg _ _ (by simp[h1]) fun j hj => ?_
     simp only[Array.size_extract] at hj
     have:=hr.2 (f.offset+j) (by simp;omega)
     simp only[Array.getD_eq_getD_getElem?,Array.getElem?_extract]
     simpa[show j<min (f.offset+n.size) cs.size-f.offset by omega,show j<min (f.offset+n.size) rs.size-f.offset by omega] using this
    ·cases hv
   |
    false =>
    rw[ha] at hv
    simp only[Bool.false_eq_true,if_false] at hv
    obtain⟨r,h1,h2⟩:=hr.getElem? f.offset v (by simpa using hv)
    obtain⟨bF,he⟩:=Array.getElem?_eq_some_iff.1 (show rs[f.offset]? = some r by simpa using h1)
    exact⟨r,h2,fun w=>by rw[oP,BF f.type d hd ha rs f.offset bF,he]⟩
  ·cases ht
 ·cases ht
theorem X0 (l:List Value):∀(off j:Nat) (cs:Array Value),off+j+l.length≤cs.size →
  ((l.zipIdx j).foldl (fun(cs:Array Value) (x:Value×Nat)=>cs.setIfInBounds (off+x.2) x.1) cs).toList=cs.toList.take (off+j)++l++cs.toList.drop (off+j+l.length):=by
 induction l with
 | nil=>intro off j cs h;simp
 |
  cons x l ih =>
  intro off j cs h
  simp only[List.length_cons] at h
  simp only[List.zipIdx_cons,List.foldl_cons]
  rw[ih off (j+1) _ (by simp;omega)]
  simp only[Array.toList_setIfInBounds,List.length_cons]
  have bF:off+j<cs.toList.length:=by simp;omega
  have e1:(cs.toList.set (off+j) x).take (off+(j+1))=cs.toList.take (off+j)++[x]:=by
   rw[show off+(j+1)=off+j+1 by omega,List.take_add_one,List.take_set]
   have:(cs.toList.set (off+j) x)[off+j]? = some x:=by simp[List.getElem?_set];simpa using bF
   rw[this,List.set_eq_of_length_le (by simp;omega)]
   rfl
  have e2:(cs.toList.set (off+j) x).drop (off+(j+1)+l.length)=cs.toList.drop (off+j+(l.length+1)):=by
   rw[List.drop_set]
   rw[if_pos (by omega)]
   congr 1
   omega
  rw[e1,e2]
  simp
theorem Sn (places:List (Nat×Nat)) (place:Nat→Option (Nat×Nat)) (Tm:∀i q,places[i]? = some q→place i=some q):∀(ps qs:List (Nat×Value)) (cs:List Value) (rs:Array Value) (out:List Value),
  ps.map (·.1)=qs.map (·.1)→RL m (ps.map (·.2)) (qs.map (·.2))→RL m cs rs.toList→vO places cs ps=some out→∃Lf,Instr.fill place rs qs=some Lf∧RL m out Lf.toList:=by
 intro ps
 induction ps with
 |
  nil =>
  intro qs cs rs out hi hv hc h
  cases qs with
  | cons q qs=>cases hi
  | nil=>cases h;exact⟨rs,rfl,hc⟩
 |
  cons p ps ih =>
  intro qs cs rs out hi hv hc h
  cases qs with
  | nil=>cases hi
  |
   cons q qs =>
   obtain⟨i,v⟩:=p
   obtain⟨i',r⟩:=q
   simp only[List.map_cons,List.cons.injEq] at hi
   obtain⟨rfl,hi⟩:=hi
   simp only[List.map_cons] at hv
   obtain⟨hvr,De⟩:=hv.jU
   rw[vO] at h
   rw[Instr.fill]
   cases hp:places[i]? with
   | none=>rw[hp] at h;cases h
   |
    some os =>
    obtain⟨off,size⟩:=os
    rw[hp] at h
    rw[Tm i _ hp]
    simp only at h ⊢
    split at h
    ·rename_i hs
     have hl:(aO r).length=(aO v).length:=hvr.aO.1.symm
     have BH:rs.size=cs.length:=by simpa using hc.1.symm
     have R1:¬((decide (r.cells.size≠size)||decide (off+r.cells.size>rs.size))=true):=by
      rw[eZ,hl,hs.1,BH]
      simp
      omega
     rw[if_neg (by simpa using R1)]
     refine ih qs _ _ out hi De ?_ h
     have hr:r.cells.zipIdx.foldl (fun(cs:Array Value) (x:Value×Nat)=>cs.setIfInBounds (off+x.2) x.1) rs=(((aO r).zipIdx 0).foldl (fun(cs:Array Value) (x:Value×Nat)=>cs.setIfInBounds (off+x.2) x.1) rs):=by
      rw[←fV,←Array.foldl_toList,Array.toList_zipIdx]
     have arP:=X0 (aO r) off 0 rs (by rw[hl,hs.1,BH];omega)
     show RL m _ (r.cells.zipIdx.foldl (fun(cs:Array Value) (x:Value×Nat)=>cs.setIfInBounds (off+x.2) x.1) rs).toList
     rw[hr,arP]
     simp only[Nat.add_zero]
     rw[hl,hs.1]
     exact((hc.take off).append hvr.aO).append (hc.drop (off+size))
    ·cases h
theorem Qo (places:List (Nat×Nat)):∀(ps:List (Nat×Value)) (cs out:List Value),vO places cs ps=some out→out.length=cs.length:=by
 intro ps
 induction ps with
 | nil=>intro cs out h;cases h;rfl
 |
  cons p ps ih =>
  intro cs out h
  obtain⟨i,v⟩:=p
  rw[vO] at h
  split at h
  ·cases h
  ·split at h
   ·rename_i hs
    rw[ih _ _ h]
    simp only[List.length_append,List.length_take,List.length_drop,hs.1]
    omega
   ·cases h
end
end Go.PM
namespace Go.PM
section
variable {P:Program} {m:dO}
def RO (m:dO):Option Value→Option Value→Prop
 | none,none=>True
 | some v,some r=>RV m v r
 | _,_=>False
theorem Yo {k:IntKind} {i:Int} {y:Nat} {code:BoundsCode} (h:0≤i∧i≤y) (w:World):(Instr.sliceBound (.int k i) y code).run P w = .ok i.toNat w:=by
 simp[Instr.sliceBound,asIntOf,h.1,h.2]
theorem oK {v v':Option Value} {d:Option Nat} {top k:Nat} (h:eU v d top=some k) (hv:RO m v v') :
  (v=none∧v'=none∧d=some k)∨(∃u r,v=some u∧v'=some r∧k≤top∧∀akV,top≤akV→∀code w,(Instr.sliceBound r akV code).run P w = .ok k w):=by
 cases v with
 |
  none =>
  cases v' with
  | some r=>exact hv.elim
  | none=>exact .inl ⟨rfl,rfl,h⟩
 |
  some u =>
  cases v' with
  | none=>exact hv.elim
  |
   some r =>
   have hr:RV m u r:=hv
   refine .inr ⟨u,r,rfl,rfl,?_⟩
   cases hr<;>simp only[eU] at h<;>try (cases h;done)
   split at h
   ·rename_i hb
    cases h
    exact⟨by omega,fun akV ht code w=>Yo ⟨hb.1,by omega⟩ w⟩
   ·cases h
theorem acX {t:TypeId} {s:ByteArray} {lo hi gO kX:Option Value} {l h:Nat} (hu:P.underlying t=some .string) (hs:zJ lo hi s.size=some (l,h))
  (hl:RO m lo gO) (hh:RO m hi kX) (w:World):(Instr.sliceAt t (.string s) gO kX none).run P w = .ok (.string (s.extract l h)) w:=by
 have key:(Instr.sliceBounds false s.size s.size gO kX none).run P w = .ok (l,h,s.size) w:=by
  unfold zJ at hs
  cases h1:eU hi (some s.size) s.size with
  | none=>rw[h1] at hs;cases hs
  |
   some h' =>
   rw[h1] at hs
   simp only at hs
   cases h2:eU lo (some 0) h' with
   | none=>rw[h2] at hs;cases hs
   |
    some l' =>
    rw[h2] at hs
    cases hs
    rcases oK (P:=P) h1 hh with⟨_,rfl,e⟩ | ⟨_,r,_,rfl,_,hr⟩<;>rcases oK (P:=P) h2 hl with⟨_,rfl,e'⟩ | ⟨_,r',_,rfl,_,Eu⟩
    ·cases e;cases e';rfl
    ·cases e;simp[Instr.sliceBounds,Eu _ (Nat.le_refl _)]
    ·cases e';simp[Instr.sliceBounds,hr _ (Nat.le_refl _)]
    ·simp[Instr.sliceBounds,hr _ (Nat.le_refl _),Eu _ (Nat.le_refl _)]
 have h1:(Instr.sliceAt t (.string s) gO kX none).run P w=(Instr.slice t (.string s) gO kX none).run P w:=by
  unfold Instr.sliceAt
  rw[Sem.run_bind,run_underlying hu,Result.andThen_ok]
 rw[h1]
 unfold Instr.slice
 rw[Sem.run_bind,run_underlying hu,Result.andThen_ok]
 simp[key]
theorem eR {s:Sem Value} {v:Value} {w w':World} (h:s.run P w = .ok v w'):(do pure (.value (←s)):Sem Next).run P w = .ok (.value v) w':=by
 rw[Sem.run_bind,h];rfl
theorem iQ {t:TypeId} {agg:Bool} {size:Nat} {z:List Value} {n:Nat} (h:mA P t=some (agg,size,z,n)) :
  ∃i d zz,P.info? t=some i∧P.underlying t=some d∧i.zero=some zz∧agg=CU d∧size=i.size∧z=aO zz∧n=i.bytes:=by
 unfold mA at h
 split at h
 ·rename_i i d hi hd
  split at h
  ·rename_i zz hz
   cases h
   exact⟨i,d,zz,hi,hd,hz,rfl,rfl,rfl,rfl⟩
  ·cases h
 ·cases h
theorem jI {t:TypeId} {agg:Bool} {size:Nat} {z:List Value} {n:Nat} (h:jX P t=some (agg,size,z,n)) :
  ∃e,P.underlying t=some (.slice e)∧mA P e=some (agg,size,z,n):=by
 unfold jX at h
 split at h
 ·rename_i e he;exact⟨e,he,h⟩
 ·cases h
theorem Yc {t e:TypeId} {i0:TypeInfo} {b o n c:Nat} {k:IntKind} {i:Int} {r:Value} (hu:P.underlying t=some (.slice e)) (Y8:P.info? e=some i0) (hr:RV m (.slice (some ⟨b,o,none⟩) n c) r) (h:0≤i∧i<n) :
  ∃rv,RV m (.pointer (some ⟨b,o+i.toNat*i0.size,none⟩)) rv∧∀w,(Instr.indexAt t r (.int k i)).run P w = .ok rv w:=by
 cases hr with
 |
  slice _ _ _ _ l ra rc hm hn hc hx ha =>
  rcases ha with ha | ⟨rfl,ha⟩
  ·omega
  ·have e1:(⟨l.rb,l.base+o,none⟩:Addr).add (i.toNat*i0.size)=⟨l.rb,l.base+(o+i.toNat*i0.size),none⟩:=by
    unfold Addr.add
    split
    ·rename_i h0;simp[h0]
    ·simp[Nat.add_assoc]
   refine⟨_,.ptr b _ l hm,fun w => ?_⟩
   simp[Instr.indexAt,asIntOf,run_underlying hu,h.1,h.2,run_sizeOf e i0 Y8,e1]
theorem XX {t:TypeId} {fs:Array Field} {f:Field} {j b o:Nat} {i0:TypeInfo} {r:Value} (hu:P.underlying t=some (.struct fs)) (hf:fs[j]? = some f) (Y8:P.info? f.type=some i0) (hs:i0.size≠0)
  (hr:RV m (.pointer (some ⟨b,o,none⟩)) r):∃rv,RV m (.pointer (some ⟨b,o+f.offset,none⟩)) rv∧∀w,(Instr.fieldAt t r j).run P w = .ok rv w:=by
 cases hr with
 |
  ptr _ _ l hm =>
  have e1:(⟨l.rb,l.base+o,none⟩:Addr).add f.offset=⟨l.rb,l.base+(o+f.offset),none⟩:=by
   unfold Addr.add
   split
   ·rename_i h0;simp[h0]
   ·simp[Nat.add_assoc]
  refine⟨_,.ptr b _ l hm,fun w => ?_⟩
  unfold Instr.fieldAt
  rw[Sem.run_bind,run_underlying hu,Result.andThen_ok]
  simp[hf,Instr.sureAddr,fieldPlace,run_sizeOf f.type i0 Y8,hs,e1]
theorem ZY {t:TypeId} {s:ByteArray} {k:IntKind} {i:Int} (hu:P.underlying t=some .string) (h:0≤i∧i<s.size) (w:World) :
  (Instr.index t (.string s) (.int k i)).run P w = .ok (.int .u8 ((s.data.toList.getD i.toNat 0).toNat:Int)) w:=by
 have bF:i.toNat<s.size:=by omega
 have e:s[i.toNat]? = some s[i.toNat]:=by simp[bF]
 have e2:s.data.toList.getD i.toNat 0=s[i.toNat]:=by
  have:i.toNat<s.data.toList.length:=by simpa using bF
  simp[List.getD_eq_getElem?_getD,List.getElem?_eq_getElem this]
  rfl
 unfold Instr.index
 rw[Sem.run_bind]
 simp only[asIntOf,Sem.run_pure,Result.andThen_ok,Sem.run_bind,run_underlying hu,h.1,if_true,e,e2]
end
end Go.PM
namespace Go.PM
section
variable {P:Program} {m:dO}
theorem RO.map {ρ:Env} {a:Act} {x:Option Operand} (h:∀y,x=some y→RV m (ev ρ y) (a.eval y)):RO m (x.map (ev ρ)) (x.map a.eval):=by
 cases x with
 | none=>trivial
 | some y=>exact h y rfl
theorem Sv {y:Operand} (h:Qs y=true):y = .const (.slice none 0 0):=by
 unfold Qs at h
 split at h
 ·rfl
 ·cases h
theorem SV {op:BinOp} {t:TypeId} {x y:Operand} {po:nK} {ρ:Env} {a:Act} {v:Value} (hp:BO P op t x y=some po) (hv:iM po ρ=some v)
  (hx:RV m (ev ρ x) (a.eval x)) (hy:RV m (ev ρ y) (a.eval y)) :
  ∃rv,RV m v rv∧∀w,(do eqGuard op t x y (a.eval x) (a.eval y);binOp op t (a.eval x) (a.eval y):Sem Value).run P w = .ok rv w:=by
 unfold BO at hp
 split at hp
 ·cases hp;exact Vw hv hx hy
 ·cases hp;exact Vw hv hx hy
 ·rename_i hu
  split at hp<;>first | (cases hp;done) | skip
  all_goals
   cases hp
   simp only[iM] at hv
   generalize ev ρ x=vx at hx hv
   generalize ev ρ y=vy at hy hv
   generalize a.eval x=rx at hx ⊢
   generalize a.eval y=ry at hy ⊢
   split at hv
   ·cases hx;cases hy;cases hv
    first | exact⟨_,.bool _,fun w=>V9 (neg:=false) hu w⟩ | exact⟨_,.bool _,fun w=>V9 (neg:=true) hu w⟩
   ·cases hv
 ·rename_i e hu
  split at hp<;>first | (cases hp;done) | skip
  all_goals
   split at hp
   ·rename_i hn
    cases hp
    have hy0:=Sv hn
    subst hy0
    simp only[iM] at hv
    generalize ev ρ x=vx at hx hv
    show ∃rv,RV m v rv∧∀w,(do eqGuard _ t x _ (a.eval x) (.slice none 0 0);binOp _ t (a.eval x) (.slice none 0 0):Sem Value).run P w = .ok rv w
    generalize a.eval x=rx at hx ⊢
    split at hv
    ·cases hv
     cases hx
     first | exact⟨_,.bool _,fun w=>D6 (neg:=false) hu w⟩ | exact⟨_,.bool _,fun w=>D6 (neg:=true) hu w⟩
    ·cases hv
     cases hx
     first | exact⟨_,.bool _,fun w=>D6 (neg:=false) hu w⟩ | exact⟨_,.bool _,fun w=>D6 (neg:=true) hu w⟩
    ·cases hv
   ·cases hp
 ·split at hp<;>first | (cases hp;done) | skip
  all_goals
   rename_i ks hks
   cases hp
   simp only[iM] at hv
   generalize ev ρ x=vx at hx hv
   generalize ev ρ y=vy at hy hv
   generalize a.eval x=rx at hx ⊢
   generalize a.eval y=ry at hy ⊢
   split at hv
   ·rename_i f g
    cases hx with
    |
     agg _ f' h1 h2 =>
     cases hy with
     |
      agg _ g' h3 h4 =>
      cases hc:pE ks f.toList g.toList with
      | none=>rw[hc] at hv;cases hv
      |
       some r =>
       rw[hc] at hv
       cases hv
       have T1:=QF (RL.arr h1 h2) (RL.arr h3 h4) hc
       first | exact⟨_,.bool _,fun w=>Of (neg:=false) hks T1 w⟩ | exact⟨_,.bool _,fun w=>Of (neg:=true) hks T1 w⟩
   ·cases hv
 ·cases hp
theorem Yk {t:TypeId} {fs:Array Field} {z:List Value} {agg:Bool} {size n:Nat} {places:List (Nat×Nat)} {parts:List (Nat×Operand)} {ρ:Env} {a:Act} {cs:List Value}
  (hu:P.underlying t=some (.struct fs)) (ht:mA P t=some (agg,size,z,n)) (hz:z.all kM=true)
  (hp:fs.toList.mapM (fun f=>(P.info? f.type).map fun i=>(f.offset,i.size))=some places)
  (hf:vO places z (parts.map fun(i,x)=>(i,ev ρ x))=some cs) (hr:∀p∈parts,RV m (ev ρ p.2) (a.eval p.2)) :
  ∃rv,RV m (.agg cs.toArray) rv∧∀w,(Instr.build t (parts.toArray.map fun(i,x)=>(i,a.eval x))).run P w = .ok rv w:=by
 obtain⟨i,d,zz,hi,hd,HJ,rfl,rfl,rfl,rfl⟩:=iQ ht
 have Tm:∀(l:List Field) (ps:List (Nat×Nat)),l.mapM (fun f=>(P.info? f.type).map fun i=>(f.offset,i.size))=some ps →
   ∀w,(l.mapM (fun f=>do pure (f.offset,←sizeOf f.type)):Sem (List (Nat×Nat))).run P w = .ok ps w:=by
  intro l
  induction l with
  | nil=>intro ps h w;cases h;rfl
  |
   cons f l ih =>
   intro ps h w
   simp only[List.mapM_cons,Option.pure_def,Option.bind_eq_bind] at h
   cases h1:P.info? f.type with
   | none=>rw[h1] at h;cases h
   |
    some j =>
    rw[h1] at h
    simp only[Option.map_some,Option.bind_some] at h
    cases h2:l.mapM (fun f=>(P.info? f.type).map fun i=>(f.offset,i.size)) with
    | none=>rw[h2] at h;cases h
    |
     some qs =>
     rw[h2] at h
     cases h
     simp only[List.mapM_cons,Sem.run_bind,run_sizeOf f.type j h1,Result.andThen_ok,Sem.run_pure,ih qs h2 w]
 have hzr:RL m (aO zz) (aO zz):=by
  refine⟨rfl,fun j hj => ?_⟩
  have hm:(aO zz)[j]∈aO zz:=List.getElem_mem hj
  have:=RV.const (m:=m) (List.all_eq_true.1 hz _ hm)
  simpa[List.getD_eq_getElem?_getD,List.getElem?_eq_getElem hj] using this
 obtain⟨Lf,h1,h2⟩:=Sn (m:=m) places (places[·]?) (fun _ _ h=>h) (parts.map fun(i,x)=>(i,ev ρ x)) (parts.map fun(i,x)=>(i,a.eval x)) (aO zz) zz.cells cs
  (by simp[Function.comp_def]) (by simpa[Function.comp_def] using RL.map (l:=parts) (f:=fun p=>ev ρ p.2) (g:=fun p=>a.eval p.2) hr) (by rw[fV];exact hzr) hf
 refine⟨.agg Lf,RL.ajB h2,fun w => ?_⟩
 unfold Instr.build
 have amW:(fs.mapM fun f=>do pure (f.offset,←sizeOf f.type):Sem (Array (Nat×Nat))).run P w = .ok places.toArray w:=by
  rw[←Array.toArray_toList (xs:=fs),List.mapM_toArray]
  rw[Sem.run_map,Tm _ _ hp]
  rfl
 simp only[Sem.run_bind,zeroValue,typeInfo,run_program,Result.andThen_ok,hi,Sem.run_pure,HJ,run_underlying hu,amW]
 have e:(Array.map (fun x:Nat×Operand=>(x.1,a.eval x.2)) parts.toArray).toList=parts.map fun(i,x)=>(i,a.eval x):=by simp
 have e2:(fun x:Nat=>(places.toArray)[x]?)=(fun x=>places[x]?):=by funext x;simp
 simp only[e2]
 have XD:Instr.fill (fun x=>places[x]?) zz.cells (Array.map (fun x:Nat×Operand=>(x.1,a.eval x.2)) parts.toArray).toList=some Lf:=by rw[e];exact h1
 simp only[XD]
 rfl
theorem Pf (f:Operand→Value) (x:Operand):(#[x]:Array Operand).map f = #[f x]:=by simp
theorem Kj (f:Operand→Value) (x y:Operand):(#[x,y]:Array Operand).map f = #[f x,f y]:=by simp
theorem J0 {b:Builtin} {args:Array Operand} {ts:Array TypeId} {ty:TypeId} {cs:Array Bool} {po:nK} {ρ:Env} {a:Act} {v:Value} (hp:oN P b args ts=some po) (hv:iM po ρ=some v)
  (hr:∀x∈args,RV m (ev ρ x) (a.eval x)):∃rv,RV m v rv∧∀w,(builtin b ts ty cs (args.map a.eval)).run P w = .ok (.value rv) w:=by
 unfold oN at hp
 split at hp
 ·rename_i x t Da xC hts
  have ea:args = #[x]:=Array.toList_inj.1 (by simpa using xC)
  have et:ts=(t::Da).toArray:=Array.toList_inj.1 (by simpa using hts)
  subst ea;subst et
  have hx:=hr x (by simp)
  rw[Pf]
  split at hp
  ·rename_i hu
   cases hp
   simp only[iM] at hv
   generalize ev ρ x=vx at hx hv
   generalize a.eval x=rx at hx ⊢
   split at hv
   ·cases hx;cases hv
    exact⟨_,.int _ _,fun w=>eR (by simp[Builtin.len_,run_underlying hu,goInt])⟩
   ·cases hv
  ·rename_i e hu
   cases hp
   simp only[iM] at hv
   generalize ev ρ x=vx at hx hv
   generalize a.eval x=rx at hx ⊢
   split at hv
   ·cases hv
    cases hx
    ·exact⟨_,.int _ _,fun w=>eR (by simp[Builtin.len_,run_underlying hu,goInt])⟩
    ·exact⟨_,.int _ _,fun w=>eR (by simp[Builtin.len_,run_underlying hu,goInt])⟩
   ·cases hv
  ·cases hp
 ·rename_i x t Da xC hts
  have ea:args = #[x]:=Array.toList_inj.1 (by simpa using xC)
  have et:ts=(t::Da).toArray:=Array.toList_inj.1 (by simpa using hts)
  subst ea;subst et
  have hx:=hr x (by simp)
  rw[Pf]
  split at hp
  ·rename_i e hu
   cases hp
   simp only[iM] at hv
   generalize ev ρ x=vx at hx hv
   generalize a.eval x=rx at hx ⊢
   split at hv
   ·cases hv
    cases hx
    exact⟨_,.int _ _,fun w=>eR (by simp[Builtin.cap_,run_underlying hu,goInt])⟩
   ·cases hv
  ·cases hp
 ·rename_i x y xC
  have ea:args = #[x,y]:=Array.toList_inj.1 (by simpa using xC)
  subst ea
  have hx:=hr x (by simp)
  have hy:=hr y (by simp)
  rw[Kj]
  cases hp
  simp only[iM] at hv
  generalize ev ρ x=vx at hx hv
  generalize a.eval x=rx at hx ⊢
  generalize ev ρ y=vy at hy hv
  generalize a.eval y=ry at hy ⊢
  split at hv
  ·cases hv
   cases hx
   cases hy
   exact⟨_,.int _ _,fun w=>eR (by rfl)⟩
  ·cases hv
 ·rename_i x y xC
  have ea:args = #[x,y]:=Array.toList_inj.1 (by simpa using xC)
  subst ea
  have hx:=hr x (by simp)
  have hy:=hr y (by simp)
  rw[Kj]
  cases hp
  simp only[iM] at hv
  generalize ev ρ x=vx at hx hv
  generalize a.eval x=rx at hx ⊢
  generalize ev ρ y=vy at hy hv
  generalize a.eval y=ry at hy ⊢
  split at hv
  ·cases hv
   cases hx
   cases hy
   exact⟨_,.int _ _,fun w=>eR (by rfl)⟩
  ·cases hv
 ·split at hp
  ·split at hp
   ·cases hp;cases hv
   ·cases hp
  ·split at hp
   ·split at hp
    ·cases hp;cases hv
    ·cases hp
   ·cases hp
  ·cases hp
 ·split at hp
  ·cases hp;cases hv
  ·cases hp
 ·split at hp
  ·split at hp
   ·cases hp;cases hv
   ·cases hp
  ·cases hp
 ·cases hp
theorem adZ {o:Oper} {po:nK} {ρ:Env} {a:Act} {v:Value} (hp:pK P o.op=some po) (hv:iM po ρ=some v) (hr:∀x∈o.op.operands,RV m (ev ρ x) (a.eval x)) :
  ∃rv,RV m v rv∧∀w,(execOp a.eval o).run P w = .ok (.value rv) w:=by
 obtain⟨dst,op,type,pos,after,guard⟩:=o
 unfold pK at hp
 simp only at hp hr ⊢
 split at hp
 case isFalse=>cases hp
 cases op with
 | move x=>cases hp;cases hv;exact⟨_,hr x (by simp[Op.operands]),fun w=>rfl⟩
 | assign x=>cases hp;cases hv;exact⟨_,hr x (by simp[Op.operands]),fun w=>rfl⟩
 |
  pick c x y =>
  cases hp
  have hc:=hr c (by simp[Op.operands])
  have hx:=hr x (by simp[Op.operands])
  have hy:=hr y (by simp[Op.operands])
  simp only[iM] at hv
  split at hv
  ·rename_i t ht
   rw[ht] at hc
   cases hv
   generalize hrc:a.eval c=rc at hc
   cases hc
   cases t
   ·exact⟨_,hy,fun w=>by simp[execOp,hrc,asBool]⟩
   ·exact⟨_,hx,fun w=>by simp[execOp,hrc,asBool]⟩
  ·cases hv
 |
  binOp op t x y yt =>
  obtain⟨rv,h1,h2⟩:=SV hp hv (hr x (by simp[Op.operands])) (hr y (by simp[Op.operands]))
  exact⟨rv,h1,fun w=>eR (h2 w)⟩
 |
  unOp op t x =>
  cases hp
  obtain⟨rv,h1,h2⟩:=alJ hv (hr x (by simp[Op.operands]))
  exact⟨rv,h1,fun w=>eR (h2 w)⟩
 |
  extract x i =>
  cases hp
  have hx:=hr x (by simp[Op.operands])
  simp only[iM] at hv
  split at hv
  ·rename_i vs Qw
   rw[Qw] at hx
   generalize Ga:a.eval x=rx at hx
   cases hx with
   |
    tuple _ g h1 h2 =>
    obtain⟨r,h3,h4⟩:=(RL.arr h1 h2).getElem? i v (by simpa using hv)
    have h3':g[i]? = some r:=by simpa using h3
    exact⟨r,h4,fun w=>eR (by simp[Ga,Instr.extract,h3'])⟩
  ·cases hv
 |
  convert s d x =>
  have hx:=hr x (by simp[Op.operands])
  simp only at hp
  split at hp
  ·rename_i k1 k2 hs hd
   cases hp
   simp only[iM] at hv
   split at hv
   ·rename_i n hn
    cases hv
    rw[hn] at hx
    generalize Ga:a.eval x=rx at hx
    cases hx
    exact⟨_,.int _ _,fun w=>eR (by simp[Ga,convert,run_underlying hs,run_underlying hd,Conv.intToInt])⟩
   ·cases hv
  ·rename_i hs hd
   cases hp
   simp only[iM] at hv
   split at hv
   ·rename_i n hn
    cases hv
    rw[hn] at hx
    generalize Ga:a.eval x=rx at hx
    cases hx
    exact⟨_,.str _,fun w=>eR (by simp[Ga,convert,run_underlying hs,run_underlying hd])⟩
   ·cases hv
  ·split at hp
   ·cases hp;simp[iM] at hv
   ·cases hp
  ·cases hp
 |
  field t x i =>
  have hx:=hr x (by simp[Op.operands])
  simp only at hp
  split at hp
  ·rename_i fs hu
   split at hp
   ·rename_i f hf
    cases ht:mA P f.type with
    | none=>rw[ht] at hp;cases hp
    |
     some q =>
     obtain⟨agg,size,z,n⟩:=q
     rw[ht] at hp
     cases hp
     simp only[iM] at hv
     split at hv
     ·rename_i cs X3
      rw[X3] at hx
      generalize Ga:a.eval x=rx at hx
      cases hx with
      |
       agg _ g h1 h2 =>
       obtain⟨rv,h3,h4⟩:=aiD hu hf ht hv (RL.arr h1 h2)
       exact⟨rv,h3,fun w=>eR (by rw[Ga];exact h4 w)⟩
     ·cases hv
   ·cases hp
  ·cases hp
 |
  build t parts =>
  simp only at hp
  split at hp
  ·rename_i fs agg size z n hu ht
   split at hp
   ·rename_i places Tm
    split at hp
    ·rename_i hz
     cases hp
     simp only[iM] at hv
     cases hf:vO places z (parts.toList.map fun(i,x)=>(i,ev ρ x)) with
     | none=>rw[hf] at hv;cases hv
     |
      some cs =>
      rw[hf] at hv
      cases hv
      obtain⟨rv,h1,h2⟩:=Yk (m:=m) (a:=a) hu ht hz Tm hf (fun p hpm=>hr p.2 (by simp only[Op.operands];simp;exact⟨p.1,by simpa using hpm⟩))
      exact⟨rv,h1,fun w=>eR (by simpa using h2 w)⟩
    ·cases hp
   ·cases hp
  ·cases hp
 |
  nilCheck x =>
  cases hp
  have hx:=hr x (by simp[Op.operands])
  simp only[iM] at hv
  split at hv
  ·rename_i ad had
   cases hv
   rw[had] at hx
   generalize Ga:a.eval x=rx at hx
   cases hx with
   | ptr b o l h=>exact⟨_,.ptr b o l h,fun w=>by simp[execOp,Ga]⟩
  ·cases hv
 |
  fieldAddr t x i =>
  have hx:=hr x (by simp[Op.operands])
  simp only at hp
  split at hp
  ·rename_i fs hu
   split at hp
   ·rename_i f hf
    split at hp
    ·rename_i i0 Y8
     split at hp
     ·cases hp
     ·rename_i hs
      cases hp
      simp only[iM] at hv
      split at hv
      ·rename_i b o hbo
       cases hv
       rw[hbo] at hx
       obtain⟨rv,h1,h2⟩:=XX hu hf Y8 hs hx
       exact⟨rv,h1,fun w=>eR (h2 w)⟩
      ·cases hv
    ·cases hp
   ·cases hp
  ·cases hp
 |
  indexAddr t x i =>
  have hx:=hr x (by simp[Op.operands])
  have hi:=hr i (by simp[Op.operands])
  simp only at hp
  cases ht:jX P t with
  | none=>rw[ht] at hp;cases hp
  |
   some q =>
   obtain⟨agg,size,z,n⟩:=q
   rw[ht] at hp
   cases hp
   obtain⟨e,hu,Jv⟩:=jI ht
   obtain⟨i0,d,zz,Y8,_,_,_,rfl,_,_⟩:=iQ Jv
   simp only[iM] at hv
   split at hv
   ·rename_i b o n' c k j hb hj
    split at hv
    ·rename_i bF
     cases hv
     rw[hb] at hx
     rw[hj] at hi
     generalize T9:a.eval i=ri at hi
     cases hi
     obtain⟨rv,h1,h2⟩:=Yc (k:=k) hu Y8 hx bF
     exact⟨rv,h1,fun w=>eR (by rw[T9];exact h2 w)⟩
    ·cases hv
   ·cases hv
 |
  index t x i =>
  have hx:=hr x (by simp[Op.operands])
  have hi:=hr i (by simp[Op.operands])
  simp only at hp
  split at hp
  ·rename_i hu
   cases hp
   simp only[iM] at hv
   split at hv
   ·rename_i s k j hb hj
    split at hv
    ·rename_i bF
     cases hv
     rw[hb] at hx
     rw[hj] at hi
     generalize T9:a.eval i=ri at hi
     generalize Ga:a.eval x=rx at hx
     cases hi
     cases hx
     exact⟨_,.int _ _,fun w=>eR (by rw[T9,Ga];exact ZY hu bF w)⟩
    ·cases hv
   ·cases hv
  ·cases hp
 |
  slice t x lo hi mx =>
  have hx:=hr x (by simp[Op.operands])
  simp only at hp
  split at hp
  ·rename_i hu
   split at hp
   ·rename_i hmx
    cases hp
    have ayD:mx=none:=by simpa using hmx
    subst ayD
    simp only[iM] at hv
    split at hv
    ·rename_i s hs
     split at hv
     ·rename_i l h hlh
      cases hv
      rw[hs] at hx
      generalize Ga:a.eval x=rx at hx
      cases hx
      exact⟨_,.str _,fun w=>eR (by
       rw[Ga]
       exact acX hu hlh (RO.map fun y hy=>hr y (by simp[Op.operands,hy])) (RO.map fun y hy=>hr y (by simp[Op.operands,hy])) w)⟩
     ·cases hv
    ·cases hv
   ·cases hp
  ·rename_i e hu
   cases ht:mA P e with
   | none=>rw[ht] at hp;cases hp
   | some q=>rw[ht] at hp;cases hp;simp[iM] at hv
  ·cases hp
 |
  makeFunc fn first fT =>
  cases fn with
  |
   func f =>
   simp only at hp
   split at hp
   ·rename_i akX
    cases hp
    cases hv
    have hf0:first = #[]:=by simpa using akX
    subst hf0
    have hc:RL m (fT.toList.map (ev ρ)) (fT.toList.map a.eval):=RL.map fun x hx=>hr x (by simpa[Op.operands] using hx)
    refine⟨.func (.func f) #[] (fT.toList.map a.eval).toArray,.func _ _ _ _ _ rfl (fun i hi=>absurd hi (by simp)) (by simp) (fun i hi => ?_),fun w=>eR ?_⟩
    ·have:=hc.2 i (by simpa using hi)
     simpa[Array.getD_eq_getD_getElem?,List.getD_eq_getElem?_getD] using this
    ·have:(fT.toList.map a.eval).toArray=fT.map a.eval:=Array.toList_inj.1 (by rw[Array.toList_map])
     rw[this]
     simp[Instr.makeFunc]
   ·cases hp
  | _=>cases hp
 | makeInterface t x=>cases hp;cases hv
 | panic x=>cases hp;cases hv
 |
  load t p =>
  simp only at hp
  cases ht:mA P t with
  | none=>rw[ht] at hp;cases hp
  | some q=>rw[ht] at hp;cases hp;cases hv
 |
  store t p x =>
  simp only at hp
  cases ht:P.info? t with
  | none=>rw[ht] at hp;cases hp
  | some q=>rw[ht] at hp;cases hp;cases hv
 |
  alloc t =>
  simp only at hp
  split at hp
  ·split at hp
   ·cases hp;cases hv
   ·cases hp
  ·cases hp
 | box t x=>cases hp;cases hv
 |
  makeSlice t l c =>
  simp only at hp
  split at hp
  ·split at hp
   ·cases hp;cases hv
   ·cases hp
  ·cases hp
 |
  buildSlice t n parts =>
  simp only at hp
  split at hp
  ·split at hp
   ·cases hp;cases hv
   ·cases hp
  ·cases hp
 |
  call c =>
  obtain⟨callee,args,ts⟩:=c
  cases callee with
  |
   builtin b =>
   have Tn:∀x∈args,RV m (ev ρ x) (a.eval x):=fun x hx=>hr x (by simpa[Op.operands,Call.operands] using hx)
   obtain⟨rv,h3,h4⟩:=J0 (ty:=type) (cs:=args.map fun | .const _=>true | _=>false) hp hv Tn
   exact⟨rv,h3,fun w=>h4 w⟩
  |
   value f =>
   cases f with
   | func g=>cases hp;cases hv
   | tmp t=>cases hp;cases hv
   | const c=>cases hp
   | global g=>cases hp
  | invoke r s=>cases hp
 | _=>cases hp
end
end Go.PM
namespace Go.PM
section
variable {m:dO} {L0:Nat} {H:aE} {w:World}
def tW (m:dO) (b:Nat) (l:Loc):dO:=fun b'=>if b'=b then some l else m b'
theorem cE (m:dO) (b:Nat) (l:Loc):tW m b l b=some l:=by simp[tW]
theorem cV {m:dO} {b b':Nat} {l:Loc} (h:b'≠b):tW m b l b'=m b':=by simp[tW,h]
theorem BC {m:dO} {b:Nat} {l:Loc} (hf:m b=none):∀b' l',m b'=some l'→tW m b l b'=some l':=by
 intro b' l' h
 rw[cV]
 ·exact h
 ·rintro rfl;rw[hf] at h;cases h
theorem D3 {w w':World} {a:Addr} (h:w'.heap[a.block]? = w.heap[a.block]?):w'.cell? a=w.cell? a:=by simp[World.cell?,h]
theorem Aq {w:World} {g i:Nat} {arr:Array Value} {e:TypeId} {fz:Nat×Nat} (h:w.heap[g]? = some (.cells arr e fz)):w.cell? ⟨g,i,none⟩=arr[i]? := by simp[World.cell?,h]
theorem gK {H:aE} {x:QU} {b:Nat} (h:Live (H++[x]) b) (hb:b<H.length):Live H b:=by
 obtain⟨cs,e,p,h1,h2⟩:=h
 rw[List.getElem?_append_left hb] at h1
 exact⟨cs,e,p,h1,h2⟩
theorem pI (lo:Nat) (H:aE) (x:QU):Ext lo H (H++[x]) :=
 ⟨by simp,fun b _ hl=>List.getElem?_append_left hl,fun _ hb h=>gK h hb⟩
theorem wL (hR:Rel m L0 H w) (hf:m H.length=none) {w':World} {arr:Array Value} {e:TypeId} {fz:Nat×Nat} (hw:w'.heap=w.heap.push (.cells arr e fz))
  (hs:w'.os=w.os∧w'.output=w.output∧w'.tape=w.tape) {cs:List Value} {kJ:Nat} {Sw:Bool} (hlen:cs.length≤arr.size)
  (hc:∀i,i<cs.length→RV m (cs.getD i undef) (arr.getD i undef)) (uW:cs.all fS=true) (T8:∀j,j<arr.size→¬(fz.1≤j∧j<fz.2)) :
  Rel (tW m H.length ⟨w.heap.size,0,kJ,arr.size,Sw⟩) L0 (H++[.row cs kJ Sw]) w' ∧
  ∀lo,Trans lo m H w (tW m H.length ⟨w.heap.size,0,kJ,arr.size,Sw⟩) (H++[.row cs kJ Sw]) w':=by
 have hold:∀g,g<w.heap.size→w'.heap[g]? = w.heap[g]? := fun g hg=>by rw[hw,Array.getElem?_push];simp[Nat.ne_of_lt hg]
 have sH:w'.heap[w.heap.size]? = some (.cells arr e fz):=by rw[hw];simp
 have bF:∀b l,m b=some l→l.rb<w.heap.size:=fun b l h=>by
  obtain⟨arr,e,fz,h1,_⟩:=hR.valid b l h
  exact(Array.getElem?_eq_some_iff.1 h1).1
 have qU:=BC (l:=⟨w.heap.size,0,kJ,arr.size,Sw⟩) hf
 constructor
 ·refine⟨fun b l h => ?_,fun b l Aw e' p' h hH => ?_,fun b1 b2 l1 l2 hb h1 h2 Cz E4 CE => ?_,fun x hx => ?_⟩
  ·by_cases hb:b=H.length
   ·subst hb
    rw[cE] at h
    cases h
    exact⟨arr,e,fz,sH,rfl,fun _ j _ hj=>T8 j hj⟩
   ·rw[cV hb] at h
    obtain⟨Ec,e',fz',g1,g2,g3⟩:=hR.valid b l h
    exact⟨Ec,e',fz',by rw[hold _ (bF b l h)];exact g1,g2,g3⟩
  ·by_cases hb:b=H.length
   ·subst hb
    rw[cE] at h
    cases h
    simp only[List.getElem?_append_right (Nat.le_refl _),Nat.sub_self,List.getElem?_cons_zero,Option.some.injEq,QU.row.injEq] at hH
    obtain⟨rfl,rfl,rfl⟩:=hH
    refine⟨rfl,rfl,by simpa using hlen,fun i hi => ?_⟩
    refine⟨arr.getD i undef,?_,(hc i hi).mono qU,?_⟩
    ·rw[Nat.zero_add,Aq sH]
     have:i<arr.size:=Nat.lt_of_lt_of_le hi hlen
     simp[this]
    ·have:=List.all_eq_true.1 uW cs[i] (List.getElem_mem hi)
     simpa[List.getD_eq_getElem?_getD,List.getElem?_eq_getElem hi] using this
   ·rw[cV hb] at h
    have Zz:b<H.length:=by
     have:=(List.getElem?_eq_some_iff.1 hH).1
     simp at this
     omega
    rw[List.getElem?_append_left Zz] at hH
    obtain⟨g1,g2,g3,g4⟩:=hR.row b l Aw e' p' h hH
    refine⟨g1,g2,g3,fun i hi => ?_⟩
    obtain⟨rv,h1,h2,h3⟩:=g4 i hi
    exact⟨rv,by rw[D3 (hold _ (bF b l h))];exact h1,h2.mono qU,h3⟩
  ·by_cases e1:b1=H.length<;>by_cases e2:b2=H.length
   ·omega
   ·subst e1
    rw[cE] at h1
    rw[cV e2] at h2
    cases h1
    have:=bF b2 l2 h2
    simp only at CE
    omega
   ·subst e2
    rw[cE] at h2
    rw[cV e1] at h1
    cases h2
    have:=bF b1 l1 h1
    simp only at CE
    omega
   ·rw[cV e1] at h1
    rw[cV e2] at h2
    have k1:=Cz.lt
    have k2:=E4.lt
    simp at k1 k2
    exact hR.inj b1 b2 l1 l2 hb h1 h2 (gK Cz (by omega)) (gK E4 (by omega)) CE
  ·obtain⟨⟨e0,fz0,g1⟩,g2⟩:=hR.Dw x hx
   have hxl:x.1<w.heap.size:=(Array.getElem?_eq_some_iff.1 g1).1
   refine⟨⟨e0,fz0,by rw[hold _ hxl];exact g1⟩,fun b l hb h hl => ?_⟩
   by_cases he:b=H.length
   ·subst he
    rw[cE] at h
    cases h
    simp only
    omega
   ·rw[cV he] at h
    have k:=hl.lt
    simp at k
    exact g2 b l hb h (gK hl (by omega))
 ·intro lo
  refine⟨qU,fun b l h hn => ?_,by rw[hw];simp,fun rb CE _=>hold rb CE,hs⟩
  by_cases hb:b=H.length
  ·subst hb
   rw[cE] at h
   cases h
   exact⟨⟨Nat.le_refl _,by simp⟩,.inl (Nat.le_refl _)⟩
  ·rw[cV hb,hn] at h
   cases h
theorem Yq (hR:Rel m L0 H w) (hf:m H.length=none) {b:Nat} {l:Loc} (hb:m b=some l) (kJ:Nat) :
  Rel (tW m H.length ⟨l.rb,l.Pw,kJ,l.Pw,false⟩) L0 (H++[.row [] kJ false]) w ∧
  ∀lo,Trans lo m H w (tW m H.length ⟨l.rb,l.Pw,kJ,l.Pw,false⟩) (H++[.row [] kJ false]) w:=by
 have qU:=BC (l:=⟨l.rb,l.Pw,kJ,l.Pw,false⟩) hf
 have Vy:∀b',Live (H++[.row [] kJ false]) b'→b'<H.length:=by
  intro b' h
  rcases Nat.lt_or_ge b' H.length with hl | hl
  ·exact hl
  ·obtain⟨cs,e,p,h1,h2⟩:=h
   have bF:=(List.getElem?_eq_some_iff.1 h1).1
   simp at bF
   have NJ:b'=H.length:=by omega
   subst NJ
   simp only[List.getElem?_append_right (Nat.le_refl _),Nat.sub_self,List.getElem?_cons_zero,Option.some.injEq,QU.row.injEq] at h1
   obtain⟨rfl,_,rfl⟩:=h1
   rcases h2 with h2 | h2
   ·exact absurd rfl h2
   ·cases h2
 constructor
 ·refine⟨fun b' l' h => ?_,fun b' l' Aw e' p' h hH => ?_,fun b1 b2 l1 l2 CB h1 h2 Cz E4 CE => ?_,fun x hx => ?_⟩
  ·by_cases NJ:b'=H.length
   ·subst NJ
    rw[cE] at h
    cases h
    obtain⟨arr,e,fz,g1,g2,_⟩:=hR.valid b l hb
    exact⟨arr,e,fz,g1,g2,fun _ j h1 h2=>by simp only at h1 h2;omega⟩
   ·rw[cV NJ] at h
    exact hR.valid b' l' h
  ·by_cases NJ:b'=H.length
   ·subst NJ
    rw[cE] at h
    cases h
    simp only[List.getElem?_append_right (Nat.le_refl _),Nat.sub_self,List.getElem?_cons_zero,Option.some.injEq,QU.row.injEq] at hH
    obtain⟨rfl,rfl,rfl⟩:=hH
    exact⟨rfl,rfl,by simp,fun i hi=>absurd hi (by simp)⟩
   ·rw[cV NJ] at h
    have Zz:b'<H.length:=by
     have:=(List.getElem?_eq_some_iff.1 hH).1
     simp at this
     omega
    rw[List.getElem?_append_left Zz] at hH
    obtain⟨g1,g2,g3,g4⟩:=hR.row b' l' Aw e' p' h hH
    refine⟨g1,g2,g3,fun i hi => ?_⟩
    obtain⟨rv,h1,h2,h3⟩:=g4 i hi
    exact⟨rv,h1,h2.mono qU,h3⟩
  ·have k1:=Vy b1 Cz
   have k2:=Vy b2 E4
   rw[cV (by omega)] at h1 h2
   exact hR.inj b1 b2 l1 l2 CB h1 h2 (gK Cz k1) (gK E4 k2) CE
  ·obtain⟨g1,g2⟩:=hR.Dw x hx
   refine⟨g1,fun b' l' uC h hl => ?_⟩
   have k:=Vy b' hl
   rw[cV (by omega)] at h
   exact g2 b' l' uC h (gK hl k)
 ·intro lo
  refine⟨qU,fun b' l' h hn => ?_,Nat.le_refl _,fun rb CE _=>rfl,rfl,rfl,rfl⟩
  by_cases NJ:b'=H.length
  ·subst NJ
   exact⟨⟨Nat.le_refl _,by simp⟩,.inr (.inl fun hl=>by have:=Vy _ hl;omega)⟩
  ·rw[cV NJ,hn] at h
   cases h
theorem Pq {w:World} {g i:Nat} {arr:Array Value} {e:TypeId} {fz:Nat×Nat} (h:w.heap[g]? = some (.cells arr e fz)) (v:Value) :
  (w.setCell ⟨g,i,none⟩ v).heap[g]? = some (.cells (arr.setIfInBounds i v) e fz):=by
 simp only[World.setCell,Array.getElem?_modify,h,if_true,Option.map_some]
 rfl
theorem Nd {w:World} {g i k:Nat} (h:k≠g) (v:Value):(w.setCell ⟨g,i,none⟩ v).heap[k]? = w.heap[k]? := by
 simp[World.setCell,Array.getElem?_modify,Ne.symm h]
theorem FG (P:Program) (g o:Nat):∀(vs:List Value) (i:Nat) (w:World) (arr:Array Value) (e:TypeId) (fz:Nat×Nat),
  w.heap[g]? = some (.cells arr e fz)→o+i+vs.length≤arr.size→vs.all fS=true→(∀j,o+i≤j→j<o+i+vs.length→¬(fz.1≤j∧j<fz.2)) →
  ∃w' Ec,(storeCells ⟨g,o,none⟩ vs i).run P w = .ok () w'∧w'.heap[g]? = some (.cells Ec e fz)∧Ec.size=arr.size ∧
   (∀j,Ec.getD j undef=if o+i≤j∧j<o+i+vs.length then vs.getD (j-(o+i)) undef else arr.getD j undef) ∧
   (∀k,k≠g→w'.heap[k]? = w.heap[k]?)∧w'.heap.size=w.heap.size∧w'.os=w.os∧w'.output=w.output∧w'.tape=w.tape
 | [],i,w,arr,e,fz,hg,_,_,_=>⟨w,arr,rfl,hg,rfl,fun j=>by rw[if_neg (by rintro⟨h1,h2⟩;simp only[List.length_nil] at h2;omega)],fun _ _=>rfl,rfl,rfl,rfl,rfl⟩
 |
  v::vs,i,w,arr,e,fz,hg,hl,uW,T8=>by
  simp only[List.length_cons] at hl T8
  simp only[List.all_cons,Bool.and_eq_true] at uW
  have bF:o+i<arr.size:=by omega
  have hc:w.cell? ⟨g,o+i,none⟩=some arr[o+i]:=by rw[Aq hg];simp[bF]
  have hfr:w.frozen? ⟨g,o+i,none⟩=false:=by
   have:=T8 (o+i) (by omega) (by omega)
   simp only[World.frozen?,hg]
   simpa using this
  have E5:(store ((⟨g,o,none⟩:Addr).add i) v).run P w = .ok () (w.setCell ⟨g,o+i,none⟩ v):=by
   rw[Addr.add_lit,run_store P w _ v .plain (by rw[Qc];exact uW.1),hc]
   simp[hfr]
  obtain⟨w',Ec,h1,h2,h3,h4,h5,h6,h7⟩:=FG P g o vs (i+1) (w.setCell ⟨g,o+i,none⟩ v) (arr.setIfInBounds (o+i) v) e fz (Pq hg v) (by simp;omega) uW.2
   (fun j h1 h2=>T8 j (by omega) (by omega))
  refine⟨w',Ec,?_,h2,by simpa using h3,fun j => ?_,fun k hk=>by rw[h5 k hk,Nd hk],by rw[h6];simp,h7⟩
  ·rw[storeCells,Sem.run_bind,E5,Result.andThen_ok]
   exact h1
  ·rw[h4]
   by_cases hj:j=o+i
   ·subst hj
    rw[if_neg (by omega),if_pos (by simp)]
    simp[bF]
   ·by_cases Y4:o+(i+1)≤j∧j<o+(i+1)+vs.length
    ·rw[if_pos Y4,if_pos (by simp;omega)]
     have:j-(o+i)=j-(o+(i+1))+1:=by omega
     rw[this]
     simp
    ·rw[if_neg Y4,if_neg (by simp;omega)]
     simp[Ne.symm hj]
theorem Js (cs new:List Value) (o i:Nat) (h:o+new.length≤cs.length):(iT cs o new).getD i undef=if o≤i∧i<o+new.length then new.getD (i-o) undef else cs.getD i undef:=by
 unfold iT
 simp only[List.getD_eq_getElem?_getD]
 by_cases h1:i<o
 ·rw[if_neg (by omega),List.append_assoc,List.getElem?_append_left (by simp;omega),List.getElem?_take_of_lt h1]
 ·by_cases h2:i<o+new.length
  ·rw[if_pos (by omega),List.append_assoc,List.getElem?_append_right (by simp;omega),List.getElem?_append_left (by simp;omega)]
   congr 3
   simp
   omega
  ·rw[if_neg (by omega),List.getElem?_append_right (by simp;omega),List.getElem?_drop]
   congr 2
   simp
   omega
theorem nC (cs new:List Value) (o:Nat) (h:o+new.length≤cs.length):(iT cs o new).length=cs.length:=by
 simp[iT]
 omega
theorem Bs {lo b o:Nat} {new:List Value} {H H':aE} (h:H.write lo b o new=some H') :
  ∃cs e p,H[b]? = some (.row cs e p)∧lo≤b∧o+new.length≤cs.length∧new.all fS=true∧H'=H.set b (.row (iT cs o new) e p):=by
 unfold aE.write at h
 split at h
 ·rename_i cs e p hb
  split at h
  ·rename_i hc
   cases h
   exact⟨cs,e,p,hb,hc.1,hc.2.1,hc.2.2,rfl⟩
  ·cases h
 ·cases h
theorem vY {H:aE} {b:Nat} {cs Aw:List Value} {e:Nat} {p:Bool} (hb:H[b]? = some (.row cs e p)) (hl:Aw.length=cs.length) {b':Nat} (h:Live (H.set b (.row Aw e p)) b'):Live H b':=by
 obtain⟨cs1,e1,p1,h1,h2⟩:=h
 by_cases Lj:b=b'
 ·subst Lj
  rw[List.getElem?_set_self (List.getElem?_eq_some_iff.1 hb).1] at h1
  cases h1
  refine⟨cs,_,_,hb,h2.imp (fun h => ?_) id⟩
  intro h0
  subst h0
  exact h (List.eq_nil_of_length_eq_zero hl)
 ·rw[List.getElem?_set_ne Lj] at h1
  exact⟨cs1,e1,p1,h1,h2⟩
theorem DH {lo b o:Nat} {new:List Value} {H H':aE} (h:H.write lo b o new=some H'):Ext lo H H':=by
 obtain⟨cs,e,p,hb,dK,hlen,uW,rfl⟩:=Bs h
 refine⟨by simp,fun b' uC _=>List.getElem?_set_ne (by omega),fun b' _ hl=>vY hb (nC cs new o hlen) hl⟩
theorem DS (P:Program) {lo b o:Nat} {l:Loc} {new pS:List Value} {H':aE} (hR:Rel m L0 H w) (dK:L0≤lo) (hm:m b=some l) (hw:H.write lo b o new=some H') (hn:RL m new pS) :
  ∃w',(storeCells ⟨l.rb,l.base+o,none⟩ pS).run P w = .ok () w'∧Rel m L0 H' w'∧Trans lo m H w m H' w':=by
 obtain⟨cs,e,p,hb,Ep,hlen,uW,rfl⟩:=Bs hw
 by_cases fC:new=[]
 ·subst fC
  have e1:pS=[]:=List.eq_nil_of_length_eq_zero hn.1.symm
  subst e1
  have e2:iT cs o []=cs:=by simp[iT]
  have e3:H.set b (.row cs e p)=H:=by
   apply List.ext_getElem?
   intro i
   by_cases hi:b=i
   ·subst hi;rw[List.getElem?_set_self (List.getElem?_eq_some_iff.1 hb).1,hb]
   ·rw[List.getElem?_set_ne hi]
  rw[e2,e3]
  exact⟨w,rfl,hR,Trans.refl lo m H w⟩
 have G6:Live H b:=⟨cs,e,p,hb,.inl (by
  rintro rfl
  simp only[List.length_nil] at hlen
  exact fC (List.eq_nil_of_length_eq_zero (by omega)))⟩
 obtain⟨g1,g2,g3,g4⟩:=hR.row b l cs e p hm hb
 obtain⟨arr,et,fz,v1,v2,v3⟩:=hR.valid b l hm
 have yS:pS.length=new.length:=hn.1.symm
 obtain⟨w',Ec,h1,h2,h3,h4,h5,h6,h7⟩:=FG P l.rb (l.base+o) pS 0 w arr et fz v1 (by rw[yS,v2];omega) (by rw[hn.fS];exact uW)
  (fun j j1 j2=>v3 (Nat.le_trans dK Ep) j (by omega) (by rw[yS] at j2;omega))
 have bF:∀b' l',m b'=some l'→l'.rb<w.heap.size:=fun b' l' h=>by
  obtain⟨arr,e,fz,h1,_⟩:=hR.valid b' l' h
  exact(Array.getElem?_eq_some_iff.1 h1).1
 refine⟨w',h1,⟨fun b' l' h => ?_,fun b' l' Aw e' p' h hH => ?_,fun b1 b2 l1 l2 CB m1 m2 Cz E4 CE => ?_,fun x hx => ?_⟩,⟨fun _ _ h=>h,fun b' l' h h'=>(by rw[h] at h';cases h'),by rw[h6];exact Nat.le_refl _,fun rb CE hk => ?_,h7⟩⟩
 ·obtain⟨anJ,e1,fz1,w1,w2,w3⟩:=hR.valid b' l' h
  by_cases Lj:l'.rb=l.rb
  ·rw[Lj] at w1 ⊢
   rw[v1] at w1
   cases w1
   exact⟨Ec,et,fz,h2,by rw[h3];exact w2,w3⟩
  ·exact⟨anJ,e1,fz1,by rw[h5 _ Lj];exact w1,w2,w3⟩
 ·by_cases Lj:b=b'
  ·subst Lj
   rw[hm] at h
   cases h
   rw[List.getElem?_set_self (List.getElem?_eq_some_iff.1 hb).1] at hH
   cases hH
   refine⟨g1,g2,by rw[nC _ _ _ hlen];exact g3,fun i hi => ?_⟩
   rw[nC _ _ _ hlen] at hi
   refine⟨Ec.getD (l.base+i) undef,?_,?_,?_⟩
   ·rw[Aq h2]
    have:l.base+i<Ec.size:=by rw[h3,v2];omega
    simp[this]
   ·rw[h4,Js _ _ _ _ hlen]
    by_cases Ke:o≤i∧i<o+new.length
    ·rw[if_pos Ke,if_pos (by rw[yS];omega)]
     have:=hn.2 (i-o) (by omega)
     rw[show l.base+i-(l.base+o+0)=i-o by omega]
     exact this
    ·rw[if_neg Ke,if_neg (by rw[yS];omega)]
     obtain⟨rv,c1,c2,_⟩:=g4 i hi
     rw[Aq v1] at c1
     simpa[Array.getD_eq_getD_getElem?,c1] using c2
   ·rw[Js _ _ _ _ hlen]
    split
    ·rename_i Ke
     have:=List.all_eq_true.1 uW new[i-o] (List.getElem_mem (by omega))
     simpa[List.getD_eq_getElem?_getD,List.getElem?_eq_getElem (show i-o<new.length by omega)] using this
    ·exact(g4 i hi).choose_spec.2.2
  ·rw[List.getElem?_set_ne Lj] at hH
   obtain⟨k1,k2,k3,k4⟩:=hR.row b' l' Aw e' p' h hH
   refine⟨k1,k2,k3,fun i hi => ?_⟩
   obtain⟨rv,c1,c2,c3⟩:=k4 i hi
   refine⟨rv,?_,c2,c3⟩
   rw[D3]
   ·exact c1
   ·refine h5 _ fun CE => ?_
    have amH:Live H b':=⟨Aw,e',p',hH,.inl (by rintro rfl;simp at hi)⟩
    exact Lj (hR.inj b b' l l' (Nat.le_trans dK Ep) hm h G6 amH CE.symm)
 ·exact hR.inj b1 b2 l1 l2 CB m1 m2 (vY hb (nC cs new o hlen) Cz) (vY hb (nC cs new o hlen) E4) CE
 ·obtain⟨⟨e0,fz0,k1⟩,k2⟩:=hR.Dw x hx
  refine⟨⟨e0,fz0,by rw[h5 _ (Ne.symm (k2 b l (Nat.le_trans dK Ep) hm G6))];exact k1⟩,fun b' l' uC h hl=>k2 b' l' uC h (vY hb (nC cs new o hlen) hl)⟩
 ·exact h5 rb fun Z1=>hk b l Ep hm G6 Z1.symm
theorem wR {H:aE} {b b':Nat} (h:Live (H.set b .dead) b'):Live H b'∧b'≠b:=by
 obtain⟨cs,e,p,h1,h2⟩:=h
 by_cases hb:b=b'
 ·subst hb
  have bF:=(List.getElem?_eq_some_iff.1 h1).1
  rw[List.getElem?_set_self (by simpa using bF)] at h1
  cases h1
 ·rw[List.getElem?_set_ne hb] at h1
  exact⟨⟨cs,e,p,h1,h2⟩,Ne.symm hb⟩
theorem RY {lo b:Nat} {H:aE} (h:lo≤b):Ext lo H (H.set b .dead) :=
 ⟨by simp,fun b' uC _=>List.getElem?_set_ne (by omega),fun _ _ hl=>(wR hl).1⟩
theorem Q9 (hR:Rel m L0 H w) (b:Nat):Rel m L0 (H.set b .dead) w∧∀lo,Trans lo m H w m (H.set b .dead) w:=by
 refine⟨⟨hR.valid,fun b' l' cs e p h hH => ?_,fun b1 b2 l1 l2 CB h1 h2 Cz E4=>hR.inj b1 b2 l1 l2 CB h1 h2 (wR Cz).1 (wR E4).1,fun x hx=>⟨(hR.Dw x hx).1,fun b' l' uC h hl=>(hR.Dw x hx).2 b' l' uC h (wR hl).1⟩⟩,
  fun lo=>⟨fun _ _ h=>h,fun b' l' h h'=>(by rw[h] at h';cases h'),Nat.le_refl _,fun _ _ _=>rfl,rfl,rfl,rfl⟩⟩
 by_cases hb:b=b'
 ·subst hb
  have bF:=(List.getElem?_eq_some_iff.1 hH).1
  rw[List.getElem?_set_self (by simpa using bF)] at hH
  cases hH
 ·rw[List.getElem?_set_ne hb] at hH
  exact hR.row b' l' cs e p h hH
theorem yK {H:aE} {b b':Nat} {x:QU} (h:Live (H.set b .dead++[x]) b') (hb:b'≠H.length):Live H b'∧b'≠b∧b'<H.length:=by
 have bF:=h.lt
 simp at bF
 have:=gK h (by simp;omega)
 exact⟨(wR this).1,(wR this).2,by omega⟩
theorem Xp {lo b:Nat} {H:aE} {x:QU} (h:lo≤b):Ext lo H (H.set b .dead++[x]) :=
 (RY h).trans (pI lo _ x)
theorem adH (P:Program) {lo b o n e:Nat} {l:Loc} {cs new pS:List Value} (hR:Rel m L0 H w) (dK:L0≤lo) (Ep:lo≤b) (hm:m b=some l) (hf:m H.length=none)
  (hb:H[b]? = some (.row cs e true)) (hlen:o+n≤cs.length) (sZ:l.base+o+n+new.length≤l.Pw) (uW:new.all fS=true) (hn:RL m new pS) :
  ∃w',(storeCells ⟨l.rb,l.base+o+n,none⟩ pS).run P w = .ok () w' ∧
   Rel (tW m H.length ⟨l.rb,l.base+o,e,l.Pw,true⟩) L0 (H.set b .dead++[.row ((cs.drop o).take n++new) e true]) w' ∧
   Trans lo m H w (tW m H.length ⟨l.rb,l.base+o,e,l.Pw,true⟩) (H.set b .dead++[.row ((cs.drop o).take n++new) e true]) w':=by
 have G6:Live H b:=⟨cs,e,true,hb,.inr rfl⟩
 obtain⟨g1,g2,g3,g4⟩:=hR.row b l cs e true hm hb
 obtain⟨arr,et,fz,v1,v2,v3⟩:=hR.valid b l hm
 have yS:pS.length=new.length:=hn.1.symm
 obtain⟨w',Ec,h1,h2,h3,h4,h5,h6,h7⟩:=FG P l.rb (l.base+o+n) pS 0 w arr et fz v1 (by rw[yS,v2];omega) (by rw[hn.fS];exact uW)
  (fun j j1 j2=>v3 (Nat.le_trans dK Ep) j (by omega) (by rw[yS] at j2;omega))
 have bF:∀b' l',m b'=some l'→l'.rb<w.heap.size:=fun b' l' h=>by
  obtain⟨arr,e,fz,h1,_⟩:=hR.valid b' l' h
  exact(Array.getElem?_eq_some_iff.1 h1).1
 have qU:=BC (l:=⟨l.rb,l.base+o,e,l.Pw,true⟩) hf
 have BH:(H.set b .dead).length=H.length:=by simp
 have hnb:(H.set b .dead++[.row ((cs.drop o).take n++new) e true])[H.length]? = some (.row ((cs.drop o).take n++new) e true):=by
  rw[List.getElem?_append_right (by simp)]
  simp
 have aqB:∀b',b'≠H.length→b'≠b→(H.set b .dead++[.row ((cs.drop o).take n++new) e true])[b']? = H[b']? := by
  intro b' k1 k2
  rcases Nat.lt_or_ge b' H.length with k3 | k3
  ·rw[List.getElem?_append_left (by simpa using k3),List.getElem?_set_ne (Ne.symm k2)]
  ·rw[List.getElem?_eq_none (by simp;omega),List.getElem?_eq_none k3]
 have UT:∀b' l',m b'=some l'→Live H b'→b'≠b→l'.rb≠l.rb:=fun b' l' k1 k2 k3 k4 =>
  k3 (hR.inj b b' l l' (Nat.le_trans dK Ep) hm k1 G6 k2 k4.symm).symm
 refine⟨w',h1,⟨fun b' l' h => ?_,fun b' l' Aw e' p' h hH => ?_,fun b1 b2 l1 l2 CB m1 m2 Cz E4 CE => ?_,fun x hx => ?_⟩,⟨qU,fun b' l' h hnn => ?_,by rw[h6];exact Nat.le_refl _,fun rb CE hk => ?_,h7⟩⟩
 ·by_cases NJ:b'=H.length
  ·subst NJ
   rw[cE] at h
   cases h
   exact⟨Ec,et,fz,h2,by rw[h3];exact v2,fun _ j j1 j2=>v3 (Nat.le_trans dK Ep) j (by simp only at j1;omega) j2⟩
  ·rw[cV NJ] at h
   obtain⟨anJ,e1,fz1,w1,w2,w3⟩:=hR.valid b' l' h
   by_cases Lj:l'.rb=l.rb
   ·rw[Lj] at w1 ⊢
    rw[v1] at w1
    cases w1
    exact⟨Ec,et,fz,h2,by rw[h3];exact w2,w3⟩
   ·exact⟨anJ,e1,fz1,by rw[h5 _ Lj];exact w1,w2,w3⟩
 ·by_cases NJ:b'=H.length
  ·subst NJ
   rw[cE] at h
   cases h
   rw[hnb] at hH
   cases hH
   have hold:((cs.drop o).take n).length=n:=by simp;omega
   refine⟨rfl,rfl,by simp only[List.length_append,hold];omega,fun i hi => ?_⟩
   simp only[List.length_append,hold] at hi
   refine⟨Ec.getD (l.base+o+i) undef,?_,?_,?_⟩
   ·show w'.cell? ⟨l.rb,l.base+o+i,none⟩=_
    rw[Aq h2]
    have:l.base+o+i<Ec.size:=by rw[h3,v2];omega
    simp[this]
   ·rw[h4]
    refine RV.mono qU ?_
    by_cases Ke:i<n
    ·rw[if_neg (by omega)]
     have e1:((cs.drop o).take n++new).getD i undef=cs.getD (o+i) undef:=by
      simp only[List.getD_eq_getElem?_getD]
      rw[List.getElem?_append_left (by rw[hold];exact Ke),List.getElem?_take_of_lt Ke,List.getElem?_drop]
     rw[e1]
     obtain⟨rv,c1,c2,_⟩:=g4 (o+i) (by omega)
     rw[Aq v1,←Nat.add_assoc] at c1
     simpa[Array.getD_eq_getD_getElem?,c1] using c2
    ·rw[if_pos (by rw[yS];omega)]
     have e1:((cs.drop o).take n++new).getD i undef=new.getD (i-n) undef:=by
      simp only[List.getD_eq_getElem?_getD]
      rw[List.getElem?_append_right (by rw[hold];omega),hold]
     rw[e1,show l.base+o+i-(l.base+o+n+0)=i-n by omega]
     exact hn.2 (i-n) (by omega)
   ·by_cases Ke:i<n
    ·have e1:((cs.drop o).take n++new).getD i undef=cs.getD (o+i) undef:=by
      simp only[List.getD_eq_getElem?_getD]
      rw[List.getElem?_append_left (by rw[hold];exact Ke),List.getElem?_take_of_lt Ke,List.getElem?_drop]
     rw[e1]
     exact(g4 (o+i) (by omega)).choose_spec.2.2
    ·have e1:((cs.drop o).take n++new).getD i undef=new.getD (i-n) undef:=by
      simp only[List.getD_eq_getElem?_getD]
      rw[List.getElem?_append_right (by rw[hold];omega),hold]
     rw[e1]
     have:=List.all_eq_true.1 uW new[i-n] (List.getElem_mem (by omega))
     simpa[List.getD_eq_getElem?_getD,List.getElem?_eq_getElem (show i-n<new.length by omega)] using this
  ·rw[cV NJ] at h
   by_cases Lj:b'=b
   ·subst Lj
    have Lv:=G6.lt
    rw[List.getElem?_append_left (by simpa using Lv),List.getElem?_set_self Lv] at hH
    cases hH
   ·rw[aqB b' NJ Lj] at hH
    obtain⟨k1,k2,k3,k4⟩:=hR.row b' l' Aw e' p' h hH
    refine⟨k1,k2,k3,fun i hi => ?_⟩
    obtain⟨rv,c1,c2,c3⟩:=k4 i hi
    refine⟨rv,?_,c2.mono qU,c3⟩
    rw[D3]
    ·exact c1
    ·exact h5 _ (UT b' l' h ⟨Aw,e',p',hH,.inl (by rintro rfl;simp at hi)⟩ Lj)
 ·by_cases e1:b1=H.length<;>by_cases e2:b2=H.length
  ·omega
  ·subst e1
   rw[cE] at m1
   rw[cV e2] at m2
   cases m1
   obtain⟨k1,k2,_⟩:=yK E4 e2
   exact absurd CE.symm (UT b2 l2 m2 k1 k2)
  ·subst e2
   rw[cE] at m2
   rw[cV e1] at m1
   cases m2
   obtain⟨k1,k2,_⟩:=yK Cz e1
   exact absurd CE (UT b1 l1 m1 k1 k2)
  ·rw[cV e1] at m1
   rw[cV e2] at m2
   exact hR.inj b1 b2 l1 l2 CB m1 m2 (yK Cz e1).1 (yK E4 e2).1 CE
 ·obtain⟨⟨e0,fz0,k1⟩,k2⟩:=hR.Dw x hx
  have kb:=k2 b l (Nat.le_trans dK Ep) hm G6
  refine⟨⟨e0,fz0,by rw[h5 _ (Ne.symm kb)];exact k1⟩,fun b' l' uC h hl => ?_⟩
  by_cases he:b'=H.length
  ·subst he
   rw[cE] at h
   cases h
   exact kb
  ·rw[cV he] at h
   exact k2 b' l' uC h (yK hl he).1
 ·by_cases NJ:b'=H.length
  ·subst NJ
   rw[cE] at h
   cases h
   exact⟨⟨Nat.le_refl _,by simp⟩,.inr (.inr ⟨b,l,Ep,hm,G6,rfl⟩)⟩
  ·rw[cV NJ,hnn] at h
   cases h
 ·exact h5 rb fun Z1=>hk b l Ep hm G6 Z1.symm
end
end Go.PM
namespace Go.PM
section
variable {P:Program} {m:dO} {L0:Nat} {H:aE} {w:World}
def cR (P:Program) (s:Sem Next) (L0 lo:Nat) (m:dO) (H:aE) (w:World) (v:Value) (H':aE):Prop :=
 ∃rv w' m',(s.run P w = .ok (.value rv) w'∨(s.run P w = .ok .skip w'∧rv=undef))∧RV m' v rv∧Rel m' L0 H' w'∧Trans lo m H w m' H' w'
theorem cR.value {s:Sem Value} {lo:Nat} {v rv:Value} {H':aE} {w':World} {m':dO} (h:s.run P w = .ok rv w') (h1:RV m' v rv) (h2:Rel m' L0 H' w') (h3:Trans lo m H w m' H' w') :
 cR P (do pure (.value (←s))) L0 lo m H w v H':=⟨rv,w',m',.inl (eR h),h1,h2,h3⟩
theorem Oj {b o n:Nat} {cs:List Value} (h:H.read b o n=some cs):∃all e p,H[b]? = some (.row all e p)∧o+n≤all.length∧cs=(all.drop o).take n∧cs.length=n:=by
 unfold aE.read at h
 split at h
 ·rename_i all e p hb
  split at h
  ·rename_i hle
   cases h
   exact⟨all,e,p,hb,hle,rfl,by simp;omega⟩
  ·cases h
 ·cases h
theorem xO {b o n:Nat} {cs:List Value} {l:Loc} (hR:Rel m L0 H w) (hm:m b=some l) (h:H.read b o n=some cs) :
  ∃rs:List Value,RL m cs rs∧rs.length=n∧cs.all fS=true∧∀j v,rs[j]? = some v→w.cell? ((⟨l.rb,l.base+o,none⟩:Addr).add j)=some v:=by
 obtain⟨all,e,p,hb,hle,rfl,hn⟩:=Oj h
 obtain⟨g1,g2,g3,g4⟩:=hR.row b l all e p hm hb
 have rG:∀i,i<n→((all.drop o).take n).getD i undef=all.getD (o+i) undef:=fun i hi=>by
  simp[List.getD_eq_getElem?_getD,List.getElem?_take_of_lt hi,List.getElem?_drop]
 refine⟨(List.range n).map fun i=>(w.cell? ⟨l.rb,l.base+(o+i),none⟩).getD undef,⟨by simp;omega,fun i hi => ?_⟩,by simp,?_,fun j v hj => ?_⟩
 ·rw[hn] at hi
  rw[rG i hi]
  obtain⟨rv,c1,c2,_⟩:=g4 (o+i) (by omega)
  simp[List.getD_eq_getElem?_getD,hi,c1]
  simpa[List.getD_eq_getElem?_getD] using c2
 ·rw[List.all_eq_true]
  intro x hx
  obtain⟨i,hi,rfl⟩:=List.getElem_of_mem hx
  rw[hn] at hi
  obtain⟨_,_,_,c3⟩:=g4 (o+i) (by omega)
  rw[←rG i hi] at c3
  simpa[List.getD_eq_getElem?_getD,List.getElem?_eq_getElem (show i<((all.drop o).take n).length by omega)] using c3
 ·have hj':j<n:=by
   have:=(List.getElem?_eq_some_iff.1 hj).1
   simpa using this
  obtain⟨rv,c1,_,_⟩:=g4 (o+j) (by omega)
  simp[hj',c1] at hj
  subst hj
  rw[Addr.add_lit,Nat.add_assoc]
  exact c1
theorem ON {t:TypeId} {agg:Bool} {size nb:Nat} {z:List Value} {pv rp v:Value} (ht:mA P t=some (agg,size,z,nb)) (hv:nS agg size pv H=some v) (hR:Rel m L0 H w) (hp:RV m pv rp) :
  ∃rv,RV m v rv∧(Instr.loadAt t rp).run P w = .ok rv w:=by
 obtain⟨i,d,zz,hi,hd,_,rfl,rfl,_,_⟩:=iQ ht
 unfold nS at hv
 split at hv
 ·rename_i b o
  cases hp with
  |
   ptr _ _ l hm =>
   have oP:(Instr.loadAt t (.pointer (some ⟨l.rb,l.base+o,none⟩))).run P w=(loadVar t ⟨l.rb,l.base+o,none⟩).run P w:=rfl
   split at hv
   ·rename_i ha
    cases hr:H.read b o i.size with
    | none=>rw[hr] at hv;cases hv
    |
     some cs =>
     rw[hr] at hv
     cases hv
     obtain⟨rs,h1,h2,_,h3⟩:=xO hR hm hr
     refine⟨.agg rs.toArray,RL.ajB h1,?_⟩
     rw[oP]
     have:=run_loadCells_list (P:=P) w ⟨l.rb,l.base+o,none⟩ rs h3
     rw[h2] at this
     unfold loadVar
     simp[Sem.run_bind,DG t d hd,ha,run_sizeOf t i hi,this]
   ·rename_i ha
    have ha':CU d=false:=by simpa using ha
    split at hv
    ·rename_i x hr
     cases hv
     obtain⟨rs,h1,h2,_,h3⟩:=xO hR hm hr
     obtain⟨r,KA⟩:∃r,rs=[r]:=by
      cases rs with
      | nil=>cases h2
      |
       cons r rs=>cases rs with
       | nil=>exact⟨r,rfl⟩
       | cons _ _=>simp at h2
     subst KA
     have hc:=h3 0 r rfl
     rw[Addr.add_zero'] at hc
     refine⟨r,h1.jU.1,?_⟩
     rw[oP]
     unfold loadVar
     simp[Sem.run_bind,DG t d hd,ha',hc]
    ·cases hv
 ·cases hv
theorem JE {size n k:Nat} {pv rv:Value} {new:List Value} (hs:jD H size n pv=some new) (hk:rY pv=some k) (hnk:n≤k) (hR:Rel m L0 H w) (hp:RV m pv rv) :
  ∃pS:List Value,RL m new pS∧new.all fS=true∧∀w',w'.heap=w.heap→(Builtin.firstCells size n rv).run P w' = .ok pS.toArray w':=by
 unfold jD at hs
 split at hs
 ·rename_i b o n' c
  cases hk
  cases hp with
  |
   slice _ _ _ _ l ra rc hm hn hc hx ha =>
   obtain⟨rs,h1,h2,h2',h3⟩:=xO hR hm hs
   rcases ha with ha | ⟨rfl,ha⟩
   ·
    have h0:n=0:=by omega
    subst h0
    have e0:rs=[]:=List.eq_nil_of_length_eq_zero (by simpa using h2)
    subst e0
    exact⟨[],h1,h2',fun w' _=>run_firstCells_some (P:=P) w' size 0 _ _ _ [] (by simp) fun j v hj=>by cases hj⟩
   ·refine⟨rs,h1,h2',fun w' hw'=>run_firstCells_some (P:=P) w' size n _ _ _ rs h2 fun j v hj => ?_⟩
    rw[←h3 j v hj]
    exact D3 (by rw[hw'])
 ·split at hs
  ·rename_i hn
   cases hs
   cases hp
   exact⟨[],RL.nil m,rfl,fun w' _=>run_firstCells_none w' size n _ _⟩
  ·cases hs
 ·rename_i s
  split at hs
  ·cases hs
   cases hp
   refine⟨_,RL.map (f:=fun b:UInt8=>Value.int .u8 (b.toNat:Int)) (g:=fun b:UInt8=>Value.int .u8 (b.toNat:Int)) (fun x _ => .int _ _),?_,fun w' _ => ?_⟩
   ·rw[List.all_eq_true]
    intro x hx
    obtain⟨b,_,rfl⟩:=List.mem_map.1 hx
    rfl
   ·simp only[Builtin.firstCells,Sem.run_pure]
    congr 1
    apply Array.ext'
    simp[ByteArray.data_extract]
  ·cases hs
 ·cases hs
theorem Pt {t u ty e:TypeId} {i:TypeInfo} {d:TypeDesc} (ht:P.underlying t=some (.slice e)) (hu:P.underlying u=some d) (hd:Lg d=true) (hi:P.info? e=some i)
  {a:Addr} {n c k:Nat} {x:Value} {pS:List Value} {w':World} (hl:Builtin.lenOf x=pure k) (hf:(Builtin.firstCells i.size k x).run P w = .ok pS.toArray w) (B9:n+k≤c)
  (E5:(storeCells (a.add (n*i.size)) pS).run P w = .ok () w') :
  (Builtin.append_ #[t,u] ty #[.slice (some a) n c,x]).run P w = .ok (.slice (some a) (n+k) c) w':=by
 cases d<;>first | (cases hd;done) | simp[Builtin.append_,run_underlying ht,run_underlying hu,run_sizeOf e i hi,hl,hf,B9,E5]
theorem RD {t u ty e:TypeId} {i:TypeInfo} {d:TypeDesc} (ht:P.underlying t=some (.slice e)) (hu:P.underlying u=some d) (hd:Lg d=true) (hi:P.info? e=some i)
  {x:Value} (hl:Builtin.lenOf x=pure 0) {pS:List Value} (hf:(Builtin.firstCells i.size 0 x).run P w = .ok pS.toArray w) :
  (Builtin.append_ #[t,u] ty #[.slice none 0 0,x]).run P w = .ok (.slice none 0 0) w:=by
 cases d<;>first | (cases hd;done) | simp[Builtin.append_,run_underlying ht,run_underlying hu,run_sizeOf e i hi,hl,hf]
theorem Qq {t u ty e:TypeId} {i:TypeInfo} {d:TypeDesc} {z:Value} (ht:P.underlying t=some (.slice e)) (hu:P.underlying u=some d) (hd:Lg d=true) (hi:P.info? e=some i) (hz:i.zero=some z)
  {base:Option Addr} {n c k:Nat} {x:Value} {Cr pS:List Value} (hl:Builtin.lenOf x=pure k) (Zn:(Builtin.firstCells i.size n (.slice base n c)).run P w.drew = .ok Cr.toArray w.drew)
  (hf:(Builtin.firstCells i.size k x).run P w.drew = .ok pS.toArray w.drew) (hg:c<n+k) (CB:1≤i.bytes) (hb:(n+k)*i.bytes≤140737488355328) :
  (Builtin.append_ #[t,u] ty #[.slice base n c,x]).run P w = .ok (.slice (some ⟨w.heap.size,0,none⟩) (n+k) (grownCap w (n+k) c e))
   (w.drew.alloc (.cells (Cr.toArray++pS.toArray++Builtin.zeroCells z.cells (grownCap w (n+k) c e-(n+k))) e)):=by
 have sZ:=growslice_fits (bytes:=i.bytes) hg hb
 have h1:¬(n+k≤c):=by omega
 have h2:¬(281474976710656<Builtin.nextslicecap (n+k) c*i.bytes):=by omega
 have h3:¬i.bytes=0:=by omega
 cases d<;>first | (cases hd;done) | simp[Builtin.append_,run_underlying ht,run_underlying hu,run_sizeOf e i hi,typeInfo,zeroValue,hi,hz,hl,h1,h2,h3,Question.forced,Zn,hf,newRow,grownCap]
 all_goals
  congr 2
  apply Array.ext'
  simp
theorem addr_add (g o k:Nat):(⟨g,o,none⟩:Addr).add k=⟨g,o+k,none⟩:=Addr.add_lit g o k
theorem JH {s:Sem Value} {lo size bytes add:Nat} {x rx v:Value} {new pS:List Value} {H':aE} {e:TypeId} (rL:eO lo size bytes x add new H=some (v,H')) (hR:Rel m L0 H w) (dK:L0≤lo) (hx:RV m x rx)
  (hn:RL m new pS) (hf:∀b,H.length≤b→b<H'.length→m b=none)
  (B9:∀a n c w',rx = .slice (some a) n c→n+add≤c→(storeCells (a.add (n*size)) pS).run P w = .ok () w'→s.run P w = .ok (.slice (some a) (n+add) c) w')
  (awI:rx = .slice none 0 0→add=0→s.run P w = .ok (.slice none 0 0) w)
  (ajN:∀base n c Cr,rx = .slice base n c→(Builtin.firstCells size n rx).run P w.drew = .ok (List.toArray Cr) w.drew→Cr.length=n*size→c<n+add→(n+add)*bytes≤140737488355328→∃cap arr,n+add≤cap ∧
   s.run P w = .ok (.slice (some ⟨w.heap.size,0,none⟩) (n+add) cap) (w.drew.alloc (.cells arr e))∧arr.size=cap*size∧∀i,i<(Cr++pS).length→arr.getD i undef=(Cr++pS).getD i undef) :
  ∃rv w' m',s.run P w = .ok rv w'∧RV m' v rv∧Rel m' L0 H' w'∧Trans lo m H w m' H' w':=by
 unfold eO at rL
 split at rL
 case isFalse=>cases rL
 rename_i hc0
 obtain⟨CB,Nh,uW,hnl⟩:=hc0
 split at rL
 ·rename_i n c
  split at rL
  ·rename_i h0
   obtain⟨rfl,rfl⟩:=h0
   cases hx
   split at rL
   ·rename_i Z4
    cases rL
    exact⟨_,w,m,awI rfl Z4,.R5,hR,Trans.refl lo m H w⟩
   ·rename_i Z4
    split at rL
    ·rename_i hb
     cases rL
     obtain⟨cap,arr,k1,k2,k3,k4⟩:=ajN none 0 0 [] rfl (by simp[Builtin.firstCells]) (by simp) (by omega) (by simpa using hb)
     have hmn:m H.length=none:=hf _ (Nat.le_refl _) (by simp)
     have hl:new.length≤arr.size:=by rw[k3,hnl];exact Nat.mul_le_mul_right _ (by omega)
     have hA:=wL hR hmn (w':=w.drew.alloc (.cells arr e)) (arr:=arr) (e:=e) (fz:=(0,0)) rfl ⟨rfl,rfl,rfl⟩ (cs:=new) (kJ:=size) (Sw:=true) hl
      (fun i hi=>by
       rw[k4 i (by rw[List.nil_append,←hn.1];exact hi)]
       exact hn.2 i hi) uW (fun j _ h=>by simp at h)
     refine⟨_,_,_,k2,?_,hA.1,hA.2 lo⟩
     rw[Nat.zero_add] at k1 ⊢
     exact .slice _ 0 add add _ _ cap (cE m _ _) (Nat.le_refl _) k1 (fun h=>by cases h) (.inr ⟨rfl,by simp only[k3];omega⟩)
    ·cases rL
  ·cases rL
 ·rename_i b o n c
  cases hx with
  |
   slice _ _ _ _ l ra rc hm hnc hcr hxp ha =>
   split at rL
   ·rename_i cs es p VO
    obtain⟨g1,g2,g3,g4⟩:=hR.row b l cs es p hm VO
    split at rL
    ·rename_i hle
     obtain⟨rfl,hle⟩:=hle
     have hold:∃Cr:List Value,RL m ((cs.drop o).take (n*es)) Cr∧Cr.length=n*es∧(Builtin.firstCells es n (.slice (some ra) n rc)).run P w.drew = .ok Cr.toArray w.drew:=by
      have W1:H.read b o (n*es)=some ((cs.drop o).take (n*es)):=by simp[aE.read,VO,hle]
      obtain⟨rs,h1,h2,_,h3⟩:=xO hR hm W1
      rcases ha with ha | ⟨rfl,ha⟩
      ·have h0:n=0:=by omega
       subst h0
       have e0:rs=[]:=List.eq_nil_of_length_eq_zero (by simpa using h2)
       subst e0
       exact⟨[],h1,by simp,run_firstCells_some (P:=P) w.drew es 0 _ _ _ [] (by simp) fun j v hj=>by cases hj⟩
      ·exact⟨rs,h1,h2,run_firstCells_some (P:=P) w.drew es n _ _ _ rs h2 fun j v hj=>by rw[World.cell?_drew];exact h3 j v hj⟩
     obtain⟨Cr,o1,o2,o3⟩:=hold
     have grown:∀(Hd:aE) (hRd:Rel m L0 Hd w) (hTd:Trans lo m H w m Hd w) (hEd:Ext lo H Hd) (Zg:Hd.length=H.length),H'=Hd++[.row ((cs.drop o).take (n*es)++new) es true]→v = .slice (some ⟨H.length,0,none⟩) (n+add) (n+add) →
       rc<n+add→(n+add)*bytes≤140737488355328→∃rv w' m',s.run P w = .ok rv w'∧RV m' v rv∧Rel m' L0 H' w'∧Trans lo m H w m' H' w':=by
      intro Hd hRd hTd hEd Zg hH' hv hg hb
      subst hH'
      subst hv
      obtain⟨cap,arr,k1,k2,k3,k4⟩:=ajN (some ra) n rc Cr rfl o3 o2 hg hb
      have hmn:m Hd.length=none:=by rw[Zg];exact hf _ (Nat.le_refl _) (by simp[Zg])
      have hlen:((cs.drop o).take (n*es)++new).length=(n+add)*es:=by rw[List.length_append,o1.1,o2,hnl,Nat.add_mul]
      have hA:=wL hRd hmn (w':=w.drew.alloc (.cells arr e)) (arr:=arr) (e:=e) (fz:=(0,0)) rfl ⟨rfl,rfl,rfl⟩ (cs:=(cs.drop o).take (n*es)++new) (kJ:=es) (Sw:=true)
       (by rw[hlen,k3];exact Nat.mul_le_mul_right _ k1)
       (fun i hi=>by
        rw[k4 i (by rw[List.length_append,o2,←hn.1,hnl,←Nat.add_mul];rw[hlen] at hi;exact hi)]
        exact(o1.append hn).2 i hi)
       (by
        have W1:H.read b o (n*es)=some ((cs.drop o).take (n*es)):=by simp[aE.read,VO,hle]
        obtain⟨_,_,_,h2',_⟩:=xO hR hm W1
        rw[List.all_append,h2',uW];rfl) (fun j _ h=>by simp at h)
      rw[Zg] at hA
      refine⟨_,_,_,k2,?_,hA.1,?_⟩
      ·exact .slice _ 0 _ _ _ _ cap (cE m _ _) (Nat.le_refl _) k1 (fun h=>by cases h) (.inr ⟨rfl,by simp only[k3];omega⟩)
      ·exact Trans.trans (H1:=Hd) hf hEd (pI lo Hd _) hTd (hA.2 lo)
     split at rL
     ·rename_i dB
      split at rL
      ·rename_i Z4
       cases rL
       subst Z4
       have e0:new=[]:=List.eq_nil_of_length_eq_zero (by simpa using hnl)
       subst e0
       have e1:pS=[]:=List.eq_nil_of_length_eq_zero hn.1.symm
       subst e1
       exact⟨_,w,m,B9 ra n rc w rfl (by omega) rfl,.slice b o n c l ra rc hm hnc hcr hxp ha,hR,Trans.refl lo m H w⟩
      ·rename_i Z4
       cases hw:H.write lo b (o+n*es) new with
       | none=>rw[hw] at rL;cases rL
       |
        some H1 =>
        rw[hw] at rL
        cases rL
        rcases ha with ha | ⟨rfl,ha⟩
        ·omega
        ·obtain⟨w',s1,s2,s3⟩:=DS P hR dK hm hw hn
         refine⟨_,w',m,B9 _ n rc w' rfl (by omega) (by rw[addr_add,Nat.add_assoc];exact s1),?_,s2,s3⟩
         exact .slice b o (n+add) c l _ rc hm (by omega) hcr hxp (.inr ⟨rfl,ha⟩)
     ·rename_i dB
      split at rL
      ·rename_i hb
       split at rL
       ·rename_i hp
        split at rL
        ·rename_i Ep
         cases rL
         by_cases hg:rc<n+add
         ·exact grown (H.set b .dead) (Q9 hR b).1 ((Q9 hR b).2 lo) (RY Ep) (by simp) rfl rfl hg hb
         ·
          subst hp
          rcases ha with ha | ⟨rfl,ha⟩
          ·omega
          ·have hmn:m H.length=none:=hf _ (Nat.le_refl _) (by simp)
           have sZ:l.base+o+n*es+new.length≤l.Pw:=by
            rw[hnl]
            have:(n+add)*es≤rc*es:=Nat.mul_le_mul_right _ (by omega)
            rw[Nat.add_mul] at this
            rw[g1] at ha
            omega
           obtain⟨w',s1,s2,s3⟩:=adH P hR dK Ep hm hmn VO hle sZ uW hn
           refine⟨_,w',_,B9 _ n rc w' rfl (by omega) (by rw[addr_add];exact s1),?_,s2,s3⟩
           refine .slice _ 0 _ _ _ _ rc (cE m _ _) (Nat.le_refl _) (by omega) (fun h=>by cases h) (.inr ⟨rfl,?_⟩)
           rw[g1] at ha
           simp only
           omega
        ·cases rL
       ·rename_i hp
        cases rL
        have Cu:l.Sw=false:=by rw[g2];simpa using hp
        have:=hxp Cu
        exact grown H hR (Trans.refl lo m H w) (Ext.refl lo H) rfl rfl rfl (by omega) hb
      ·cases rL
    ·cases rL
   ·cases rL
 ·cases rL
end
end Go.PM