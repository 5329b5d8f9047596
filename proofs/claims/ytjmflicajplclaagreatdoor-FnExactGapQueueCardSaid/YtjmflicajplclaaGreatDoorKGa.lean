/- Texts of a claim, in one: part 1. -/
import Derived.Orders
import Derived.Laws.Entries
import Derived.Laws.AppendOwn
import Derived.Laws.MakeOwn
import Derived.Laws.Build
import Derived.Laws.Rows
import Derived.Laws.World
import Derived.Laws.Strings
import Derived.Laws.BytesString
import Derived.Lib.ItoaNum
import Derived.Laws.StructEq
import Derived.Laws.Cover3
set_option linter.unusedSimpArgs false
set_option linter.unusedVariables false
namespace Go.PM
abbrev Env:=Nat→Value
def put (ρ:Env):Option Nat→Value→Env
 | none,_=>ρ
 | some d,v=>fun k=>if k=d then v else ρ k
def ev (ρ:Env):Operand→Value
 | .tmp t=>ρ t
 | .const v=>v
 | .global _=>undef
 | .func f => .func (.func f) #[] #[]
inductive MJ where
 | dead
 | row (cells:List Value) (fJ:Nat) (P8:Bool)
 deriving Inhabited
abbrev aE:=List MJ
def aM:Value→List Value
 | .agg cs=>cs.toList
 | v=>[v]
def fO:Value→Bool
 | .agg _ | .tuple _=>false
 | _=>true
inductive CK where
 | int | bool | str
inductive mV where
 | mv (x:Operand)
 | pick (c a b:Operand)
 | bin (op:BinOp) (x y:Operand)
 | eqb (neg:Bool) (x y:Operand)
 | isnil (neg:Bool) (x:Operand)
 | eqagg (neg:Bool) (ks:List CK) (x y:Operand)
 | un (op:UnOp) (x:Operand)
 | cvt (k:IntKind) (x:Operand)
 | cvs (x:Operand)
 | ext (x:Operand) (i:Nat)
 | fld (agg:Bool) (off size:Nat) (x:Operand)
 | build (zero:List Value) (places:List (Nat×Nat)) (parts:List (Nat×Operand))
 | chk (x:Operand)
 | faddr (off:Nat) (x:Operand)
 | iaddr (size:Nat) (x i:Operand)
 | sidx (x i:Operand)
 | ssub (x:Operand) (lo hi:Option Operand)
 | mkfn (fn:Nat) (fN:List Operand)
 | len (x:Operand)
 | slen (x:Operand)
 | aaZ (x:Operand)
 | min (x y:Operand)
 | max (x y:Operand)
 | die
 | load (agg:Bool) (size:Nat) (p:Operand)
 | sub (size:Nat) (x:Operand) (lo hi mx:Option Operand)
 | b2s (x:Operand)
 | new (zero:List Value)
 | box (x:Operand)
 | make (zero:List Value) (bytes:Nat) (len cap:Operand)
 | lit (zero:List Value) (len:Nat) (parts:List (Nat×Operand))
 | call (f:Nat) (args:List Operand)
 | store (size:Nat) (p v:Operand)
 | app (size bytes:Nat) (x y:Operand)
 | appz (zero:List Value) (bytes:Nat) (x n:Operand)
 | copy (size:Nat) (x y:Operand)
 | clear (zero:List Value) (x:Operand)
 | callv (fv:Operand) (args:List Operand)
 deriving Inhabited
def dB:BinOp→Value→Value→Option Value
 | .shl,.int k a,.int _ b=>if b<0 then none else some (.int k (k.wrap (a*2^Nat.min b.toNat k.bits)))
 | .shr,.int k a,.int _ b=>if b<0 then none else some (.int k (a.fdiv (2^Nat.min b.toNat k.bits)))
 |
  op,.int k a,.int k' b =>
  if k=k' then
   match op with
   | .add=>some (.int k (k.wrap (a+b)))
   | .sub=>some (.int k (k.wrap (a-b)))
   | .mul=>some (.int k (k.wrap (a*b)))
   | .quo=>if b=0 then none else some (.int k (k.wrap (a.tdiv b)))
   | .rem=>if b=0 then none else some (.int k (a.tmod b))
   | .and=>some (.int k (k.wrap ((BitVec.ofInt k.bits a &&& BitVec.ofInt k.bits b).toNat:Int)))
   | .or=>some (.int k (k.wrap ((BitVec.ofInt k.bits a ||| BitVec.ofInt k.bits b).toNat:Int)))
   | .xor=>some (.int k (k.wrap ((BitVec.ofInt k.bits a ^^^ BitVec.ofInt k.bits b).toNat:Int)))
   | .andNot=>some (.int k (k.wrap ((BitVec.ofInt k.bits a &&& ~~~ BitVec.ofInt k.bits b).toNat:Int)))
   | .eql=>some (.bool (a == b))
   | .neq=>some (.bool (a != b))
   | .lss=>some (.bool (a<b))
   | .leq=>some (.bool (a≤b))
   | .gtr=>some (.bool (a>b))
   | .geq=>some (.bool (a≥b))
   | _=>none
  else none
 |
  op,.string a,.string b =>
  match op with
  | .add=>if ((a.size+b.size:Nat):Int)>IntKind.i64.max then none else some (.string (a++b))
  | .eql=>some (.bool (a.toList == b.toList))
  | .neq=>some (.bool (!(a.toList == b.toList)))
  | .lss=>some (.bool (Op.bytesLess a.toList b.toList))
  | .leq=>some (.bool (Op.bytesLess a.toList b.toList||a.toList == b.toList))
  | .gtr=>some (.bool (!(Op.bytesLess a.toList b.toList||a.toList == b.toList)))
  | .geq=>some (.bool (!(Op.bytesLess a.toList b.toList)))
  | _=>none
 | _,_,_=>none
def YY:UnOp→Value→Option Value
 | .neg,.int k n=>some (.int k (k.wrap (0-n)))
 | .not,.bool b=>some (.bool !b)
 | _,_=>none
def tL:CK→Value→Value→Option Bool
 | .int,.int k a,.int k' b=>if k=k' then some (a == b) else none
 | .bool,.bool a,.bool b=>some (a == b)
 | .str,.string a,.string b=>some (a == b)
 | _,_,_=>none
def oX:List CK→List Value→List Value→Option Bool
 | [],[],[]=>some true
 |
  k::ks,x::xs,y::ys=>match tL k x y with
  | some true=>oX ks xs ys
  | some false=>some false
  | none=>none
 | _,_,_=>none
def vH (places:List (Nat×Nat)) (cells:List Value):List (Nat×Value)→Option (List Value)
 | []=>some cells
 |
  (i,v)::rest =>
  match places[i]? with
  | none=>none
  |
   some (off,size) =>
   if (aM v).length=size∧off+size≤cells.length then
    vH places (cells.take off++aM v++cells.drop (off+size)) rest
   else none
def eH (v:Option Value) (awO:Option Nat) (top:Nat):Option Nat :=
 match v with
 | none=>awO
 | some (.int _ i)=>if 0≤i∧i≤top then some i.toNat else none
 | _=>none
def zE (lo hi:Option Value) (n:Nat):Option (Nat×Nat) :=
 match eH hi (some n) n with
 | none=>none
 |
  some h=>match eH lo (some 0) h with
  | none=>none
  | some l=>some (l,h)
def iC (o:mV) (ρ:Env):Option Value :=
 match o with
 | .mv x=>some (ev ρ x)
 |
  .pick c a b=>match ev ρ c with
  | .bool t=>some (if t then ev ρ a else ev ρ b)
  | _=>none
 | .bin op x y=>dB op (ev ρ x) (ev ρ y)
 |
  .eqb neg x y=>match ev ρ x,ev ρ y with
  | .bool a,.bool b=>some (.bool ((a == b) != neg))
  | _,_=>none
 |
  .isnil neg x=>match ev ρ x with
  | .slice none _ _=>some (.bool (true != neg))
  | .slice (some _) _ _=>some (.bool (false != neg))
  | _=>none
 |
  .eqagg neg ks x y=>match ev ρ x,ev ρ y with
  | .agg a,.agg b=>(oX ks a.toList b.toList).map fun t => .bool (t != neg)
  | _,_=>none
 | .un op x=>YY op (ev ρ x)
 |
  .cvt k x=>match ev ρ x with
  | .int _ n=>some (.int k (k.wrap n))
  | _=>none
 |
  .cvs x=>match ev ρ x with
  | .string s=>some (.string s)
  | _=>none
 |
  .ext x i=>match ev ρ x with
  | .tuple vs=>vs[i]?
  | _=>none
 |
  .fld agg off size x=>match ev ρ x with
  | .agg cs=>if agg then (if off+size≤cs.size then some (.agg (cs.extract off (off+size))) else none) else cs[off]?
  | _=>none
 | .build zero places parts=>(vH places zero (parts.map fun(i,x)=>(i,ev ρ x))).map fun cs => .agg cs.toArray
 |
  .chk x=>match ev ρ x with
  | .pointer (some a)=>some (.pointer (some a))
  | _=>none
 |
  .faddr off x=>match ev ρ x with
  | .pointer (some ⟨b,o,none⟩)=>some (.pointer (some ⟨b,o+off,none⟩))
  | _=>none
 |
  .iaddr size x i=>match ev ρ x,ev ρ i with
  | .slice (some ⟨b,o,none⟩) n _,.int _ i=>if 0≤i∧i<n then some (.pointer (some ⟨b,o+i.toNat*size,none⟩)) else none
  | _,_=>none
 |
  .sidx x i=>match ev ρ x,ev ρ i with
  | .string s,.int _ i=>if 0≤i∧i<s.size then some (.int .u8 ((s.data.toList.getD i.toNat 0).toNat:Int)) else none
  | _,_=>none
 |
  .ssub x lo hi=>match ev ρ x with
  |
   .string s=>match zE (lo.map (ev ρ)) (hi.map (ev ρ)) s.size with
   | some (l,h)=>some (.string (s.extract l h))
   | none=>none
  | _=>none
 | .mkfn f fN=>some (.func (.func f) #[] (fN.map (ev ρ)).toArray)
 |
  .slen x=>match ev ρ x with
  | .string s=>some (.int .i64 s.size)
  | _=>none
 |
  .len x=>match ev ρ x with
  | .slice _ n _=>some (.int .i64 n)
  | _=>none
 |
  .aaZ x=>match ev ρ x with
  | .slice none _ 0=>some (.int .i64 0)
  | _=>none
 |
  .min x y=>match ev ρ x,ev ρ y with
  | .int k a,.int _ b=>some (.int k (if b<a then b else a))
  | _,_=>none
 |
  .max x y=>match ev ρ x,ev ρ y with
  | .int k a,.int _ b=>some (.int k (if b>a then b else a))
  | _,_=>none
 | _=>none
def aE.cells (H:aE) (b:Nat):Option (List Value) :=
 match H[b]? with
 | some (.row cs _ _)=>some cs
 | _=>none
def aE.read (H:aE) (b o n:Nat):Option (List Value) :=
 match H[b]? with
 | some (.row cs _ _)=>if o+n≤cs.length then some ((cs.drop o).take n) else none
 | _=>none
def iH (cs:List Value) (o:Nat) (new:List Value):List Value:=cs.take o++new++cs.drop (o+new.length)
def aE.write (H:aE) (lo b o:Nat) (new:List Value):Option aE :=
 match H[b]? with
 | some (.row cs e p)=>if lo≤b∧o+new.length≤cs.length∧new.all fO then some (H.set b (.row (iH cs o new) e p)) else none
 | _=>none
def cU (n:Nat) (zero:List Value):List Value:=(List.range (n*zero.length)).map fun i=>zero.getD (i % zero.length) undef
inductive Out where
 | val (v:Value) (H:aE)
 | call (f:Nat) (args:List Value)
def iQ (H:aE) (size n:Nat):Value→Option (List Value)
 | .slice (some ⟨b,o,none⟩) _ _=>H.read b o (n*size)
 | .slice none _ _=>if n=0 then some [] else none
 | .string s=>if size=1 then some ((s.data.toList.take n).map fun b => .int .u8 b.toNat) else none
 | _=>none
def rJ:Value→Option Nat
 | .slice _ n _=>some n
 | .string s=>some s.size
 | _=>none
def eJ (lo size bytes:Nat) (x:Value) (add:Nat) (new:List Value) (H:aE):Option (Value×aE) :=
 if 1≤bytes∧1≤size∧new.all fO∧new.length=add*size then
  match x with
  |
   .slice none n c =>
   if n=0∧c=0 then
    if add=0 then some (.slice none 0 0,H)
    else if add*bytes≤140737488355328 then some (.slice (some ⟨H.length,0,none⟩) add add,H++[.row new size true])
    else none
   else none
  |
   .slice (some ⟨b,o,none⟩) n c =>
   match H[b]? with
   |
    some (.row cs e p) =>
    if e=size∧o+n*size≤cs.length then
     if n+add≤c then
      if add=0 then some (.slice (some ⟨b,o,none⟩) n c,H)
      else (H.write lo b (o+n*size) new).map fun H'=>(.slice (some ⟨b,o,none⟩) (n+add) c,H')
     else if (n+add)*bytes≤140737488355328 then
      if p then
       if lo≤b then some (.slice (some ⟨H.length,0,none⟩) (n+add) (n+add),H.set b .dead++[.row ((cs.drop o).take (n*size)++new) size true])
       else none
      else some (.slice (some ⟨H.length,0,none⟩) (n+add) (n+add),H++[.row ((cs.drop o).take (n*size)++new) size true])
     else none
    else none
   | _=>none
  | _=>none
 else none
def Cf (size:Nat) (x:Value) (lo hi mx:Option Value) (H:aE):Option (Value×aE) :=
 match x with
 |
  .slice none n c=>if n=0∧c=0 then
   match eH mx (some 0) 0 with
   | none=>none
   |
    some m=>match eH hi (if mx.isSome then none else some 0) m with
    | none=>none
    |
     some h=>match eH lo (some 0) h with
     | none=>none
     | some _=>some (.slice none 0 0,H)
  else none
 |
  .slice (some ⟨b,o,none⟩) n c =>
  match H[b]? with
  |
   some (.row _ e _) =>
   if e=size then
    match eH mx (some c) c with
    | none=>none
    |
     some m=>match eH hi (if mx.isSome then none else some n) m with
     | none=>none
     |
      some h=>match eH lo (some 0) h with
      | none=>none
      |
       some l =>
       if mx.isSome∧m=l then some (.slice (some ⟨H.length,0,none⟩) 0 0,H++[.row [] size false])
       else some (.slice (some ⟨b,o+l*size,none⟩) (h-l) (m-l),H)
   else none
  | _=>none
 | _=>none
def tA:List Value→Option (List UInt8)
 | []=>some []
 | .int .u8 n::r=>(tA r).map (UInt8.ofNat n.toNat :: ·)
 | _=>none
def nK (agg:Bool) (size:Nat) (v:Value) (H:aE):Option Value :=
 match v with
 |
  .pointer (some ⟨b,o,none⟩) =>
  if agg then (H.read b o size).map fun cs => .agg cs.toArray
  else match H.read b o 1 with
   | some [v]=>some v
   | _=>none
 | _=>none
def pop (lo:Nat) (o:mV) (ρ:Env) (H:aE):Option Out :=
 match o with
 | .load agg size p=>(nK agg size (ev ρ p) H).map fun v => .val v H
 | .sub size x l h m=>(Cf size (ev ρ x) (l.map (ev ρ)) (h.map (ev ρ)) (m.map (ev ρ)) H).map fun(v,H') => .val v H'
 |
  .b2s x=>match ev ρ x with
  | .slice none _ _=>some (.val (.string ByteArray.empty) H)
  |
   .slice (some ⟨b,o,none⟩) n _=>match H.read b o n with
   | some cs=>(tA cs).map fun bs => .val (.string ⟨bs.toArray⟩) H
   | none=>none
  | _=>none
 | .new zero=>some (.val (.pointer (some ⟨H.length,0,none⟩)) (H++[.row zero zero.length false]))
 | .box x=>if (aM (ev ρ x)).all fO then some (.val (.pointer (some ⟨H.length,0,none⟩)) (H++[.row (aM (ev ρ x)) (aM (ev ρ x)).length false])) else none
 |
  .make zero bytes l c=>match ev ρ l,ev ρ c with
  | .int .i64 l,.int .i64 c=>if 0≤l∧l≤c∧c*bytes≤281474976710656∧c≤9223372036854775807 then
    some (.val (.slice (some ⟨H.length,0,none⟩) l.toNat c.toNat) (H++[.row (cU c.toNat zero) zero.length false])) else none
  | _,_=>none
 |
  .lit zero n parts =>
  match vH ((List.range n).map fun i=>(i*zero.length,zero.length)) (cU n zero) (parts.map fun(i,x)=>(i,ev ρ x)) with
  | some cs=>if cs.all fO then some (.val (.slice (some ⟨H.length,0,none⟩) n n) (H++[.row cs zero.length false])) else none
  | none=>none
 |
  .store size p v=>match ev ρ p with
  | .pointer (some ⟨b,o,none⟩)=>if (aM (ev ρ v)).length=size then (H.write lo b o (aM (ev ρ v))).map fun H' => .val undef H' else none
  | _=>none
 |
  .app size bytes x y=>match rJ (ev ρ y) with
  |
   some n=>match iQ H size n (ev ρ y) with
   | some new=>(eJ lo size bytes (ev ρ x) n new H).map fun(v,H') => .val v H'
   | none=>none
  | none=>none
 |
  .appz zero bytes x n=>match ev ρ n with
  | .int .i64 n=>if 0≤n∧n*bytes≤140737488355328 then (eJ lo zero.length bytes (ev ρ x) n.toNat (cU n.toNat zero) H).map fun(v,H') => .val v H' else none
  | _=>none
 |
  .copy size x y=>match ev ρ x,rJ (ev ρ y) with
  | .slice none _ _,some _=>some (.val (.int .i64 0) H)
  |
   .slice (some ⟨b,o,none⟩) d _,some s=>match iQ H size (Nat.min s d) (ev ρ y) with
   | some new=>(H.write lo b o new).map fun H' => .val (.int .i64 (Nat.min s d)) H'
   | none=>none
  | _,_=>none
 |
  .clear zero x=>match ev ρ x with
  | .slice none _ _=>some (.val undef H)
  | .slice (some ⟨b,o,none⟩) n _=>if n=0 then some (.val undef H) else (H.write lo b o (cU n zero)).map fun H' => .val undef H'
  | _=>none
 | .call f args=>some (.call f (args.map (ev ρ)))
 |
  .callv fv args=>match ev ρ fv with
  | .func (.func f) first fN=>some (.call f (first.toList++args.map (ev ρ)++fN.toList))
  | _=>none
 | o=>(iC o ρ).map (.val · H)
structure PI where
 dst:Option Nat
 op:mV
 g:Option (Nat×Bool):=none
 quiet:Bool:=false
 cf:List (Operand×Operand):=[]
 deriving Inhabited
inductive aD where
 | skip
 | dH (ops:List PI)
 | seq (a b:aD)
 | cond (c:Operand) (a b:aD)
 | block (id:Nat) (a:aD)
 | loop (a:aD)
 | exit (id:Nat)
 | ret
 deriving Inhabited
inductive AS where
 | tmp (t:Nat)
 | cell (t:Nat) (agg:Bool) (size:Nat)
 deriving Inhabited
structure aR where
 ntmps:Nat
 res:List AS
 body:aD
 deriving Inhabited
inductive Ex where
 | normal
 | exit (id:Nat)
 | ret
abbrev fV:=Nat→List Value→Nat→aE→Option (Value×aE)
def yP (g:Option (Nat×Bool)) (ρ:Env):Option Bool :=
 match g with
 | none=>some true
 |
  some (t,want)=>match ρ t with
  | .bool b=>some (b == want)
  | .tuple _=>some false
  | _=>none
def iN:Value→Option Nat
 | .pointer (some a)=>some a.block
 | .slice (some a) _ _=>some a.block
 | _=>none
def Az (ρ:Env) (c:Operand×Operand):Bool :=
 match iN (ev ρ c.1),iN (ev ρ c.2) with
 | some a,some b=>a != b
 | _,_=>true
def yO (call:fV) (lo:Nat) (i:PI) (ρ:Env) (H:aE):Option (Value×aE) :=
 match yP i.g ρ with
 | none=>none
 | some false=>some (undef,H)
 |
  some true =>
  if i.cf.all (Az ρ) then
   match pop lo i.op ρ H with
   | some (.val v H')=>some (v,H')
   | some (.call f args)=>call f args (if i.quiet then H.length else lo) H
   | none=>none
  else none
def xQ (call:fV) (lo:Nat) (i:PI) (ρ:Env) (H:aE):Option (Env×aE) :=
 match yO call lo i ρ H with
 | some (v,H')=>some (put ρ i.dst v,H')
 | none=>none
def gM (call:fV) (lo:Nat):List PI→Env→aE→Option (Env×aE)
 | [],ρ,H=>some (ρ,H)
 |
  i::is,ρ,H=>match xQ call lo i ρ H with
  | some (bC,H')=>gM call lo is bC H'
  | none=>none
def wW (body:Env→aE→Option (Ex×Env×aE)):Nat→Env→aE→Option (Ex×Env×aE)
 | 0,_,_=>none
 |
  n+1,ρ,H=>match body ρ H with
  | some (.normal,bC,H')=>wW body n bC H'
  | r=>r
def dI (call:fV) (lo n:Nat):aD→Env→aE→Option (Ex×Env×aE)
 | .skip,ρ,H=>some (.normal,ρ,H)
 | .dH ops,ρ,H=>(gM call lo ops ρ H).map fun(bC,H')=>(.normal,bC,H')
 |
  .seq a b,ρ,H=>match dI call lo n a ρ H with
  | some (.normal,bC,H')=>dI call lo n b bC H'
  | r=>r
 |
  .cond c a b,ρ,H=>match ev ρ c with
  | .bool t=>if t then dI call lo n a ρ H else dI call lo n b ρ H
  | _=>none
 |
  .block id a,ρ,H=>match dI call lo n a ρ H with
  | some (.exit QA,bC,H')=>if QA=id then some (.normal,bC,H') else some (.exit QA,bC,H')
  | r=>r
 | .loop a,ρ,H=>wW (dI call lo n a) n ρ H
 | .exit id,ρ,H=>some (.exit id,ρ,H)
 | .ret,ρ,H=>some (.ret,ρ,H)
def V7 (ρ:Env) (H:aE):AS→Option Value
 | .tmp t=>some (ρ t)
 | .cell t agg size=>nK agg size (ρ t) H
def Bd (ρ:Env) (H:aE):List AS→Option (List Value)
 | []=>some []
 |
  r::rs=>match V7 ρ H r,Bd ρ H rs with
  | some v,some vs=>some (v::vs)
  | _,_=>none
def qA (res:List AS) (ρ:Env) (H:aE):Option Value :=
 match Bd ρ H res with
 | some [v]=>some v
 | some vs=>some (.tuple vs.toArray)
 | none=>none
def XN (args:List Value):Env:=fun k=>args.getD k undef
structure AF where
 Aj:Nat→Option (List Value→aE→Option Value)
 eff:Nat→Bool
abbrev Z2:=Nat→Option aR
def lJ (E:AF) (T:Z2):Nat→fV
 | 0,_,_,_,_=>none
 |
  n+1,f,args,lo,H =>
  match E.Aj f with
  | some p=>(p args H).map (·,H)
  |
   none=>match T f with
   | none=>none
   |
    some pf =>
    if args.length≤pf.ntmps then
     match dI (lJ E T n) lo n pf.body (XN args) H with
     | some (.normal,ρ,H') | some (.ret,ρ,H')=>(qA pf.res ρ H').map (·,H')
     | _=>none
    else none
def LT (n:Nat):Operand := .tmp n
def LI (n:Int):Operand := .const (.int .i64 n)
def LG:Operand := .const (.bool true)
def LF:Operand := .const (.bool false)
def LL (n:Nat):mV := .load false 1 (.tmp n)
def LK (n:Nat):mV := .load true 3 (.tmp n)
def LX (n k:Nat):mV := .ext (.tmp n) k
def LA (k n:Nat):mV := .faddr k (.tmp n)
def LO (d:Nat) (p:mV):PI:=⟨some d,p,none,false,[]⟩
def LQ (d:Nat) (p:mV):PI:=⟨some d,p,none,true,[]⟩
def LN (p:mV):PI:=⟨none,p,none,false,[]⟩
def LM (d s:Nat):PI:=⟨some d,.mv (.tmp s),none,false,[]⟩
def LY (g d:Nat) (p:mV):PI:=⟨some d,p,some (g,true),false,[]⟩
def LZ (g d:Nat) (p:mV):PI:=⟨some d,p,some (g,false),false,[]⟩
def LS (l:List PI) (c:aD):aD := .seq (.dH l) c
end Go.PM
namespace Go.PM
def C2:TypeDesc→Bool
 | .struct _ | .array _ _=>true
 | _=>false
def lM (P:Program) (t:TypeId):Option (Bool×Nat×List Value×Nat) :=
 match P.info? t,P.underlying t with
 |
  some i,some u=>match i.zero with
  | some z=>some (C2 u,i.size,aM z,i.bytes)
  | none=>none
 | _,_=>none
def jK (P:Program) (t:TypeId):Option (Bool×Nat×List Value×Nat) :=
 match P.underlying t with
 | some (.slice e)=>lM P e
 | _=>none
def jW:Value→Bool
 | .bool _ | .int _ _ | .string _ | .pointer none | .slice none 0 0 | .nilFunc | .nilIface=>true
 | .agg cs=>cs.all fun | .bool _ | .int _ _ | .string _ | .pointer none | .slice none 0 0 | .nilFunc | .nilIface=>true | _=>false
 | .tuple vs=>vs.isEmpty
 | _=>false
def OX:Operand→Bool
 | .tmp _ | .func _=>true
 | .const v=>jW v
 | .global _=>false
def uF (P:Program):Nat→List Field→Option (List CK)
 | _,[]=>some []
 |
  i,f::fs =>
  if f.name != "_"&&f.offset == i then
   match (P.info? f.type).map (·.size),P.underlying f.type,uF P (i+1) fs with
   | some 1,some (.int _),some ks=>some (.int::ks)
   | some 1,some .bool,some ks=>some (.bool::ks)
   | some 1,some .string,some ks=>some (.str::ks)
   | _,_,_=>none
  else none
def CW (P:Program) (t:TypeId):Option (List CK) :=
 match P.underlying t with
 | some (.struct fs)=>if P.stoodInHeld t||P.eqGuardType P.depth t then none else uF P 0 fs.toList
 | _=>none
def Pj:Operand→Bool
 | .const (.slice none 0 0)=>true
 | _=>false
def Bk (P:Program) (op:BinOp) (t:TypeId) (x y:Operand):Option mV :=
 match P.underlying t with
 | some (.int _) | some .string=>some (.bin op x y)
 |
  some .bool=>match op with
  | .eql=>some (.eqb false x y)
  | .neq=>some (.eqb true x y)
  | _=>none
 |
  some (.slice _)=>match op with
  | .eql=>if Pj y then some (.isnil false x) else none
  | .neq=>if Pj y then some (.isnil true x) else none
  | _=>none
 | some (.struct _)=>match op,CW P t with
   | .eql,some ks=>some (.eqagg false ks x y)
   | .neq,some ks=>some (.eqagg true ks x y)
   | _,_=>none
 | _=>none
def Mg:TypeDesc→Bool
 | .slice _ | .string=>true
 | _=>false
def oA (P:Program) (b:Builtin) (args:Array Operand) (ts:Array TypeId):Option mV :=
 match b,args.toList,ts.toList with
 |
  .len,[x],t::_=>match P.underlying t with
  | some .string=>some (.slen x)
  | some (.slice _)=>some (.len x)
  | _=>none
 |
  .cap,[x],t::_=>match P.underlying t with
  | some (.slice _)=>some (.aaZ x)
  | _=>none
 | .min,[x,y],_=>some (.min x y)
 | .max,[x,y],_=>some (.max x y)
 |
  .append,[x,y],s::t::_=>match jK P s,P.underlying t with
  | some (_,size,zero,bytes),some (.int _)=>if zero.all fO&&zero.all jW&&1≤zero.length&&size == zero.length then some (.appz zero bytes x y) else none
  | some (_,size,zero,bytes),some d=>if Mg d then (if size == zero.length then some (.app size bytes x y) else none) else none
  | _,_=>none
 |
  .copy,[x,y],t::_=>match jK P t with
  | some (_,size,_,_)=>some (.copy size x y)
  | _=>none
 |
  .clear,[x],t::_=>match jK P t with
  | some (_,size,zero,_)=>if zero.all fO&&zero.all jW&&size == zero.length&&1≤zero.length then some (.clear zero x) else none
  | _=>none
 | _,_,_=>none
def pF (P:Program) (o:Op):Option mV :=
 if o.operands.all OX then
  match o with
  | .move x | .assign x=>some (.mv x)
  | .pick c a b=>some (.pick c a b)
  | .binOp op t x y _=>Bk P op t x y
  | .unOp op _ x=>some (.un op x)
  |
   .convert s d x=>match P.underlying s,P.underlying d with
   | some (.int _),some (.int k)=>some (.cvt k x)
   | some .string,some .string=>some (.cvs x)
   |
    some (.slice e),some .string=>match P.underlying e with
    | some (.int .u8)=>some (.b2s x)
    | _=>none
   | _,_=>none
  | .extract x i=>some (.ext x i)
  |
   .field t x i=>match P.underlying t with
   |
    some (.struct fs)=>match fs[i]? with
    | some f=>(lM P f.type).map fun(agg,size,_,_) => .fld agg f.offset size x
    | none=>none
   | _=>none
  |
   .build t parts=>match P.underlying t,lM P t with
   |
    some (.struct fs),some (_,_,zero,_) =>
    match fs.toList.mapM fun f=>(P.info? f.type).map fun i=>(f.offset,i.size) with
    | some places=>if zero.all jW then some (.build zero places parts.toList) else none
    | none=>none
   | _,_=>none
  | .nilCheck x=>some (.chk x)
  |
   .fieldAddr t x i=>match P.underlying t with
   |
    some (.struct fs)=>match fs[i]? with
    |
     some f=>match P.info? f.type with
     | some i=>if i.size=0 then none else some (.faddr f.offset x)
     | none=>none
    | none=>none
   | _=>none
  | .indexAddr t x i=>(jK P t).map fun(_,size,_,_) => .iaddr size x i
  |
   .index t x i=>match P.underlying t with
   | some .string=>some (.sidx x i)
   | _=>none
  |
   .slice t x lo hi mx=>match P.underlying t with
   | some .string=>if mx.isNone then some (.ssub x lo hi) else none
   | some (.slice e)=>(lM P e).map fun(_,size,_,_) => .sub size x lo hi mx
   | _=>none
  | .makeInterface _ _ | .panic _=>some .die
  | .makeFunc (.func f) first fN=>if first.isEmpty then some (.mkfn f fN.toList) else none
  | .load t p=>(lM P t).map fun(agg,size,_,_) => .load agg size p
  | .store t p v=>(P.info? t).map fun i => .store i.size p v
  |
   .alloc t=>match lM P t with
   | some (_,_,zero,_)=>if zero.all fO&&zero.all jW then some (.new zero) else none
   | none=>none
  | .box _ x=>some (.box x)
  |
   .makeSlice t l c=>match jK P t with
   | some (_,size,zero,bytes)=>if zero.all fO&&zero.all jW&&size == zero.length&&1≤size then some (.make zero bytes l c) else none
   | none=>none
  |
   .buildSlice t n parts=>match jK P t with
   | some (_,size,zero,_)=>if zero.all fO&&zero.all jW&&size == zero.length&&1≤size&&n*size≤16777216 then some (.lit zero n parts.toList) else none
   | none=>none
  | .call { callee := .builtin b,args,argTypes }=>oA P b args argTypes
  | .call { callee := .value (.func f),args,.. }=>some (.call f args.toList)
  | .call { callee := .value (.tmp t),args,.. }=>some (.callv (.tmp t) args.toList)
  | _=>none
 else none
inductive Cls where
 | pure | look | quiet | write
 deriving DecidableEq
def fP (E:AF):mV→Cls
 | .load .. | .b2s _ => .look
 | .sub _ _ _ _ mx=>if mx.isSome then .quiet else .look
 | .new _ | .box _ | .make .. | .lit .. | .callv .. => .quiet
 | .call f _=>if E.eff f then .write else .quiet
 | .store .. | .app .. | .appz .. | .copy .. | .clear .. => .write
 | _ => .pure
def Eu:mV→Option Operand
 | .load _ _ p=>some p
 | .sub _ x _ _ _=>some x
 | .b2s x=>some x
 | .store _ p _=>some p
 | .app _ _ x _=>some x
 | .appz _ _ x _=>some x
 | .copy _ x _=>some x
 | .clear _ x=>some x
 | _=>none
def wH (o:Oper) (M:List Nat):Nat :=
 o.after.toList.foldr (fun e s=>if Region.binds .any e then s ||| 2^e.on ||| M.getD e.on 0 else s) 0
def OZ:List Oper→List Nat→List Nat
 | [],acc=>acc
 | o::os,acc=>OZ os (acc++[wH o acc])
def tmpsOf (xs:Array Operand):List Nat:=xs.toList.filterMap fun | .tmp t=>some t | _=>none
def vU (ops:List Oper) (o:Oper):List Nat :=
 tmpsOf o.op.operands++(match o.guard with | some (j,_)=>((ops[j]?).bind (·.dst)).toList | none=>[])
def ahead (M:List Nat) (i j:Nat):Bool:=(M.getD (Nat.max i j) 0).testBit (Nat.min i j)
def guardOf (ops:List Oper) (i:Nat) (o:Oper):Option (Option (Nat×Bool)) :=
 match o.guard with
 | none=>some none
 |
  some (j,want)=>if j<i then match (ops[j]?).bind (·.dst) with
   | some d=>some (some (d,want))
   | none=>none
  else none
def DM (ops:List Oper) (i j:Nat):Operand→Bool
 | .tmp t=>(ops.take j).drop i |>.all fun o=>o.dst != some t
 | _=>false
def conflicts (E:AF) (ops:List Oper) (ps:List mV) (M:List Nat) (j:Nat) (pj:mV):Option (List (Operand×Operand)) :=
 (List.range j).foldr (fun i acc=>match acc,ps[i]? with
  |
   some l,some pi =>
   match fP E pi,fP E pj with
   |
    .look,.write | .write,.look =>
    if ahead M i j then some l
    else match Eu pi,Eu pj with
     | some a,some b=>if DM ops i j a then some ((a,b)::l) else none
     | _,_=>none
   | .write,.write | .quiet,.write | .write,.quiet=>if ahead M i j then some l else none
   | _,_=>some l
  | _,_=>none) (some [])
def aaI (mask:Nat):Option (Nat×Bool)→Bool
 | some (j,_)=>mask.testBit j
 | none=>true
def aiL (n:Nat):Option Nat→Bool
 | some d=>decide (d<n)
 | none=>true
def SS (E:AF) (ops:List Oper) (ps:List mV) (M:List Nat) (n:Nat) (draw:Bool) (i:Nat):Option PI :=
 match ops[i]?,ps[i]? with
 |
  some o,some p =>
  if aiL n o.dst then
   match guardOf ops i o with
   | none=>none
   |
    some g =>
    if draw then
     if (o.after.toList.all fun e => !Region.binds .any e||decide (e.on<i))
      && aaI (M.getD i 0) o.guard
      && (
       (o.dst.toList++vU ops o).all fun t=>(List.range ops.length).all fun k=>match ops[k]? with
       | some ok=>ok.dst != some t||k == i||ahead M i k
       | none=>true)
      && (M.getD i 0 == wH o M)
     then (conflicts E ops ps M i p).map fun cf=>{ dst:=o.dst,op:=p,g:=g,quiet:=(match fP E p with | .quiet=>true | _=>false),cf:=cf }
     else none
    else some { dst:=o.dst,op:=p,g:=g }
  else none
 | _,_=>none
def xL (P:Program) (E:AF) (n:Nat) (ops:Array Oper) (draw:Bool):Option (List PI) :=
 match ops.toList.mapM fun o=>pF P o.op with
 |
  some ps =>
  let M:=if draw then OZ ops.toList [] else []
  (List.range ops.size).mapM fun i=>SS E ops.toList ps M n draw i
 | none=>none
def gX (P:Program) (E:AF) (n:Nat):Code→Option aD
 | .skip=>some .skip
 | .region _ ops draw=>(xL P E n ops draw).map .dH
 |
  .seq a b=>match gX P E n a,gX P E n b with
  | some a,some b=>some (.seq a b)
  | _,_=>none
 |
  .cond c a b=>if OX c then match gX P E n a,gX P E n b with
   | some a,some b=>some (.cond c a b)
   | _,_=>none
  else none
 | .block id a=>(gX P E n a).map (.block id)
 | .loop a=>(gX P E n a).map .loop
 | .exit id=>some (.exit id)
 | .ret=>some .ret
 | _=>none
def Kz (P:Program) (E:AF) (fn:Func):Option aR :=
 match fn.body with
 | none=>none
 |
  some c =>
  if fn.name == "runtime.NumGoroutine" then none else
  match fn.results.toList.mapM fun | .tmp t=>some (.tmp t) | .cell t ty=>(lM P ty).map fun(agg,size,_,_) => .cell t agg size with
  | none=>none
  | some res=>(gX P E fn.ntmps c).map fun body=>{ ntmps:=fn.ntmps,res:=res,body:=body }
def Qn (P:Program) (E:AF):Z2:=fun f=>(P.funcs[f]?).bind (Kz P E)
end Go.PM
namespace Go.PM
structure Loc where
 rb:Nat
 base:Nat
 fJ:Nat
 O6:Nat
 P8:Bool
abbrev dE:=Nat→Option Loc
inductive RV (m:dE):Value→Value→Prop
 | bool (b:Bool):RV m (.bool b) (.bool b)
 | int (k:IntKind) (n:Int):RV m (.int k n) (.int k n)
 | str (s:ByteArray):RV m (.string s) (.string s)
 | ZQ:RV m (.pointer none) (.pointer none)
 | ptr (b o:Nat) (l:Loc) (h:m b=some l):RV m (.pointer (some ⟨b,o,none⟩)) (.pointer (some ⟨l.rb,l.base+o,none⟩))
 | MK:RV m (.slice none 0 0) (.slice none 0 0)
 | slice (b o n c:Nat) (l:Loc) (ra:Addr) (rc:Nat) (h:m b=some l) (hn:n≤c) (hc:c≤rc) (hx:l.P8=false→rc=c)
  (ha:rc=0∨(ra=⟨l.rb,l.base+o,none⟩∧l.base+o+rc*l.fJ≤l.O6)):RV m (.slice (some ⟨b,o,none⟩) n c) (.slice (some ra) n rc)
 | nilFunc:RV m .nilFunc .nilFunc
 | nilIface:RV m .nilIface .nilIface
 | func (fn:Fn) (f g c d:Array Value) (h1:f.size=g.size) (h2:∀i,i<f.size→RV m (f.getD i undef) (g.getD i undef))
  (h3:c.size=d.size) (h4:∀i,i<c.size→RV m (c.getD i undef) (d.getD i undef)):RV m (.func fn f c) (.func fn g d)
 | agg (f g:Array Value) (h1:f.size=g.size) (h2:∀i,i<f.size→RV m (f.getD i undef) (g.getD i undef)):RV m (.agg f) (.agg g)
 | tuple (f g:Array Value) (h1:f.size=g.size) (h2:∀i,i<f.size→RV m (f.getD i undef) (g.getD i undef)):RV m (.tuple f) (.tuple g)
theorem RV.mono {m m':dE} (hm:∀b l,m b=some l→m' b=some l) {v r:Value} (h:RV m v r):RV m' v r:=by
 induction h with
 | bool b=>exact .bool b
 | int k n=>exact .int k n
 | str s=>exact .str s
 | ZQ=>exact .ZQ
 | ptr b o l h=>exact .ptr b o l (hm _ _ h)
 | MK=>exact .MK
 | slice b o n c l ra rc h hn hc hx ha=>exact .slice b o n c l ra rc (hm _ _ h) hn hc hx ha
 | nilFunc=>exact .nilFunc
 | nilIface=>exact .nilIface
 | func fn f g c d h1 _ h3 _ i2 i4=>exact .func fn f g c d h1 i2 h3 i4
 | agg f g h1 _ i2=>exact .agg f g h1 i2
 | tuple f g h1 _ i2=>exact .tuple f g h1 i2
theorem RV.undef (m:dE):RV m undef undef := .tuple _ _ rfl (fun i hi=>absurd hi (by simp))
def RL (m:dE) (xs ys:List Value):Prop:=xs.length=ys.length∧∀i,i<xs.length→RV m (xs.getD i Go.undef) (ys.getD i Go.undef)
theorem RL.mono {m m':dE} (hm:∀b l,m b=some l→m' b=some l) {xs ys:List Value} (h:RL m xs ys):RL m' xs ys :=
 ⟨h.1,fun i hi=>(h.2 i hi).mono hm⟩
theorem RL.nil (m:dE):RL m [] []:=⟨rfl,fun i hi=>absurd hi (by simp)⟩
theorem RL.cons {m:dE} {x y:Value} {xs ys:List Value} (h:RV m x y) (hs:RL m xs ys):RL m (x::xs) (y::ys):=by
 refine⟨by simp[hs.1],fun i hi => ?_⟩
 cases i with
 | zero=>simpa using h
 | succ i=>simpa using hs.2 i (by simpa using hi)
theorem RL.jF {m:dE} {x y:Value} {xs ys:List Value} (h:RL m (x::xs) (y::ys)):RV m x y∧RL m xs ys:=by
 refine⟨by simpa using h.2 0 (by simp),by simpa using h.1,fun i hi => ?_⟩
 simpa using h.2 (i+1) (by simpa using hi)
theorem RL.append {m:dE} {xs ys us vs:List Value} (h:RL m xs ys) (h':RL m us vs):RL m (xs++us) (ys++vs):=by
 induction xs generalizing ys with
 |
  nil =>
  cases ys with
  | nil=>simpa using h'
  | cons y ys=>exact absurd h.1 (by simp)
 |
  cons x xs ih =>
  cases ys with
  | nil=>exact absurd h.1 (by simp)
  | cons y ys=>exact RL.cons h.jF.1 (ih h.jF.2)
theorem RL.take {m:dE} {xs ys:List Value} (h:RL m xs ys) (n:Nat):RL m (xs.take n) (ys.take n):=by
 refine⟨by simp[h.1],fun i hi => ?_⟩
 simp only[List.length_take] at hi
 have:=h.2 i (by omega)
 simpa[List.getD_eq_getElem?_getD,List.getElem?_take,show i<n by omega] using this
theorem RL.drop {m:dE} {xs ys:List Value} (h:RL m xs ys) (n:Nat):RL m (xs.drop n) (ys.drop n):=by
 refine⟨by simp[h.1],fun i hi => ?_⟩
 simp only[List.length_drop] at hi
 have:=h.2 (n+i) (by omega)
 simpa[List.getD_eq_getElem?_getD,List.getElem?_drop] using this
theorem zM (a:Array Value) (i:Nat):a.toList.getD i Go.undef=a.getD i Go.undef:=by simp
theorem RL.arr {m:dE} {f g:Array Value} (h1:f.size=g.size) (h2:∀i,i<f.size→RV m (f.getD i Go.undef) (g.getD i Go.undef)):RL m f.toList g.toList :=
 ⟨by simpa using h1,fun i hi=>by simpa using h2 i (by simpa using hi)⟩
theorem RL.ahR {m:dE} {xs ys:List Value} (h:RL m xs ys):RV m (.agg xs.toArray) (.agg ys.toArray) :=
 .agg _ _ (by simpa using h.1) (fun i hi=>by simpa using h.2 i (by simpa using hi))
theorem RL.Vl {m:dE} {xs ys:List Value} (h:RL m xs ys):RV m (.tuple xs.toArray) (.tuple ys.toArray) :=
 .tuple _ _ (by simpa using h.1) (fun i hi=>by simpa using h.2 i (by simpa using hi))
theorem RL.map {m:dE} {α:Type} {f g:α→Value}:∀ {l:List α},(∀x∈l,RV m (f x) (g x))→RL m (l.map f) (l.map g)
 | [],_=>RL.nil m
 | x::l,h=>RL.cons (h x (by simp)) (RL.map fun y hy=>h y (by simp[hy]))
theorem RV.aM {m:dE} {v r:Value} (h:RV m v r):RL m (aM v) (aM r):=by
 cases h with
 | agg f g h1 h2=>exact RL.arr h1 h2
 | _=>exact RL.cons (by first | exact .bool _ | exact .int _ _ | exact .str _ | exact .ZQ | (exact .ptr _ _ _ (by assumption)) | exact .MK | (exact .slice _ _ _ _ _ _ _ (by assumption) (by assumption) (by assumption) (by assumption) (by assumption)) | exact .nilFunc | exact .nilIface | (exact .func _ _ _ _ _ (by assumption) (by assumption) (by assumption) (by assumption)) | (exact .tuple _ _ (by assumption) (by assumption))) (RL.nil m)
theorem RV.fO {m:dE} {v r:Value} (h:RV m v r):fO r=fO v:=by cases h<;>rfl
theorem RL.fO {m:dE} {xs ys:List Value} (h:RL m xs ys):ys.all PM.fO=xs.all PM.fO:=by
 induction xs generalizing ys with
 |
  nil =>
  cases ys with
  | nil=>rfl
  | cons y ys=>exact absurd h.1 (by simp)
 |
  cons x xs ih =>
  cases ys with
  | nil=>exact absurd h.1 (by simp)
  | cons y ys=>simp[h.jF.1.fO,ih h.jF.2]
theorem fQ (v:Value):v.cells.toList=aM v:=by cases v<;>rfl
theorem eW (v:Value):v.cells.size=(aM v).length:=by rw[←fQ];simp
theorem OR (v:Value):v.oneCell'=fO v:=by cases v<;>rfl
theorem RV.const {m:dE} {v:Value} (h:jW v=true):RV m v v:=by
 have one:∀u:Value,(match u with | .bool _ | .int _ _ | .string _ | .pointer none | .slice none 0 0 | .nilFunc | .nilIface=>true | _=>false)=true→RV m u u:=by
  intro u hu
  split at hu<;>first | exact .bool _ | exact .int _ _ | exact .str _ | exact .ZQ | exact .MK | exact .nilFunc | exact .nilIface | cases hu
 unfold jW at h
 split at h
 case h_8 cs =>
  refine .agg _ _ rfl fun i hi=>one _ ?_
  have:=Array.all_eq_true.1 h i hi
  have e:cs.getD i Go.undef=cs[i]:=by simp[hi]
  rw[e]
  exact this
 case h_9 vs =>
  have:vs = #[]:=by simpa using h
  subst this
  exact RV.undef m
 all_goals first | exact .bool _ | exact .int _ _ | exact .str _ | exact .ZQ | exact .MK | exact .nilFunc | exact .nilIface | cases h
theorem TV {m:dE} {ρ:Env} {a:Act} {x:Operand} (hx:OX x=true) (ht:∀t,x = .tmp t→RV m (ρ t) (a.tmps.getD t Go.undef)):RV m (ev ρ x) (a.eval x):=by
 cases x with
 | tmp t=>exact ht t rfl
 | const v=>exact RV.const hx
 | global g=>cases hx
 | func f=>exact .func _ _ _ _ _ rfl (fun i hi=>absurd hi (by simp)) rfl (fun i hi=>absurd hi (by simp))
def Live (H:aE) (b:Nat):Prop:=∃cs e p,H[b]? = some (.row cs e p)∧(cs≠[]∨p=true)
theorem Live.lt {H:aE} {b:Nat} (h:Live H b):b<H.length:=by
 obtain⟨cs,e,p,h,_⟩:=h
 exact(List.getElem?_eq_some_iff.1 h).1
def adY:List (Nat×Array Value):=[]
 ++ [(3,(Lib.pow10Tab.map fun z=>Value.int .u64 z).toArray)]
def Po (w:World):Prop:=∀x∈adY,∃e fz,w.heap[x.1]? = some (.cells x.2 e fz)
def akB (m:dE) (L0:Nat) (H:aE) (w:World):Prop :=
 ∀x∈adY,(∃e fz,w.heap[x.1]? = some (.cells x.2 e fz))∧∀b l,L0≤b→m b=some l→Live H b→l.rb≠x.1
structure Rel (m:dE) (L0:Nat) (H:aE) (w:World):Prop where
 valid:∀b l,m b=some l→∃arr e fz,w.heap[l.rb]? = some (.cells arr e fz)∧arr.size=l.O6∧(L0≤b→∀j,l.base≤j→j<l.O6→¬(fz.1≤j∧j<fz.2))
 row:∀b l cs e p,m b=some l→H[b]? = some (.row cs e p)→l.fJ=e∧l.P8=p∧l.base+cs.length≤l.O6 ∧
  ∀i,i<cs.length→∃rv,w.cell? ⟨l.rb,l.base+i,none⟩=some rv∧RV m (cs.getD i Go.undef) rv∧fO (cs.getD i Go.undef)=true
 inj:∀b1 b2 l1 l2,L0≤b1→m b1=some l1→m b2=some l2→Live H b1→Live H b2→l1.rb=l2.rb→b1=b2
 Dv:akB m L0 H w
structure Ext (lo:Nat) (H H':aE):Prop where
 len:H.length≤H'.length
 low:∀b,b<lo→b<H.length→H'[b]? = H[b]?
 liv:∀b,b<H.length→Live H' b→Live H b
theorem Ext.refl (lo:Nat) (H:aE):Ext lo H H:=⟨Nat.le_refl _,fun _ _ _=>rfl,fun _ _ h=>h⟩
theorem Ext.trans {lo:Nat} {H H1 H2:aE} (h:Ext lo H H1) (h':Ext lo H1 H2):Ext lo H H2 :=
 ⟨Nat.le_trans h.len h'.len,fun b hb hl=>(h'.low b hb (Nat.lt_of_lt_of_le hl h.len)).trans (h.low b hb hl),
  fun b hb hl=>h.liv b hb (h'.liv b (Nat.lt_of_lt_of_le hb h.len) hl)⟩
structure Trans (lo:Nat) (m:dE) (H:aE) (w:World) (m':dE) (H':aE) (w':World):Prop where
 ext:∀b l,m b=some l→m' b=some l
 new:∀b l,m' b=some l→m b=none→(H.length≤b∧b<H'.length) ∧
  (w.heap.size≤l.rb∨¬Live H' b∨∃b0 l0,lo≤b0∧m b0=some l0∧Live H b0∧l0.rb=l.rb)
 size:w.heap.size≤w'.heap.size
 cB:∀rb,rb<w.heap.size→(∀b l,lo≤b→m b=some l→Live H b→l.rb≠rb)→w'.heap[rb]? = w.heap[rb]?
 same:w'.os=w.os∧w'.output=w.output∧w'.tape=w.tape
theorem Trans.refl (lo:Nat) (m:dE) (H:aE) (w:World):Trans lo m H w m H w :=
 ⟨fun _ _ h=>h,fun b l h h'=>(by rw[h] at h';cases h'),Nat.le_refl _,fun _ _ _=>rfl,rfl,rfl,rfl⟩
theorem Trans.trans {lo:Nat} {m m1 m2:dE} {H H1 H2:aE} {w w1 w2:World} (hf:∀b,H.length≤b→b<H2.length→m b=none)
  (e1:Ext lo H H1) (e2:Ext lo H1 H2) (h1:Trans lo m H w m1 H1 w1) (h2:Trans lo m1 H1 w1 m2 H2 w2):Trans lo m H w m2 H2 w2:=by
 have Bl:∀b l,m b=some l→b<H2.length→b<H.length:=fun b l hm hb=>by
  rcases Nat.lt_or_ge b H.length with h | h
  ·exact h
  ·rw[hf b h hb] at hm;cases hm
 refine⟨fun b l h=>h2.ext _ _ (h1.ext _ _ h),fun b l h hn => ?_,Nat.le_trans h1.size h2.size,fun rb C3 hk => ?_,
  h2.same.1.trans h1.same.1,h2.same.2.1.trans h1.same.2.1,h2.same.2.2.trans h1.same.2.2⟩
 ·cases OI:m1 b with
  |
   some l1 =>
   have:l1=l:=by have:=h2.ext _ _ OI;rw[h] at this;injection this with this;exact this.symm
   subst this
   obtain⟨⟨ha,hb⟩,hc⟩:=h1.new b l1 OI hn
   refine⟨⟨ha,Nat.lt_of_lt_of_le hb e2.len⟩,?_⟩
   rcases hc with hc | hc | hc
   ·exact .inl hc
   ·exact .inr (.inl fun hl=>hc (e2.liv b hb hl))
   ·exact .inr (.inr hc)
  |
   none =>
   obtain⟨⟨ha,hb⟩,hc⟩:=h2.new b l h OI
   refine⟨⟨Nat.le_trans e1.len ha,hb⟩,?_⟩
   rcases hc with hc | hc | ⟨b0,l0,eQ,hm0,Af,sN⟩
   ·exact .inl (Nat.le_trans h1.size hc)
   ·exact .inr (.inl hc)
   ·cases T9:m b0 with
    |
     some lb =>
     have:lb=l0:=by have:=h1.ext _ _ T9;rw[hm0] at this;injection this with this;exact this.symm
     subst this
     have bA:=Bl b0 lb T9 (Nat.lt_of_lt_of_le Af.lt e2.len)
     exact .inr (.inr ⟨b0,lb,eQ,T9,e1.liv b0 bA Af,sN⟩)
    |
     none =>
     obtain⟨_,hd⟩:=h1.new b0 l0 hm0 T9
     rcases hd with hd | hd | ⟨b1,l1,g1,g2,g3,g4⟩
     ·exact .inl (sN▸hd)
     ·exact absurd Af hd
     ·exact .inr (.inr ⟨b1,l1,g1,g2,g3,g4.trans sN⟩)
 ·rw[h2.cB rb (Nat.lt_of_lt_of_le C3 h1.size) ?_,h1.cB rb C3 hk]
  intro b l eQ OI hl hr
  cases T9:m b with
  |
   some lb =>
   have:lb=l:=by have:=h1.ext _ _ T9;rw[OI] at this;injection this with this;exact this.symm
   subst this
   have bA:=Bl b lb T9 (Nat.lt_of_lt_of_le hl.lt e2.len)
   exact hk b lb eQ T9 (e1.liv b bA hl) hr
  |
   none =>
   obtain⟨_,hd⟩:=h1.new b l OI T9
   rcases hd with hd | hd | ⟨b0,l0,g1,g2,g3,g4⟩
   ·omega
   ·exact hd hl
   ·exact hk b0 l0 g1 g2 g3 (g4.trans hr)
end Go.PM
namespace Go.PM
section
variable {P:Program} {m:dE}
theorem Wk {op:BinOp} {t:TypeId} {x y:Operand} {v vx vy rx ry:Value} (hv:dB op vx vy=some v) (hx:RV m vx rx) (hy:RV m vy ry):∃rv,RV m v rv∧∀w,(do eqGuard op t x y rx ry;binOp op t rx ry:Sem Value).run P w = .ok rv w:=by
 unfold dB at hv
 split at hv
 ·cases hx;cases hy
  split at hv
  ·cases hv
  ·rename_i hb
   cases hv
   exact⟨_,.int _ _,fun w=>by
    show (if _ then _ else _:Sem Value).run P w=_
    rw[if_neg hb];rfl⟩
 ·cases hx;cases hy
  split at hv
  ·cases hv
  ·rename_i hb
   cases hv
   exact⟨_,.int _ _,fun w=>by
    show (if _ then _ else _:Sem Value).run P w=_
    rw[if_neg hb];rfl⟩
 ·cases hx;cases hy
  rename_i k a k' b _ _
  split at hv
  ·rename_i hk
   subst hk
   have e:∀(z:Sem Value),(if k≠k then (stuck "BinOp: operands of different kinds":Sem Value) else z)=z:=fun z=>if_neg (by simp)
   split at hv<;>first
    | (cases hv;done)
    | (cases hv;exact⟨_,.int _ _,fun w=>by
       show (if k≠k then _ else _:Sem Value).run P w=_
       rw[e];rfl⟩)
    | (cases hv;exact⟨_,.bool _,fun w=>by
       show (if k≠k then _ else _:Sem Value).run P w=_
       rw[e];rfl⟩)
    | (
      split at hv
      · cases hv
      · rename_i hb
        cases hv
        exact⟨_,.int _ _,fun w=>by
         show (if k≠k then _ else _:Sem Value).run P w=_
         rw[e]
         show (if b=0 then _ else _:Sem Value).run P w=_
         rw[if_neg hb];rfl⟩)
  ·cases hv
 ·cases hx;cases hy
  rename_i a b _ _
  split at hv<;>first
   | (cases hv;done)
   | (cases hv;exact⟨_,.bool _,fun w=>rfl⟩)
   | (
     split at hv
     ·cases hv
     ·rename_i hb
      cases hv
      exact⟨_,.str _,fun w=>by
       show (if _ then _ else _:Sem Value).run P w=_
       rw[if_neg hb];rfl⟩)
 ·cases hv
theorem Wj {neg:Bool} {t:TypeId} {x y:Operand} {a b:Bool} (h:P.underlying t=some .bool) (w:World) :
  (do eqGuard (if neg then .neq else .eql) t x y (.bool a) (.bool b);binOp (if neg then .neq else .eql) t (.bool a) (.bool b):Sem Value).run P w = .ok (.bool ((a == b) != neg)) w:=by
 cases neg
 ·show ((Op.equal t (.bool a) (.bool b)) >>= fun r=>pure (.bool r):Sem Value).run P w=_
  rw[Sem.run_bind,run_equal_bool w t a b h]
  cases a<;>cases b<;>rfl
 ·show ((Op.equal t (.bool a) (.bool b)) >>= fun r=>pure (.bool !r):Sem Value).run P w=_
  rw[Sem.run_bind,run_equal_bool w t a b h]
  cases a<;>cases b<;>rfl
theorem DL {neg:Bool} {t e:TypeId} {x y:Operand} {a:Option Addr} {n c:Nat} (h:P.underlying t=some (.slice e)) (w:World) :
  (do eqGuard (if neg then .neq else .eql) t x y (.slice a n c) (.slice none 0 0);binOp (if neg then .neq else .eql) t (.slice a n c) (.slice none 0 0):Sem Value).run P w = .ok (.bool (a.isNone != neg)) w:=by
 cases neg
 ·show ((Op.equal t (.slice a n c) (.slice none 0 0)) >>= fun r=>pure (.bool r):Sem Value).run P w=_
  rw[Sem.run_bind,run_equal_slice_nil w t e a n c h]
  cases a<;>rfl
 ·show ((Op.equal t (.slice a n c) (.slice none 0 0)) >>= fun r=>pure (.bool !r):Sem Value).run P w=_
  rw[Sem.run_bind,run_equal_slice_nil w t e a n c h]
  cases a<;>rfl
theorem DH (t:TypeId) (d:TypeDesc) (h:P.underlying t=some d) (w:World):(isAgg t).run P w = .ok (C2 d) w:=by
 unfold isAgg
 rw[Sem.run_bind,run_underlying h,Result.andThen_ok]
 cases d<;>rfl
theorem run_sizeOf (t:TypeId) (i:TypeInfo) (h:P.info? t=some i) (w:World):(sizeOf t).run P w = .ok i.size w:=by
 simp[sizeOf,typeInfo,h]
theorem A9 (t:TypeId) (d:TypeDesc) (h:P.underlying t=some d) (hd:C2 d=false) (zs:Array Value) (i:Nat) (hz:i<zs.size) (w:World) :
  (part t zs i).run P w = .ok zs[i] w:=by
 unfold part
 rw[Sem.run_bind,DH t d h w,Result.andThen_ok,hd]
 simp[hz]
theorem PO (t:TypeId) (d:TypeDesc) (n:TypeInfo) (h:P.underlying t=some d) (hn:P.info? t=some n) (hd:C2 d=true) (zs:Array Value) (i:Nat) (w:World) :
  (part t zs i).run P w = .ok (.agg (zs.extract i (i+n.size))) w:=by
 unfold part
 rw[Sem.run_bind,DH t d h w,Result.andThen_ok,hd]
 simp[run_sizeOf t n hn]
theorem Lu {a b:Value} {c:Bool} (h:tL .int a b=some c):∃k n n',a = .int k n∧b = .int k n'∧c=(n == n'):=by
 cases a<;>cases b<;>simp[tL] at h
 obtain⟨rfl,rfl⟩:=h
 exact⟨_,_,_,rfl,rfl,rfl⟩
theorem IN {a b:Value} {c:Bool} (h:tL .bool a b=some c):∃n n',a = .bool n∧b = .bool n'∧c=(n == n'):=by
 cases a<;>cases b<;>simp[tL] at h
 subst h
 exact⟨_,_,rfl,rfl,rfl⟩
theorem KF {a b:Value} {c:Bool} (h:tL .str a b=some c):∃n n',a = .string n∧b = .string n'∧c=(n == n'):=by
 cases a<;>cases b<;>simp[tL] at h
 subst h
 exact⟨_,_,rfl,rfl,rfl⟩
theorem FT (d:Nat) (xs ys:Array Value) (w:World):∀(fs:List Field) (ks:List CK) (i:Nat) (r:Bool),
  uF P i fs=some ks→oX ks (xs.toList.drop i) (ys.toList.drop i)=some r→(Op.eqFields (d+1) xs ys fs).run P w = .ok r w
 |
  [],ks,i,r,hp,he=>by
  cases hp
  unfold oX at he
  split at he
  ·cases he;rfl
  ·rename_i h _ _;cases h
  ·cases he
 |
  f::fs,ks,i,r,hp,he=>by
  unfold uF at hp
  split at hp
  ·rename_i hno
   simp only[Bool.and_eq_true,bne_iff_ne,ne_eq,beq_iff_eq] at hno
   obtain⟨aaT,ajG⟩:=hno
   have key:∀(k:CK) (ks':List CK) (dd:TypeDesc),P.underlying f.type=some dd→C2 dd=false→uF P (i+1) fs=some ks'→ks=k::ks' →
     (∀a b c,tL k a b=some c→(Op.equalIn (d+1) f.type a b).run P w = .ok c w)→(Op.eqFields (d+1) xs ys (f::fs)).run P w = .ok r w:=by
    intro k ks' dd hu Zz CZ hks hq
    subst hks
    have hlx:i<xs.size:=by
     rcases Nat.lt_or_ge i xs.size with h | h
     ·exact h
     ·rw[List.drop_eq_nil_of_le (by simpa using h)] at he;cases he
    have hly:i<ys.size:=by
     rcases Nat.lt_or_ge i ys.size with h | h
     ·exact h
     ·rw[List.drop_eq_nil_of_le (as:=ys.toList) (by simpa using h)] at he
      rw[List.drop_eq_getElem_cons (by simpa using hlx)] at he
      cases he
    have e1:xs.toList.drop i=xs[i]::xs.toList.drop (i+1):=by rw[List.drop_eq_getElem_cons (by simpa using hlx)];rfl
    have e2:ys.toList.drop i=ys[i]::ys.toList.drop (i+1):=by rw[List.drop_eq_getElem_cons (by simpa using hly)];rfl
    rw[e1,e2,oX] at he
    simp only[Op.eqFields,aaT,ne_eq,not_false_eq_true,if_true,Sem.run_bind,ajG,A9 f.type dd hu Zz xs i hlx,A9 f.type dd hu Zz ys i hly,Result.andThen_ok]
    cases hc:tL k xs[i] ys[i] with
    | none=>rw[hc] at he;cases he
    |
     some b =>
     rw[hq _ _ b hc]
     cases b
     ·rw[hc] at he
      cases he
      rfl
     ·rw[hc] at he
      simp only[Result.andThen_ok,Bool.not_true,Bool.false_eq_true,if_false]
      exact FT d xs ys w fs ks' (i+1) r CZ he
   split at hp
   ·rename_i ks' _ hu CZ
    cases hp
    refine key .int ks' _ hu rfl CZ rfl fun a b c h => ?_
    obtain⟨k,n,n',rfl,rfl,rfl⟩:=Lu h
    exact run_equalIn_int w d f.type _ _ _ _ hu
   ·rename_i ks' _ hu CZ
    cases hp
    refine key .bool ks' _ hu rfl CZ rfl fun a b c h => ?_
    obtain⟨n,n',rfl,rfl,rfl⟩:=IN h
    exact run_equalIn_bool w d f.type _ _ hu
   ·rename_i ks' _ hu CZ
    cases hp
    refine key .str ks' _ hu rfl CZ rfl fun a b c h => ?_
    obtain⟨n,n',rfl,rfl,rfl⟩:=KF h
    simp[Op.equalIn,run_underlying hu]
   ·cases hp
  ·cases hp
end
end Go.PM
namespace Go.PM
section
variable {P:Program} {m:dE}
theorem Uk {k:CK} {a b a' b':Value} {c:Bool} (ha:RV m a a') (hb:RV m b b') (h:tL k a b=some c):tL k a' b'=some c:=by
 cases k
 ·obtain⟨k,n,n',rfl,rfl,rfl⟩:=Lu h
  cases ha;cases hb;exact h
 ·obtain⟨n,n',rfl,rfl,rfl⟩:=IN h
  cases ha;cases hb;exact h
 ·obtain⟨n,n',rfl,rfl,rfl⟩:=KF h
  cases ha;cases hb;exact h
theorem QK:∀ {ks:List CK} {xs ys Ho ys':List Value} {r:Bool},RL m xs Ho→RL m ys ys'→oX ks xs ys=some r→oX ks Ho ys'=some r:=by
 intro ks
 induction ks with
 |
  nil =>
  intro xs ys Ho ys' r hx hy h
  cases xs with
  | cons x xs=>cases ys<;>cases h
  |
   nil =>
   cases ys with
   | cons y ys=>cases h
   |
    nil =>
    have e1:Ho=[]:=List.eq_nil_of_length_eq_zero hx.1.symm
    have e2:ys'=[]:=List.eq_nil_of_length_eq_zero hy.1.symm
    subst e1;subst e2;exact h
 |
  cons k ks ih =>
  intro xs ys Ho ys' r hx hy h
  cases xs with
  | nil=>cases ys<;>cases h
  |
   cons x xs =>
   cases ys with
   | nil=>cases h
   |
    cons y ys =>
    cases Ho with
    | nil=>exact absurd hx.1 (by simp)
    |
     cons x' Ho =>
     cases ys' with
     | nil=>exact absurd hy.1 (by simp)
     |
      cons y' ys' =>
      rw[oX] at h ⊢
      cases hc:tL k x y with
      | none=>rw[hc] at h;cases h
      |
       some c =>
       rw[hc] at h
       rw[Uk hx.jF.1 hy.jF.1 hc]
       cases c
       ·exact h
       ·exact ih hx.jF.2 hy.jF.2 h
theorem Oc {neg:Bool} {t:TypeId} {x y:Operand} {a b:Array Value} {ks:List CK} {r:Bool} (h:CW P t=some ks) (he:oX ks a.toList b.toList=some r) (w:World) :
  (do eqGuard (if neg then .neq else .eql) t x y (.agg a) (.agg b);binOp (if neg then .neq else .eql) t (.agg a) (.agg b):Sem Value).run P w = .ok (.bool (r != neg)) w:=by
 unfold CW at h
 split at h
 ·rename_i fs hu
  split at h
  ·cases h
  ·rename_i hg
   simp only[Bool.or_eq_true,not_or,Bool.not_eq_true] at hg
   have YR:P.fieldsOf t=fs:=by simp[Program.fieldsOf,hu]
   have hh:(Op.equal t (.agg a) (.agg b)).run P w = .ok r w:=by
    show (Op.equalIn (9998+1+1) t (.agg a) (.agg b)).run P w=_
    rw[run_equalIn_struct w (9998+1) t a b (by rw[YR];exact hu) hg.1,YR]
    exact FT 9998 a b w fs.toList ks 0 r h (by simpa using he)
   have hgd:∀op,(eqGuard op t x y (.agg a) (.agg b)).run P w = .ok () w:=by
    intro op
    cases op<;>first | rfl | (show ((program >>= fun p=>program >>= fun q=>_):Sem Unit).run P w=_;simp[hg.2])
   rw[Sem.run_bind,hgd,Result.andThen_ok]
   cases neg
   ·show ((Op.equal t (.agg a) (.agg b)) >>= fun r=>pure (.bool r):Sem Value).run P w=_
    rw[Sem.run_bind,hh]
    cases r<;>rfl
   ·show ((Op.equal t (.agg a) (.agg b)) >>= fun r=>pure (.bool !r):Sem Value).run P w=_
    rw[Sem.run_bind,hh]
    cases r<;>rfl
 ·cases h
theorem amJ {op:UnOp} {v vx rx:Value} (hv:YY op vx=some v) (hx:RV m vx rx):∃rv,RV m v rv∧∀w,(Op.unary op rx).run P w = .ok rv w:=by
 unfold YY at hv
 split at hv
 ·cases hx;cases hv;exact⟨_,.int _ _,fun w=>rfl⟩
 ·cases hx;cases hv;exact⟨_,.bool _,fun w=>rfl⟩
 ·cases hv
theorem RL.getElem? {xs ys:List Value} (h:RL m xs ys) (i:Nat) (v:Value) (hv:xs[i]? = some v):∃r,ys[i]? = some r∧RV m v r:=by
 have hi:=(List.getElem?_eq_some_iff.1 hv).1
 have hr:=h.2 i hi
 have oJ:i<ys.length:=h.1▸hi
 refine⟨ys[i],List.getElem?_eq_getElem oJ,?_⟩
 simp only[List.getD_eq_getElem?_getD,hv,List.getElem?_eq_getElem oJ,Option.getD_some] at hr
 exact hr
theorem aeQ {t:TypeId} {fs:Array Field} {i:Nat} {f:Field} {agg:Bool} {size:Nat} {z:List Value} {by_:Nat} {v:Value} {cs rs:Array Value} (hu:P.underlying t=some (.struct fs)) (hf:fs[i]? = some f)
  (ht:lM P f.type=some (agg,size,z,by_)) (hv:(if agg then (if f.offset+size≤cs.size then some (Value.agg (cs.extract f.offset (f.offset+size))) else none) else cs[f.offset]?)=some v)
  (hr:RL m cs.toList rs.toList):∃rv,RV m v rv∧∀w,(Instr.field t (.agg rs) i).run P w = .ok rv w:=by
 unfold lM at ht
 split at ht
 ·rename_i n d hn hd
  split at ht
  ·rename_i z' hz
   cases ht
   have oY:∀w,(Instr.field t (.agg rs) i).run P w=(part f.type rs f.offset).run P w:=by
    intro w
    unfold Instr.field
    rw[Sem.run_bind,run_underlying hu,Result.andThen_ok]
    simp[hf,asAgg]
   cases ha:C2 d with
   |
    true =>
    rw[ha] at hv
    simp only[if_true] at hv
    split at hv
    ·rename_i hb
     cases hv
     refine⟨.agg (rs.extract f.offset (f.offset+n.size)),?_,fun w=>by rw[oY,PO f.type d n hd hn ha]⟩
     have h1:rs.size=cs.size:=by simpa using hr.1.symm
     refine .agg _ _ (by simp[h1]) fun j hj => ?_
     simp only[Array.size_extract] at hj
     have:=hr.2 (f.offset+j) (by simp;omega)
     simp only[Array.getD_eq_getD_getElem?,Array.getElem?_extract]
     simpa[show j<min (f.offset+n.size) cs.size-f.offset by omega,show j<min (f.offset+n.size) rs.size-f.offset by omega] using this
    ·cases hv
   |
    false =>
    rw[ha] at hv
    simp only[Bool.false_eq_true,if_false] at hv
    obtain⟨r,h1,h2⟩:=hr.getElem? f.offset v (by simpa using hv)
    obtain⟨bA,he⟩:=Array.getElem?_eq_some_iff.1 (show rs[f.offset]? = some r by simpa using h1)
    exact⟨r,h2,fun w=>by rw[oY,A9 f.type d hd ha rs f.offset bA,he]⟩
  ·cases ht
 ·cases ht
theorem WB (l:List Value):∀(off j:Nat) (cs:Array Value),off+j+l.length≤cs.size →
  ((l.zipIdx j).foldl (fun(cs:Array Value) (x:Value×Nat)=>cs.setIfInBounds (off+x.2) x.1) cs).toList=cs.toList.take (off+j)++l++cs.toList.drop (off+j+l.length):=by
 induction l with
 | nil=>intro off j cs h;simp
 |
  cons x l ih =>
  intro off j cs h
  simp only[List.length_cons] at h
  simp only[List.zipIdx_cons,List.foldl_cons]
  rw[ih off (j+1) _ (by simp;omega)]
  simp only[Array.toList_setIfInBounds,List.length_cons]
  have bA:off+j<cs.toList.length:=by simp;omega
  have e1:(cs.toList.set (off+j) x).take (off+(j+1))=cs.toList.take (off+j)++[x]:=by
   rw[show off+(j+1)=off+j+1 by omega,List.take_add_one,List.take_set]
   have:(cs.toList.set (off+j) x)[off+j]? = some x:=by simp[List.getElem?_set];simpa using bA
   rw[this,List.set_eq_of_length_le (by simp;omega)]
   rfl
  have e2:(cs.toList.set (off+j) x).drop (off+(j+1)+l.length)=cs.toList.drop (off+j+(l.length+1)):=by
   rw[List.drop_set]
   rw[if_pos (by omega)]
   congr 1
   omega
  rw[e1,e2]
  simp
theorem RJ (places:List (Nat×Nat)) (place:Nat→Option (Nat×Nat)) (Mm:∀i q,places[i]? = some q→place i=some q):∀(ps qs:List (Nat×Value)) (cs:List Value) (rs:Array Value) (out:List Value),
  ps.map (·.1)=qs.map (·.1)→RL m (ps.map (·.2)) (qs.map (·.2))→RL m cs rs.toList→vH places cs ps=some out→∃K6,Instr.fill place rs qs=some K6∧RL m out K6.toList:=by
 intro ps
 induction ps with
 |
  nil =>
  intro qs cs rs out hi hv hc h
  cases qs with
  | cons q qs=>cases hi
  | nil=>cases h;exact⟨rs,rfl,hc⟩
 |
  cons p ps ih =>
  intro qs cs rs out hi hv hc h
  cases qs with
  | nil=>cases hi
  |
   cons q qs =>
   obtain⟨i,v⟩:=p
   obtain⟨i',r⟩:=q
   simp only[List.map_cons,List.cons.injEq] at hi
   obtain⟨rfl,hi⟩:=hi
   simp only[List.map_cons] at hv
   obtain⟨hvr,CZ⟩:=hv.jF
   rw[vH] at h
   rw[Instr.fill]
   cases hp:places[i]? with
   | none=>rw[hp] at h;cases h
   |
    some os =>
    obtain⟨off,size⟩:=os
    rw[hp] at h
    rw[Mm i _ hp]
    simp only at h ⊢
    split at h
    ·rename_i hs
     have hl:(aM r).length=(aM v).length:=hvr.aM.1.symm
     have Ck:rs.size=cs.length:=by simpa using hc.1.symm
     have QQ:¬((decide (r.cells.size≠size)||decide (off+r.cells.size>rs.size))=true):=by
      rw[eW,hl,hs.1,Ck]
      simp
      omega
     rw[if_neg (by simpa using QQ)]
     refine ih qs _ _ out hi CZ ?_ h
     have hr:r.cells.zipIdx.foldl (fun(cs:Array Value) (x:Value×Nat)=>cs.setIfInBounds (off+x.2) x.1) rs=(((aM r).zipIdx 0).foldl (fun(cs:Array Value) (x:Value×Nat)=>cs.setIfInBounds (off+x.2) x.1) rs):=by
      rw[←fQ,←Array.foldl_toList,Array.toList_zipIdx]
     have aoV:=WB (aM r) off 0 rs (by rw[hl,hs.1,Ck];omega)
     show RL m _ (r.cells.zipIdx.foldl (fun(cs:Array Value) (x:Value×Nat)=>cs.setIfInBounds (off+x.2) x.1) rs).toList
     rw[hr,aoV]
     simp only[Nat.add_zero]
     rw[hl,hs.1]
     exact((hc.take off).append hvr.aM).append (hc.drop (off+size))
    ·cases h
theorem OF (places:List (Nat×Nat)):∀(ps:List (Nat×Value)) (cs out:List Value),vH places cs ps=some out→out.length=cs.length:=by
 intro ps
 induction ps with
 | nil=>intro cs out h;cases h;rfl
 |
  cons p ps ih =>
  intro cs out h
  obtain⟨i,v⟩:=p
  rw[vH] at h
  split at h
  ·cases h
  ·split at h
   ·rename_i hs
    rw[ih _ _ h]
    simp only[List.length_append,List.length_take,List.length_drop,hs.1]
    omega
   ·cases h
end
end Go.PM
namespace Go.PM
section
variable {P:Program} {m:dE}
def RO (m:dE):Option Value→Option Value→Prop
 | none,none=>True
 | some v,some r=>RV m v r
 | _,_=>False
theorem Xz {k:IntKind} {i:Int} {y:Nat} {code:BoundsCode} (h:0≤i∧i≤y) (w:World):(Instr.sliceBound (.int k i) y code).run P w = .ok i.toNat w:=by
 simp[Instr.sliceBound,asIntOf,h.1,h.2]
theorem oF {v v':Option Value} {d:Option Nat} {top k:Nat} (h:eH v d top=some k) (hv:RO m v v') :
  (v=none∧v'=none∧d=some k)∨(∃u r,v=some u∧v'=some r∧k≤top∧∀alM,top≤alM→∀code w,(Instr.sliceBound r alM code).run P w = .ok k w):=by
 cases v with
 |
  none =>
  cases v' with
  | some r=>exact hv.elim
  | none=>exact .inl ⟨rfl,rfl,h⟩
 |
  some u =>
  cases v' with
  | none=>exact hv.elim
  |
   some r =>
   have hr:RV m u r:=hv
   refine .inr ⟨u,r,rfl,rfl,?_⟩
   cases hr<;>simp only[eH] at h<;>try (cases h;done)
   split at h
   ·rename_i hb
    cases h
    exact⟨by omega,fun alM ht code w=>Xz ⟨hb.1,by omega⟩ w⟩
   ·cases h
theorem aaS {t:TypeId} {s:ByteArray} {lo hi jI oJ:Option Value} {l h:Nat} (hu:P.underlying t=some .string) (hs:zE lo hi s.size=some (l,h))
  (hl:RO m lo jI) (hh:RO m hi oJ) (w:World):(Instr.sliceAt t (.string s) jI oJ none).run P w = .ok (.string (s.extract l h)) w:=by
 have key:(Instr.sliceBounds false s.size s.size jI oJ none).run P w = .ok (l,h,s.size) w:=by
  unfold zE at hs
  cases h1:eH hi (some s.size) s.size with
  | none=>rw[h1] at hs;cases hs
  |
   some h' =>
   rw[h1] at hs
   simp only at hs
   cases h2:eH lo (some 0) h' with
   | none=>rw[h2] at hs;cases hs
   |
    some l' =>
    rw[h2] at hs
    cases hs
    rcases oF (P:=P) h1 hh with⟨_,rfl,e⟩ | ⟨_,r,_,rfl,_,hr⟩<;>rcases oF (P:=P) h2 hl with⟨_,rfl,e'⟩ | ⟨_,r',_,rfl,_,EP⟩
    ·cases e;cases e';rfl
    ·cases e;simp[Instr.sliceBounds,EP _ (Nat.le_refl _)]
    ·cases e';simp[Instr.sliceBounds,hr _ (Nat.le_refl _)]
    ·simp[Instr.sliceBounds,hr _ (Nat.le_refl _),EP _ (Nat.le_refl _)]
 have h1:(Instr.sliceAt t (.string s) jI oJ none).run P w=(Instr.slice t (.string s) jI oJ none).run P w:=by
  unfold Instr.sliceAt
  rw[Sem.run_bind,run_underlying hu,Result.andThen_ok]
 rw[h1]
 unfold Instr.slice
 rw[Sem.run_bind,run_underlying hu,Result.andThen_ok]
 simp[key]
theorem eG {s:Sem Value} {v:Value} {w w':World} (h:s.run P w = .ok v w'):(do pure (.value (←s)):Sem Next).run P w = .ok (.value v) w':=by
 rw[Sem.run_bind,h];rfl
theorem iI {t:TypeId} {agg:Bool} {size:Nat} {z:List Value} {n:Nat} (h:lM P t=some (agg,size,z,n)) :
  ∃i d zz,P.info? t=some i∧P.underlying t=some d∧i.zero=some zz∧agg=C2 d∧size=i.size∧z=aM zz∧n=i.bytes:=by
 unfold lM at h
 split at h
 ·rename_i i d hi hd
  split at h
  ·rename_i zz hz
   cases h
   exact⟨i,d,zz,hi,hd,hz,rfl,rfl,rfl,rfl⟩
  ·cases h
 ·cases h
theorem iS {t:TypeId} {agg:Bool} {size:Nat} {z:List Value} {n:Nat} (h:jK P t=some (agg,size,z,n)) :
  ∃e,P.underlying t=some (.slice e)∧lM P e=some (agg,size,z,n):=by
 unfold jK at h
 split at h
 ·rename_i e he;exact⟨e,he,h⟩
 ·cases h
theorem X0 {t e:TypeId} {i0:TypeInfo} {b o n c:Nat} {k:IntKind} {i:Int} {r:Value} (hu:P.underlying t=some (.slice e)) (hi0:P.info? e=some i0) (hr:RV m (.slice (some ⟨b,o,none⟩) n c) r) (h:0≤i∧i<n) :
  ∃rv,RV m (.pointer (some ⟨b,o+i.toNat*i0.size,none⟩)) rv∧∀w,(Instr.indexAt t r (.int k i)).run P w = .ok rv w:=by
 cases hr with
 |
  slice _ _ _ _ l ra rc hm hn hc hx ha =>
  rcases ha with ha | ⟨rfl,ha⟩
  ·omega
  ·have e1:(⟨l.rb,l.base+o,none⟩:Addr).add (i.toNat*i0.size)=⟨l.rb,l.base+(o+i.toNat*i0.size),none⟩:=by
    unfold Addr.add
    split
    ·rename_i h0;simp[h0]
    ·simp[Nat.add_assoc]
   refine⟨_,.ptr b _ l hm,fun w => ?_⟩
   simp[Instr.indexAt,asIntOf,run_underlying hu,h.1,h.2,run_sizeOf e i0 hi0,e1]
theorem WZ {t:TypeId} {fs:Array Field} {f:Field} {j b o:Nat} {i0:TypeInfo} {r:Value} (hu:P.underlying t=some (.struct fs)) (hf:fs[j]? = some f) (hi0:P.info? f.type=some i0) (hs:i0.size≠0)
  (hr:RV m (.pointer (some ⟨b,o,none⟩)) r):∃rv,RV m (.pointer (some ⟨b,o+f.offset,none⟩)) rv∧∀w,(Instr.fieldAt t r j).run P w = .ok rv w:=by
 cases hr with
 |
  ptr _ _ l hm =>
  have e1:(⟨l.rb,l.base+o,none⟩:Addr).add f.offset=⟨l.rb,l.base+(o+f.offset),none⟩:=by
   unfold Addr.add
   split
   ·rename_i h0;simp[h0]
   ·simp[Nat.add_assoc]
  refine⟨_,.ptr b _ l hm,fun w => ?_⟩
  unfold Instr.fieldAt
  rw[Sem.run_bind,run_underlying hu,Result.andThen_ok]
  simp[hf,Instr.sureAddr,fieldPlace,run_sizeOf f.type i0 hi0,hs,e1]
theorem adA {t:TypeId} {s:ByteArray} {k:IntKind} {i:Int} (hu:P.underlying t=some .string) (h:0≤i∧i<s.size) (w:World) :
  (Instr.index t (.string s) (.int k i)).run P w = .ok (.int .u8 ((s.data.toList.getD i.toNat 0).toNat:Int)) w:=by
 have bA:i.toNat<s.size:=by omega
 have e:s[i.toNat]? = some s[i.toNat]:=by simp[bA]
 have e2:s.data.toList.getD i.toNat 0=s[i.toNat]:=by
  have:i.toNat<s.data.toList.length:=by simpa using bA
  simp[List.getD_eq_getElem?_getD,List.getElem?_eq_getElem this]
  rfl
 unfold Instr.index
 rw[Sem.run_bind]
 simp only[asIntOf,Sem.run_pure,Result.andThen_ok,Sem.run_bind,run_underlying hu,h.1,if_true,e,e2]
end
end Go.PM
namespace Go.PM
section
variable {P:Program} {m:dE}
theorem RO.map {ρ:Env} {a:Act} {x:Option Operand} (h:∀y,x=some y→RV m (ev ρ y) (a.eval y)):RO m (x.map (ev ρ)) (x.map a.eval):=by
 cases x with
 | none=>trivial
 | some y=>exact h y rfl
theorem Ry {y:Operand} (h:Pj y=true):y = .const (.slice none 0 0):=by
 unfold Pj at h
 split at h
 ·rfl
 ·cases h
theorem Rm {op:BinOp} {t:TypeId} {x y:Operand} {po:mV} {ρ:Env} {a:Act} {v:Value} (hp:Bk P op t x y=some po) (hv:iC po ρ=some v)
  (hx:RV m (ev ρ x) (a.eval x)) (hy:RV m (ev ρ y) (a.eval y)) :
  ∃rv,RV m v rv∧∀w,(do eqGuard op t x y (a.eval x) (a.eval y);binOp op t (a.eval x) (a.eval y):Sem Value).run P w = .ok rv w:=by
 unfold Bk at hp
 split at hp
 ·cases hp;exact Wk hv hx hy
 ·cases hp;exact Wk hv hx hy
 ·rename_i hu
  split at hp<;>first | (cases hp;done) | skip
  all_goals
   cases hp
   simp only[iC] at hv
   generalize ev ρ x=vx at hx hv
   generalize ev ρ y=vy at hy hv
   generalize a.eval x=rx at hx ⊢
   generalize a.eval y=ry at hy ⊢
   split at hv
   ·cases hx;cases hy;cases hv
    first | exact⟨_,.bool _,fun w=>Wj (neg:=false) hu w⟩ | exact⟨_,.bool _,fun w=>Wj (neg:=true) hu w⟩
   ·cases hv
 ·rename_i e hu
  split at hp<;>first | (cases hp;done) | skip
  all_goals
   split at hp
   ·rename_i hn
    cases hp
    have hy0:=Ry hn
    subst hy0
    simp only[iC] at hv
    generalize ev ρ x=vx at hx hv
    show ∃rv,RV m v rv∧∀w,(do eqGuard _ t x _ (a.eval x) (.slice none 0 0);binOp _ t (a.eval x) (.slice none 0 0):Sem Value).run P w = .ok rv w
    generalize a.eval x=rx at hx ⊢
    split at hv
    ·cases hv
     cases hx
     first | exact⟨_,.bool _,fun w=>DL (neg:=false) hu w⟩ | exact⟨_,.bool _,fun w=>DL (neg:=true) hu w⟩
    ·cases hv
     cases hx
     first | exact⟨_,.bool _,fun w=>DL (neg:=false) hu w⟩ | exact⟨_,.bool _,fun w=>DL (neg:=true) hu w⟩
    ·cases hv
   ·cases hp
 ·split at hp<;>first | (cases hp;done) | skip
  all_goals
   rename_i ks hks
   cases hp
   simp only[iC] at hv
   generalize ev ρ x=vx at hx hv
   generalize ev ρ y=vy at hy hv
   generalize a.eval x=rx at hx ⊢
   generalize a.eval y=ry at hy ⊢
   split at hv
   ·rename_i f g
    cases hx with
    |
     agg _ f' h1 h2 =>
     cases hy with
     |
      agg _ g' h3 h4 =>
      cases hc:oX ks f.toList g.toList with
      | none=>rw[hc] at hv;cases hv
      |
       some r =>
       rw[hc] at hv
       cases hv
       have YV:=QK (RL.arr h1 h2) (RL.arr h3 h4) hc
       first | exact⟨_,.bool _,fun w=>Oc (neg:=false) hks YV w⟩ | exact⟨_,.bool _,fun w=>Oc (neg:=true) hks YV w⟩
   ·cases hv
 ·cases hp
theorem Xb {t:TypeId} {fs:Array Field} {z:List Value} {agg:Bool} {size n:Nat} {places:List (Nat×Nat)} {parts:List (Nat×Operand)} {ρ:Env} {a:Act} {cs:List Value}
  (hu:P.underlying t=some (.struct fs)) (ht:lM P t=some (agg,size,z,n)) (hz:z.all jW=true)
  (hp:fs.toList.mapM (fun f=>(P.info? f.type).map fun i=>(f.offset,i.size))=some places)
  (hf:vH places z (parts.map fun(i,x)=>(i,ev ρ x))=some cs) (hr:∀p∈parts,RV m (ev ρ p.2) (a.eval p.2)) :
  ∃rv,RV m (.agg cs.toArray) rv∧∀w,(Instr.build t (parts.toArray.map fun(i,x)=>(i,a.eval x))).run P w = .ok rv w:=by
 obtain⟨i,d,zz,hi,hd,Ha,rfl,rfl,rfl,rfl⟩:=iI ht
 have Mm:∀(l:List Field) (ps:List (Nat×Nat)),l.mapM (fun f=>(P.info? f.type).map fun i=>(f.offset,i.size))=some ps →
   ∀w,(l.mapM (fun f=>do pure (f.offset,←sizeOf f.type)):Sem (List (Nat×Nat))).run P w = .ok ps w:=by
  intro l
  induction l with
  | nil=>intro ps h w;cases h;rfl
  |
   cons f l ih =>
   intro ps h w
   simp only[List.mapM_cons,Option.pure_def,Option.bind_eq_bind] at h
   cases h1:P.info? f.type with
   | none=>rw[h1] at h;cases h
   |
    some j =>
    rw[h1] at h
    simp only[Option.map_some,Option.bind_some] at h
    cases h2:l.mapM (fun f=>(P.info? f.type).map fun i=>(f.offset,i.size)) with
    | none=>rw[h2] at h;cases h
    |
     some qs =>
     rw[h2] at h
     cases h
     simp only[List.mapM_cons,Sem.run_bind,run_sizeOf f.type j h1,Result.andThen_ok,Sem.run_pure,ih qs h2 w]
 have hzr:RL m (aM zz) (aM zz):=by
  refine⟨rfl,fun j hj => ?_⟩
  have hm:(aM zz)[j]∈aM zz:=List.getElem_mem hj
  have:=RV.const (m:=m) (List.all_eq_true.1 hz _ hm)
  simpa[List.getD_eq_getElem?_getD,List.getElem?_eq_getElem hj] using this
 obtain⟨K6,h1,h2⟩:=RJ (m:=m) places (places[·]?) (fun _ _ h=>h) (parts.map fun(i,x)=>(i,ev ρ x)) (parts.map fun(i,x)=>(i,a.eval x)) (aM zz) zz.cells cs
  (by simp[Function.comp_def]) (by simpa[Function.comp_def] using RL.map (l:=parts) (f:=fun p=>ev ρ p.2) (g:=fun p=>a.eval p.2) hr) (by rw[fQ];exact hzr) hf
 refine⟨.agg K6,RL.ahR h2,fun w => ?_⟩
 unfold Instr.build
 have ajH:(fs.mapM fun f=>do pure (f.offset,←sizeOf f.type):Sem (Array (Nat×Nat))).run P w = .ok places.toArray w:=by
  rw[←Array.toArray_toList (xs:=fs),List.mapM_toArray]
  rw[Sem.run_map,Mm _ _ hp]
  rfl
 simp only[Sem.run_bind,zeroValue,typeInfo,run_program,Result.andThen_ok,hi,Sem.run_pure,Ha,run_underlying hu,ajH]
 have e:(Array.map (fun x:Nat×Operand=>(x.1,a.eval x.2)) parts.toArray).toList=parts.map fun(i,x)=>(i,a.eval x):=by simp
 have e2:(fun x:Nat=>(places.toArray)[x]?)=(fun x=>places[x]?):=by funext x;simp
 simp only[e2]
 have X7:Instr.fill (fun x=>places[x]?) zz.cells (Array.map (fun x:Nat×Operand=>(x.1,a.eval x.2)) parts.toArray).toList=some K6:=by rw[e];exact h1
 simp only[X7]
 rfl
theorem Pb (f:Operand→Value) (x:Operand):(#[x]:Array Operand).map f = #[f x]:=by simp
theorem JZ (f:Operand→Value) (x y:Operand):(#[x,y]:Array Operand).map f = #[f x,f y]:=by simp
theorem Jn {b:Builtin} {args:Array Operand} {ts:Array TypeId} {ty:TypeId} {cs:Array Bool} {po:mV} {ρ:Env} {a:Act} {v:Value} (hp:oA P b args ts=some po) (hv:iC po ρ=some v)
  (hr:∀x∈args,RV m (ev ρ x) (a.eval x)):∃rv,RV m v rv∧∀w,(builtin b ts ty cs (args.map a.eval)).run P w = .ok (.value rv) w:=by
 unfold oA at hp
 split at hp
 ·rename_i x t CI xU hts
  have ea:args = #[x]:=Array.toList_inj.1 (by simpa using xU)
  have et:ts=(t::CI).toArray:=Array.toList_inj.1 (by simpa using hts)
  subst ea;subst et
  have hx:=hr x (by simp)
  rw[Pb]
  split at hp
  ·rename_i hu
   cases hp
   simp only[iC] at hv
   generalize ev ρ x=vx at hx hv
   generalize a.eval x=rx at hx ⊢
   split at hv
   ·cases hx;cases hv
    exact⟨_,.int _ _,fun w=>eG (by simp[Builtin.len_,run_underlying hu,goInt])⟩
   ·cases hv
  ·rename_i e hu
   cases hp
   simp only[iC] at hv
   generalize ev ρ x=vx at hx hv
   generalize a.eval x=rx at hx ⊢
   split at hv
   ·cases hv
    cases hx
    ·exact⟨_,.int _ _,fun w=>eG (by simp[Builtin.len_,run_underlying hu,goInt])⟩
    ·exact⟨_,.int _ _,fun w=>eG (by simp[Builtin.len_,run_underlying hu,goInt])⟩
   ·cases hv
  ·cases hp
 ·rename_i x t CI xU hts
  have ea:args = #[x]:=Array.toList_inj.1 (by simpa using xU)
  have et:ts=(t::CI).toArray:=Array.toList_inj.1 (by simpa using hts)
  subst ea;subst et
  have hx:=hr x (by simp)
  rw[Pb]
  split at hp
  ·rename_i e hu
   cases hp
   simp only[iC] at hv
   generalize ev ρ x=vx at hx hv
   generalize a.eval x=rx at hx ⊢
   split at hv
   ·cases hv
    cases hx
    exact⟨_,.int _ _,fun w=>eG (by simp[Builtin.cap_,run_underlying hu,goInt])⟩
   ·cases hv
  ·cases hp
 ·rename_i x y xU
  have ea:args = #[x,y]:=Array.toList_inj.1 (by simpa using xU)
  subst ea
  have hx:=hr x (by simp)
  have hy:=hr y (by simp)
  rw[JZ]
  cases hp
  simp only[iC] at hv
  generalize ev ρ x=vx at hx hv
  generalize a.eval x=rx at hx ⊢
  generalize ev ρ y=vy at hy hv
  generalize a.eval y=ry at hy ⊢
  split at hv
  ·cases hv
   cases hx
   cases hy
   exact⟨_,.int _ _,fun w=>eG (by rfl)⟩
  ·cases hv
 ·rename_i x y xU
  have ea:args = #[x,y]:=Array.toList_inj.1 (by simpa using xU)
  subst ea
  have hx:=hr x (by simp)
  have hy:=hr y (by simp)
  rw[JZ]
  cases hp
  simp only[iC] at hv
  generalize ev ρ x=vx at hx hv
  generalize a.eval x=rx at hx ⊢
  generalize ev ρ y=vy at hy hv
  generalize a.eval y=ry at hy ⊢
  split at hv
  ·cases hv
   cases hx
   cases hy
   exact⟨_,.int _ _,fun w=>eG (by rfl)⟩
  ·cases hv
 ·split at hp
  ·split at hp
   ·cases hp;cases hv
   ·cases hp
  ·split at hp
   ·split at hp
    ·cases hp;cases hv
    ·cases hp
   ·cases hp
  ·cases hp
 ·split at hp
  ·cases hp;cases hv
  ·cases hp
 ·split at hp
  ·split at hp
   ·cases hp;cases hv
   ·cases hp
  ·cases hp
 ·cases hp
theorem ZJ {o:Oper} {po:mV} {ρ:Env} {a:Act} {v:Value} (hp:pF P o.op=some po) (hv:iC po ρ=some v) (hr:∀x∈o.op.operands,RV m (ev ρ x) (a.eval x)) :
  ∃rv,RV m v rv∧∀w,(execOp a.eval o).run P w = .ok (.value rv) w:=by
 obtain⟨dst,op,type,pos,after,guard⟩:=o
 unfold pF at hp
 simp only at hp hr ⊢
 split at hp
 case isFalse=>cases hp
 cases op with
 | move x=>cases hp;cases hv;exact⟨_,hr x (by simp[Op.operands]),fun w=>rfl⟩
 | assign x=>cases hp;cases hv;exact⟨_,hr x (by simp[Op.operands]),fun w=>rfl⟩
 |
  pick c x y =>
  cases hp
  have hc:=hr c (by simp[Op.operands])
  have hx:=hr x (by simp[Op.operands])
  have hy:=hr y (by simp[Op.operands])
  simp only[iC] at hv
  split at hv
  ·rename_i t ht
   rw[ht] at hc
   cases hv
   generalize hrc:a.eval c=rc at hc
   cases hc
   cases t
   ·exact⟨_,hy,fun w=>by simp[execOp,hrc,asBool]⟩
   ·exact⟨_,hx,fun w=>by simp[execOp,hrc,asBool]⟩
  ·cases hv
 |
  binOp op t x y yt =>
  obtain⟨rv,h1,h2⟩:=Rm hp hv (hr x (by simp[Op.operands])) (hr y (by simp[Op.operands]))
  exact⟨rv,h1,fun w=>eG (h2 w)⟩
 |
  unOp op t x =>
  cases hp
  obtain⟨rv,h1,h2⟩:=amJ hv (hr x (by simp[Op.operands]))
  exact⟨rv,h1,fun w=>eG (h2 w)⟩
 |
  extract x i =>
  cases hp
  have hx:=hr x (by simp[Op.operands])
  simp only[iC] at hv
  split at hv
  ·rename_i vs PT
   rw[PT] at hx
   generalize Jx:a.eval x=rx at hx
   cases hx with
   |
    tuple _ g h1 h2 =>
    obtain⟨r,h3,h4⟩:=(RL.arr h1 h2).getElem? i v (by simpa using hv)
    have h3':g[i]? = some r:=by simpa using h3
    exact⟨r,h4,fun w=>eG (by simp[Jx,Instr.extract,h3'])⟩
  ·cases hv
 |
  convert s d x =>
  have hx:=hr x (by simp[Op.operands])
  simp only at hp
  split at hp
  ·rename_i k1 k2 hs hd
   cases hp
   simp only[iC] at hv
   split at hv
   ·rename_i n hn
    cases hv
    rw[hn] at hx
    generalize Jx:a.eval x=rx at hx
    cases hx
    exact⟨_,.int _ _,fun w=>eG (by simp[Jx,convert,run_underlying hs,run_underlying hd,Conv.intToInt])⟩
   ·cases hv
  ·rename_i hs hd
   cases hp
   simp only[iC] at hv
   split at hv
   ·rename_i n hn
    cases hv
    rw[hn] at hx
    generalize Jx:a.eval x=rx at hx
    cases hx
    exact⟨_,.str _,fun w=>eG (by simp[Jx,convert,run_underlying hs,run_underlying hd])⟩
   ·cases hv
  ·split at hp
   ·cases hp;simp[iC] at hv
   ·cases hp
  ·cases hp
 |
  field t x i =>
  have hx:=hr x (by simp[Op.operands])
  simp only at hp
  split at hp
  ·rename_i fs hu
   split at hp
   ·rename_i f hf
    cases ht:lM P f.type with
    | none=>rw[ht] at hp;cases hp
    |
     some q =>
     obtain⟨agg,size,z,n⟩:=q
     rw[ht] at hp
     cases hp
     simp only[iC] at hv
     split at hv
     ·rename_i cs NW
      rw[NW] at hx
      generalize Jx:a.eval x=rx at hx
      cases hx with
      |
       agg _ g h1 h2 =>
       obtain⟨rv,h3,h4⟩:=aeQ hu hf ht hv (RL.arr h1 h2)
       exact⟨rv,h3,fun w=>eG (by rw[Jx];exact h4 w)⟩
     ·cases hv
   ·cases hp
  ·cases hp
 |
  build t parts =>
  simp only at hp
  split at hp
  ·rename_i fs agg size z n hu ht
   split at hp
   ·rename_i places Mm
    split at hp
    ·rename_i hz
     cases hp
     simp only[iC] at hv
     cases hf:vH places z (parts.toList.map fun(i,x)=>(i,ev ρ x)) with
     | none=>rw[hf] at hv;cases hv
     |
      some cs =>
      rw[hf] at hv
      cases hv
      obtain⟨rv,h1,h2⟩:=Xb (m:=m) (a:=a) hu ht hz Mm hf (fun p hpm=>hr p.2 (by simp only[Op.operands];simp;exact⟨p.1,by simpa using hpm⟩))
      exact⟨rv,h1,fun w=>eG (by simpa using h2 w)⟩
    ·cases hp
   ·cases hp
  ·cases hp
 |
  nilCheck x =>
  cases hp
  have hx:=hr x (by simp[Op.operands])
  simp only[iC] at hv
  split at hv
  ·rename_i ad had
   cases hv
   rw[had] at hx
   generalize Jx:a.eval x=rx at hx
   cases hx with
   | ptr b o l h=>exact⟨_,.ptr b o l h,fun w=>by simp[execOp,Jx]⟩
  ·cases hv
 |
  fieldAddr t x i =>
  have hx:=hr x (by simp[Op.operands])
  simp only at hp
  split at hp
  ·rename_i fs hu
   split at hp
   ·rename_i f hf
    split at hp
    ·rename_i i0 hi0
     split at hp
     ·cases hp
     ·rename_i hs
      cases hp
      simp only[iC] at hv
      split at hv
      ·rename_i b o hbo
       cases hv
       rw[hbo] at hx
       obtain⟨rv,h1,h2⟩:=WZ hu hf hi0 hs hx
       exact⟨rv,h1,fun w=>eG (h2 w)⟩
      ·cases hv
    ·cases hp
   ·cases hp
  ·cases hp
 |
  indexAddr t x i =>
  have hx:=hr x (by simp[Op.operands])
  have hi:=hr i (by simp[Op.operands])
  simp only at hp
  cases ht:jK P t with
  | none=>rw[ht] at hp;cases hp
  |
   some q =>
   obtain⟨agg,size,z,n⟩:=q
   rw[ht] at hp
   cases hp
   obtain⟨e,hu,IQ⟩:=iS ht
   obtain⟨i0,d,zz,hi0,_,_,_,rfl,_,_⟩:=iI IQ
   simp only[iC] at hv
   split at hv
   ·rename_i b o n' c k j hb hj
    split at hv
    ·rename_i bA
     cases hv
     rw[hb] at hx
     rw[hj] at hi
     generalize Th:a.eval i=ri at hi
     cases hi
     obtain⟨rv,h1,h2⟩:=X0 (k:=k) hu hi0 hx bA
     exact⟨rv,h1,fun w=>eG (by rw[Th];exact h2 w)⟩
    ·cases hv
   ·cases hv
 |
  index t x i =>
  have hx:=hr x (by simp[Op.operands])
  have hi:=hr i (by simp[Op.operands])
  simp only at hp
  split at hp
  ·rename_i hu
   cases hp
   simp only[iC] at hv
   split at hv
   ·rename_i s k j hb hj
    split at hv
    ·rename_i bA
     cases hv
     rw[hb] at hx
     rw[hj] at hi
     generalize Th:a.eval i=ri at hi
     generalize Jx:a.eval x=rx at hx
     cases hi
     cases hx
     exact⟨_,.int _ _,fun w=>eG (by rw[Th,Jx];exact adA hu bA w)⟩
    ·cases hv
   ·cases hv
  ·cases hp
 |
  slice t x lo hi mx =>
  have hx:=hr x (by simp[Op.operands])
  simp only at hp
  split at hp
  ·rename_i hu
   split at hp
   ·rename_i hmx
    cases hp
    have axV:mx=none:=by simpa using hmx
    subst axV
    simp only[iC] at hv
    split at hv
    ·rename_i s hs
     split at hv
     ·rename_i l h hlh
      cases hv
      rw[hs] at hx
      generalize Jx:a.eval x=rx at hx
      cases hx
      exact⟨_,.str _,fun w=>eG (by
       rw[Jx]
       exact aaS hu hlh (RO.map fun y hy=>hr y (by simp[Op.operands,hy])) (RO.map fun y hy=>hr y (by simp[Op.operands,hy])) w)⟩
     ·cases hv
    ·cases hv
   ·cases hp
  ·rename_i e hu
   cases ht:lM P e with
   | none=>rw[ht] at hp;cases hp
   | some q=>rw[ht] at hp;cases hp;simp[iC] at hv
  ·cases hp
 |
  makeFunc fn first fN =>
  cases fn with
  |
   func f =>
   simp only at hp
   split at hp
   ·rename_i amR
    cases hp
    cases hv
    have hf0:first = #[]:=by simpa using amR
    subst hf0
    have hc:RL m (fN.toList.map (ev ρ)) (fN.toList.map a.eval):=RL.map fun x hx=>hr x (by simpa[Op.operands] using hx)
    refine⟨.func (.func f) #[] (fN.toList.map a.eval).toArray,.func _ _ _ _ _ rfl (fun i hi=>absurd hi (by simp)) (by simp) (fun i hi => ?_),fun w=>eG ?_⟩
    ·have:=hc.2 i (by simpa using hi)
     simpa[Array.getD_eq_getD_getElem?,List.getD_eq_getElem?_getD] using this
    ·have:(fN.toList.map a.eval).toArray=fN.map a.eval:=Array.toList_inj.1 (by rw[Array.toList_map])
     rw[this]
     simp[Instr.makeFunc]
   ·cases hp
  | _=>cases hp
 | makeInterface t x=>cases hp;cases hv
 | panic x=>cases hp;cases hv
 |
  load t p =>
  simp only at hp
  cases ht:lM P t with
  | none=>rw[ht] at hp;cases hp
  | some q=>rw[ht] at hp;cases hp;cases hv
 |
  store t p x =>
  simp only at hp
  cases ht:P.info? t with
  | none=>rw[ht] at hp;cases hp
  | some q=>rw[ht] at hp;cases hp;cases hv
 |
  alloc t =>
  simp only at hp
  split at hp
  ·split at hp
   ·cases hp;cases hv
   ·cases hp
  ·cases hp
 | box t x=>cases hp;cases hv
 |
  makeSlice t l c =>
  simp only at hp
  split at hp
  ·split at hp
   ·cases hp;cases hv
   ·cases hp
  ·cases hp
 |
  buildSlice t n parts =>
  simp only at hp
  split at hp
  ·split at hp
   ·cases hp;cases hv
   ·cases hp
  ·cases hp
 |
  call c =>
  obtain⟨callee,args,ts⟩:=c
  cases callee with
  |
   builtin b =>
   have SD:∀x∈args,RV m (ev ρ x) (a.eval x):=fun x hx=>hr x (by simpa[Op.operands,Call.operands] using hx)
   obtain⟨rv,h3,h4⟩:=Jn (ty:=type) (cs:=args.map fun | .const _=>true | _=>false) hp hv SD
   exact⟨rv,h3,fun w=>h4 w⟩
  |
   value f =>
   cases f with
   | func g=>cases hp;cases hv
   | tmp t=>cases hp;cases hv
   | const c=>cases hp
   | global g=>cases hp
  | invoke r s=>cases hp
 | _=>cases hp
end
end Go.PM
namespace Go.PM
section
variable {m:dE} {L0:Nat} {H:aE} {w:World}
def tF (m:dE) (b:Nat) (l:Loc):dE:=fun b'=>if b'=b then some l else m b'
theorem bR (m:dE) (b:Nat) (l:Loc):tF m b l b=some l:=by simp[tF]
theorem cO {m:dE} {b b':Nat} {l:Loc} (h:b'≠b):tF m b l b'=m b':=by simp[tF,h]
theorem tM {m:dE} {b:Nat} {l:Loc} (hf:m b=none):∀b' l',m b'=some l'→tF m b l b'=some l':=by
 intro b' l' h
 rw[cO]
 ·exact h
 ·rintro rfl;rw[hf] at h;cases h
theorem DW {w w':World} {a:Addr} (h:w'.heap[a.block]? = w.heap[a.block]?):w'.cell? a=w.cell? a:=by simp[World.cell?,h]
theorem Aq {w:World} {g i:Nat} {arr:Array Value} {e:TypeId} {fz:Nat×Nat} (h:w.heap[g]? = some (.cells arr e fz)):w.cell? ⟨g,i,none⟩=arr[i]? := by simp[World.cell?,h]
theorem gG {H:aE} {x:MJ} {b:Nat} (h:Live (H++[x]) b) (hb:b<H.length):Live H b:=by
 obtain⟨cs,e,p,h1,h2⟩:=h
 rw[List.getElem?_append_left hb] at h1
 exact⟨cs,e,p,h1,h2⟩
theorem oM (lo:Nat) (H:aE) (x:MJ):Ext lo H (H++[x]) :=
 ⟨by simp,fun b _ hl=>List.getElem?_append_left hl,fun _ hb h=>gG h hb⟩
theorem wI (hR:Rel m L0 H w) (hf:m H.length=none) {w':World} {arr:Array Value} {e:TypeId} {fz:Nat×Nat} (hw:w'.heap=w.heap.push (.cells arr e fz))
  (hs:w'.os=w.os∧w'.output=w.output∧w'.tape=w.tape) {cs:List Value} {fJ:Nat} {P8:Bool} (hlen:cs.length≤arr.size)
  (hc:∀i,i<cs.length→RV m (cs.getD i undef) (arr.getD i undef)) (uN:cs.all fO=true) (Yu:∀j,j<arr.size→¬(fz.1≤j∧j<fz.2)) :
  Rel (tF m H.length ⟨w.heap.size,0,fJ,arr.size,P8⟩) L0 (H++[.row cs fJ P8]) w' ∧
  ∀lo,Trans lo m H w (tF m H.length ⟨w.heap.size,0,fJ,arr.size,P8⟩) (H++[.row cs fJ P8]) w':=by
 have hold:∀g,g<w.heap.size→w'.heap[g]? = w.heap[g]? := fun g hg=>by rw[hw,Array.getElem?_push];simp[Nat.ne_of_lt hg]
 have rO:w'.heap[w.heap.size]? = some (.cells arr e fz):=by rw[hw];simp
 have bA:∀b l,m b=some l→l.rb<w.heap.size:=fun b l h=>by
  obtain⟨arr,e,fz,h1,_⟩:=hR.valid b l h
  exact(Array.getElem?_eq_some_iff.1 h1).1
 have qJ:=tM (l:=⟨w.heap.size,0,fJ,arr.size,P8⟩) hf
 constructor
 ·refine⟨fun b l h => ?_,fun b l Ae e' p' h hH => ?_,fun b1 b2 l1 l2 hb h1 h2 Ds Gs C3 => ?_,fun x hx => ?_⟩
  ·by_cases hb:b=H.length
   ·subst hb
    rw[bR] at h
    cases h
    exact⟨arr,e,fz,rO,rfl,fun _ j _ hj=>Yu j hj⟩
   ·rw[cO hb] at h
    obtain⟨Eb,e',fz',g1,g2,g3⟩:=hR.valid b l h
    exact⟨Eb,e',fz',by rw[hold _ (bA b l h)];exact g1,g2,g3⟩
  ·by_cases hb:b=H.length
   ·subst hb
    rw[bR] at h
    cases h
    simp only[List.getElem?_append_right (Nat.le_refl _),Nat.sub_self,List.getElem?_cons_zero,Option.some.injEq,MJ.row.injEq] at hH
    obtain⟨rfl,rfl,rfl⟩:=hH
    refine⟨rfl,rfl,by simpa using hlen,fun i hi => ?_⟩
    refine⟨arr.getD i undef,?_,(hc i hi).mono qJ,?_⟩
    ·rw[Nat.zero_add,Aq rO]
     have:i<arr.size:=Nat.lt_of_lt_of_le hi hlen
     simp[this]
    ·have:=List.all_eq_true.1 uN cs[i] (List.getElem_mem hi)
     simpa[List.getD_eq_getElem?_getD,List.getElem?_eq_getElem hi] using this
   ·rw[cO hb] at h
    have Zg:b<H.length:=by
     have:=(List.getElem?_eq_some_iff.1 hH).1
     simp at this
     omega
    rw[List.getElem?_append_left Zg] at hH
    obtain⟨g1,g2,g3,g4⟩:=hR.row b l Ae e' p' h hH
    refine⟨g1,g2,g3,fun i hi => ?_⟩
    obtain⟨rv,h1,h2,h3⟩:=g4 i hi
    exact⟨rv,by rw[DW (hold _ (bA b l h))];exact h1,h2.mono qJ,h3⟩
  ·by_cases e1:b1=H.length<;>by_cases e2:b2=H.length
   ·omega
   ·subst e1
    rw[bR] at h1
    rw[cO e2] at h2
    cases h1
    have:=bA b2 l2 h2
    simp only at C3
    omega
   ·subst e2
    rw[bR] at h2
    rw[cO e1] at h1
    cases h2
    have:=bA b1 l1 h1
    simp only at C3
    omega
   ·rw[cO e1] at h1
    rw[cO e2] at h2
    have k1:=Ds.lt
    have k2:=Gs.lt
    simp at k1 k2
    exact hR.inj b1 b2 l1 l2 hb h1 h2 (gG Ds (by omega)) (gG Gs (by omega)) C3
  ·obtain⟨⟨e0,fz0,g1⟩,g2⟩:=hR.Dv x hx
   have hxl:x.1<w.heap.size:=(Array.getElem?_eq_some_iff.1 g1).1
   refine⟨⟨e0,fz0,by rw[hold _ hxl];exact g1⟩,fun b l hb h hl => ?_⟩
   by_cases he:b=H.length
   ·subst he
    rw[bR] at h
    cases h
    simp only
    omega
   ·rw[cO he] at h
    have k:=hl.lt
    simp at k
    exact g2 b l hb h (gG hl (by omega))
 ·intro lo
  refine⟨qJ,fun b l h hn => ?_,by rw[hw];simp,fun rb C3 _=>hold rb C3,hs⟩
  by_cases hb:b=H.length
  ·subst hb
   rw[bR] at h
   cases h
   exact⟨⟨Nat.le_refl _,by simp⟩,.inl (Nat.le_refl _)⟩
  ·rw[cO hb,hn] at h
   cases h
theorem XZ (hR:Rel m L0 H w) (hf:m H.length=none) {b:Nat} {l:Loc} (hb:m b=some l) (fJ:Nat) :
  Rel (tF m H.length ⟨l.rb,l.O6,fJ,l.O6,false⟩) L0 (H++[.row [] fJ false]) w ∧
  ∀lo,Trans lo m H w (tF m H.length ⟨l.rb,l.O6,fJ,l.O6,false⟩) (H++[.row [] fJ false]) w:=by
 have qJ:=tM (l:=⟨l.rb,l.O6,fJ,l.O6,false⟩) hf
 have U8:∀b',Live (H++[.row [] fJ false]) b'→b'<H.length:=by
  intro b' h
  rcases Nat.lt_or_ge b' H.length with hl | hl
  ·exact hl
  ·obtain⟨cs,e,p,h1,h2⟩:=h
   have bA:=(List.getElem?_eq_some_iff.1 h1).1
   simp at bA
   have Oj:b'=H.length:=by omega
   subst Oj
   simp only[List.getElem?_append_right (Nat.le_refl _),Nat.sub_self,List.getElem?_cons_zero,Option.some.injEq,MJ.row.injEq] at h1
   obtain⟨rfl,_,rfl⟩:=h1
   rcases h2 with h2 | h2
   ·exact absurd rfl h2
   ·cases h2
 constructor
 ·refine⟨fun b' l' h => ?_,fun b' l' Ae e' p' h hH => ?_,fun b1 b2 l1 l2 Ee h1 h2 Ds Gs C3 => ?_,fun x hx => ?_⟩
  ·by_cases Oj:b'=H.length
   ·subst Oj
    rw[bR] at h
    cases h
    obtain⟨arr,e,fz,g1,g2,_⟩:=hR.valid b l hb
    exact⟨arr,e,fz,g1,g2,fun _ j h1 h2=>by simp only at h1 h2;omega⟩
   ·rw[cO Oj] at h
    exact hR.valid b' l' h
  ·by_cases Oj:b'=H.length
   ·subst Oj
    rw[bR] at h
    cases h
    simp only[List.getElem?_append_right (Nat.le_refl _),Nat.sub_self,List.getElem?_cons_zero,Option.some.injEq,MJ.row.injEq] at hH
    obtain⟨rfl,rfl,rfl⟩:=hH
    exact⟨rfl,rfl,by simp,fun i hi=>absurd hi (by simp)⟩
   ·rw[cO Oj] at h
    have Zg:b'<H.length:=by
     have:=(List.getElem?_eq_some_iff.1 hH).1
     simp at this
     omega
    rw[List.getElem?_append_left Zg] at hH
    obtain⟨g1,g2,g3,g4⟩:=hR.row b' l' Ae e' p' h hH
    refine⟨g1,g2,g3,fun i hi => ?_⟩
    obtain⟨rv,h1,h2,h3⟩:=g4 i hi
    exact⟨rv,h1,h2.mono qJ,h3⟩
  ·have k1:=U8 b1 Ds
   have k2:=U8 b2 Gs
   rw[cO (by omega)] at h1 h2
   exact hR.inj b1 b2 l1 l2 Ee h1 h2 (gG Ds k1) (gG Gs k2) C3
  ·obtain⟨g1,g2⟩:=hR.Dv x hx
   refine⟨g1,fun b' l' vJ h hl => ?_⟩
   have k:=U8 b' hl
   rw[cO (by omega)] at h
   exact g2 b' l' vJ h (gG hl k)
 ·intro lo
  refine⟨qJ,fun b' l' h hn => ?_,Nat.le_refl _,fun rb C3 _=>rfl,rfl,rfl,rfl⟩
  by_cases Oj:b'=H.length
  ·subst Oj
   exact⟨⟨Nat.le_refl _,by simp⟩,.inr (.inl fun hl=>by have:=U8 _ hl;omega)⟩
  ·rw[cO Oj,hn] at h
   cases h
theorem Pn {w:World} {g i:Nat} {arr:Array Value} {e:TypeId} {fz:Nat×Nat} (h:w.heap[g]? = some (.cells arr e fz)) (v:Value) :
  (w.setCell ⟨g,i,none⟩ v).heap[g]? = some (.cells (arr.setIfInBounds i v) e fz):=by
 simp only[World.setCell,Array.getElem?_modify,h,if_true,Option.map_some]
 rfl
theorem Mq {w:World} {g i k:Nat} (h:k≠g) (v:Value):(w.setCell ⟨g,i,none⟩ v).heap[k]? = w.heap[k]? := by
 simp[World.setCell,Array.getElem?_modify,Ne.symm h]
theorem Fj (P:Program) (g o:Nat):∀(vs:List Value) (i:Nat) (w:World) (arr:Array Value) (e:TypeId) (fz:Nat×Nat),
  w.heap[g]? = some (.cells arr e fz)→o+i+vs.length≤arr.size→vs.all fO=true→(∀j,o+i≤j→j<o+i+vs.length→¬(fz.1≤j∧j<fz.2)) →
  ∃w' Eb,(storeCells ⟨g,o,none⟩ vs i).run P w = .ok () w'∧w'.heap[g]? = some (.cells Eb e fz)∧Eb.size=arr.size ∧
   (∀j,Eb.getD j undef=if o+i≤j∧j<o+i+vs.length then vs.getD (j-(o+i)) undef else arr.getD j undef) ∧
   (∀k,k≠g→w'.heap[k]? = w.heap[k]?)∧w'.heap.size=w.heap.size∧w'.os=w.os∧w'.output=w.output∧w'.tape=w.tape
 | [],i,w,arr,e,fz,hg,_,_,_=>⟨w,arr,rfl,hg,rfl,fun j=>by rw[if_neg (by rintro⟨h1,h2⟩;simp only[List.length_nil] at h2;omega)],fun _ _=>rfl,rfl,rfl,rfl,rfl⟩
 |
  v::vs,i,w,arr,e,fz,hg,hl,uN,Yu=>by
  simp only[List.length_cons] at hl Yu
  simp only[List.all_cons,Bool.and_eq_true] at uN
  have bA:o+i<arr.size:=by omega
  have hc:w.cell? ⟨g,o+i,none⟩=some arr[o+i]:=by rw[Aq hg];simp[bA]
  have hfr:w.frozen? ⟨g,o+i,none⟩=false:=by
   have:=Yu (o+i) (by omega) (by omega)
   simp only[World.frozen?,hg]
   simpa using this
  have HX:(store ((⟨g,o,none⟩:Addr).add i) v).run P w = .ok () (w.setCell ⟨g,o+i,none⟩ v):=by
   rw[Addr.add_lit,run_store P w _ v .plain (by rw[OR];exact uN.1),hc]
   simp[hfr]
  obtain⟨w',Eb,h1,h2,h3,h4,h5,h6,h7⟩:=Fj P g o vs (i+1) (w.setCell ⟨g,o+i,none⟩ v) (arr.setIfInBounds (o+i) v) e fz (Pn hg v) (by simp;omega) uN.2
   (fun j h1 h2=>Yu j (by omega) (by omega))
  refine⟨w',Eb,?_,h2,by simpa using h3,fun j => ?_,fun k hk=>by rw[h5 k hk,Mq hk],by rw[h6];simp,h7⟩
  ·rw[storeCells,Sem.run_bind,HX,Result.andThen_ok]
   exact h1
  ·rw[h4]
   by_cases hj:j=o+i
   ·subst hj
    rw[if_neg (by omega),if_pos (by simp)]
    simp[bA]
   ·by_cases Yv:o+(i+1)≤j∧j<o+(i+1)+vs.length
    ·rw[if_pos Yv,if_pos (by simp;omega)]
     have:j-(o+i)=j-(o+(i+1))+1:=by omega
     rw[this]
     simp
    ·rw[if_neg Yv,if_neg (by simp;omega)]
     simp[Ne.symm hj]
theorem I9 (cs new:List Value) (o i:Nat) (h:o+new.length≤cs.length):(iH cs o new).getD i undef=if o≤i∧i<o+new.length then new.getD (i-o) undef else cs.getD i undef:=by
 unfold iH
 simp only[List.getD_eq_getElem?_getD]
 by_cases h1:i<o
 ·rw[if_neg (by omega),List.append_assoc,List.getElem?_append_left (by simp;omega),List.getElem?_take_of_lt h1]
 ·by_cases h2:i<o+new.length
  ·rw[if_pos (by omega),List.append_assoc,List.getElem?_append_right (by simp;omega),List.getElem?_append_left (by simp;omega)]
   congr 3
   simp
   omega
  ·rw[if_neg (by omega),List.getElem?_append_right (by simp;omega),List.getElem?_drop]
   congr 2
   simp
   omega
theorem mU (cs new:List Value) (o:Nat) (h:o+new.length≤cs.length):(iH cs o new).length=cs.length:=by
 simp[iH]
 omega
theorem Bz {lo b o:Nat} {new:List Value} {H H':aE} (h:H.write lo b o new=some H') :
  ∃cs e p,H[b]? = some (.row cs e p)∧lo≤b∧o+new.length≤cs.length∧new.all fO=true∧H'=H.set b (.row (iH cs o new) e p):=by
 unfold aE.write at h
 split at h
 ·rename_i cs e p hb
  split at h
  ·rename_i hc
   cases h
   exact⟨cs,e,p,hb,hc.1,hc.2.1,hc.2.2,rfl⟩
  ·cases h
 ·cases h
theorem vO {H:aE} {b:Nat} {cs Ae:List Value} {e:Nat} {p:Bool} (hb:H[b]? = some (.row cs e p)) (hl:Ae.length=cs.length) {b':Nat} (h:Live (H.set b (.row Ae e p)) b'):Live H b':=by
 obtain⟨cs1,e1,p1,h1,h2⟩:=h
 by_cases J8:b=b'
 ·subst J8
  rw[List.getElem?_set_self (List.getElem?_eq_some_iff.1 hb).1] at h1
  cases h1
  refine⟨cs,_,_,hb,h2.imp (fun h => ?_) id⟩
  intro h0
  subst h0
  exact h (List.eq_nil_of_length_eq_zero hl)
 ·rw[List.getElem?_set_ne J8] at h1
  exact⟨cs1,e1,p1,h1,h2⟩
theorem DR {lo b o:Nat} {new:List Value} {H H':aE} (h:H.write lo b o new=some H'):Ext lo H H':=by
 obtain⟨cs,e,p,hb,eQ,hlen,uN,rfl⟩:=Bz h
 refine⟨by simp,fun b' vJ _=>List.getElem?_set_ne (by omega),fun b' _ hl=>vO hb (mU cs new o hlen) hl⟩
theorem DJ (P:Program) {lo b o:Nat} {l:Loc} {new pH:List Value} {H':aE} (hR:Rel m L0 H w) (eQ:L0≤lo) (hm:m b=some l) (hw:H.write lo b o new=some H') (hn:RL m new pH) :
  ∃w',(storeCells ⟨l.rb,l.base+o,none⟩ pH).run P w = .ok () w'∧Rel m L0 H' w'∧Trans lo m H w m H' w':=by
 obtain⟨cs,e,p,hb,EE,hlen,uN,rfl⟩:=Bz hw
 by_cases fC:new=[]
 ·subst fC
  have e1:pH=[]:=List.eq_nil_of_length_eq_zero hn.1.symm
  subst e1
  have e2:iH cs o []=cs:=by simp[iH]
  have e3:H.set b (.row cs e p)=H:=by
   apply List.ext_getElem?
   intro i
   by_cases hi:b=i
   ·subst hi;rw[List.getElem?_set_self (List.getElem?_eq_some_iff.1 hb).1,hb]
   ·rw[List.getElem?_set_ne hi]
  rw[e2,e3]
  exact⟨w,rfl,hR,Trans.refl lo m H w⟩
 have GM:Live H b:=⟨cs,e,p,hb,.inl (by
  rintro rfl
  simp only[List.length_nil] at hlen
  exact fC (List.eq_nil_of_length_eq_zero (by omega)))⟩
 obtain⟨g1,g2,g3,g4⟩:=hR.row b l cs e p hm hb
 obtain⟨arr,et,fz,v1,v2,v3⟩:=hR.valid b l hm
 have Cp:pH.length=new.length:=hn.1.symm
 obtain⟨w',Eb,h1,h2,h3,h4,h5,h6,h7⟩:=Fj P l.rb (l.base+o) pH 0 w arr et fz v1 (by rw[Cp,v2];omega) (by rw[hn.fO];exact uN)
  (fun j j1 j2=>v3 (Nat.le_trans eQ EE) j (by omega) (by rw[Cp] at j2;omega))
 have bA:∀b' l',m b'=some l'→l'.rb<w.heap.size:=fun b' l' h=>by
  obtain⟨arr,e,fz,h1,_⟩:=hR.valid b' l' h
  exact(Array.getElem?_eq_some_iff.1 h1).1
 refine⟨w',h1,⟨fun b' l' h => ?_,fun b' l' Ae e' p' h hH => ?_,fun b1 b2 l1 l2 Ee m1 m2 Ds Gs C3 => ?_,fun x hx => ?_⟩,⟨fun _ _ h=>h,fun b' l' h h'=>(by rw[h] at h';cases h'),by rw[h6];exact Nat.le_refl _,fun rb C3 hk => ?_,h7⟩⟩
 ·obtain⟨alK,e1,Za,w1,w2,w3⟩:=hR.valid b' l' h
  by_cases J8:l'.rb=l.rb
  ·rw[J8] at w1 ⊢
   rw[v1] at w1
   cases w1
   exact⟨Eb,et,fz,h2,by rw[h3];exact w2,w3⟩
  ·exact⟨alK,e1,Za,by rw[h5 _ J8];exact w1,w2,w3⟩
 ·by_cases J8:b=b'
  ·subst J8
   rw[hm] at h
   cases h
   rw[List.getElem?_set_self (List.getElem?_eq_some_iff.1 hb).1] at hH
   cases hH
   refine⟨g1,g2,by rw[mU _ _ _ hlen];exact g3,fun i hi => ?_⟩
   rw[mU _ _ _ hlen] at hi
   refine⟨Eb.getD (l.base+i) undef,?_,?_,?_⟩
   ·rw[Aq h2]
    have:l.base+i<Eb.size:=by rw[h3,v2];omega
    simp[this]
   ·rw[h4,I9 _ _ _ _ hlen]
    by_cases JT:o≤i∧i<o+new.length
    ·rw[if_pos JT,if_pos (by rw[Cp];omega)]
     have:=hn.2 (i-o) (by omega)
     rw[show l.base+i-(l.base+o+0)=i-o by omega]
     exact this
    ·rw[if_neg JT,if_neg (by rw[Cp];omega)]
     obtain⟨rv,c1,c2,_⟩:=g4 i hi
     rw[Aq v1] at c1
     simpa[Array.getD_eq_getD_getElem?,c1] using c2
   ·rw[I9 _ _ _ _ hlen]
    split
    ·rename_i JT
     have:=List.all_eq_true.1 uN new[i-o] (List.getElem_mem (by omega))
     simpa[List.getD_eq_getElem?_getD,List.getElem?_eq_getElem (show i-o<new.length by omega)] using this
    ·exact(g4 i hi).choose_spec.2.2
  ·rw[List.getElem?_set_ne J8] at hH
   obtain⟨k1,k2,k3,k4⟩:=hR.row b' l' Ae e' p' h hH
   refine⟨k1,k2,k3,fun i hi => ?_⟩
   obtain⟨rv,c1,c2,c3⟩:=k4 i hi
   refine⟨rv,?_,c2,c3⟩
   rw[DW]
   ·exact c1
   ·refine h5 _ fun C3 => ?_
    have akZ:Live H b':=⟨Ae,e',p',hH,.inl (by rintro rfl;simp at hi)⟩
    exact J8 (hR.inj b b' l l' (Nat.le_trans eQ EE) hm h GM akZ C3.symm)
 ·exact hR.inj b1 b2 l1 l2 Ee m1 m2 (vO hb (mU cs new o hlen) Ds) (vO hb (mU cs new o hlen) Gs) C3
 ·obtain⟨⟨e0,fz0,k1⟩,k2⟩:=hR.Dv x hx
  refine⟨⟨e0,fz0,by rw[h5 _ (Ne.symm (k2 b l (Nat.le_trans eQ EE) hm GM))];exact k1⟩,fun b' l' vJ h hl=>k2 b' l' vJ h (vO hb (mU cs new o hlen) hl)⟩
 ·exact h5 rb fun ajQ=>hk b l EE hm GM ajQ.symm
theorem wF {H:aE} {b b':Nat} (h:Live (H.set b .dead) b'):Live H b'∧b'≠b:=by
 obtain⟨cs,e,p,h1,h2⟩:=h
 by_cases hb:b=b'
 ·subst hb
  have bA:=(List.getElem?_eq_some_iff.1 h1).1
  rw[List.getElem?_set_self (by simpa using bA)] at h1
  cases h1
 ·rw[List.getElem?_set_ne hb] at h1
  exact⟨⟨cs,e,p,h1,h2⟩,Ne.symm hb⟩
theorem RS {lo b:Nat} {H:aE} (h:lo≤b):Ext lo H (H.set b .dead) :=
 ⟨by simp,fun b' vJ _=>List.getElem?_set_ne (by omega),fun _ _ hl=>(wF hl).1⟩
theorem P9 (hR:Rel m L0 H w) (b:Nat):Rel m L0 (H.set b .dead) w∧∀lo,Trans lo m H w m (H.set b .dead) w:=by
 refine⟨⟨hR.valid,fun b' l' cs e p h hH => ?_,fun b1 b2 l1 l2 Ee h1 h2 Ds Gs=>hR.inj b1 b2 l1 l2 Ee h1 h2 (wF Ds).1 (wF Gs).1,fun x hx=>⟨(hR.Dv x hx).1,fun b' l' vJ h hl=>(hR.Dv x hx).2 b' l' vJ h (wF hl).1⟩⟩,
  fun lo=>⟨fun _ _ h=>h,fun b' l' h h'=>(by rw[h] at h';cases h'),Nat.le_refl _,fun _ _ _=>rfl,rfl,rfl,rfl⟩⟩
 by_cases hb:b=b'
 ·subst hb
  have bA:=(List.getElem?_eq_some_iff.1 hH).1
  rw[List.getElem?_set_self (by simpa using bA)] at hH
  cases hH
 ·rw[List.getElem?_set_ne hb] at hH
  exact hR.row b' l' cs e p h hH
theorem yL {H:aE} {b b':Nat} {x:MJ} (h:Live (H.set b .dead++[x]) b') (hb:b'≠H.length):Live H b'∧b'≠b∧b'<H.length:=by
 have bA:=h.lt
 simp at bA
 have:=gG h (by simp;omega)
 exact⟨(wF this).1,(wF this).2,by omega⟩
theorem WH {lo b:Nat} {H:aE} {x:MJ} (h:lo≤b):Ext lo H (H.set b .dead++[x]) :=
 (RS h).trans (oM lo _ x)
theorem aaE (P:Program) {lo b o n e:Nat} {l:Loc} {cs new pH:List Value} (hR:Rel m L0 H w) (eQ:L0≤lo) (EE:lo≤b) (hm:m b=some l) (hf:m H.length=none)
  (hb:H[b]? = some (.row cs e true)) (hlen:o+n≤cs.length) (qK:l.base+o+n+new.length≤l.O6) (uN:new.all fO=true) (hn:RL m new pH) :
  ∃w',(storeCells ⟨l.rb,l.base+o+n,none⟩ pH).run P w = .ok () w' ∧
   Rel (tF m H.length ⟨l.rb,l.base+o,e,l.O6,true⟩) L0 (H.set b .dead++[.row ((cs.drop o).take n++new) e true]) w' ∧
   Trans lo m H w (tF m H.length ⟨l.rb,l.base+o,e,l.O6,true⟩) (H.set b .dead++[.row ((cs.drop o).take n++new) e true]) w':=by
 have GM:Live H b:=⟨cs,e,true,hb,.inr rfl⟩
 obtain⟨g1,g2,g3,g4⟩:=hR.row b l cs e true hm hb
 obtain⟨arr,et,fz,v1,v2,v3⟩:=hR.valid b l hm
 have Cp:pH.length=new.length:=hn.1.symm
 obtain⟨w',Eb,h1,h2,h3,h4,h5,h6,h7⟩:=Fj P l.rb (l.base+o+n) pH 0 w arr et fz v1 (by rw[Cp,v2];omega) (by rw[hn.fO];exact uN)
  (fun j j1 j2=>v3 (Nat.le_trans eQ EE) j (by omega) (by rw[Cp] at j2;omega))
 have bA:∀b' l',m b'=some l'→l'.rb<w.heap.size:=fun b' l' h=>by
  obtain⟨arr,e,fz,h1,_⟩:=hR.valid b' l' h
  exact(Array.getElem?_eq_some_iff.1 h1).1
 have qJ:=tM (l:=⟨l.rb,l.base+o,e,l.O6,true⟩) hf
 have Ck:(H.set b .dead).length=H.length:=by simp
 have hnb:(H.set b .dead++[.row ((cs.drop o).take n++new) e true])[H.length]? = some (.row ((cs.drop o).take n++new) e true):=by
  rw[List.getElem?_append_right (by simp)]
  simp
 have aoW:∀b',b'≠H.length→b'≠b→(H.set b .dead++[.row ((cs.drop o).take n++new) e true])[b']? = H[b']? := by
  intro b' k1 k2
  rcases Nat.lt_or_ge b' H.length with k3 | k3
  ·rw[List.getElem?_append_left (by simpa using k3),List.getElem?_set_ne (Ne.symm k2)]
  ·rw[List.getElem?_eq_none (by simp;omega),List.getElem?_eq_none k3]
 have TJ:∀b' l',m b'=some l'→Live H b'→b'≠b→l'.rb≠l.rb:=fun b' l' k1 k2 k3 k4 =>
  k3 (hR.inj b b' l l' (Nat.le_trans eQ EE) hm k1 GM k2 k4.symm).symm
 refine⟨w',h1,⟨fun b' l' h => ?_,fun b' l' Ae e' p' h hH => ?_,fun b1 b2 l1 l2 Ee m1 m2 Ds Gs C3 => ?_,fun x hx => ?_⟩,⟨qJ,fun b' l' h hnn => ?_,by rw[h6];exact Nat.le_refl _,fun rb C3 hk => ?_,h7⟩⟩
 ·by_cases Oj:b'=H.length
  ·subst Oj
   rw[bR] at h
   cases h
   exact⟨Eb,et,fz,h2,by rw[h3];exact v2,fun _ j j1 j2=>v3 (Nat.le_trans eQ EE) j (by simp only at j1;omega) j2⟩
  ·rw[cO Oj] at h
   obtain⟨alK,e1,Za,w1,w2,w3⟩:=hR.valid b' l' h
   by_cases J8:l'.rb=l.rb
   ·rw[J8] at w1 ⊢
    rw[v1] at w1
    cases w1
    exact⟨Eb,et,fz,h2,by rw[h3];exact w2,w3⟩
   ·exact⟨alK,e1,Za,by rw[h5 _ J8];exact w1,w2,w3⟩
 ·by_cases Oj:b'=H.length
  ·subst Oj
   rw[bR] at h
   cases h
   rw[hnb] at hH
   cases hH
   have hold:((cs.drop o).take n).length=n:=by simp;omega
   refine⟨rfl,rfl,by simp only[List.length_append,hold];omega,fun i hi => ?_⟩
   simp only[List.length_append,hold] at hi
   refine⟨Eb.getD (l.base+o+i) undef,?_,?_,?_⟩
   ·show w'.cell? ⟨l.rb,l.base+o+i,none⟩=_
    rw[Aq h2]
    have:l.base+o+i<Eb.size:=by rw[h3,v2];omega
    simp[this]
   ·rw[h4]
    refine RV.mono qJ ?_
    by_cases JT:i<n
    ·rw[if_neg (by omega)]
     have e1:((cs.drop o).take n++new).getD i undef=cs.getD (o+i) undef:=by
      simp only[List.getD_eq_getElem?_getD]
      rw[List.getElem?_append_left (by rw[hold];exact JT),List.getElem?_take_of_lt JT,List.getElem?_drop]
     rw[e1]
     obtain⟨rv,c1,c2,_⟩:=g4 (o+i) (by omega)
     rw[Aq v1,←Nat.add_assoc] at c1
     simpa[Array.getD_eq_getD_getElem?,c1] using c2
    ·rw[if_pos (by rw[Cp];omega)]
     have e1:((cs.drop o).take n++new).getD i undef=new.getD (i-n) undef:=by
      simp only[List.getD_eq_getElem?_getD]
      rw[List.getElem?_append_right (by rw[hold];omega),hold]
     rw[e1,show l.base+o+i-(l.base+o+n+0)=i-n by omega]
     exact hn.2 (i-n) (by omega)
   ·by_cases JT:i<n
    ·have e1:((cs.drop o).take n++new).getD i undef=cs.getD (o+i) undef:=by
      simp only[List.getD_eq_getElem?_getD]
      rw[List.getElem?_append_left (by rw[hold];exact JT),List.getElem?_take_of_lt JT,List.getElem?_drop]
     rw[e1]
     exact(g4 (o+i) (by omega)).choose_spec.2.2
    ·have e1:((cs.drop o).take n++new).getD i undef=new.getD (i-n) undef:=by
      simp only[List.getD_eq_getElem?_getD]
      rw[List.getElem?_append_right (by rw[hold];omega),hold]
     rw[e1]
     have:=List.all_eq_true.1 uN new[i-n] (List.getElem_mem (by omega))
     simpa[List.getD_eq_getElem?_getD,List.getElem?_eq_getElem (show i-n<new.length by omega)] using this
  ·rw[cO Oj] at h
   by_cases J8:b'=b
   ·subst J8
    have J9:=GM.lt
    rw[List.getElem?_append_left (by simpa using J9),List.getElem?_set_self J9] at hH
    cases hH
   ·rw[aoW b' Oj J8] at hH
    obtain⟨k1,k2,k3,k4⟩:=hR.row b' l' Ae e' p' h hH
    refine⟨k1,k2,k3,fun i hi => ?_⟩
    obtain⟨rv,c1,c2,c3⟩:=k4 i hi
    refine⟨rv,?_,c2.mono qJ,c3⟩
    rw[DW]
    ·exact c1
    ·exact h5 _ (TJ b' l' h ⟨Ae,e',p',hH,.inl (by rintro rfl;simp at hi)⟩ J8)
 ·by_cases e1:b1=H.length<;>by_cases e2:b2=H.length
  ·omega
  ·subst e1
   rw[bR] at m1
   rw[cO e2] at m2
   cases m1
   obtain⟨k1,k2,_⟩:=yL Gs e2
   exact absurd C3.symm (TJ b2 l2 m2 k1 k2)
  ·subst e2
   rw[bR] at m2
   rw[cO e1] at m1
   cases m2
   obtain⟨k1,k2,_⟩:=yL Ds e1
   exact absurd C3 (TJ b1 l1 m1 k1 k2)
  ·rw[cO e1] at m1
   rw[cO e2] at m2
   exact hR.inj b1 b2 l1 l2 Ee m1 m2 (yL Ds e1).1 (yL Gs e2).1 C3
 ·obtain⟨⟨e0,fz0,k1⟩,k2⟩:=hR.Dv x hx
  have kb:=k2 b l (Nat.le_trans eQ EE) hm GM
  refine⟨⟨e0,fz0,by rw[h5 _ (Ne.symm kb)];exact k1⟩,fun b' l' vJ h hl => ?_⟩
  by_cases he:b'=H.length
  ·subst he
   rw[bR] at h
   cases h
   exact kb
  ·rw[cO he] at h
   exact k2 b' l' vJ h (yL hl he).1
 ·by_cases Oj:b'=H.length
  ·subst Oj
   rw[bR] at h
   cases h
   exact⟨⟨Nat.le_refl _,by simp⟩,.inr (.inr ⟨b,l,EE,hm,GM,rfl⟩)⟩
  ·rw[cO Oj,hnn] at h
   cases h
 ·exact h5 rb fun ajQ=>hk b l EE hm GM ajQ.symm
end
end Go.PM
namespace Go.PM
section
variable {P:Program} {m:dE} {L0:Nat} {H:aE} {w:World}
def cM (P:Program) (s:Sem Next) (L0 lo:Nat) (m:dE) (H:aE) (w:World) (v:Value) (H':aE):Prop :=
 ∃rv w' m',(s.run P w = .ok (.value rv) w'∨(s.run P w = .ok .skip w'∧rv=undef))∧RV m' v rv∧Rel m' L0 H' w'∧Trans lo m H w m' H' w'
theorem cM.value {s:Sem Value} {lo:Nat} {v rv:Value} {H':aE} {w':World} {m':dE} (h:s.run P w = .ok rv w') (h1:RV m' v rv) (h2:Rel m' L0 H' w') (h3:Trans lo m H w m' H' w') :
 cM P (do pure (.value (←s))) L0 lo m H w v H':=⟨rv,w',m',.inl (eG h),h1,h2,h3⟩
theorem NH {b o n:Nat} {cs:List Value} (h:H.read b o n=some cs):∃all e p,H[b]? = some (.row all e p)∧o+n≤all.length∧cs=(all.drop o).take n∧cs.length=n:=by
 unfold aE.read at h
 split at h
 ·rename_i all e p hb
  split at h
  ·rename_i hle
   cases h
   exact⟨all,e,p,hb,hle,rfl,by simp;omega⟩
  ·cases h
 ·cases h
theorem wK {b o n:Nat} {cs:List Value} {l:Loc} (hR:Rel m L0 H w) (hm:m b=some l) (h:H.read b o n=some cs) :
  ∃rs:List Value,RL m cs rs∧rs.length=n∧cs.all fO=true∧∀j v,rs[j]? = some v→w.cell? ((⟨l.rb,l.base+o,none⟩:Addr).add j)=some v:=by
 obtain⟨all,e,p,hb,hle,rfl,hn⟩:=NH h
 obtain⟨g1,g2,g3,g4⟩:=hR.row b l all e p hm hb
 have uH:∀i,i<n→((all.drop o).take n).getD i undef=all.getD (o+i) undef:=fun i hi=>by
  simp[List.getD_eq_getElem?_getD,List.getElem?_take_of_lt hi,List.getElem?_drop]
 refine⟨(List.range n).map fun i=>(w.cell? ⟨l.rb,l.base+(o+i),none⟩).getD undef,⟨by simp;omega,fun i hi => ?_⟩,by simp,?_,fun j v hj => ?_⟩
 ·rw[hn] at hi
  rw[uH i hi]
  obtain⟨rv,c1,c2,_⟩:=g4 (o+i) (by omega)
  simp[List.getD_eq_getElem?_getD,hi,c1]
  simpa[List.getD_eq_getElem?_getD] using c2
 ·rw[List.all_eq_true]
  intro x hx
  obtain⟨i,hi,rfl⟩:=List.getElem_of_mem hx
  rw[hn] at hi
  obtain⟨_,_,_,c3⟩:=g4 (o+i) (by omega)
  rw[←uH i hi] at c3
  simpa[List.getD_eq_getElem?_getD,List.getElem?_eq_getElem (show i<((all.drop o).take n).length by omega)] using c3
 ·have hj':j<n:=by
   have:=(List.getElem?_eq_some_iff.1 hj).1
   simpa using this
  obtain⟨rv,c1,_,_⟩:=g4 (o+j) (by omega)
  simp[hj',c1] at hj
  subst hj
  rw[Addr.add_lit,Nat.add_assoc]
  exact c1
theorem NR {t:TypeId} {agg:Bool} {size nb:Nat} {z:List Value} {pv rp v:Value} (ht:lM P t=some (agg,size,z,nb)) (hv:nK agg size pv H=some v) (hR:Rel m L0 H w) (hp:RV m pv rp) :
  ∃rv,RV m v rv∧(Instr.loadAt t rp).run P w = .ok rv w:=by
 obtain⟨i,d,zz,hi,hd,_,rfl,rfl,_,_⟩:=iI ht
 unfold nK at hv
 split at hv
 ·rename_i b o
  cases hp with
  |
   ptr _ _ l hm =>
   have oY:(Instr.loadAt t (.pointer (some ⟨l.rb,l.base+o,none⟩))).run P w=(loadVar t ⟨l.rb,l.base+o,none⟩).run P w:=rfl
   split at hv
   ·rename_i ha
    cases hr:H.read b o i.size with
    | none=>rw[hr] at hv;cases hv
    |
     some cs =>
     rw[hr] at hv
     cases hv
     obtain⟨rs,h1,h2,_,h3⟩:=wK hR hm hr
     refine⟨.agg rs.toArray,RL.ahR h1,?_⟩
     rw[oY]
     have:=run_loadCells_list (P:=P) w ⟨l.rb,l.base+o,none⟩ rs h3
     rw[h2] at this
     unfold loadVar
     simp[Sem.run_bind,DH t d hd,ha,run_sizeOf t i hi,this]
   ·rename_i ha
    have ha':C2 d=false:=by simpa using ha
    split at hv
    ·rename_i x hr
     cases hv
     obtain⟨rs,h1,h2,_,h3⟩:=wK hR hm hr
     obtain⟨r,Yw⟩:∃r,rs=[r]:=by
      cases rs with
      | nil=>cases h2
      |
       cons r rs=>cases rs with
       | nil=>exact⟨r,rfl⟩
       | cons _ _=>simp at h2
     subst Yw
     have hc:=h3 0 r rfl
     rw[Addr.add_zero'] at hc
     refine⟨r,h1.jF.1,?_⟩
     rw[oY]
     unfold loadVar
     simp[Sem.run_bind,DH t d hd,ha',hc]
    ·cases hv
 ·cases hv
theorem I5 {size n k:Nat} {pv rv:Value} {new:List Value} (hs:iQ H size n pv=some new) (hk:rJ pv=some k) (hnk:n≤k) (hR:Rel m L0 H w) (hp:RV m pv rv) :
  ∃pH:List Value,RL m new pH∧new.all fO=true∧∀w',w'.heap=w.heap→(Builtin.firstCells size n rv).run P w' = .ok pH.toArray w':=by
 unfold iQ at hs
 split at hs
 ·rename_i b o n' c
  cases hk
  cases hp with
  |
   slice _ _ _ _ l ra rc hm hn hc hx ha =>
   obtain⟨rs,h1,h2,h2',h3⟩:=wK hR hm hs
   rcases ha with ha | ⟨rfl,ha⟩
   ·
    have h0:n=0:=by omega
    subst h0
    have e0:rs=[]:=List.eq_nil_of_length_eq_zero (by simpa using h2)
    subst e0
    exact⟨[],h1,h2',fun w' _=>run_firstCells_some (P:=P) w' size 0 _ _ _ [] (by simp) fun j v hj=>by cases hj⟩
   ·refine⟨rs,h1,h2',fun w' hw'=>run_firstCells_some (P:=P) w' size n _ _ _ rs h2 fun j v hj => ?_⟩
    rw[←h3 j v hj]
    exact DW (by rw[hw'])
 ·split at hs
  ·rename_i hn
   cases hs
   cases hp
   exact⟨[],RL.nil m,rfl,fun w' _=>run_firstCells_none w' size n _ _⟩
  ·cases hs
 ·rename_i s
  split at hs
  ·cases hs
   cases hp
   refine⟨_,RL.map (f:=fun b:UInt8=>Value.int .u8 (b.toNat:Int)) (g:=fun b:UInt8=>Value.int .u8 (b.toNat:Int)) (fun x _ => .int _ _),?_,fun w' _ => ?_⟩
   ·rw[List.all_eq_true]
    intro x hx
    obtain⟨b,_,rfl⟩:=List.mem_map.1 hx
    rfl
   ·simp only[Builtin.firstCells,Sem.run_pure]
    congr 1
    apply Array.ext'
    simp[ByteArray.data_extract]
  ·cases hs
 ·cases hs
theorem Pm {t u ty e:TypeId} {i:TypeInfo} {d:TypeDesc} (ht:P.underlying t=some (.slice e)) (hu:P.underlying u=some d) (hd:Mg d=true) (hi:P.info? e=some i)
  {a:Addr} {n c k:Nat} {x:Value} {pH:List Value} {w':World} (hl:Builtin.lenOf x=pure k) (hf:(Builtin.firstCells i.size k x).run P w = .ok pH.toArray w) (Cb:n+k≤c)
  (HX:(storeCells (a.add (n*i.size)) pH).run P w = .ok () w') :
  (Builtin.append_ #[t,u] ty #[.slice (some a) n c,x]).run P w = .ok (.slice (some a) (n+k) c) w':=by
 cases d<;>first | (cases hd;done) | simp[Builtin.append_,run_underlying ht,run_underlying hu,run_sizeOf e i hi,hl,hf,Cb,HX]
theorem PX {t u ty e:TypeId} {i:TypeInfo} {d:TypeDesc} (ht:P.underlying t=some (.slice e)) (hu:P.underlying u=some d) (hd:Mg d=true) (hi:P.info? e=some i)
  {x:Value} (hl:Builtin.lenOf x=pure 0) {pH:List Value} (hf:(Builtin.firstCells i.size 0 x).run P w = .ok pH.toArray w) :
  (Builtin.append_ #[t,u] ty #[.slice none 0 0,x]).run P w = .ok (.slice none 0 0) w:=by
 cases d<;>first | (cases hd;done) | simp[Builtin.append_,run_underlying ht,run_underlying hu,run_sizeOf e i hi,hl,hf]
theorem Pq {t u ty e:TypeId} {i:TypeInfo} {d:TypeDesc} {z:Value} (ht:P.underlying t=some (.slice e)) (hu:P.underlying u=some d) (hd:Mg d=true) (hi:P.info? e=some i) (hz:i.zero=some z)
  {base:Option Addr} {n c k:Nat} {x:Value} {Cl pH:List Value} (hl:Builtin.lenOf x=pure k) (YR:(Builtin.firstCells i.size n (.slice base n c)).run P w.drew = .ok Cl.toArray w.drew)
  (hf:(Builtin.firstCells i.size k x).run P w.drew = .ok pH.toArray w.drew) (hg:c<n+k) (Ee:1≤i.bytes) (hb:(n+k)*i.bytes≤140737488355328) :
  (Builtin.append_ #[t,u] ty #[.slice base n c,x]).run P w = .ok (.slice (some ⟨w.heap.size,0,none⟩) (n+k) (grownCap w (n+k) c e))
   (w.drew.alloc (.cells (Cl.toArray++pH.toArray++Builtin.zeroCells z.cells (grownCap w (n+k) c e-(n+k))) e)):=by
 have qK:=growslice_fits (bytes:=i.bytes) hg hb
 have h1:¬(n+k≤c):=by omega
 have h2:¬(281474976710656<Builtin.nextslicecap (n+k) c*i.bytes):=by omega
 have h3:¬i.bytes=0:=by omega
 cases d<;>first | (cases hd;done) | simp[Builtin.append_,run_underlying ht,run_underlying hu,run_sizeOf e i hi,typeInfo,zeroValue,hi,hz,hl,h1,h2,h3,Question.forced,YR,hf,newRow,grownCap]
 all_goals
  congr 2
  apply Array.ext'
  simp
theorem addr_add (g o k:Nat):(⟨g,o,none⟩:Addr).add k=⟨g,o+k,none⟩:=Addr.add_lit g o k
theorem I4 {s:Sem Value} {lo size bytes add:Nat} {x rx v:Value} {new pH:List Value} {H':aE} {e:TypeId} (rE:eJ lo size bytes x add new H=some (v,H')) (hR:Rel m L0 H w) (eQ:L0≤lo) (hx:RV m x rx)
  (hn:RL m new pH) (hf:∀b,H.length≤b→b<H'.length→m b=none)
  (Cb:∀a n c w',rx = .slice (some a) n c→n+add≤c→(storeCells (a.add (n*size)) pH).run P w = .ok () w'→s.run P w = .ok (.slice (some a) (n+add) c) w')
  (ayJ:rx = .slice none 0 0→add=0→s.run P w = .ok (.slice none 0 0) w)
  (aiP:∀base n c Cl,rx = .slice base n c→(Builtin.firstCells size n rx).run P w.drew = .ok (List.toArray Cl) w.drew→Cl.length=n*size→c<n+add→(n+add)*bytes≤140737488355328→∃cap arr,n+add≤cap ∧
   s.run P w = .ok (.slice (some ⟨w.heap.size,0,none⟩) (n+add) cap) (w.drew.alloc (.cells arr e))∧arr.size=cap*size∧∀i,i<(Cl++pH).length→arr.getD i undef=(Cl++pH).getD i undef) :
  ∃rv w' m',s.run P w = .ok rv w'∧RV m' v rv∧Rel m' L0 H' w'∧Trans lo m H w m' H' w':=by
 unfold eJ at rE
 split at rE
 case isFalse=>cases rE
 rename_i hc0
 obtain⟨Ee,MF,uN,hnl⟩:=hc0
 split at rE
 ·rename_i n c
  split at rE
  ·rename_i h0
   obtain⟨rfl,rfl⟩:=h0
   cases hx
   split at rE
   ·rename_i MA
    cases rE
    exact⟨_,w,m,ayJ rfl MA,.MK,hR,Trans.refl lo m H w⟩
   ·rename_i MA
    split at rE
    ·rename_i hb
     cases rE
     obtain⟨cap,arr,k1,k2,k3,k4⟩:=aiP none 0 0 [] rfl (by simp[Builtin.firstCells]) (by simp) (by omega) (by simpa using hb)
     have hmn:m H.length=none:=hf _ (Nat.le_refl _) (by simp)
     have hl:new.length≤arr.size:=by rw[k3,hnl];exact Nat.mul_le_mul_right _ (by omega)
     have hA:=wI hR hmn (w':=w.drew.alloc (.cells arr e)) (arr:=arr) (e:=e) (fz:=(0,0)) rfl ⟨rfl,rfl,rfl⟩ (cs:=new) (fJ:=size) (P8:=true) hl
      (fun i hi=>by
       rw[k4 i (by rw[List.nil_append,←hn.1];exact hi)]
       exact hn.2 i hi) uN (fun j _ h=>by simp at h)
     refine⟨_,_,_,k2,?_,hA.1,hA.2 lo⟩
     rw[Nat.zero_add] at k1 ⊢
     exact .slice _ 0 add add _ _ cap (bR m _ _) (Nat.le_refl _) k1 (fun h=>by cases h) (.inr ⟨rfl,by simp only[k3];omega⟩)
    ·cases rE
  ·cases rE
 ·rename_i b o n c
  cases hx with
  |
   slice _ _ _ _ l ra rc hm YA hcr hxp ha =>
   split at rE
   ·rename_i cs es p Wg
    obtain⟨g1,g2,g3,g4⟩:=hR.row b l cs es p hm Wg
    split at rE
    ·rename_i hle
     obtain⟨rfl,hle⟩:=hle
     have hold:∃Cl:List Value,RL m ((cs.drop o).take (n*es)) Cl∧Cl.length=n*es∧(Builtin.firstCells es n (.slice (some ra) n rc)).run P w.drew = .ok Cl.toArray w.drew:=by
      have UH:H.read b o (n*es)=some ((cs.drop o).take (n*es)):=by simp[aE.read,Wg,hle]
      obtain⟨rs,h1,h2,_,h3⟩:=wK hR hm UH
      rcases ha with ha | ⟨rfl,ha⟩
      ·have h0:n=0:=by omega
       subst h0
       have e0:rs=[]:=List.eq_nil_of_length_eq_zero (by simpa using h2)
       subst e0
       exact⟨[],h1,by simp,run_firstCells_some (P:=P) w.drew es 0 _ _ _ [] (by simp) fun j v hj=>by cases hj⟩
      ·exact⟨rs,h1,h2,run_firstCells_some (P:=P) w.drew es n _ _ _ rs h2 fun j v hj=>by rw[World.cell?_drew];exact h3 j v hj⟩
     obtain⟨Cl,o1,o2,o3⟩:=hold
     have grown:∀(Hd:aE) (hRd:Rel m L0 Hd w) (hTd:Trans lo m H w m Hd w) (hEd:Ext lo H Hd) (ZU:Hd.length=H.length),H'=Hd++[.row ((cs.drop o).take (n*es)++new) es true]→v = .slice (some ⟨H.length,0,none⟩) (n+add) (n+add) →
       rc<n+add→(n+add)*bytes≤140737488355328→∃rv w' m',s.run P w = .ok rv w'∧RV m' v rv∧Rel m' L0 H' w'∧Trans lo m H w m' H' w':=by
      intro Hd hRd hTd hEd ZU hH' hv hg hb
      subst hH'
      subst hv
      obtain⟨cap,arr,k1,k2,k3,k4⟩:=aiP (some ra) n rc Cl rfl o3 o2 hg hb
      have hmn:m Hd.length=none:=by rw[ZU];exact hf _ (Nat.le_refl _) (by simp[ZU])
      have hlen:((cs.drop o).take (n*es)++new).length=(n+add)*es:=by rw[List.length_append,o1.1,o2,hnl,Nat.add_mul]
      have hA:=wI hRd hmn (w':=w.drew.alloc (.cells arr e)) (arr:=arr) (e:=e) (fz:=(0,0)) rfl ⟨rfl,rfl,rfl⟩ (cs:=(cs.drop o).take (n*es)++new) (fJ:=es) (P8:=true)
       (by rw[hlen,k3];exact Nat.mul_le_mul_right _ k1)
       (fun i hi=>by
        rw[k4 i (by rw[List.length_append,o2,←hn.1,hnl,←Nat.add_mul];rw[hlen] at hi;exact hi)]
        exact(o1.append hn).2 i hi)
       (by
        have UH:H.read b o (n*es)=some ((cs.drop o).take (n*es)):=by simp[aE.read,Wg,hle]
        obtain⟨_,_,_,h2',_⟩:=wK hR hm UH
        rw[List.all_append,h2',uN];rfl) (fun j _ h=>by simp at h)
      rw[ZU] at hA
      refine⟨_,_,_,k2,?_,hA.1,?_⟩
      ·exact .slice _ 0 _ _ _ _ cap (bR m _ _) (Nat.le_refl _) k1 (fun h=>by cases h) (.inr ⟨rfl,by simp only[k3];omega⟩)
      ·exact Trans.trans (H1:=Hd) hf hEd (oM lo Hd _) hTd (hA.2 lo)
     split at rE
     ·rename_i cP
      split at rE
      ·rename_i MA
       cases rE
       subst MA
       have e0:new=[]:=List.eq_nil_of_length_eq_zero (by simpa using hnl)
       subst e0
       have e1:pH=[]:=List.eq_nil_of_length_eq_zero hn.1.symm
       subst e1
       exact⟨_,w,m,Cb ra n rc w rfl (by omega) rfl,.slice b o n c l ra rc hm YA hcr hxp ha,hR,Trans.refl lo m H w⟩
      ·rename_i MA
       cases hw:H.write lo b (o+n*es) new with
       | none=>rw[hw] at rE;cases rE
       |
        some H1 =>
        rw[hw] at rE
        cases rE
        rcases ha with ha | ⟨rfl,ha⟩
        ·omega
        ·obtain⟨w',s1,s2,s3⟩:=DJ P hR eQ hm hw hn
         refine⟨_,w',m,Cb _ n rc w' rfl (by omega) (by rw[addr_add,Nat.add_assoc];exact s1),?_,s2,s3⟩
         exact .slice b o (n+add) c l _ rc hm (by omega) hcr hxp (.inr ⟨rfl,ha⟩)
     ·rename_i cP
      split at rE
      ·rename_i hb
       split at rE
       ·rename_i hp
        split at rE
        ·rename_i EE
         cases rE
         by_cases hg:rc<n+add
         ·exact grown (H.set b .dead) (P9 hR b).1 ((P9 hR b).2 lo) (RS EE) (by simp) rfl rfl hg hb
         ·
          subst hp
          rcases ha with ha | ⟨rfl,ha⟩
          ·omega
          ·have hmn:m H.length=none:=hf _ (Nat.le_refl _) (by simp)
           have qK:l.base+o+n*es+new.length≤l.O6:=by
            rw[hnl]
            have:(n+add)*es≤rc*es:=Nat.mul_le_mul_right _ (by omega)
            rw[Nat.add_mul] at this
            rw[g1] at ha
            omega
           obtain⟨w',s1,s2,s3⟩:=aaE P hR eQ EE hm hmn Wg hle qK uN hn
           refine⟨_,w',_,Cb _ n rc w' rfl (by omega) (by rw[addr_add];exact s1),?_,s2,s3⟩
           refine .slice _ 0 _ _ _ _ rc (bR m _ _) (Nat.le_refl _) (by omega) (fun h=>by cases h) (.inr ⟨rfl,?_⟩)
           rw[g1] at ha
           simp only
           omega
        ·cases rE
       ·rename_i hp
        cases rE
        have Cj:l.P8=false:=by rw[g2];simpa using hp
        have:=hxp Cj
        exact grown H hR (Trans.refl lo m H w) (Ext.refl lo H) rfl rfl rfl (by omega) hb
      ·cases rE
    ·cases rE
   ·cases rE
 ·cases rE
end
end Go.PM