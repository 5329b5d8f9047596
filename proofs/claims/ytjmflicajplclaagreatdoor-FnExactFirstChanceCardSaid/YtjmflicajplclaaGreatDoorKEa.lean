/- Texts of a claim, in one: part 1. -/
import Derived.Orders
import Derived.Laws.Entries
import Derived.Laws.AppendOwn
import Derived.Laws.MakeOwn
import Derived.Laws.Build
import Derived.Laws.Rows
import Derived.Laws.World
import Derived.Laws.Strings
import Derived.Laws.BytesString
import Derived.Lib.ItoaNum
import Derived.Laws.StructEq
import Derived.Laws.Cover3
open Array renaming getD_eq_getD_getElem? → aLm,getElem?_eq_some_iff → aLn,getElem?_modify → aLz,toList_inj → aLu
open Function renaming comp_def → aLt
open List renaming all_eq_true → aLs,drop_eq_getElem_cons → aLj,drop_eq_nil_of_le → aLi,eq_nil_of_length_eq_zero → aLk,getD_eq_getElem?_getD → aLb,getElem?_append_left → aLv,getElem?_append_right → aLw,getElem?_cons_zero → aLy,getElem?_drop → aLc,getElem?_eq_getElem → aLl,getElem?_eq_none → aLE,getElem?_eq_some_iff → aLd,getElem?_set_ne → aLD,getElem?_set_self → aLC,getElem?_take_of_lt → aLB,getElem_mem → aLr,length_append → aLp,length_cons → aLo,range → aLa
open Nat renaming add_assoc → aLq,le_refl → aLe,le_trans → aLf,lt_of_lt_of_le → aLg,lt_or_ge → aLh,mul_le_mul_right → aLF,sub_self → aLx
open Ne renaming symm → aLA
set_option linter.unusedSimpArgs false
set_option linter.unusedVariables false
namespace Go.PM
abbrev Env:=Nat→Value
def put (ρ:Env):Option Nat→Value→Env
 | none,_=>ρ
 | some d,v=>fun k=>if k=d then v else ρ k
def ev (ρ:Env):Operand→Value
 | .tmp t=>ρ t
 | .const v=>v
 | .global _=>undef
 | .func f => .func (.func f) #[] #[]
inductive QG where
 | dead
 | row (cells:List Value) (gQ:Nat) (T2:Bool)
 deriving Inhabited
abbrev aH:=List QG
def aV:Value→List Value
 | .agg cs=>cs.toList
 | v=>[v]
def iR:Value→Bool
 | .agg _ | .tuple _=>false
 | _=>true
inductive CK where
 | int | bool | str
inductive qN where
 | mv (x:Operand)
 | pick (c a b:Operand)
 | bin (op:BinOp) (x y:Operand)
 | eqb (neg:Bool) (x y:Operand)
 | isnil (neg:Bool) (x:Operand)
 | eqagg (neg:Bool) (ks:List CK) (x y:Operand)
 | un (op:UnOp) (x:Operand)
 | cvt (k:IntKind) (x:Operand)
 | cvs (x:Operand)
 | ext (x:Operand) (i:Nat)
 | fld (agg:Bool) (off size:Nat) (x:Operand)
 | build (zero:List Value) (places:List (Nat×Nat)) (parts:List (Nat×Operand))
 | chk (x:Operand)
 | faddr (off:Nat) (x:Operand)
 | iaddr (size:Nat) (x i:Operand)
 | sidx (x i:Operand)
 | ssub (x:Operand) (lo hi:Option Operand)
 | mkfn (fn:Nat) (gU:List Operand)
 | len (x:Operand)
 | slen (x:Operand)
 | akY (x:Operand)
 | min (x y:Operand)
 | max (x y:Operand)
 | die
 | load (agg:Bool) (size:Nat) (p:Operand)
 | sub (size:Nat) (x:Operand) (lo hi mx:Option Operand)
 | b2s (x:Operand)
 | new (zero:List Value)
 | box (x:Operand)
 | make (zero:List Value) (bytes:Nat) (len cap:Operand)
 | lit (zero:List Value) (len:Nat) (parts:List (Nat×Operand))
 | call (f:Nat) (args:List Operand)
 | store (size:Nat) (p v:Operand)
 | app (size bytes:Nat) (x y:Operand)
 | appz (zero:List Value) (bytes:Nat) (x n:Operand)
 | copy (size:Nat) (x y:Operand)
 | clear (zero:List Value) (x:Operand)
 | callv (fv:Operand) (args:List Operand)
 deriving Inhabited
def dO:BinOp→Value→Value→Option Value
 | .shl,.int k a,.int _ b=>if b<0 then none else some (.int k (k.wrap (a*2^Nat.min b.toNat k.bits)))
 | .shr,.int k a,.int _ b=>if b<0 then none else some (.int k (a.fdiv (2^Nat.min b.toNat k.bits)))
 |
  op,.int k a,.int k' b =>
  if k=k' then
   match op with
   | .add=>some (.int k (k.wrap (a+b)))
   | .sub=>some (.int k (k.wrap (a-b)))
   | .mul=>some (.int k (k.wrap (a*b)))
   | .quo=>if b=0 then none else some (.int k (k.wrap (a.tdiv b)))
   | .rem=>if b=0 then none else some (.int k (a.tmod b))
   | .and=>some (.int k (k.wrap ((BitVec.ofInt k.bits a &&& BitVec.ofInt k.bits b).toNat:Int)))
   | .or=>some (.int k (k.wrap ((BitVec.ofInt k.bits a ||| BitVec.ofInt k.bits b).toNat:Int)))
   | .xor=>some (.int k (k.wrap ((BitVec.ofInt k.bits a ^^^ BitVec.ofInt k.bits b).toNat:Int)))
   | .andNot=>some (.int k (k.wrap ((BitVec.ofInt k.bits a &&& ~~~ BitVec.ofInt k.bits b).toNat:Int)))
   | .eql=>some (.bool (a == b))
   | .neq=>some (.bool (a != b))
   | .lss=>some (.bool (a<b))
   | .leq=>some (.bool (a≤b))
   | .gtr=>some (.bool (a>b))
   | .geq=>some (.bool (a≥b))
   | _=>none
  else none
 |
  op,.string a,.string b =>
  match op with
  | .add=>if ((a.size+b.size:Nat):Int)>IntKind.i64.max then none else some (.string (a++b))
  | .eql=>some (.bool (a.toList == b.toList))
  | .neq=>some (.bool (!(a.toList == b.toList)))
  | .lss=>some (.bool (Op.bytesLess a.toList b.toList))
  | .leq=>some (.bool (Op.bytesLess a.toList b.toList||a.toList == b.toList))
  | .gtr=>some (.bool (!(Op.bytesLess a.toList b.toList||a.toList == b.toList)))
  | .geq=>some (.bool (!(Op.bytesLess a.toList b.toList)))
  | _=>none
 | _,_,_=>none
def pun:UnOp→Value→Option Value
 | .neg,.int k n=>some (.int k (k.wrap (0-n)))
 | .not,.bool b=>some (.bool !b)
 | _,_=>none
def yG:CK→Value→Value→Option Bool
 | .int,.int k a,.int k' b=>if k=k' then some (a == b) else none
 | .bool,.bool a,.bool b=>some (a == b)
 | .str,.string a,.string b=>some (a == b)
 | _,_,_=>none
def tA:List CK→List Value→List Value→Option Bool
 | [],[],[]=>some true
 |
  k::ks,x::xs,y::ys=>match yG k x y with
  | some true=>tA ks xs ys
  | some false=>some false
  | none=>none
 | _,_,_=>none
def Aq (places:List (Nat×Nat)) (cells:List Value):List (Nat×Value)→Option (List Value)
 | []=>some cells
 |
  (i,v)::rest =>
  match places[i]? with
  | none=>none
  |
   some (off,size) =>
   if (aV v).length=size∧off+size≤cells.length then
    Aq places (cells.take off++aV v++cells.drop (off+size)) rest
   else none
def fM (v:Option Value) (aD8:Option Nat) (top:Nat):Option Nat :=
 match v with
 | none=>aD8
 | some (.int _ i)=>if 0≤i∧i≤top then some i.toNat else none
 | _=>none
def Cl (lo hi:Option Value) (n:Nat):Option (Nat×Nat) :=
 match fM hi (some n) n with
 | none=>none
 |
  some h=>match fM lo (some 0) h with
  | none=>none
  | some l=>some (l,h)
def kA (o:qN) (ρ:Env):Option Value :=
 match o with
 | .mv x=>some (ev ρ x)
 |
  .pick c a b=>match ev ρ c with
  | .bool t=>some (if t then ev ρ a else ev ρ b)
  | _=>none
 | .bin op x y=>dO op (ev ρ x) (ev ρ y)
 |
  .eqb neg x y=>match ev ρ x,ev ρ y with
  | .bool a,.bool b=>some (.bool ((a == b) != neg))
  | _,_=>none
 |
  .isnil neg x=>match ev ρ x with
  | .slice none _ _=>some (.bool (true != neg))
  | .slice (some _) _ _=>some (.bool (false != neg))
  | _=>none
 |
  .eqagg neg ks x y=>match ev ρ x,ev ρ y with
  | .agg a,.agg b=>(tA ks a.toList b.toList).map fun t => .bool (t != neg)
  | _,_=>none
 | .un op x=>pun op (ev ρ x)
 |
  .cvt k x=>match ev ρ x with
  | .int _ n=>some (.int k (k.wrap n))
  | _=>none
 |
  .cvs x=>match ev ρ x with
  | .string s=>some (.string s)
  | _=>none
 |
  .ext x i=>match ev ρ x with
  | .tuple vs=>vs[i]?
  | _=>none
 |
  .fld agg off size x=>match ev ρ x with
  | .agg cs=>if agg then (if off+size≤cs.size then some (.agg (cs.extract off (off+size))) else none) else cs[off]?
  | _=>none
 | .build zero places parts=>(Aq places zero (parts.map fun(i,x)=>(i,ev ρ x))).map fun cs => .agg cs.toArray
 |
  .chk x=>match ev ρ x with
  | .pointer (some a)=>some (.pointer (some a))
  | _=>none
 |
  .faddr off x=>match ev ρ x with
  | .pointer (some ⟨b,o,none⟩)=>some (.pointer (some ⟨b,o+off,none⟩))
  | _=>none
 |
  .iaddr size x i=>match ev ρ x,ev ρ i with
  | .slice (some ⟨b,o,none⟩) n _,.int _ i=>if 0≤i∧i<n then some (.pointer (some ⟨b,o+i.toNat*size,none⟩)) else none
  | _,_=>none
 |
  .sidx x i=>match ev ρ x,ev ρ i with
  | .string s,.int _ i=>if 0≤i∧i<s.size then some (.int .u8 ((s.data.toList.getD i.toNat 0).toNat:Int)) else none
  | _,_=>none
 |
  .ssub x lo hi=>match ev ρ x with
  |
   .string s=>match Cl (lo.map (ev ρ)) (hi.map (ev ρ)) s.size with
   | some (l,h)=>some (.string (s.extract l h))
   | none=>none
  | _=>none
 | .mkfn f gU=>some (.func (.func f) #[] (gU.map (ev ρ)).toArray)
 |
  .slen x=>match ev ρ x with
  | .string s=>some (.int .i64 s.size)
  | _=>none
 |
  .len x=>match ev ρ x with
  | .slice _ n _=>some (.int .i64 n)
  | _=>none
 |
  .akY x=>match ev ρ x with
  | .slice none _ 0=>some (.int .i64 0)
  | _=>none
 |
  .min x y=>match ev ρ x,ev ρ y with
  | .int k a,.int _ b=>some (.int k (if b<a then b else a))
  | _,_=>none
 |
  .max x y=>match ev ρ x,ev ρ y with
  | .int k a,.int _ b=>some (.int k (if b>a then b else a))
  | _,_=>none
 | _=>none
def aH.cells (H:aH) (b:Nat):Option (List Value) :=
 match H[b]? with
 | some (.row cs _ _)=>some cs
 | _=>none
def aH.read (H:aH) (b o n:Nat):Option (List Value) :=
 match H[b]? with
 | some (.row cs _ _)=>if o+n≤cs.length then some ((cs.drop o).take n) else none
 | _=>none
def kI (cs:List Value) (o:Nat) (new:List Value):List Value:=cs.take o++new++cs.drop (o+new.length)
def aH.write (H:aH) (lo b o:Nat) (new:List Value):Option aH :=
 match H[b]? with
 | some (.row cs e p)=>if lo≤b∧o+new.length≤cs.length∧new.all iR then some (H.set b (.row (kI cs o new) e p)) else none
 | _=>none
def dE (n:Nat) (zero:List Value):List Value:=(aLa (n*zero.length)).map fun i=>zero.getD (i % zero.length) undef
inductive Out where
 | val (v:Value) (H:aH)
 | call (f:Nat) (args:List Value)
def kU (H:aH) (size n:Nat):Value→Option (List Value)
 | .slice (some ⟨b,o,none⟩) _ _=>H.read b o (n*size)
 | .slice none _ _=>if n=0 then some [] else none
 | .string s=>if size=1 then some ((s.data.toList.take n).map fun b => .int .u8 b.toNat) else none
 | _=>none
def xG:Value→Option Nat
 | .slice _ n _=>some n
 | .string s=>some s.size
 | _=>none
def fK (lo size bytes:Nat) (x:Value) (add:Nat) (new:List Value) (H:aH):Option (Value×aH) :=
 if 1≤bytes∧1≤size∧new.all iR∧new.length=add*size then
  match x with
  |
   .slice none n c =>
   if n=0∧c=0 then
    if add=0 then some (.slice none 0 0,H)
    else if add*bytes≤140737488355328 then some (.slice (some ⟨H.length,0,none⟩) add add,H++[.row new size true])
    else none
   else none
  |
   .slice (some ⟨b,o,none⟩) n c =>
   match H[b]? with
   |
    some (.row cs e p) =>
    if e=size∧o+n*size≤cs.length then
     if n+add≤c then
      if add=0 then some (.slice (some ⟨b,o,none⟩) n c,H)
      else (H.write lo b (o+n*size) new).map fun H'=>(.slice (some ⟨b,o,none⟩) (n+add) c,H')
     else if (n+add)*bytes≤140737488355328 then
      if p then
       if lo≤b then some (.slice (some ⟨H.length,0,none⟩) (n+add) (n+add),H.set b .dead++[.row ((cs.drop o).take (n*size)++new) size true])
       else none
      else some (.slice (some ⟨H.length,0,none⟩) (n+add) (n+add),H++[.row ((cs.drop o).take (n*size)++new) size true])
     else none
    else none
   | _=>none
  | _=>none
 else none
def E1 (size:Nat) (x:Value) (lo hi mx:Option Value) (H:aH):Option (Value×aH) :=
 match x with
 |
  .slice none n c=>if n=0∧c=0 then
   match fM mx (some 0) 0 with
   | none=>none
   |
    some m=>match fM hi (if mx.isSome then none else some 0) m with
    | none=>none
    |
     some h=>match fM lo (some 0) h with
     | none=>none
     | some _=>some (.slice none 0 0,H)
  else none
 |
  .slice (some ⟨b,o,none⟩) n c =>
  match H[b]? with
  |
   some (.row _ e _) =>
   if e=size then
    match fM mx (some c) c with
    | none=>none
    |
     some m=>match fM hi (if mx.isSome then none else some n) m with
     | none=>none
     |
      some h=>match fM lo (some 0) h with
      | none=>none
      |
       some l =>
       if mx.isSome∧m=l then some (.slice (some ⟨H.length,0,none⟩) 0 0,H++[.row [] size false])
       else some (.slice (some ⟨b,o+l*size,none⟩) (h-l) (m-l),H)
   else none
  | _=>none
 | _=>none
def xV:List Value→Option (List UInt8)
 | []=>some []
 | .int .u8 n::r=>(xV r).map (UInt8.ofNat n.toNat :: ·)
 | _=>none
def rB (agg:Bool) (size:Nat) (v:Value) (H:aH):Option Value :=
 match v with
 |
  .pointer (some ⟨b,o,none⟩) =>
  if agg then (H.read b o size).map fun cs => .agg cs.toArray
  else match H.read b o 1 with
   | some [v]=>some v
   | _=>none
 | _=>none
def pop (lo:Nat) (o:qN) (ρ:Env) (H:aH):Option Out :=
 match o with
 | .load agg size p=>(rB agg size (ev ρ p) H).map fun v => .val v H
 | .sub size x l h m=>(E1 size (ev ρ x) (l.map (ev ρ)) (h.map (ev ρ)) (m.map (ev ρ)) H).map fun(v,H') => .val v H'
 |
  .b2s x=>match ev ρ x with
  | .slice none _ _=>some (.val (.string ByteArray.empty) H)
  |
   .slice (some ⟨b,o,none⟩) n _=>match H.read b o n with
   | some cs=>(xV cs).map fun bs => .val (.string ⟨bs.toArray⟩) H
   | none=>none
  | _=>none
 | .new zero=>some (.val (.pointer (some ⟨H.length,0,none⟩)) (H++[.row zero zero.length false]))
 | .box x=>if (aV (ev ρ x)).all iR then some (.val (.pointer (some ⟨H.length,0,none⟩)) (H++[.row (aV (ev ρ x)) (aV (ev ρ x)).length false])) else none
 |
  .make zero bytes l c=>match ev ρ l,ev ρ c with
  | .int .i64 l,.int .i64 c=>if 0≤l∧l≤c∧c*bytes≤281474976710656∧c≤9223372036854775807 then
    some (.val (.slice (some ⟨H.length,0,none⟩) l.toNat c.toNat) (H++[.row (dE c.toNat zero) zero.length false])) else none
  | _,_=>none
 |
  .lit zero n parts =>
  match Aq ((aLa n).map fun i=>(i*zero.length,zero.length)) (dE n zero) (parts.map fun(i,x)=>(i,ev ρ x)) with
  | some cs=>if cs.all iR then some (.val (.slice (some ⟨H.length,0,none⟩) n n) (H++[.row cs zero.length false])) else none
  | none=>none
 |
  .store size p v=>match ev ρ p with
  | .pointer (some ⟨b,o,none⟩)=>if (aV (ev ρ v)).length=size then (H.write lo b o (aV (ev ρ v))).map fun H' => .val undef H' else none
  | _=>none
 |
  .app size bytes x y=>match xG (ev ρ y) with
  |
   some n=>match kU H size n (ev ρ y) with
   | some new=>(fK lo size bytes (ev ρ x) n new H).map fun(v,H') => .val v H'
   | none=>none
  | none=>none
 |
  .appz zero bytes x n=>match ev ρ n with
  | .int .i64 n=>if 0≤n∧n*bytes≤140737488355328 then (fK lo zero.length bytes (ev ρ x) n.toNat (dE n.toNat zero) H).map fun(v,H') => .val v H' else none
  | _=>none
 |
  .copy size x y=>match ev ρ x,xG (ev ρ y) with
  | .slice none _ _,some _=>some (.val (.int .i64 0) H)
  |
   .slice (some ⟨b,o,none⟩) d _,some s=>match kU H size (Nat.min s d) (ev ρ y) with
   | some new=>(H.write lo b o new).map fun H' => .val (.int .i64 (Nat.min s d)) H'
   | none=>none
  | _,_=>none
 |
  .clear zero x=>match ev ρ x with
  | .slice none _ _=>some (.val undef H)
  | .slice (some ⟨b,o,none⟩) n _=>if n=0 then some (.val undef H) else (H.write lo b o (dE n zero)).map fun H' => .val undef H'
  | _=>none
 | .call f args=>some (.call f (args.map (ev ρ)))
 |
  .callv fv args=>match ev ρ fv with
  | .func (.func f) first gU=>some (.call f (first.toList++args.map (ev ρ)++gU.toList))
  | _=>none
 | o=>(kA o ρ).map (.val · H)
structure PI where
 dst:Option Nat
 op:qN
 g:Option (Nat×Bool):=none
 quiet:Bool:=false
 cf:List (Operand×Operand):=[]
 deriving Inhabited
inductive aE where
 | skip
 | cT (ops:List PI)
 | seq (a b:aE)
 | cond (c:Operand) (a b:aE)
 | block (id:Nat) (a:aE)
 | loop (a:aE)
 | exit (id:Nat)
 | ret
 deriving Inhabited
inductive DI where
 | tmp (t:Nat)
 | cell (t:Nat) (agg:Bool) (size:Nat)
 deriving Inhabited
structure aZ where
 ntmps:Nat
 res:List DI
 body:aE
 deriving Inhabited
inductive Ex where
 | normal
 | exit (id:Nat)
 | ret
abbrev iB:=Nat→List Value→Nat→aH→Option (Value×aH)
def B5 (g:Option (Nat×Bool)) (ρ:Env):Option Bool :=
 match g with
 | none=>some true
 |
  some (t,want)=>match ρ t with
  | .bool b=>some (b == want)
  | .tuple _=>some false
  | _=>none
def kQ:Value→Option Nat
 | .pointer (some a)=>some a.block
 | .slice (some a) _ _=>some a.block
 | _=>none
def Dp (ρ:Env) (c:Operand×Operand):Bool :=
 match kQ (ev ρ c.1),kQ (ev ρ c.2) with
 | some a,some b=>a != b
 | _,_=>true
def BZ (call:iB) (lo:Nat) (i:PI) (ρ:Env) (H:aH):Option (Value×aH) :=
 match B5 i.g ρ with
 | none=>none
 | some false=>some (undef,H)
 |
  some true =>
  if i.cf.all (Dp ρ) then
   match pop lo i.op ρ H with
   | some (.val v H')=>some (v,H')
   | some (.call f args)=>call f args (if i.quiet then H.length else lo) H
   | none=>none
  else none
def Bz (call:iB) (lo:Nat) (i:PI) (ρ:Env) (H:aH):Option (Env×aH) :=
 match BZ call lo i ρ H with
 | some (v,H')=>some (put ρ i.dst v,H')
 | none=>none
def jB (call:iB) (lo:Nat):List PI→Env→aH→Option (Env×aH)
 | [],ρ,H=>some (ρ,H)
 |
  i::is,ρ,H=>match Bz call lo i ρ H with
  | some (aP,H')=>jB call lo is aP H'
  | none=>none
def BB (body:Env→aH→Option (Ex×Env×aH)):Nat→Env→aH→Option (Ex×Env×aH)
 | 0,_,_=>none
 |
  n+1,ρ,H=>match body ρ H with
  | some (.normal,aP,H')=>BB body n aP H'
  | r=>r
def dU (call:iB) (lo n:Nat):aE→Env→aH→Option (Ex×Env×aH)
 | .skip,ρ,H=>some (.normal,ρ,H)
 | .cT ops,ρ,H=>(jB call lo ops ρ H).map fun(aP,H')=>(.normal,aP,H')
 |
  .seq a b,ρ,H=>match dU call lo n a ρ H with
  | some (.normal,aP,H')=>dU call lo n b aP H'
  | r=>r
 |
  .cond c a b,ρ,H=>match ev ρ c with
  | .bool t=>if t then dU call lo n a ρ H else dU call lo n b ρ H
  | _=>none
 |
  .block id a,ρ,H=>match dU call lo n a ρ H with
  | some (.exit Wz,aP,H')=>if Wz=id then some (.normal,aP,H') else some (.exit Wz,aP,H')
  | r=>r
 | .loop a,ρ,H=>BB (dU call lo n a) n ρ H
 | .exit id,ρ,H=>some (.exit id,ρ,H)
 | .ret,ρ,H=>some (.ret,ρ,H)
def aaP (ρ:Env) (H:aH):DI→Option Value
 | .tmp t=>some (ρ t)
 | .cell t agg size=>rB agg size (ρ t) H
def Eo (ρ:Env) (H:aH):List DI→Option (List Value)
 | []=>some []
 |
  r::rs=>match aaP ρ H r,Eo ρ H rs with
  | some v,some vs=>some (v::vs)
  | _,_=>none
def uK (res:List DI) (ρ:Env) (H:aH):Option Value :=
 match Eo ρ H res with
 | some [v]=>some v
 | some vs=>some (.tuple vs.toArray)
 | none=>none
def acZ (args:List Value):Env:=fun k=>args.getD k undef
structure Dj where
 DB:Nat→Option (List Value→aH→Option Value)
 eff:Nat→Bool
abbrev Tab:=Nat→Option aZ
def oL (E:Dj) (T:Tab):Nat→iB
 | 0,_,_,_,_=>none
 |
  n+1,f,args,lo,H =>
  match E.DB f with
  | some p=>(p args H).map (·,H)
  |
   none=>match T f with
   | none=>none
   |
    some pf =>
    if args.length≤pf.ntmps then
     match dU (oL E T n) lo n pf.body (acZ args) H with
     | some (.normal,ρ,H') | some (.ret,ρ,H')=>(uK pf.res ρ H').map (·,H')
     | _=>none
    else none
def LT (n:Nat):Operand := .tmp n
def LI (n:Int):Operand := .const (.int .i64 n)
def LG:Operand := .const (.bool true)
def LF:Operand := .const (.bool false)
def LL (n:Nat):qN := .load false 1 (.tmp n)
def LK (n:Nat):qN := .load true 3 (.tmp n)
def LX (n k:Nat):qN := .ext (.tmp n) k
def LA (k n:Nat):qN := .faddr k (.tmp n)
def LO (d:Nat) (p:qN):PI:=⟨some d,p,none,false,[]⟩
def LQ (d:Nat) (p:qN):PI:=⟨some d,p,none,true,[]⟩
def LN (p:qN):PI:=⟨none,p,none,false,[]⟩
def LM (d s:Nat):PI:=⟨some d,.mv (.tmp s),none,false,[]⟩
def LY (g d:Nat) (p:qN):PI:=⟨some d,p,some (g,true),false,[]⟩
def LZ (g d:Nat) (p:qN):PI:=⟨some d,p,some (g,false),false,[]⟩
def LS (l:List PI) (c:aE):aE := .seq (.cT l) c
end Go.PM
namespace Go.PM
def Ga:TypeDesc→Bool
 | .struct _ | .array _ _=>true
 | _=>false
def oH (P:Program) (t:TypeId):Option (Bool×Nat×List Value×Nat) :=
 match P.info? t,P.underlying t with
 |
  some i,some u=>match i.zero with
  | some z=>some (Ga u,i.size,aV z,i.bytes)
  | none=>none
 | _,_=>none
def lT (P:Program) (t:TypeId):Option (Bool×Nat×List Value×Nat) :=
 match P.underlying t with
 | some (.slice e)=>oH P e
 | _=>none
def mU:Value→Bool
 | .bool _ | .int _ _ | .string _ | .pointer none | .slice none 0 0 | .nilFunc | .nilIface=>true
 | .agg cs=>cs.all fun | .bool _ | .int _ _ | .string _ | .pointer none | .slice none 0 0 | .nilFunc | .nilIface=>true | _=>false
 | .tuple vs=>vs.isEmpty
 | _=>false
def Tj:Operand→Bool
 | .tmp _ | .func _=>true
 | .const v=>mU v
 | .global _=>false
def zP (P:Program):Nat→List Field→Option (List CK)
 | _,[]=>some []
 |
  i,f::fs =>
  if f.name != "_"&&f.offset == i then
   match (P.info? f.type).map (·.size),P.underlying f.type,zP P (i+1) fs with
   | some 1,some (.int _),some ks=>some (.int::ks)
   | some 1,some .bool,some ks=>some (.bool::ks)
   | some 1,some .string,some ks=>some (.str::ks)
   | _,_,_=>none
  else none
def FU (P:Program) (t:TypeId):Option (List CK) :=
 match P.underlying t with
 | some (.struct fs)=>if P.stoodInHeld t||P.eqGuardType P.depth t then none else zP P 0 fs.toList
 | _=>none
def Tl:Operand→Bool
 | .const (.slice none 0 0)=>true
 | _=>false
def D4 (P:Program) (op:BinOp) (t:TypeId) (x y:Operand):Option qN :=
 match P.underlying t with
 | some (.int _) | some .string=>some (.bin op x y)
 |
  some .bool=>match op with
  | .eql=>some (.eqb false x y)
  | .neq=>some (.eqb true x y)
  | _=>none
 |
  some (.slice _)=>match op with
  | .eql=>if Tl y then some (.isnil false x) else none
  | .neq=>if Tl y then some (.isnil true x) else none
  | _=>none
 | some (.struct _)=>match op,FU P t with
   | .eql,some ks=>some (.eqagg false ks x y)
   | .neq,some ks=>some (.eqagg true ks x y)
   | _,_=>none
 | _=>none
def Od:TypeDesc→Bool
 | .slice _ | .string=>true
 | _=>false
def sG (P:Program) (b:Builtin) (args:Array Operand) (ts:Array TypeId):Option qN :=
 match b,args.toList,ts.toList with
 |
  .len,[x],t::_=>match P.underlying t with
  | some .string=>some (.slen x)
  | some (.slice _)=>some (.len x)
  | _=>none
 |
  .cap,[x],t::_=>match P.underlying t with
  | some (.slice _)=>some (.akY x)
  | _=>none
 | .min,[x,y],_=>some (.min x y)
 | .max,[x,y],_=>some (.max x y)
 |
  .append,[x,y],s::t::_=>match lT P s,P.underlying t with
  | some (_,size,zero,bytes),some (.int _)=>if zero.all iR&&zero.all mU&&1≤zero.length&&size == zero.length then some (.appz zero bytes x y) else none
  | some (_,size,zero,bytes),some d=>if Od d then (if size == zero.length then some (.app size bytes x y) else none) else none
  | _,_=>none
 |
  .copy,[x,y],t::_=>match lT P t with
  | some (_,size,_,_)=>some (.copy size x y)
  | _=>none
 |
  .clear,[x],t::_=>match lT P t with
  | some (_,size,zero,_)=>if zero.all iR&&zero.all mU&&size == zero.length&&1≤zero.length then some (.clear zero x) else none
  | _=>none
 | _,_,_=>none
def tG (P:Program) (o:Op):Option qN :=
 if o.operands.all Tj then
  match o with
  | .move x | .assign x=>some (.mv x)
  | .pick c a b=>some (.pick c a b)
  | .binOp op t x y _=>D4 P op t x y
  | .unOp op _ x=>some (.un op x)
  |
   .convert s d x=>match P.underlying s,P.underlying d with
   | some (.int _),some (.int k)=>some (.cvt k x)
   | some .string,some .string=>some (.cvs x)
   |
    some (.slice e),some .string=>match P.underlying e with
    | some (.int .u8)=>some (.b2s x)
    | _=>none
   | _,_=>none
  | .extract x i=>some (.ext x i)
  |
   .field t x i=>match P.underlying t with
   |
    some (.struct fs)=>match fs[i]? with
    | some f=>(oH P f.type).map fun(agg,size,_,_) => .fld agg f.offset size x
    | none=>none
   | _=>none
  |
   .build t parts=>match P.underlying t,oH P t with
   |
    some (.struct fs),some (_,_,zero,_) =>
    match fs.toList.mapM fun f=>(P.info? f.type).map fun i=>(f.offset,i.size) with
    | some places=>if zero.all mU then some (.build zero places parts.toList) else none
    | none=>none
   | _,_=>none
  | .nilCheck x=>some (.chk x)
  |
   .fieldAddr t x i=>match P.underlying t with
   |
    some (.struct fs)=>match fs[i]? with
    |
     some f=>match P.info? f.type with
     | some i=>if i.size=0 then none else some (.faddr f.offset x)
     | none=>none
    | none=>none
   | _=>none
  | .indexAddr t x i=>(lT P t).map fun(_,size,_,_) => .iaddr size x i
  |
   .index t x i=>match P.underlying t with
   | some .string=>some (.sidx x i)
   | _=>none
  |
   .slice t x lo hi mx=>match P.underlying t with
   | some .string=>if mx.isNone then some (.ssub x lo hi) else none
   | some (.slice e)=>(oH P e).map fun(_,size,_,_) => .sub size x lo hi mx
   | _=>none
  | .makeInterface _ _ | .panic _=>some .die
  | .makeFunc (.func f) first gU=>if first.isEmpty then some (.mkfn f gU.toList) else none
  | .load t p=>(oH P t).map fun(agg,size,_,_) => .load agg size p
  | .store t p v=>(P.info? t).map fun i => .store i.size p v
  |
   .alloc t=>match oH P t with
   | some (_,_,zero,_)=>if zero.all iR&&zero.all mU then some (.new zero) else none
   | none=>none
  | .box _ x=>some (.box x)
  |
   .makeSlice t l c=>match lT P t with
   | some (_,size,zero,bytes)=>if zero.all iR&&zero.all mU&&size == zero.length&&1≤size then some (.make zero bytes l c) else none
   | none=>none
  |
   .buildSlice t n parts=>match lT P t with
   | some (_,size,zero,_)=>if zero.all iR&&zero.all mU&&size == zero.length&&1≤size&&n*size≤16777216 then some (.lit zero n parts.toList) else none
   | none=>none
  | .call { callee := .builtin b,args,argTypes }=>sG P b args argTypes
  | .call { callee := .value (.func f),args,.. }=>some (.call f args.toList)
  | .call { callee := .value (.tmp t),args,.. }=>some (.callv (.tmp t) args.toList)
  | _=>none
 else none
inductive Cls where
 | pure | look | quiet | write
 deriving DecidableEq
def gW (E:Dj):qN→Cls
 | .load .. | .b2s _ => .look
 | .sub _ _ _ _ mx=>if mx.isSome then .quiet else .look
 | .new _ | .box _ | .make .. | .lit .. | .callv .. => .quiet
 | .call f _=>if E.eff f then .write else .quiet
 | .store .. | .app .. | .appz .. | .copy .. | .clear .. => .write
 | _ => .pure
def HO:qN→Option Operand
 | .load _ _ p=>some p
 | .sub _ x _ _ _=>some x
 | .b2s x=>some x
 | .store _ p _=>some p
 | .app _ _ x _=>some x
 | .appz _ _ x _=>some x
 | .copy _ x _=>some x
 | .clear _ x=>some x
 | _=>none
def AM (o:Oper) (M:List Nat):Nat :=
 o.after.toList.foldr (fun e s=>if Region.binds .any e then s ||| 2^e.on ||| M.getD e.on 0 else s) 0
def TA:List Oper→List Nat→List Nat
 | [],acc=>acc
 | o::os,acc=>TA os (acc++[AM o acc])
def tmpsOf (xs:Array Operand):List Nat:=xs.toList.filterMap fun | .tmp t=>some t | _=>none
def Ax (ops:List Oper) (o:Oper):List Nat :=
 tmpsOf o.op.operands++(match o.guard with | some (j,_)=>((ops[j]?).bind (·.dst)).toList | none=>[])
def ahead (M:List Nat) (i j:Nat):Bool:=(M.getD (Nat.max i j) 0).testBit (Nat.min i j)
def guardOf (ops:List Oper) (i:Nat) (o:Oper):Option (Option (Nat×Bool)) :=
 match o.guard with
 | none=>some none
 |
  some (j,want)=>if j<i then match (ops[j]?).bind (·.dst) with
   | some d=>some (some (d,want))
   | none=>none
  else none
def GH (ops:List Oper) (i j:Nat):Operand→Bool
 | .tmp t=>(ops.take j).drop i |>.all fun o=>o.dst != some t
 | _=>false
def conflicts (E:Dj) (ops:List Oper) (ps:List qN) (M:List Nat) (j:Nat) (pj:qN):Option (List (Operand×Operand)) :=
 (aLa j).foldr (fun i acc=>match acc,ps[i]? with
  |
   some l,some pi =>
   match gW E pi,gW E pj with
   |
    .look,.write | .write,.look =>
    if ahead M i j then some l
    else match HO pi,HO pj with
     | some a,some b=>if GH ops i j a then some ((a,b)::l) else none
     | _,_=>none
   | .write,.write | .quiet,.write | .write,.quiet=>if ahead M i j then some l else none
   | _,_=>some l
  | _,_=>none) (some [])
def aoC (mask:Nat):Option (Nat×Bool)→Bool
 | some (j,_)=>mask.testBit j
 | none=>true
def auU (n:Nat):Option Nat→Bool
 | some d=>decide (d<n)
 | none=>true
def XY (E:Dj) (ops:List Oper) (ps:List qN) (M:List Nat) (n:Nat) (draw:Bool) (i:Nat):Option PI :=
 match ops[i]?,ps[i]? with
 |
  some o,some p =>
  if auU n o.dst then
   match guardOf ops i o with
   | none=>none
   |
    some g =>
    if draw then
     if (o.after.toList.all fun e => !Region.binds .any e||decide (e.on<i))
      && aoC (M.getD i 0) o.guard
      && (
       (o.dst.toList++Ax ops o).all fun t=>(aLa ops.length).all fun k=>match ops[k]? with
       | some ok=>ok.dst != some t||k == i||ahead M i k
       | none=>true)
      && (M.getD i 0 == AM o M)
     then (conflicts E ops ps M i p).map fun cf=>{ dst:=o.dst,op:=p,g:=g,quiet:=(match gW E p with | .quiet=>true | _=>false),cf:=cf }
     else none
    else some { dst:=o.dst,op:=p,g:=g }
  else none
 | _,_=>none
def By (P:Program) (E:Dj) (n:Nat) (ops:Array Oper) (draw:Bool):Option (List PI) :=
 match ops.toList.mapM fun o=>tG P o.op with
 |
  some ps =>
  let M:=if draw then TA ops.toList [] else []
  (aLa ops.size).mapM fun i=>XY E ops.toList ps M n draw i
 | none=>none
def jP (P:Program) (E:Dj) (n:Nat):Code→Option aE
 | .skip=>some .skip
 | .region _ ops draw=>(By P E n ops draw).map .cT
 |
  .seq a b=>match jP P E n a,jP P E n b with
  | some a,some b=>some (.seq a b)
  | _,_=>none
 |
  .cond c a b=>if Tj c then match jP P E n a,jP P E n b with
   | some a,some b=>some (.cond c a b)
   | _,_=>none
  else none
 | .block id a=>(jP P E n a).map (.block id)
 | .loop a=>(jP P E n a).map .loop
 | .exit id=>some (.exit id)
 | .ret=>some .ret
 | _=>none
def Ol (P:Program) (E:Dj) (fn:Func):Option aZ :=
 match fn.body with
 | none=>none
 |
  some c =>
  if fn.name == "runtime.NumGoroutine" then none else
  match fn.results.toList.mapM fun | .tmp t=>some (.tmp t) | .cell t ty=>(oH P ty).map fun(agg,size,_,_) => .cell t agg size with
  | none=>none
  | some res=>(jP P E fn.ntmps c).map fun body=>{ ntmps:=fn.ntmps,res:=res,body:=body }
def U2 (P:Program) (E:Dj):Tab:=fun f=>(P.funcs[f]?).bind (Ol P E)
end Go.PM
namespace Go.PM
structure Loc where
 rb:Nat
 base:Nat
 gQ:Nat
 Tf:Nat
 T2:Bool
abbrev dS:=Nat→Option Loc
inductive RV (m:dS):Value→Value→Prop
 | bool (b:Bool):RV m (.bool b) (.bool b)
 | int (k:IntKind) (n:Int):RV m (.int k n) (.int k n)
 | str (s:ByteArray):RV m (.string s) (.string s)
 | akD:RV m (.pointer none) (.pointer none)
 | ptr (b o:Nat) (l:Loc) (h:m b=some l):RV m (.pointer (some ⟨b,o,none⟩)) (.pointer (some ⟨l.rb,l.base+o,none⟩))
 | M5:RV m (.slice none 0 0) (.slice none 0 0)
 | slice (b o n c:Nat) (l:Loc) (ra:Addr) (rc:Nat) (h:m b=some l) (hn:n≤c) (hc:c≤rc) (hx:l.T2=false→rc=c)
  (ha:rc=0∨(ra=⟨l.rb,l.base+o,none⟩∧l.base+o+rc*l.gQ≤l.Tf)):RV m (.slice (some ⟨b,o,none⟩) n c) (.slice (some ra) n rc)
 | nilFunc:RV m .nilFunc .nilFunc
 | nilIface:RV m .nilIface .nilIface
 | func (fn:Fn) (f g c d:Array Value) (h1:f.size=g.size) (h2:∀i,i<f.size→RV m (f.getD i undef) (g.getD i undef))
  (h3:c.size=d.size) (h4:∀i,i<c.size→RV m (c.getD i undef) (d.getD i undef)):RV m (.func fn f c) (.func fn g d)
 | agg (f g:Array Value) (h1:f.size=g.size) (h2:∀i,i<f.size→RV m (f.getD i undef) (g.getD i undef)):RV m (.agg f) (.agg g)
 | tuple (f g:Array Value) (h1:f.size=g.size) (h2:∀i,i<f.size→RV m (f.getD i undef) (g.getD i undef)):RV m (.tuple f) (.tuple g)
theorem RV.mono {m m':dS} (hm:∀b l,m b=some l→m' b=some l) {v r:Value} (h:RV m v r):RV m' v r:=by
 induction h with
 | bool b=>exact .bool b
 | int k n=>exact .int k n
 | str s=>exact .str s
 | akD=>exact .akD
 | ptr b o l h=>exact .ptr b o l (hm _ _ h)
 | M5=>exact .M5
 | slice b o n c l ra rc h hn hc hx ha=>exact .slice b o n c l ra rc (hm _ _ h) hn hc hx ha
 | nilFunc=>exact .nilFunc
 | nilIface=>exact .nilIface
 | func fn f g c d h1 _ h3 _ i2 i4=>exact .func fn f g c d h1 i2 h3 i4
 | agg f g h1 _ i2=>exact .agg f g h1 i2
 | tuple f g h1 _ i2=>exact .tuple f g h1 i2
theorem RV.undef (m:dS):RV m undef undef := .tuple _ _ rfl (fun i hi=>absurd hi (by simp))
def RL (m:dS) (xs ys:List Value):Prop:=xs.length=ys.length∧∀i,i<xs.length→RV m (xs.getD i Go.undef) (ys.getD i Go.undef)
theorem RL.mono {m m':dS} (hm:∀b l,m b=some l→m' b=some l) {xs ys:List Value} (h:RL m xs ys):RL m' xs ys :=
 ⟨h.1,fun i hi=>(h.2 i hi).mono hm⟩
theorem RL.nil (m:dS):RL m [] []:=⟨rfl,fun i hi=>absurd hi (by simp)⟩
theorem RL.cons {m:dS} {x y:Value} {xs ys:List Value} (h:RV m x y) (hs:RL m xs ys):RL m (x::xs) (y::ys):=by
 refine⟨by simp[hs.1],fun i hi => ?_⟩
 cases i with
 | zero=>simpa using h
 | succ i=>simpa using hs.2 i (by simpa using hi)
theorem RL.lG {m:dS} {x y:Value} {xs ys:List Value} (h:RL m (x::xs) (y::ys)):RV m x y∧RL m xs ys:=by
 refine⟨by simpa using h.2 0 (by simp),by simpa using h.1,fun i hi => ?_⟩
 simpa using h.2 (i+1) (by simpa using hi)
theorem RL.append {m:dS} {xs ys us vs:List Value} (h:RL m xs ys) (h':RL m us vs):RL m (xs++us) (ys++vs):=by
 induction xs generalizing ys with
 |
  nil =>
  cases ys with
  | nil=>simpa using h'
  | cons y ys=>exact absurd h.1 (by simp)
 |
  cons x xs ih =>
  cases ys with
  | nil=>exact absurd h.1 (by simp)
  | cons y ys=>exact RL.cons h.lG.1 (ih h.lG.2)
theorem RL.take {m:dS} {xs ys:List Value} (h:RL m xs ys) (n:Nat):RL m (xs.take n) (ys.take n):=by
 refine⟨by simp[h.1],fun i hi => ?_⟩
 simp only[List.length_take] at hi
 have:=h.2 i (by omega)
 simpa[aLb,List.getElem?_take,show i<n by omega] using this
theorem RL.drop {m:dS} {xs ys:List Value} (h:RL m xs ys) (n:Nat):RL m (xs.drop n) (ys.drop n):=by
 refine⟨by simp[h.1],fun i hi => ?_⟩
 simp only[List.length_drop] at hi
 have:=h.2 (n+i) (by omega)
 simpa[aLb,aLc] using this
theorem Cg (a:Array Value) (i:Nat):a.toList.getD i Go.undef=a.getD i Go.undef:=by simp
theorem RL.arr {m:dS} {f g:Array Value} (h1:f.size=g.size) (h2:∀i,i<f.size→RV m (f.getD i Go.undef) (g.getD i Go.undef)):RL m f.toList g.toList :=
 ⟨by simpa using h1,fun i hi=>by simpa using h2 i (by simpa using hi)⟩
theorem RL.avZ {m:dS} {xs ys:List Value} (h:RL m xs ys):RV m (.agg xs.toArray) (.agg ys.toArray) :=
 .agg _ _ (by simpa using h.1) (fun i hi=>by simpa using h.2 i (by simpa using hi))
theorem RL.ZT {m:dS} {xs ys:List Value} (h:RL m xs ys):RV m (.tuple xs.toArray) (.tuple ys.toArray) :=
 .tuple _ _ (by simpa using h.1) (fun i hi=>by simpa using h.2 i (by simpa using hi))
theorem RL.map {m:dS} {α:Type} {f g:α→Value}:∀ {l:List α},(∀x∈l,RV m (f x) (g x))→RL m (l.map f) (l.map g)
 | [],_=>RL.nil m
 | x::l,h=>RL.cons (h x (by simp)) (RL.map fun y hy=>h y (by simp[hy]))
theorem RV.aV {m:dS} {v r:Value} (h:RV m v r):RL m (aV v) (aV r):=by
 cases h with
 | agg f g h1 h2=>exact RL.arr h1 h2
 | _=>exact RL.cons (by first | exact .bool _ | exact .int _ _ | exact .str _ | exact .akD | (exact .ptr _ _ _ (by assumption)) | exact .M5 | (exact .slice _ _ _ _ _ _ _ (by assumption) (by assumption) (by assumption) (by assumption) (by assumption)) | exact .nilFunc | exact .nilIface | (exact .func _ _ _ _ _ (by assumption) (by assumption) (by assumption) (by assumption)) | (exact .tuple _ _ (by assumption) (by assumption))) (RL.nil m)
theorem RV.iR {m:dS} {v r:Value} (h:RV m v r):iR r=iR v:=by cases h<;>rfl
theorem RL.iR {m:dS} {xs ys:List Value} (h:RL m xs ys):ys.all PM.iR=xs.all PM.iR:=by
 induction xs generalizing ys with
 |
  nil =>
  cases ys with
  | nil=>rfl
  | cons y ys=>exact absurd h.1 (by simp)
 |
  cons x xs ih =>
  cases ys with
  | nil=>exact absurd h.1 (by simp)
  | cons y ys=>simp[h.lG.1.iR,ih h.lG.2]
theorem gZ (v:Value):v.cells.toList=aV v:=by cases v<;>rfl
theorem fQ (v:Value):v.cells.size=(aV v).length:=by rw[←gZ];simp
theorem St (v:Value):v.oneCell'=iR v:=by cases v<;>rfl
theorem RV.const {m:dS} {v:Value} (h:mU v=true):RV m v v:=by
 have one:∀u:Value,(match u with | .bool _ | .int _ _ | .string _ | .pointer none | .slice none 0 0 | .nilFunc | .nilIface=>true | _=>false)=true→RV m u u:=by
  intro u hu
  split at hu<;>first | exact .bool _ | exact .int _ _ | exact .str _ | exact .akD | exact .M5 | exact .nilFunc | exact .nilIface | cases hu
 unfold mU at h
 split at h
 case h_8 cs =>
  refine .agg _ _ rfl fun i hi=>one _ ?_
  have:=Array.all_eq_true.1 h i hi
  have e:cs.getD i Go.undef=cs[i]:=by simp[hi]
  rw[e]
  exact this
 case h_9 vs =>
  have:vs = #[]:=by simpa using h
  subst this
  exact RV.undef m
 all_goals first | exact .bool _ | exact .int _ _ | exact .str _ | exact .akD | exact .M5 | exact .nilFunc | exact .nilIface | cases h
theorem X6 {m:dS} {ρ:Env} {a:Act} {x:Operand} (hx:Tj x=true) (ht:∀t,x = .tmp t→RV m (ρ t) (a.tmps.getD t Go.undef)):RV m (ev ρ x) (a.eval x):=by
 cases x with
 | tmp t=>exact ht t rfl
 | const v=>exact RV.const hx
 | global g=>cases hx
 | func f=>exact .func _ _ _ _ _ rfl (fun i hi=>absurd hi (by simp)) rfl (fun i hi=>absurd hi (by simp))
def Live (H:aH) (b:Nat):Prop:=∃cs e p,H[b]? = some (.row cs e p)∧(cs≠[]∨p=true)
theorem Live.lt {H:aH} {b:Nat} (h:Live H b):b<H.length:=by
 obtain⟨cs,e,p,h,_⟩:=h
 exact(aLd.1 h).1
def atI:List (Nat×Array Value):=[]
 ++ [(3,(Lib.pow10Tab.map fun z=>Value.int .u64 z).toArray)]
def Sp (w:World):Prop:=∀x∈atI,∃e fz,w.heap[x.1]? = some (.cells x.2 e fz)
def ayX (m:dS) (L0:Nat) (H:aH) (w:World):Prop :=
 ∀x∈atI,(∃e fz,w.heap[x.1]? = some (.cells x.2 e fz))∧∀b l,L0≤b→m b=some l→Live H b→l.rb≠x.1
structure Rel (m:dS) (L0:Nat) (H:aH) (w:World):Prop where
 valid:∀b l,m b=some l→∃arr e fz,w.heap[l.rb]? = some (.cells arr e fz)∧arr.size=l.Tf∧(L0≤b→∀j,l.base≤j→j<l.Tf→¬(fz.1≤j∧j<fz.2))
 row:∀b l cs e p,m b=some l→H[b]? = some (.row cs e p)→l.gQ=e∧l.T2=p∧l.base+cs.length≤l.Tf ∧
  ∀i,i<cs.length→∃rv,w.cell? ⟨l.rb,l.base+i,none⟩=some rv∧RV m (cs.getD i Go.undef) rv∧iR (cs.getD i Go.undef)=true
 inj:∀b1 b2 l1 l2,L0≤b1→m b1=some l1→m b2=some l2→Live H b1→Live H b2→l1.rb=l2.rb→b1=b2
 Ff:ayX m L0 H w
structure Ext (lo:Nat) (H H':aH):Prop where
 len:H.length≤H'.length
 low:∀b,b<lo→b<H.length→H'[b]? = H[b]?
 liv:∀b,b<H.length→Live H' b→Live H b
theorem Ext.refl (lo:Nat) (H:aH):Ext lo H H:=⟨aLe _,fun _ _ _=>rfl,fun _ _ h=>h⟩
theorem Ext.trans {lo:Nat} {H H1 H2:aH} (h:Ext lo H H1) (h':Ext lo H1 H2):Ext lo H H2 :=
 ⟨aLf h.len h'.len,fun b hb hl=>(h'.low b hb (aLg hl h.len)).trans (h.low b hb hl),
  fun b hb hl=>h.liv b hb (h'.liv b (aLg hb h.len) hl)⟩
structure Trans (lo:Nat) (m:dS) (H:aH) (w:World) (m':dS) (H':aH) (w':World):Prop where
 ext:∀b l,m b=some l→m' b=some l
 new:∀b l,m' b=some l→m b=none→(H.length≤b∧b<H'.length) ∧
  (w.heap.size≤l.rb∨¬Live H' b∨∃b0 l0,lo≤b0∧m b0=some l0∧Live H b0∧l0.rb=l.rb)
 size:w.heap.size≤w'.heap.size
 cW:∀rb,rb<w.heap.size→(∀b l,lo≤b→m b=some l→Live H b→l.rb≠rb)→w'.heap[rb]? = w.heap[rb]?
 same:w'.os=w.os∧w'.output=w.output∧w'.tape=w.tape
theorem Trans.refl (lo:Nat) (m:dS) (H:aH) (w:World):Trans lo m H w m H w :=
 ⟨fun _ _ h=>h,fun b l h h'=>(by rw[h] at h';cases h'),aLe _,fun _ _ _=>rfl,rfl,rfl,rfl⟩
theorem Trans.trans {lo:Nat} {m m1 m2:dS} {H H1 H2:aH} {w w1 w2:World} (hf:∀b,H.length≤b→b<H2.length→m b=none)
  (e1:Ext lo H H1) (e2:Ext lo H1 H2) (h1:Trans lo m H w m1 H1 w1) (h2:Trans lo m1 H1 w1 m2 H2 w2):Trans lo m H w m2 H2 w2:=by
 have Er:∀b l,m b=some l→b<H2.length→b<H.length:=fun b l hm hb=>by
  rcases aLh b H.length with h | h
  ·exact h
  ·rw[hf b h hb] at hm;cases hm
 refine⟨fun b l h=>h2.ext _ _ (h1.ext _ _ h),fun b l h hn => ?_,aLf h1.size h2.size,fun rb BW hk => ?_,
  h2.same.1.trans h1.same.1,h2.same.2.1.trans h1.same.2.1,h2.same.2.2.trans h1.same.2.2⟩
 ·cases Oj:m1 b with
  |
   some l1 =>
   have:l1=l:=by have:=h2.ext _ _ Oj;rw[h] at this;injection this with this;exact this.symm
   subst this
   obtain⟨⟨ha,hb⟩,hc⟩:=h1.new b l1 Oj hn
   refine⟨⟨ha,aLg hb e2.len⟩,?_⟩
   rcases hc with hc | hc | hc
   ·exact .inl hc
   ·exact .inr (.inl fun hl=>hc (e2.liv b hb hl))
   ·exact .inr (.inr hc)
  |
   none =>
   obtain⟨⟨ha,hb⟩,hc⟩:=h2.new b l h Oj
   refine⟨⟨aLf e1.len ha,hb⟩,?_⟩
   rcases hc with hc | hc | ⟨b0,l0,eT,hm0,Ci,Ko⟩
   ·exact .inl (aLf h1.size hc)
   ·exact .inr (.inl hc)
   ·cases YM:m b0 with
    |
     some lb =>
     have:lb=l0:=by have:=h1.ext _ _ YM;rw[hm0] at this;injection this with this;exact this.symm
     subst this
     have bH:=Er b0 lb YM (aLg Ci.lt e2.len)
     exact .inr (.inr ⟨b0,lb,eT,YM,e1.liv b0 bH Ci,Ko⟩)
    |
     none =>
     obtain⟨_,hd⟩:=h1.new b0 l0 hm0 YM
     rcases hd with hd | hd | ⟨b1,l1,g1,g2,g3,g4⟩
     ·exact .inl (Ko▸hd)
     ·exact absurd Ci hd
     ·exact .inr (.inr ⟨b1,l1,g1,g2,g3,g4.trans Ko⟩)
 ·rw[h2.cW rb (aLg BW h1.size) ?_,h1.cW rb BW hk]
  intro b l eT Oj hl hr
  cases YM:m b with
  |
   some lb =>
   have:lb=l:=by have:=h1.ext _ _ YM;rw[Oj] at this;injection this with this;exact this.symm
   subst this
   have bH:=Er b lb YM (aLg hl.lt e2.len)
   exact hk b lb eT YM (e1.liv b bH hl) hr
  |
   none =>
   obtain⟨_,hd⟩:=h1.new b l Oj YM
   rcases hd with hd | hd | ⟨b0,l0,g1,g2,g3,g4⟩
   ·omega
   ·exact hd hl
   ·exact hk b0 l0 g1 g2 g3 (g4.trans hr)
end Go.PM
namespace Go.PM
section
variable {P:Program} {m:dS}
theorem aaE {op:BinOp} {t:TypeId} {x y:Operand} {v vx vy rx ry:Value} (hv:dO op vx vy=some v) (hx:RV m vx rx) (hy:RV m vy ry):∃rv,RV m v rv∧∀w,(do eqGuard op t x y rx ry;binOp op t rx ry:Sem Value).run P w = .ok rv w:=by
 unfold dO at hv
 split at hv
 ·cases hx;cases hy
  split at hv
  ·cases hv
  ·rename_i hb
   cases hv
   exact⟨_,.int _ _,fun w=>by
    show (if _ then _ else _:Sem Value).run P w=_
    rw[if_neg hb];rfl⟩
 ·cases hx;cases hy
  split at hv
  ·cases hv
  ·rename_i hb
   cases hv
   exact⟨_,.int _ _,fun w=>by
    show (if _ then _ else _:Sem Value).run P w=_
    rw[if_neg hb];rfl⟩
 ·cases hx;cases hy
  rename_i k a k' b _ _
  split at hv
  ·rename_i hk
   subst hk
   have e:∀(z:Sem Value),(if k≠k then (stuck "BinOp: operands of different kinds":Sem Value) else z)=z:=fun z=>if_neg (by simp)
   split at hv<;>first
    | (cases hv;done)
    | (cases hv;exact⟨_,.int _ _,fun w=>by
       show (if k≠k then _ else _:Sem Value).run P w=_
       rw[e];rfl⟩)
    | (cases hv;exact⟨_,.bool _,fun w=>by
       show (if k≠k then _ else _:Sem Value).run P w=_
       rw[e];rfl⟩)
    | (
      split at hv
      · cases hv
      · rename_i hb
        cases hv
        exact⟨_,.int _ _,fun w=>by
         show (if k≠k then _ else _:Sem Value).run P w=_
         rw[e]
         show (if b=0 then _ else _:Sem Value).run P w=_
         rw[if_neg hb];rfl⟩)
  ·cases hv
 ·cases hx;cases hy
  rename_i a b _ _
  split at hv<;>first
   | (cases hv;done)
   | (cases hv;exact⟨_,.bool _,fun w=>rfl⟩)
   | (
     split at hv
     ·cases hv
     ·rename_i hb
      cases hv
      exact⟨_,.str _,fun w=>by
       show (if _ then _ else _:Sem Value).run P w=_
       rw[if_neg hb];rfl⟩)
 ·cases hv
theorem aaA {neg:Bool} {t:TypeId} {x y:Operand} {a b:Bool} (h:P.underlying t=some .bool) (w:World) :
  (do eqGuard (if neg then .neq else .eql) t x y (.bool a) (.bool b);binOp (if neg then .neq else .eql) t (.bool a) (.bool b):Sem Value).run P w = .ok (.bool ((a == b) != neg)) w:=by
 cases neg
 ·show ((Op.equal t (.bool a) (.bool b)) >>= fun r=>pure (.bool r):Sem Value).run P w=_
  rw[Sem.run_bind,run_equal_bool w t a b h]
  cases a<;>cases b<;>rfl
 ·show ((Op.equal t (.bool a) (.bool b)) >>= fun r=>pure (.bool !r):Sem Value).run P w=_
  rw[Sem.run_bind,run_equal_bool w t a b h]
  cases a<;>cases b<;>rfl
theorem GL {neg:Bool} {t e:TypeId} {x y:Operand} {a:Option Addr} {n c:Nat} (h:P.underlying t=some (.slice e)) (w:World) :
  (do eqGuard (if neg then .neq else .eql) t x y (.slice a n c) (.slice none 0 0);binOp (if neg then .neq else .eql) t (.slice a n c) (.slice none 0 0):Sem Value).run P w = .ok (.bool (a.isNone != neg)) w:=by
 cases neg
 ·show ((Op.equal t (.slice a n c) (.slice none 0 0)) >>= fun r=>pure (.bool r):Sem Value).run P w=_
  rw[Sem.run_bind,run_equal_slice_nil w t e a n c h]
  cases a<;>rfl
 ·show ((Op.equal t (.slice a n c) (.slice none 0 0)) >>= fun r=>pure (.bool !r):Sem Value).run P w=_
  rw[Sem.run_bind,run_equal_slice_nil w t e a n c h]
  cases a<;>rfl
theorem Gq (t:TypeId) (d:TypeDesc) (h:P.underlying t=some d) (w:World):(isAgg t).run P w = .ok (Ga d) w:=by
 unfold isAgg
 rw[Sem.run_bind,run_underlying h,Result.andThen_ok]
 cases d<;>rfl
theorem run_sizeOf (t:TypeId) (i:TypeInfo) (h:P.info? t=some i) (w:World):(sizeOf t).run P w = .ok i.size w:=by
 simp[sizeOf,typeInfo,h]
theorem Ef (t:TypeId) (d:TypeDesc) (h:P.underlying t=some d) (hd:Ga d=false) (zs:Array Value) (i:Nat) (hz:i<zs.size) (w:World) :
  (part t zs i).run P w = .ok zs[i] w:=by
 unfold part
 rw[Sem.run_bind,Gq t d h w,Result.andThen_ok,hd]
 simp[hz]
theorem Sq (t:TypeId) (d:TypeDesc) (n:TypeInfo) (h:P.underlying t=some d) (hn:P.info? t=some n) (hd:Ga d=true) (zs:Array Value) (i:Nat) (w:World) :
  (part t zs i).run P w = .ok (.agg (zs.extract i (i+n.size))) w:=by
 unfold part
 rw[Sem.run_bind,Gq t d h w,Result.andThen_ok,hd]
 simp[run_sizeOf t n hn]
theorem PZ {a b:Value} {c:Bool} (h:yG .int a b=some c):∃k n n',a = .int k n∧b = .int k n'∧c=(n == n'):=by
 cases a<;>cases b<;>simp[yG] at h
 obtain⟨rfl,rfl⟩:=h
 exact⟨_,_,_,rfl,rfl,rfl⟩
theorem MD {a b:Value} {c:Bool} (h:yG .bool a b=some c):∃n n',a = .bool n∧b = .bool n'∧c=(n == n'):=by
 cases a<;>cases b<;>simp[yG] at h
 subst h
 exact⟨_,_,rfl,rfl,rfl⟩
theorem NU {a b:Value} {c:Bool} (h:yG .str a b=some c):∃n n',a = .string n∧b = .string n'∧c=(n == n'):=by
 cases a<;>cases b<;>simp[yG] at h
 subst h
 exact⟨_,_,rfl,rfl,rfl⟩
theorem Jn (d:Nat) (xs ys:Array Value) (w:World):∀(fs:List Field) (ks:List CK) (i:Nat) (r:Bool),
  zP P i fs=some ks→tA ks (xs.toList.drop i) (ys.toList.drop i)=some r→(Op.eqFields (d+1) xs ys fs).run P w = .ok r w
 |
  [],ks,i,r,hp,he=>by
  cases hp
  unfold tA at he
  split at he
  ·cases he;rfl
  ·rename_i h _ _;cases h
  ·cases he
 |
  f::fs,ks,i,r,hp,he=>by
  unfold zP at hp
  split at hp
  ·rename_i hno
   simp only[Bool.and_eq_true,bne_iff_ne,ne_eq,beq_iff_eq] at hno
   obtain⟨aoX,awK⟩:=hno
   have key:∀(k:CK) (ks':List CK) (dd:TypeDesc),P.underlying f.type=some dd→Ga dd=false→zP P (i+1) fs=some ks'→ks=k::ks' →
     (∀a b c,yG k a b=some c→(Op.equalIn (d+1) f.type a b).run P w = .ok c w)→(Op.eqFields (d+1) xs ys (f::fs)).run P w = .ok r w:=by
    intro k ks' dd hu hdd Gb hks hq
    subst hks
    have hlx:i<xs.size:=by
     rcases aLh i xs.size with h | h
     ·exact h
     ·rw[aLi (by simpa using h)] at he;cases he
    have hly:i<ys.size:=by
     rcases aLh i ys.size with h | h
     ·exact h
     ·rw[aLi (as:=ys.toList) (by simpa using h)] at he
      rw[aLj (by simpa using hlx)] at he
      cases he
    have e1:xs.toList.drop i=xs[i]::xs.toList.drop (i+1):=by rw[aLj (by simpa using hlx)];rfl
    have e2:ys.toList.drop i=ys[i]::ys.toList.drop (i+1):=by rw[aLj (by simpa using hly)];rfl
    rw[e1,e2,tA] at he
    simp only[Op.eqFields,aoX,ne_eq,not_false_eq_true,if_true,Sem.run_bind,awK,Ef f.type dd hu hdd xs i hlx,Ef f.type dd hu hdd ys i hly,Result.andThen_ok]
    cases hc:yG k xs[i] ys[i] with
    | none=>rw[hc] at he;cases he
    |
     some b =>
     rw[hq _ _ b hc]
     cases b
     ·rw[hc] at he
      cases he
      rfl
     ·rw[hc] at he
      simp only[Result.andThen_ok,Bool.not_true,Bool.false_eq_true,if_false]
      exact Jn d xs ys w fs ks' (i+1) r Gb he
   split at hp
   ·rename_i ks' _ hu Gb
    cases hp
    refine key .int ks' _ hu rfl Gb rfl fun a b c h => ?_
    obtain⟨k,n,n',rfl,rfl,rfl⟩:=PZ h
    exact run_equalIn_int w d f.type _ _ _ _ hu
   ·rename_i ks' _ hu Gb
    cases hp
    refine key .bool ks' _ hu rfl Gb rfl fun a b c h => ?_
    obtain⟨n,n',rfl,rfl,rfl⟩:=MD h
    exact run_equalIn_bool w d f.type _ _ hu
   ·rename_i ks' _ hu Gb
    cases hp
    refine key .str ks' _ hu rfl Gb rfl fun a b c h => ?_
    obtain⟨n,n',rfl,rfl,rfl⟩:=NU h
    simp[Op.equalIn,run_underlying hu]
   ·cases hp
  ·cases hp
end
end Go.PM
namespace Go.PM
section
variable {P:Program} {m:dS}
theorem Yq {k:CK} {a b a' b':Value} {c:Bool} (ha:RV m a a') (hb:RV m b b') (h:yG k a b=some c):yG k a' b'=some c:=by
 cases k
 ·obtain⟨k,n,n',rfl,rfl,rfl⟩:=PZ h
  cases ha;cases hb;exact h
 ·obtain⟨n,n',rfl,rfl,rfl⟩:=MD h
  cases ha;cases hb;exact h
 ·obtain⟨n,n',rfl,rfl,rfl⟩:=NU h
  cases ha;cases hb;exact h
theorem Wo:∀ {ks:List CK} {xs ys LB ys':List Value} {r:Bool},RL m xs LB→RL m ys ys'→tA ks xs ys=some r→tA ks LB ys'=some r:=by
 intro ks
 induction ks with
 |
  nil =>
  intro xs ys LB ys' r hx hy h
  cases xs with
  | cons x xs=>cases ys<;>cases h
  |
   nil =>
   cases ys with
   | cons y ys=>cases h
   |
    nil =>
    have e1:LB=[]:=aLk hx.1.symm
    have e2:ys'=[]:=aLk hy.1.symm
    subst e1;subst e2;exact h
 |
  cons k ks ih =>
  intro xs ys LB ys' r hx hy h
  cases xs with
  | nil=>cases ys<;>cases h
  |
   cons x xs =>
   cases ys with
   | nil=>cases h
   |
    cons y ys =>
    cases LB with
    | nil=>exact absurd hx.1 (by simp)
    |
     cons x' LB =>
     cases ys' with
     | nil=>exact absurd hy.1 (by simp)
     |
      cons y' ys' =>
      rw[tA] at h ⊢
      cases hc:yG k x y with
      | none=>rw[hc] at h;cases h
      |
       some c =>
       rw[hc] at h
       rw[Yq hx.lG.1 hy.lG.1 hc]
       cases c
       ·exact h
       ·exact ih hx.lG.2 hy.lG.2 h
theorem Ra {neg:Bool} {t:TypeId} {x y:Operand} {a b:Array Value} {ks:List CK} {r:Bool} (h:FU P t=some ks) (he:tA ks a.toList b.toList=some r) (w:World) :
  (do eqGuard (if neg then .neq else .eql) t x y (.agg a) (.agg b);binOp (if neg then .neq else .eql) t (.agg a) (.agg b):Sem Value).run P w = .ok (.bool (r != neg)) w:=by
 unfold FU at h
 split at h
 ·rename_i fs hu
  split at h
  ·cases h
  ·rename_i hg
   simp only[Bool.or_eq_true,not_or,Bool.not_eq_true] at hg
   have hfo:P.fieldsOf t=fs:=by simp[Program.fieldsOf,hu]
   have hh:(Op.equal t (.agg a) (.agg b)).run P w = .ok r w:=by
    show (Op.equalIn (9998+1+1) t (.agg a) (.agg b)).run P w=_
    rw[run_equalIn_struct w (9998+1) t a b (by rw[hfo];exact hu) hg.1,hfo]
    exact Jn 9998 a b w fs.toList ks 0 r h (by simpa using he)
   have hgd:∀op,(eqGuard op t x y (.agg a) (.agg b)).run P w = .ok () w:=by
    intro op
    cases op<;>first | rfl | (show ((program >>= fun p=>program >>= fun q=>_):Sem Unit).run P w=_;simp[hg.2])
   rw[Sem.run_bind,hgd,Result.andThen_ok]
   cases neg
   ·show ((Op.equal t (.agg a) (.agg b)) >>= fun r=>pure (.bool r):Sem Value).run P w=_
    rw[Sem.run_bind,hh]
    cases r<;>rfl
   ·show ((Op.equal t (.agg a) (.agg b)) >>= fun r=>pure (.bool !r):Sem Value).run P w=_
    rw[Sem.run_bind,hh]
    cases r<;>rfl
 ·cases h
theorem ayE {op:UnOp} {v vx rx:Value} (hv:pun op vx=some v) (hx:RV m vx rx):∃rv,RV m v rv∧∀w,(Op.unary op rx).run P w = .ok rv w:=by
 unfold pun at hv
 split at hv
 ·cases hx;cases hv;exact⟨_,.int _ _,fun w=>rfl⟩
 ·cases hx;cases hv;exact⟨_,.bool _,fun w=>rfl⟩
 ·cases hv
theorem RL.getElem? {xs ys:List Value} (h:RL m xs ys) (i:Nat) (v:Value) (hv:xs[i]? = some v):∃r,ys[i]? = some r∧RV m v r:=by
 have hi:=(aLd.1 hv).1
 have hr:=h.2 i hi
 have qK:i<ys.length:=h.1▸hi
 refine⟨ys[i],aLl qK,?_⟩
 simp only[aLb,hv,aLl qK,Option.getD_some] at hr
 exact hr
theorem aqM {t:TypeId} {fs:Array Field} {i:Nat} {f:Field} {agg:Bool} {size:Nat} {z:List Value} {by_:Nat} {v:Value} {cs rs:Array Value} (hu:P.underlying t=some (.struct fs)) (hf:fs[i]? = some f)
  (ht:oH P f.type=some (agg,size,z,by_)) (hv:(if agg then (if f.offset+size≤cs.size then some (Value.agg (cs.extract f.offset (f.offset+size))) else none) else cs[f.offset]?)=some v)
  (hr:RL m cs.toList rs.toList):∃rv,RV m v rv∧∀w,(Instr.field t (.agg rs) i).run P w = .ok rv w:=by
 unfold oH at ht
 split at ht
 ·rename_i n d hn hd
  split at ht
  ·rename_i z' hz
   cases ht
   have sS:∀w,(Instr.field t (.agg rs) i).run P w=(part f.type rs f.offset).run P w:=by
    intro w
    unfold Instr.field
    rw[Sem.run_bind,run_underlying hu,Result.andThen_ok]
    simp[hf,asAgg]
   cases ha:Ga d with
   |
    true =>
    rw[ha] at hv
    simp only[if_true] at hv
    split at hv
    ·rename_i hb
     cases hv
     refine⟨.agg (rs.extract f.offset (f.offset+n.size)),?_,fun w=>by rw[sS,Sq f.type d n hd hn ha]⟩
     have h1:rs.size=cs.size:=by simpa using hr.1.symm
     refine .agg _ _ (by simp[h1]) fun j hj => ?_
     simp only[Array.size_extract] at hj
     have:=hr.2 (f.offset+j) (by simp;omega)
     simp only[aLm,Array.getElem?_extract]
     simpa[show j<min (f.offset+n.size) cs.size-f.offset by omega,show j<min (f.offset+n.size) rs.size-f.offset by omega] using this
    ·cases hv
   |
    false =>
    rw[ha] at hv
    simp only[Bool.false_eq_true,if_false] at hv
    obtain⟨r,h1,h2⟩:=hr.getElem? f.offset v (by simpa using hv)
    obtain⟨bH,he⟩:=aLn.1 (show rs[f.offset]? = some r by simpa using h1)
    exact⟨r,h2,fun w=>by rw[sS,Ef f.type d hd ha rs f.offset bH,he]⟩
  ·cases ht
 ·cases ht
theorem adU (l:List Value):∀(off j:Nat) (cs:Array Value),off+j+l.length≤cs.size →
  ((l.zipIdx j).foldl (fun(cs:Array Value) (x:Value×Nat)=>cs.setIfInBounds (off+x.2) x.1) cs).toList=cs.toList.take (off+j)++l++cs.toList.drop (off+j+l.length):=by
 induction l with
 | nil=>intro off j cs h;simp
 |
  cons x l ih =>
  intro off j cs h
  simp only[aLo] at h
  simp only[List.zipIdx_cons,List.foldl_cons]
  rw[ih off (j+1) _ (by simp;omega)]
  simp only[Array.toList_setIfInBounds,aLo]
  have bH:off+j<cs.toList.length:=by simp;omega
  have e1:(cs.toList.set (off+j) x).take (off+(j+1))=cs.toList.take (off+j)++[x]:=by
   rw[show off+(j+1)=off+j+1 by omega,List.take_add_one,List.take_set]
   have:(cs.toList.set (off+j) x)[off+j]? = some x:=by simp[List.getElem?_set];simpa using bH
   rw[this,List.set_eq_of_length_le (by simp;omega)]
   rfl
  have e2:(cs.toList.set (off+j) x).drop (off+(j+1)+l.length)=cs.toList.drop (off+j+(l.length+1)):=by
   rw[List.drop_set]
   rw[if_pos (by omega)]
   congr 1
   omega
  rw[e1,e2]
  simp
theorem UC (places:List (Nat×Nat)) (place:Nat→Option (Nat×Nat)) (Qc:∀i q,places[i]? = some q→place i=some q):∀(ps qs:List (Nat×Value)) (cs:List Value) (rs:Array Value) (out:List Value),
  ps.map (·.1)=qs.map (·.1)→RL m (ps.map (·.2)) (qs.map (·.2))→RL m cs rs.toList→Aq places cs ps=some out→∃PS,Instr.fill place rs qs=some PS∧RL m out PS.toList:=by
 intro ps
 induction ps with
 |
  nil =>
  intro qs cs rs out hi hv hc h
  cases qs with
  | cons q qs=>cases hi
  | nil=>cases h;exact⟨rs,rfl,hc⟩
 |
  cons p ps ih =>
  intro qs cs rs out hi hv hc h
  cases qs with
  | nil=>cases hi
  |
   cons q qs =>
   obtain⟨i,v⟩:=p
   obtain⟨i',r⟩:=q
   simp only[List.map_cons,List.cons.injEq] at hi
   obtain⟨rfl,hi⟩:=hi
   simp only[List.map_cons] at hv
   obtain⟨hvr,Gb⟩:=hv.lG
   rw[Aq] at h
   rw[Instr.fill]
   cases hp:places[i]? with
   | none=>rw[hp] at h;cases h
   |
    some os =>
    obtain⟨off,size⟩:=os
    rw[hp] at h
    rw[Qc i _ hp]
    simp only at h ⊢
    split at h
    ·rename_i hs
     have hl:(aV r).length=(aV v).length:=hvr.aV.1.symm
     have EX:rs.size=cs.length:=by simpa using hc.1.symm
     have Wm:¬((decide (r.cells.size≠size)||decide (off+r.cells.size>rs.size))=true):=by
      rw[fQ,hl,hs.1,EX]
      simp
      omega
     rw[if_neg (by simpa using Wm)]
     refine ih qs _ _ out hi Gb ?_ h
     have hr:r.cells.zipIdx.foldl (fun(cs:Array Value) (x:Value×Nat)=>cs.setIfInBounds (off+x.2) x.1) rs=(((aV r).zipIdx 0).foldl (fun(cs:Array Value) (x:Value×Nat)=>cs.setIfInBounds (off+x.2) x.1) rs):=by
      rw[←gZ,←Array.foldl_toList,Array.toList_zipIdx]
     have aBQ:=adU (aV r) off 0 rs (by rw[hl,hs.1,EX];omega)
     show RL m _ (r.cells.zipIdx.foldl (fun(cs:Array Value) (x:Value×Nat)=>cs.setIfInBounds (off+x.2) x.1) rs).toList
     rw[hr,aBQ]
     simp only[Nat.add_zero]
     rw[hl,hs.1]
     exact((hc.take off).append hvr.aV).append (hc.drop (off+size))
    ·cases h
theorem Tg (places:List (Nat×Nat)):∀(ps:List (Nat×Value)) (cs out:List Value),Aq places cs ps=some out→out.length=cs.length:=by
 intro ps
 induction ps with
 | nil=>intro cs out h;cases h;rfl
 |
  cons p ps ih =>
  intro cs out h
  obtain⟨i,v⟩:=p
  rw[Aq] at h
  split at h
  ·cases h
  ·split at h
   ·rename_i hs
    rw[ih _ _ h]
    simp only[aLp,List.length_take,List.length_drop,hs.1]
    omega
   ·cases h
end
end Go.PM
namespace Go.PM
section
variable {P:Program} {m:dS}
def RO (m:dS):Option Value→Option Value→Prop
 | none,none=>True
 | some v,some r=>RV m v r
 | _,_=>False
theorem adY {k:IntKind} {i:Int} {y:Nat} {code:BoundsCode} (h:0≤i∧i≤y) (w:World):(Instr.sliceBound (.int k i) y code).run P w = .ok i.toNat w:=by
 simp[Instr.sliceBound,asIntOf,h.1,h.2]
theorem rO {v v':Option Value} {d:Option Nat} {top k:Nat} (h:fM v d top=some k) (hv:RO m v v') :
  (v=none∧v'=none∧d=some k)∨(∃u r,v=some u∧v'=some r∧k≤top∧∀azO,top≤azO→∀code w,(Instr.sliceBound r azO code).run P w = .ok k w):=by
 cases v with
 |
  none =>
  cases v' with
  | some r=>exact hv.elim
  | none=>exact .inl ⟨rfl,rfl,h⟩
 |
  some u =>
  cases v' with
  | none=>exact hv.elim
  |
   some r =>
   have hr:RV m u r:=hv
   refine .inr ⟨u,r,rfl,rfl,?_⟩
   cases hr<;>simp only[fM] at h<;>try (cases h;done)
   split at h
   ·rename_i hb
    cases h
    exact⟨by omega,fun azO ht code w=>adY ⟨hb.1,by omega⟩ w⟩
   ·cases h
theorem ajZ {t:TypeId} {s:ByteArray} {lo hi fV qK:Option Value} {l h:Nat} (hu:P.underlying t=some .string) (hs:Cl lo hi s.size=some (l,h))
  (hl:RO m lo fV) (hh:RO m hi qK) (w:World):(Instr.sliceAt t (.string s) fV qK none).run P w = .ok (.string (s.extract l h)) w:=by
 have key:(Instr.sliceBounds false s.size s.size fV qK none).run P w = .ok (l,h,s.size) w:=by
  unfold Cl at hs
  cases h1:fM hi (some s.size) s.size with
  | none=>rw[h1] at hs;cases hs
  |
   some h' =>
   rw[h1] at hs
   simp only at hs
   cases h2:fM lo (some 0) h' with
   | none=>rw[h2] at hs;cases hs
   |
    some l' =>
    rw[h2] at hs
    cases hs
    rcases rO (P:=P) h1 hh with⟨_,rfl,e⟩ | ⟨_,r,_,rfl,_,hr⟩<;>rcases rO (P:=P) h2 hl with⟨_,rfl,e'⟩ | ⟨_,r',_,rfl,_,JB⟩
    ·cases e;cases e';rfl
    ·cases e;simp[Instr.sliceBounds,JB _ (aLe _)]
    ·cases e';simp[Instr.sliceBounds,hr _ (aLe _)]
    ·simp[Instr.sliceBounds,hr _ (aLe _),JB _ (aLe _)]
 have h1:(Instr.sliceAt t (.string s) fV qK none).run P w=(Instr.slice t (.string s) fV qK none).run P w:=by
  unfold Instr.sliceAt
  rw[Sem.run_bind,run_underlying hu,Result.andThen_ok]
 rw[h1]
 unfold Instr.slice
 rw[Sem.run_bind,run_underlying hu,Result.andThen_ok]
 simp[key]
theorem fC {s:Sem Value} {v:Value} {w w':World} (h:s.run P w = .ok v w'):(do pure (.value (←s)):Sem Next).run P w = .ok (.value v) w':=by
 rw[Sem.run_bind,h];rfl
theorem kJ {t:TypeId} {agg:Bool} {size:Nat} {z:List Value} {n:Nat} (h:oH P t=some (agg,size,z,n)) :
  ∃i d zz,P.info? t=some i∧P.underlying t=some d∧i.zero=some zz∧agg=Ga d∧size=i.size∧z=aV zz∧n=i.bytes:=by
 unfold oH at h
 split at h
 ·rename_i i d hi hd
  split at h
  ·rename_i zz hz
   cases h
   exact⟨i,d,zz,hi,hd,hz,rfl,rfl,rfl,rfl⟩
  ·cases h
 ·cases h
theorem kZ {t:TypeId} {agg:Bool} {size:Nat} {z:List Value} {n:Nat} (h:lT P t=some (agg,size,z,n)) :
  ∃e,P.underlying t=some (.slice e)∧oH P e=some (agg,size,z,n):=by
 unfold lT at h
 split at h
 ·rename_i e he;exact⟨e,he,h⟩
 ·cases h
theorem acC {t e:TypeId} {i0:TypeInfo} {b o n c:Nat} {k:IntKind} {i:Int} {r:Value} (hu:P.underlying t=some (.slice e)) (hi0:P.info? e=some i0) (hr:RV m (.slice (some ⟨b,o,none⟩) n c) r) (h:0≤i∧i<n) :
  ∃rv,RV m (.pointer (some ⟨b,o+i.toNat*i0.size,none⟩)) rv∧∀w,(Instr.indexAt t r (.int k i)).run P w = .ok rv w:=by
 cases hr with
 |
  slice _ _ _ _ l ra rc hm hn hc hx ha =>
  rcases ha with ha | ⟨rfl,ha⟩
  ·omega
  ·have e1:(⟨l.rb,l.base+o,none⟩:Addr).add (i.toNat*i0.size)=⟨l.rb,l.base+(o+i.toNat*i0.size),none⟩:=by
    unfold Addr.add
    split
    ·rename_i h0;simp[h0]
    ·simp[aLq]
   refine⟨_,.ptr b _ l hm,fun w => ?_⟩
   simp[Instr.indexAt,asIntOf,run_underlying hu,h.1,h.2,run_sizeOf e i0 hi0,e1]
theorem acF {t:TypeId} {fs:Array Field} {f:Field} {j b o:Nat} {i0:TypeInfo} {r:Value} (hu:P.underlying t=some (.struct fs)) (hf:fs[j]? = some f) (hi0:P.info? f.type=some i0) (hs:i0.size≠0)
  (hr:RV m (.pointer (some ⟨b,o,none⟩)) r):∃rv,RV m (.pointer (some ⟨b,o+f.offset,none⟩)) rv∧∀w,(Instr.fieldAt t r j).run P w = .ok rv w:=by
 cases hr with
 |
  ptr _ _ l hm =>
  have e1:(⟨l.rb,l.base+o,none⟩:Addr).add f.offset=⟨l.rb,l.base+(o+f.offset),none⟩:=by
   unfold Addr.add
   split
   ·rename_i h0;simp[h0]
   ·simp[aLq]
  refine⟨_,.ptr b _ l hm,fun w => ?_⟩
  unfold Instr.fieldAt
  rw[Sem.run_bind,run_underlying hu,Result.andThen_ok]
  simp[hf,Instr.sureAddr,fieldPlace,run_sizeOf f.type i0 hi0,hs,e1]
theorem alD {t:TypeId} {s:ByteArray} {k:IntKind} {i:Int} (hu:P.underlying t=some .string) (h:0≤i∧i<s.size) (w:World) :
  (Instr.index t (.string s) (.int k i)).run P w = .ok (.int .u8 ((s.data.toList.getD i.toNat 0).toNat:Int)) w:=by
 have bH:i.toNat<s.size:=by omega
 have e:s[i.toNat]? = some s[i.toNat]:=by simp[bH]
 have e2:s.data.toList.getD i.toNat 0=s[i.toNat]:=by
  have:i.toNat<s.data.toList.length:=by simpa using bH
  simp[aLb,aLl this]
  rfl
 unfold Instr.index
 rw[Sem.run_bind]
 simp only[asIntOf,Sem.run_pure,Result.andThen_ok,Sem.run_bind,run_underlying hu,h.1,if_true,e,e2]
end
end Go.PM
namespace Go.PM
section
variable {P:Program} {m:dS}
theorem RO.map {ρ:Env} {a:Act} {x:Option Operand} (h:∀y,x=some y→RV m (ev ρ y) (a.eval y)):RO m (x.map (ev ρ)) (x.map a.eval):=by
 cases x with
 | none=>trivial
 | some y=>exact h y rfl
theorem Vt {y:Operand} (h:Tl y=true):y = .const (.slice none 0 0):=by
 unfold Tl at h
 split at h
 ·rfl
 ·cases h
theorem UN {op:BinOp} {t:TypeId} {x y:Operand} {po:qN} {ρ:Env} {a:Act} {v:Value} (hp:D4 P op t x y=some po) (hv:kA po ρ=some v)
  (hx:RV m (ev ρ x) (a.eval x)) (hy:RV m (ev ρ y) (a.eval y)) :
  ∃rv,RV m v rv∧∀w,(do eqGuard op t x y (a.eval x) (a.eval y);binOp op t (a.eval x) (a.eval y):Sem Value).run P w = .ok rv w:=by
 unfold D4 at hp
 split at hp
 ·cases hp;exact aaE hv hx hy
 ·cases hp;exact aaE hv hx hy
 ·rename_i hu
  split at hp<;>first | (cases hp;done) | skip
  all_goals
   cases hp
   simp only[kA] at hv
   generalize ev ρ x=vx at hx hv
   generalize ev ρ y=vy at hy hv
   generalize a.eval x=rx at hx ⊢
   generalize a.eval y=ry at hy ⊢
   split at hv
   ·cases hx;cases hy;cases hv
    first | exact⟨_,.bool _,fun w=>aaA (neg:=false) hu w⟩ | exact⟨_,.bool _,fun w=>aaA (neg:=true) hu w⟩
   ·cases hv
 ·rename_i e hu
  split at hp<;>first | (cases hp;done) | skip
  all_goals
   split at hp
   ·rename_i hn
    cases hp
    have hy0:=Vt hn
    subst hy0
    simp only[kA] at hv
    generalize ev ρ x=vx at hx hv
    show ∃rv,RV m v rv∧∀w,(do eqGuard _ t x _ (a.eval x) (.slice none 0 0);binOp _ t (a.eval x) (.slice none 0 0):Sem Value).run P w = .ok rv w
    generalize a.eval x=rx at hx ⊢
    split at hv
    ·cases hv
     cases hx
     first | exact⟨_,.bool _,fun w=>GL (neg:=false) hu w⟩ | exact⟨_,.bool _,fun w=>GL (neg:=true) hu w⟩
    ·cases hv
     cases hx
     first | exact⟨_,.bool _,fun w=>GL (neg:=false) hu w⟩ | exact⟨_,.bool _,fun w=>GL (neg:=true) hu w⟩
    ·cases hv
   ·cases hp
 ·split at hp<;>first | (cases hp;done) | skip
  all_goals
   rename_i ks hks
   cases hp
   simp only[kA] at hv
   generalize ev ρ x=vx at hx hv
   generalize ev ρ y=vy at hy hv
   generalize a.eval x=rx at hx ⊢
   generalize a.eval y=ry at hy ⊢
   split at hv
   ·rename_i f g
    cases hx with
    |
     agg _ f' h1 h2 =>
     cases hy with
     |
      agg _ g' h3 h4 =>
      cases hc:tA ks f.toList g.toList with
      | none=>rw[hc] at hv;cases hv
      |
       some r =>
       rw[hc] at hv
       cases hv
       have W8:=Wo (RL.arr h1 h2) (RL.arr h3 h4) hc
       first | exact⟨_,.bool _,fun w=>Ra (neg:=false) hks W8 w⟩ | exact⟨_,.bool _,fun w=>Ra (neg:=true) hks W8 w⟩
   ·cases hv
 ·cases hp
theorem adI {t:TypeId} {fs:Array Field} {z:List Value} {agg:Bool} {size n:Nat} {places:List (Nat×Nat)} {parts:List (Nat×Operand)} {ρ:Env} {a:Act} {cs:List Value}
  (hu:P.underlying t=some (.struct fs)) (ht:oH P t=some (agg,size,z,n)) (hz:z.all mU=true)
  (hp:fs.toList.mapM (fun f=>(P.info? f.type).map fun i=>(f.offset,i.size))=some places)
  (hf:Aq places z (parts.map fun(i,x)=>(i,ev ρ x))=some cs) (hr:∀p∈parts,RV m (ev ρ p.2) (a.eval p.2)) :
  ∃rv,RV m (.agg cs.toArray) rv∧∀w,(Instr.build t (parts.toArray.map fun(i,x)=>(i,a.eval x))).run P w = .ok rv w:=by
 obtain⟨i,d,zz,hi,hd,KU,rfl,rfl,rfl,rfl⟩:=kJ ht
 have Qc:∀(l:List Field) (ps:List (Nat×Nat)),l.mapM (fun f=>(P.info? f.type).map fun i=>(f.offset,i.size))=some ps →
   ∀w,(l.mapM (fun f=>do pure (f.offset,←sizeOf f.type)):Sem (List (Nat×Nat))).run P w = .ok ps w:=by
  intro l
  induction l with
  | nil=>intro ps h w;cases h;rfl
  |
   cons f l ih =>
   intro ps h w
   simp only[List.mapM_cons,Option.pure_def,Option.bind_eq_bind] at h
   cases h1:P.info? f.type with
   | none=>rw[h1] at h;cases h
   |
    some j =>
    rw[h1] at h
    simp only[Option.map_some,Option.bind_some] at h
    cases h2:l.mapM (fun f=>(P.info? f.type).map fun i=>(f.offset,i.size)) with
    | none=>rw[h2] at h;cases h
    |
     some qs =>
     rw[h2] at h
     cases h
     simp only[List.mapM_cons,Sem.run_bind,run_sizeOf f.type j h1,Result.andThen_ok,Sem.run_pure,ih qs h2 w]
 have hzr:RL m (aV zz) (aV zz):=by
  refine⟨rfl,fun j hj => ?_⟩
  have hm:(aV zz)[j]∈aV zz:=aLr hj
  have:=RV.const (m:=m) (aLs.1 hz _ hm)
  simpa[aLb,aLl hj] using this
 obtain⟨PS,h1,h2⟩:=UC (m:=m) places (places[·]?) (fun _ _ h=>h) (parts.map fun(i,x)=>(i,ev ρ x)) (parts.map fun(i,x)=>(i,a.eval x)) (aV zz) zz.cells cs
  (by simp[aLt]) (by simpa[aLt] using RL.map (l:=parts) (f:=fun p=>ev ρ p.2) (g:=fun p=>a.eval p.2) hr) (by rw[gZ];exact hzr) hf
 refine⟨.agg PS,RL.avZ h2,fun w => ?_⟩
 unfold Instr.build
 have azC:(fs.mapM fun f=>do pure (f.offset,←sizeOf f.type):Sem (Array (Nat×Nat))).run P w = .ok places.toArray w:=by
  rw[←Array.toArray_toList (xs:=fs),List.mapM_toArray]
  rw[Sem.run_map,Qc _ _ hp]
  rfl
 simp only[Sem.run_bind,zeroValue,typeInfo,run_program,Result.andThen_ok,hi,Sem.run_pure,KU,run_underlying hu,azC]
 have e:(Array.map (fun x:Nat×Operand=>(x.1,a.eval x.2)) parts.toArray).toList=parts.map fun(i,x)=>(i,a.eval x):=by simp
 have e2:(fun x:Nat=>(places.toArray)[x]?)=(fun x=>places[x]?):=by funext x;simp
 simp only[e2]
 have h1':Instr.fill (fun x=>places[x]?) zz.cells (Array.map (fun x:Nat×Operand=>(x.1,a.eval x.2)) parts.toArray).toList=some PS:=by rw[e];exact h1
 simp only[h1']
 rfl
theorem Ty (f:Operand→Value) (x:Operand):(#[x]:Array Operand).map f = #[f x]:=by simp
theorem NJ (f:Operand→Value) (x y:Operand):(#[x,y]:Array Operand).map f = #[f x,f y]:=by simp
theorem Nf {b:Builtin} {args:Array Operand} {ts:Array TypeId} {ty:TypeId} {cs:Array Bool} {po:qN} {ρ:Env} {a:Act} {v:Value} (hp:sG P b args ts=some po) (hv:kA po ρ=some v)
  (hr:∀x∈args,RV m (ev ρ x) (a.eval x)):∃rv,RV m v rv∧∀w,(builtin b ts ty cs (args.map a.eval)).run P w = .ok (.value rv) w:=by
 unfold sG at hp
 split at hp
 ·rename_i x t E6 AY hts
  have ea:args = #[x]:=aLu.1 (by simpa using AY)
  have et:ts=(t::E6).toArray:=aLu.1 (by simpa using hts)
  subst ea;subst et
  have hx:=hr x (by simp)
  rw[Ty]
  split at hp
  ·rename_i hu
   cases hp
   simp only[kA] at hv
   generalize ev ρ x=vx at hx hv
   generalize a.eval x=rx at hx ⊢
   split at hv
   ·cases hx;cases hv
    exact⟨_,.int _ _,fun w=>fC (by simp[Builtin.len_,run_underlying hu,goInt])⟩
   ·cases hv
  ·rename_i e hu
   cases hp
   simp only[kA] at hv
   generalize ev ρ x=vx at hx hv
   generalize a.eval x=rx at hx ⊢
   split at hv
   ·cases hv
    cases hx
    ·exact⟨_,.int _ _,fun w=>fC (by simp[Builtin.len_,run_underlying hu,goInt])⟩
    ·exact⟨_,.int _ _,fun w=>fC (by simp[Builtin.len_,run_underlying hu,goInt])⟩
   ·cases hv
  ·cases hp
 ·rename_i x t E6 AY hts
  have ea:args = #[x]:=aLu.1 (by simpa using AY)
  have et:ts=(t::E6).toArray:=aLu.1 (by simpa using hts)
  subst ea;subst et
  have hx:=hr x (by simp)
  rw[Ty]
  split at hp
  ·rename_i e hu
   cases hp
   simp only[kA] at hv
   generalize ev ρ x=vx at hx hv
   generalize a.eval x=rx at hx ⊢
   split at hv
   ·cases hv
    cases hx
    exact⟨_,.int _ _,fun w=>fC (by simp[Builtin.cap_,run_underlying hu,goInt])⟩
   ·cases hv
  ·cases hp
 ·rename_i x y AY
  have ea:args = #[x,y]:=aLu.1 (by simpa using AY)
  subst ea
  have hx:=hr x (by simp)
  have hy:=hr y (by simp)
  rw[NJ]
  cases hp
  simp only[kA] at hv
  generalize ev ρ x=vx at hx hv
  generalize a.eval x=rx at hx ⊢
  generalize ev ρ y=vy at hy hv
  generalize a.eval y=ry at hy ⊢
  split at hv
  ·cases hv
   cases hx
   cases hy
   exact⟨_,.int _ _,fun w=>fC (by rfl)⟩
  ·cases hv
 ·rename_i x y AY
  have ea:args = #[x,y]:=aLu.1 (by simpa using AY)
  subst ea
  have hx:=hr x (by simp)
  have hy:=hr y (by simp)
  rw[NJ]
  cases hp
  simp only[kA] at hv
  generalize ev ρ x=vx at hx hv
  generalize a.eval x=rx at hx ⊢
  generalize ev ρ y=vy at hy hv
  generalize a.eval y=ry at hy ⊢
  split at hv
  ·cases hv
   cases hx
   cases hy
   exact⟨_,.int _ _,fun w=>fC (by rfl)⟩
  ·cases hv
 ·split at hp
  ·split at hp
   ·cases hp;cases hv
   ·cases hp
  ·split at hp
   ·split at hp
    ·cases hp;cases hv
    ·cases hp
   ·cases hp
  ·cases hp
 ·split at hp
  ·cases hp;cases hv
  ·cases hp
 ·split at hp
  ·split at hp
   ·cases hp;cases hv
   ·cases hp
  ·cases hp
 ·cases hp
theorem alO {o:Oper} {po:qN} {ρ:Env} {a:Act} {v:Value} (hp:tG P o.op=some po) (hv:kA po ρ=some v) (hr:∀x∈o.op.operands,RV m (ev ρ x) (a.eval x)) :
  ∃rv,RV m v rv∧∀w,(execOp a.eval o).run P w = .ok (.value rv) w:=by
 obtain⟨dst,op,type,pos,after,guard⟩:=o
 unfold tG at hp
 simp only at hp hr ⊢
 split at hp
 case isFalse=>cases hp
 cases op with
 | move x=>cases hp;cases hv;exact⟨_,hr x (by simp[Op.operands]),fun w=>rfl⟩
 | assign x=>cases hp;cases hv;exact⟨_,hr x (by simp[Op.operands]),fun w=>rfl⟩
 |
  pick c x y =>
  cases hp
  have hc:=hr c (by simp[Op.operands])
  have hx:=hr x (by simp[Op.operands])
  have hy:=hr y (by simp[Op.operands])
  simp only[kA] at hv
  split at hv
  ·rename_i t ht
   rw[ht] at hc
   cases hv
   generalize hrc:a.eval c=rc at hc
   cases hc
   cases t
   ·exact⟨_,hy,fun w=>by simp[execOp,hrc,asBool]⟩
   ·exact⟨_,hx,fun w=>by simp[execOp,hrc,asBool]⟩
  ·cases hv
 |
  binOp op t x y yt =>
  obtain⟨rv,h1,h2⟩:=UN hp hv (hr x (by simp[Op.operands])) (hr y (by simp[Op.operands]))
  exact⟨rv,h1,fun w=>fC (h2 w)⟩
 |
  unOp op t x =>
  cases hp
  obtain⟨rv,h1,h2⟩:=ayE hv (hr x (by simp[Op.operands]))
  exact⟨rv,h1,fun w=>fC (h2 w)⟩
 |
  extract x i =>
  cases hp
  have hx:=hr x (by simp[Op.operands])
  simp only[kA] at hv
  split at hv
  ·rename_i vs TT
   rw[TT] at hx
   generalize FF:a.eval x=rx at hx
   cases hx with
   |
    tuple _ g h1 h2 =>
    obtain⟨r,h3,h4⟩:=(RL.arr h1 h2).getElem? i v (by simpa using hv)
    have h3':g[i]? = some r:=by simpa using h3
    exact⟨r,h4,fun w=>fC (by simp[FF,Instr.extract,h3'])⟩
  ·cases hv
 |
  convert s d x =>
  have hx:=hr x (by simp[Op.operands])
  simp only at hp
  split at hp
  ·rename_i k1 k2 hs hd
   cases hp
   simp only[kA] at hv
   split at hv
   ·rename_i n hn
    cases hv
    rw[hn] at hx
    generalize FF:a.eval x=rx at hx
    cases hx
    exact⟨_,.int _ _,fun w=>fC (by simp[FF,convert,run_underlying hs,run_underlying hd,Conv.intToInt])⟩
   ·cases hv
  ·rename_i hs hd
   cases hp
   simp only[kA] at hv
   split at hv
   ·rename_i n hn
    cases hv
    rw[hn] at hx
    generalize FF:a.eval x=rx at hx
    cases hx
    exact⟨_,.str _,fun w=>fC (by simp[FF,convert,run_underlying hs,run_underlying hd])⟩
   ·cases hv
  ·split at hp
   ·cases hp;simp[kA] at hv
   ·cases hp
  ·cases hp
 |
  field t x i =>
  have hx:=hr x (by simp[Op.operands])
  simp only at hp
  split at hp
  ·rename_i fs hu
   split at hp
   ·rename_i f hf
    cases ht:oH P f.type with
    | none=>rw[ht] at hp;cases hp
    |
     some q =>
     obtain⟨agg,size,z,n⟩:=q
     rw[ht] at hp
     cases hp
     simp only[kA] at hv
     split at hv
     ·rename_i cs OQ
      rw[OQ] at hx
      generalize FF:a.eval x=rx at hx
      cases hx with
      |
       agg _ g h1 h2 =>
       obtain⟨rv,h3,h4⟩:=aqM hu hf ht hv (RL.arr h1 h2)
       exact⟨rv,h3,fun w=>fC (by rw[FF];exact h4 w)⟩
     ·cases hv
   ·cases hp
  ·cases hp
 |
  build t parts =>
  simp only at hp
  split at hp
  ·rename_i fs agg size z n hu ht
   split at hp
   ·rename_i places Qc
    split at hp
    ·rename_i hz
     cases hp
     simp only[kA] at hv
     cases hf:Aq places z (parts.toList.map fun(i,x)=>(i,ev ρ x)) with
     | none=>rw[hf] at hv;cases hv
     |
      some cs =>
      rw[hf] at hv
      cases hv
      obtain⟨rv,h1,h2⟩:=adI (m:=m) (a:=a) hu ht hz Qc hf (fun p hpm=>hr p.2 (by simp only[Op.operands];simp;exact⟨p.1,by simpa using hpm⟩))
      exact⟨rv,h1,fun w=>fC (by simpa using h2 w)⟩
    ·cases hp
   ·cases hp
  ·cases hp
 |
  nilCheck x =>
  cases hp
  have hx:=hr x (by simp[Op.operands])
  simp only[kA] at hv
  split at hv
  ·rename_i ad had
   cases hv
   rw[had] at hx
   generalize FF:a.eval x=rx at hx
   cases hx with
   | ptr b o l h=>exact⟨_,.ptr b o l h,fun w=>by simp[execOp,FF]⟩
  ·cases hv
 |
  fieldAddr t x i =>
  have hx:=hr x (by simp[Op.operands])
  simp only at hp
  split at hp
  ·rename_i fs hu
   split at hp
   ·rename_i f hf
    split at hp
    ·rename_i i0 hi0
     split at hp
     ·cases hp
     ·rename_i hs
      cases hp
      simp only[kA] at hv
      split at hv
      ·rename_i b o hbo
       cases hv
       rw[hbo] at hx
       obtain⟨rv,h1,h2⟩:=acF hu hf hi0 hs hx
       exact⟨rv,h1,fun w=>fC (h2 w)⟩
      ·cases hv
    ·cases hp
   ·cases hp
  ·cases hp
 |
  indexAddr t x i =>
  have hx:=hr x (by simp[Op.operands])
  have hi:=hr i (by simp[Op.operands])
  simp only at hp
  cases ht:lT P t with
  | none=>rw[ht] at hp;cases hp
  |
   some q =>
   obtain⟨agg,size,z,n⟩:=q
   rw[ht] at hp
   cases hp
   obtain⟨e,hu,MQ⟩:=kZ ht
   obtain⟨i0,d,zz,hi0,_,_,_,rfl,_,_⟩:=kJ MQ
   simp only[kA] at hv
   split at hv
   ·rename_i b o n' c k j hb hj
    split at hv
    ·rename_i bH
     cases hv
     rw[hb] at hx
     rw[hj] at hi
     generalize hri:a.eval i=ri at hi
     cases hi
     obtain⟨rv,h1,h2⟩:=acC (k:=k) hu hi0 hx bH
     exact⟨rv,h1,fun w=>fC (by rw[hri];exact h2 w)⟩
    ·cases hv
   ·cases hv
 |
  index t x i =>
  have hx:=hr x (by simp[Op.operands])
  have hi:=hr i (by simp[Op.operands])
  simp only at hp
  split at hp
  ·rename_i hu
   cases hp
   simp only[kA] at hv
   split at hv
   ·rename_i s k j hb hj
    split at hv
    ·rename_i bH
     cases hv
     rw[hb] at hx
     rw[hj] at hi
     generalize hri:a.eval i=ri at hi
     generalize FF:a.eval x=rx at hx
     cases hi
     cases hx
     exact⟨_,.int _ _,fun w=>fC (by rw[hri,FF];exact alD hu bH w)⟩
    ·cases hv
   ·cases hv
  ·cases hp
 |
  slice t x lo hi mx =>
  have hx:=hr x (by simp[Op.operands])
  simp only at hp
  split at hp
  ·rename_i hu
   split at hp
   ·rename_i hmx
    cases hp
    have aDL:mx=none:=by simpa using hmx
    subst aDL
    simp only[kA] at hv
    split at hv
    ·rename_i s hs
     split at hv
     ·rename_i l h hlh
      cases hv
      rw[hs] at hx
      generalize FF:a.eval x=rx at hx
      cases hx
      exact⟨_,.str _,fun w=>fC (by
       rw[FF]
       exact ajZ hu hlh (RO.map fun y hy=>hr y (by simp[Op.operands,hy])) (RO.map fun y hy=>hr y (by simp[Op.operands,hy])) w)⟩
     ·cases hv
    ·cases hv
   ·cases hp
  ·rename_i e hu
   cases ht:oH P e with
   | none=>rw[ht] at hp;cases hp
   | some q=>rw[ht] at hp;cases hp;simp[kA] at hv
  ·cases hp
 |
  makeFunc fn first gU =>
  cases fn with
  |
   func f =>
   simp only at hp
   split at hp
   ·rename_i awL
    cases hp
    cases hv
    have hf0:first = #[]:=by simpa using awL
    subst hf0
    have hc:RL m (gU.toList.map (ev ρ)) (gU.toList.map a.eval):=RL.map fun x hx=>hr x (by simpa[Op.operands] using hx)
    refine⟨.func (.func f) #[] (gU.toList.map a.eval).toArray,.func _ _ _ _ _ rfl (fun i hi=>absurd hi (by simp)) (by simp) (fun i hi => ?_),fun w=>fC ?_⟩
    ·have:=hc.2 i (by simpa using hi)
     simpa[aLm,aLb] using this
    ·have:(gU.toList.map a.eval).toArray=gU.map a.eval:=aLu.1 (by rw[Array.toList_map])
     rw[this]
     simp[Instr.makeFunc]
   ·cases hp
  | _=>cases hp
 | makeInterface t x=>cases hp;cases hv
 | panic x=>cases hp;cases hv
 |
  load t p =>
  simp only at hp
  cases ht:oH P t with
  | none=>rw[ht] at hp;cases hp
  | some q=>rw[ht] at hp;cases hp;cases hv
 |
  store t p x =>
  simp only at hp
  cases ht:P.info? t with
  | none=>rw[ht] at hp;cases hp
  | some q=>rw[ht] at hp;cases hp;cases hv
 |
  alloc t =>
  simp only at hp
  split at hp
  ·split at hp
   ·cases hp;cases hv
   ·cases hp
  ·cases hp
 | box t x=>cases hp;cases hv
 |
  makeSlice t l c =>
  simp only at hp
  split at hp
  ·split at hp
   ·cases hp;cases hv
   ·cases hp
  ·cases hp
 |
  buildSlice t n parts =>
  simp only at hp
  split at hp
  ·split at hp
   ·cases hp;cases hv
   ·cases hp
  ·cases hp
 |
  call c =>
  obtain⟨callee,args,ts⟩:=c
  cases callee with
  |
   builtin b =>
   have W9:∀x∈args,RV m (ev ρ x) (a.eval x):=fun x hx=>hr x (by simpa[Op.operands,Call.operands] using hx)
   obtain⟨rv,h3,h4⟩:=Nf (ty:=type) (cs:=args.map fun | .const _=>true | _=>false) hp hv W9
   exact⟨rv,h3,fun w=>h4 w⟩
  |
   value f =>
   cases f with
   | func g=>cases hp;cases hv
   | tmp t=>cases hp;cases hv
   | const c=>cases hp
   | global g=>cases hp
  | invoke r s=>cases hp
 | _=>cases hp
end
end Go.PM
namespace Go.PM
section
variable {m:dS} {L0:Nat} {H:aH} {w:World}
def yQ (m:dS) (b:Nat) (l:Loc):dS:=fun b'=>if b'=b then some l else m b'
theorem bZ (m:dS) (b:Nat) (l:Loc):yQ m b l b=some l:=by simp[yQ]
theorem cZ {m:dS} {b b':Nat} {l:Loc} (h:b'≠b):yQ m b l b'=m b':=by simp[yQ,h]
theorem xT {m:dS} {b:Nat} {l:Loc} (hf:m b=none):∀b' l',m b'=some l'→yQ m b l b'=some l':=by
 intro b' l' h
 rw[cZ]
 ·exact h
 ·rintro rfl;rw[hf] at h;cases h
theorem GQ {w w':World} {a:Addr} (h:w'.heap[a.block]? = w.heap[a.block]?):w'.cell? a=w.cell? a:=by simp[World.cell?,h]
theorem Dn {w:World} {g i:Nat} {arr:Array Value} {e:TypeId} {fz:Nat×Nat} (h:w.heap[g]? = some (.cells arr e fz)):w.cell? ⟨g,i,none⟩=arr[i]? := by simp[World.cell?,h]
theorem iQ {H:aH} {x:QG} {b:Nat} (h:Live (H++[x]) b) (hb:b<H.length):Live H b:=by
 obtain⟨cs,e,p,h1,h2⟩:=h
 rw[aLv hb] at h1
 exact⟨cs,e,p,h1,h2⟩
theorem sM (lo:Nat) (H:aH) (x:QG):Ext lo H (H++[x]) :=
 ⟨by simp,fun b _ hl=>aLv hl,fun _ hb h=>iQ h hb⟩
theorem AT (hR:Rel m L0 H w) (hf:m H.length=none) {w':World} {arr:Array Value} {e:TypeId} {fz:Nat×Nat} (hw:w'.heap=w.heap.push (.cells arr e fz))
  (hs:w'.os=w.os∧w'.output=w.output∧w'.tape=w.tape) {cs:List Value} {gQ:Nat} {T2:Bool} (hlen:cs.length≤arr.size)
  (hc:∀i,i<cs.length→RV m (cs.getD i undef) (arr.getD i undef)) (Cn:cs.all iR=true) (hfz:∀j,j<arr.size→¬(fz.1≤j∧j<fz.2)) :
  Rel (yQ m H.length ⟨w.heap.size,0,gQ,arr.size,T2⟩) L0 (H++[.row cs gQ T2]) w' ∧
  ∀lo,Trans lo m H w (yQ m H.length ⟨w.heap.size,0,gQ,arr.size,T2⟩) (H++[.row cs gQ T2]) w':=by
 have hold:∀g,g<w.heap.size→w'.heap[g]? = w.heap[g]? := fun g hg=>by rw[hw,Array.getElem?_push];simp[Nat.ne_of_lt hg]
 have qB:w'.heap[w.heap.size]? = some (.cells arr e fz):=by rw[hw];simp
 have bH:∀b l,m b=some l→l.rb<w.heap.size:=fun b l h=>by
  obtain⟨arr,e,fz,h1,_⟩:=hR.valid b l h
  exact(aLn.1 h1).1
 have vA:=xT (l:=⟨w.heap.size,0,gQ,arr.size,T2⟩) hf
 constructor
 ·refine⟨fun b l h => ?_,fun b l CC e' p' h hH => ?_,fun b1 b2 l1 l2 hb h1 h2 Gy Kn BW => ?_,fun x hx => ?_⟩
  ·by_cases hb:b=H.length
   ·subst hb
    rw[bZ] at h
    cases h
    exact⟨arr,e,fz,qB,rfl,fun _ j _ hj=>hfz j hj⟩
   ·rw[cZ hb] at h
    obtain⟨GX,e',fz',g1,g2,g3⟩:=hR.valid b l h
    exact⟨GX,e',fz',by rw[hold _ (bH b l h)];exact g1,g2,g3⟩
  ·by_cases hb:b=H.length
   ·subst hb
    rw[bZ] at h
    cases h
    simp only[aLw (aLe _),aLx,aLy,Option.some.injEq,QG.row.injEq] at hH
    obtain⟨rfl,rfl,rfl⟩:=hH
    refine⟨rfl,rfl,by simpa using hlen,fun i hi => ?_⟩
    refine⟨arr.getD i undef,?_,(hc i hi).mono vA,?_⟩
    ·rw[Nat.zero_add,Dn qB]
     have:i<arr.size:=aLg hi hlen
     simp[this]
    ·have:=aLs.1 Cn cs[i] (aLr hi)
     simpa[aLb,aLl hi] using this
   ·rw[cZ hb] at h
    have amO:b<H.length:=by
     have:=(aLd.1 hH).1
     simp at this
     omega
    rw[aLv amO] at hH
    obtain⟨g1,g2,g3,g4⟩:=hR.row b l CC e' p' h hH
    refine⟨g1,g2,g3,fun i hi => ?_⟩
    obtain⟨rv,h1,h2,h3⟩:=g4 i hi
    exact⟨rv,by rw[GQ (hold _ (bH b l h))];exact h1,h2.mono vA,h3⟩
  ·by_cases e1:b1=H.length<;>by_cases e2:b2=H.length
   ·omega
   ·subst e1
    rw[bZ] at h1
    rw[cZ e2] at h2
    cases h1
    have:=bH b2 l2 h2
    simp only at BW
    omega
   ·subst e2
    rw[bZ] at h2
    rw[cZ e1] at h1
    cases h2
    have:=bH b1 l1 h1
    simp only at BW
    omega
   ·rw[cZ e1] at h1
    rw[cZ e2] at h2
    have k1:=Gy.lt
    have k2:=Kn.lt
    simp at k1 k2
    exact hR.inj b1 b2 l1 l2 hb h1 h2 (iQ Gy (by omega)) (iQ Kn (by omega)) BW
  ·obtain⟨⟨e0,fz0,g1⟩,g2⟩:=hR.Ff x hx
   have hxl:x.1<w.heap.size:=(aLn.1 g1).1
   refine⟨⟨e0,fz0,by rw[hold _ hxl];exact g1⟩,fun b l hb h hl => ?_⟩
   by_cases he:b=H.length
   ·subst he
    rw[bZ] at h
    cases h
    simp only
    omega
   ·rw[cZ he] at h
    have k:=hl.lt
    simp at k
    exact g2 b l hb h (iQ hl (by omega))
 ·intro lo
  refine⟨vA,fun b l h hn => ?_,by rw[hw];simp,fun rb BW _=>hold rb BW,hs⟩
  by_cases hb:b=H.length
  ·subst hb
   rw[bZ] at h
   cases h
   exact⟨⟨aLe _,by simp⟩,.inl (aLe _)⟩
  ·rw[cZ hb,hn] at h
   cases h
theorem acU (hR:Rel m L0 H w) (hf:m H.length=none) {b:Nat} {l:Loc} (hb:m b=some l) (gQ:Nat) :
  Rel (yQ m H.length ⟨l.rb,l.Tf,gQ,l.Tf,false⟩) L0 (H++[.row [] gQ false]) w ∧
  ∀lo,Trans lo m H w (yQ m H.length ⟨l.rb,l.Tf,gQ,l.Tf,false⟩) (H++[.row [] gQ false]) w:=by
 have vA:=xT (l:=⟨l.rb,l.Tf,gQ,l.Tf,false⟩) hf
 have ZV:∀b',Live (H++[.row [] gQ false]) b'→b'<H.length:=by
  intro b' h
  rcases aLh b' H.length with hl | hl
  ·exact hl
  ·obtain⟨cs,e,p,h1,h2⟩:=h
   have bH:=(aLd.1 h1).1
   simp at bH
   have R8:b'=H.length:=by omega
   subst R8
   simp only[aLw (aLe _),aLx,aLy,Option.some.injEq,QG.row.injEq] at h1
   obtain⟨rfl,_,rfl⟩:=h1
   rcases h2 with h2 | h2
   ·exact absurd rfl h2
   ·cases h2
 constructor
 ·refine⟨fun b' l' h => ?_,fun b' l' CC e' p' h hH => ?_,fun b1 b2 l1 l2 Dh h1 h2 Gy Kn BW => ?_,fun x hx => ?_⟩
  ·by_cases R8:b'=H.length
   ·subst R8
    rw[bZ] at h
    cases h
    obtain⟨arr,e,fz,g1,g2,_⟩:=hR.valid b l hb
    exact⟨arr,e,fz,g1,g2,fun _ j h1 h2=>by simp only at h1 h2;omega⟩
   ·rw[cZ R8] at h
    exact hR.valid b' l' h
  ·by_cases R8:b'=H.length
   ·subst R8
    rw[bZ] at h
    cases h
    simp only[aLw (aLe _),aLx,aLy,Option.some.injEq,QG.row.injEq] at hH
    obtain⟨rfl,rfl,rfl⟩:=hH
    exact⟨rfl,rfl,by simp,fun i hi=>absurd hi (by simp)⟩
   ·rw[cZ R8] at h
    have amO:b'<H.length:=by
     have:=(aLd.1 hH).1
     simp at this
     omega
    rw[aLv amO] at hH
    obtain⟨g1,g2,g3,g4⟩:=hR.row b' l' CC e' p' h hH
    refine⟨g1,g2,g3,fun i hi => ?_⟩
    obtain⟨rv,h1,h2,h3⟩:=g4 i hi
    exact⟨rv,h1,h2.mono vA,h3⟩
  ·have k1:=ZV b1 Gy
   have k2:=ZV b2 Kn
   rw[cZ (by omega)] at h1 h2
   exact hR.inj b1 b2 l1 l2 Dh h1 h2 (iQ Gy k1) (iQ Kn k2) BW
  ·obtain⟨g1,g2⟩:=hR.Ff x hx
   refine⟨g1,fun b' l' xR h hl => ?_⟩
   have k:=ZV b' hl
   rw[cZ (by omega)] at h
   exact g2 b' l' xR h (iQ hl k)
 ·intro lo
  refine⟨vA,fun b' l' h hn => ?_,aLe _,fun rb BW _=>rfl,rfl,rfl,rfl⟩
  by_cases R8:b'=H.length
  ·subst R8
   exact⟨⟨aLe _,by simp⟩,.inr (.inl fun hl=>by have:=ZV _ hl;omega)⟩
  ·rw[cZ R8,hn] at h
   cases h
theorem Sn {w:World} {g i:Nat} {arr:Array Value} {e:TypeId} {fz:Nat×Nat} (h:w.heap[g]? = some (.cells arr e fz)) (v:Value) :
  (w.setCell ⟨g,i,none⟩ v).heap[g]? = some (.cells (arr.setIfInBounds i v) e fz):=by
 simp only[World.setCell,aLz,h,if_true,Option.map_some]
 rfl
theorem Qv {w:World} {g i k:Nat} (h:k≠g) (v:Value):(w.setCell ⟨g,i,none⟩ v).heap[k]? = w.heap[k]? := by
 simp[World.setCell,aLz,aLA h]
theorem Iv (P:Program) (g o:Nat):∀(vs:List Value) (i:Nat) (w:World) (arr:Array Value) (e:TypeId) (fz:Nat×Nat),
  w.heap[g]? = some (.cells arr e fz)→o+i+vs.length≤arr.size→vs.all iR=true→(∀j,o+i≤j→j<o+i+vs.length→¬(fz.1≤j∧j<fz.2)) →
  ∃w' GX,(storeCells ⟨g,o,none⟩ vs i).run P w = .ok () w'∧w'.heap[g]? = some (.cells GX e fz)∧GX.size=arr.size ∧
   (∀j,GX.getD j undef=if o+i≤j∧j<o+i+vs.length then vs.getD (j-(o+i)) undef else arr.getD j undef) ∧
   (∀k,k≠g→w'.heap[k]? = w.heap[k]?)∧w'.heap.size=w.heap.size∧w'.os=w.os∧w'.output=w.output∧w'.tape=w.tape
 | [],i,w,arr,e,fz,hg,_,_,_=>⟨w,arr,rfl,hg,rfl,fun j=>by rw[if_neg (by rintro⟨h1,h2⟩;simp only[List.length_nil] at h2;omega)],fun _ _=>rfl,rfl,rfl,rfl,rfl⟩
 |
  v::vs,i,w,arr,e,fz,hg,hl,Cn,hfz=>by
  simp only[aLo] at hl hfz
  simp only[List.all_cons,Bool.and_eq_true] at Cn
  have bH:o+i<arr.size:=by omega
  have hc:w.cell? ⟨g,o+i,none⟩=some arr[o+i]:=by rw[Dn hg];simp[bH]
  have hfr:w.frozen? ⟨g,o+i,none⟩=false:=by
   have:=hfz (o+i) (by omega) (by omega)
   simp only[World.frozen?,hg]
   simpa using this
  have xI:(store ((⟨g,o,none⟩:Addr).add i) v).run P w = .ok () (w.setCell ⟨g,o+i,none⟩ v):=by
   rw[Addr.add_lit,run_store P w _ v .plain (by rw[St];exact Cn.1),hc]
   simp[hfr]
  obtain⟨w',GX,h1,h2,h3,h4,h5,h6,h7⟩:=Iv P g o vs (i+1) (w.setCell ⟨g,o+i,none⟩ v) (arr.setIfInBounds (o+i) v) e fz (Sn hg v) (by simp;omega) Cn.2
   (fun j h1 h2=>hfz j (by omega) (by omega))
  refine⟨w',GX,?_,h2,by simpa using h3,fun j => ?_,fun k hk=>by rw[h5 k hk,Qv hk],by rw[h6];simp,h7⟩
  ·rw[storeCells,Sem.run_bind,xI,Result.andThen_ok]
   exact h1
  ·rw[h4]
   by_cases hj:j=o+i
   ·subst hj
    rw[if_neg (by omega),if_pos (by simp)]
    simp[bH]
   ·by_cases xJ:o+(i+1)≤j∧j<o+(i+1)+vs.length
    ·rw[if_pos xJ,if_pos (by simp;omega)]
     have:j-(o+i)=j-(o+(i+1))+1:=by omega
     rw[this]
     simp
    ·rw[if_neg xJ,if_neg (by simp;omega)]
     simp[aLA hj]
theorem Mu (cs new:List Value) (o i:Nat) (h:o+new.length≤cs.length):(kI cs o new).getD i undef=if o≤i∧i<o+new.length then new.getD (i-o) undef else cs.getD i undef:=by
 unfold kI
 simp only[aLb]
 by_cases h1:i<o
 ·rw[if_neg (by omega),List.append_assoc,aLv (by simp;omega),aLB h1]
 ·by_cases h2:i<o+new.length
  ·rw[if_pos (by omega),List.append_assoc,aLw (by simp;omega),aLv (by simp;omega)]
   congr 3
   simp
   omega
  ·rw[if_neg (by omega),aLw (by simp;omega),aLc]
   congr 2
   simp
   omega
theorem qG (cs new:List Value) (o:Nat) (h:o+new.length≤cs.length):(kI cs o new).length=cs.length:=by
 simp[kI]
 omega
theorem DR {lo b o:Nat} {new:List Value} {H H':aH} (h:H.write lo b o new=some H') :
  ∃cs e p,H[b]? = some (.row cs e p)∧lo≤b∧o+new.length≤cs.length∧new.all iR=true∧H'=H.set b (.row (kI cs o new) e p):=by
 unfold aH.write at h
 split at h
 ·rename_i cs e p hb
  split at h
  ·rename_i hc
   cases h
   exact⟨cs,e,p,hb,hc.1,hc.2.1,hc.2.2,rfl⟩
  ·cases h
 ·cases h
theorem Az {H:aH} {b:Nat} {cs CC:List Value} {e:Nat} {p:Bool} (hb:H[b]? = some (.row cs e p)) (hl:CC.length=cs.length) {b':Nat} (h:Live (H.set b (.row CC e p)) b'):Live H b':=by
 obtain⟨cs1,e1,p1,h1,h2⟩:=h
 by_cases N7:b=b'
 ·subst N7
  rw[aLC (aLd.1 hb).1] at h1
  cases h1
  refine⟨cs,_,_,hb,h2.imp (fun h => ?_) id⟩
  intro h0
  subst h0
  exact h (aLk hl)
 ·rw[aLD N7] at h1
  exact⟨cs1,e1,p1,h1,h2⟩
theorem Gw {lo b o:Nat} {new:List Value} {H H':aH} (h:H.write lo b o new=some H'):Ext lo H H':=by
 obtain⟨cs,e,p,hb,eT,hlen,Cn,rfl⟩:=DR h
 refine⟨by simp,fun b' xR _=>aLD (by omega),fun b' _ hl=>Az hb (qG cs new o hlen) hl⟩
theorem GM (P:Program) {lo b o:Nat} {l:Loc} {new tP:List Value} {H':aH} (hR:Rel m L0 H w) (eT:L0≤lo) (hm:m b=some l) (hw:H.write lo b o new=some H') (hn:RL m new tP) :
  ∃w',(storeCells ⟨l.rb,l.base+o,none⟩ tP).run P w = .ok () w'∧Rel m L0 H' w'∧Trans lo m H w m H' w':=by
 obtain⟨cs,e,p,hb,HB,hlen,Cn,rfl⟩:=DR hw
 by_cases fN:new=[]
 ·subst fN
  have e1:tP=[]:=aLk hn.1.symm
  subst e1
  have e2:kI cs o []=cs:=by simp[kI]
  have e3:H.set b (.row cs e p)=H:=by
   apply List.ext_getElem?
   intro i
   by_cases hi:b=i
   ·subst hi;rw[aLC (aLd.1 hb).1,hb]
   ·rw[aLD hi]
  rw[e2,e3]
  exact⟨w,rfl,hR,Trans.refl lo m H w⟩
 have J1:Live H b:=⟨cs,e,p,hb,.inl (by
  rintro rfl
  simp only[List.length_nil] at hlen
  exact fN (aLk (by omega)))⟩
 obtain⟨g1,g2,g3,g4⟩:=hR.row b l cs e p hm hb
 obtain⟨arr,et,fz,v1,v2,v3⟩:=hR.valid b l hm
 have B7:tP.length=new.length:=hn.1.symm
 obtain⟨w',GX,h1,h2,h3,h4,h5,h6,h7⟩:=Iv P l.rb (l.base+o) tP 0 w arr et fz v1 (by rw[B7,v2];omega) (by rw[hn.iR];exact Cn)
  (fun j j1 j2=>v3 (aLf eT HB) j (by omega) (by rw[B7] at j2;omega))
 have bH:∀b' l',m b'=some l'→l'.rb<w.heap.size:=fun b' l' h=>by
  obtain⟨arr,e,fz,h1,_⟩:=hR.valid b' l' h
  exact(aLn.1 h1).1
 refine⟨w',h1,⟨fun b' l' h => ?_,fun b' l' CC e' p' h hH => ?_,fun b1 b2 l1 l2 Dh m1 m2 Gy Kn BW => ?_,fun x hx => ?_⟩,⟨fun _ _ h=>h,fun b' l' h h'=>(by rw[h] at h';cases h'),by rw[h6];exact aLe _,fun rb BW hk => ?_,h7⟩⟩
 ·obtain⟨azU,e1,fz1,w1,w2,w3⟩:=hR.valid b' l' h
  by_cases N7:l'.rb=l.rb
  ·rw[N7] at w1 ⊢
   rw[v1] at w1
   cases w1
   exact⟨GX,et,fz,h2,by rw[h3];exact w2,w3⟩
  ·exact⟨azU,e1,fz1,by rw[h5 _ N7];exact w1,w2,w3⟩
 ·by_cases N7:b=b'
  ·subst N7
   rw[hm] at h
   cases h
   rw[aLC (aLd.1 hb).1] at hH
   cases hH
   refine⟨g1,g2,by rw[qG _ _ _ hlen];exact g3,fun i hi => ?_⟩
   rw[qG _ _ _ hlen] at hi
   refine⟨GX.getD (l.base+i) undef,?_,?_,?_⟩
   ·rw[Dn h2]
    have:l.base+i<GX.size:=by rw[h3,v2];omega
    simp[this]
   ·rw[h4,Mu _ _ _ _ hlen]
    by_cases qU:o≤i∧i<o+new.length
    ·rw[if_pos qU,if_pos (by rw[B7];omega)]
     have:=hn.2 (i-o) (by omega)
     rw[show l.base+i-(l.base+o+0)=i-o by omega]
     exact this
    ·rw[if_neg qU,if_neg (by rw[B7];omega)]
     obtain⟨rv,c1,c2,_⟩:=g4 i hi
     rw[Dn v1] at c1
     simpa[aLm,c1] using c2
   ·rw[Mu _ _ _ _ hlen]
    split
    ·rename_i qU
     have:=aLs.1 Cn new[i-o] (aLr (by omega))
     simpa[aLb,aLl (show i-o<new.length by omega)] using this
    ·exact(g4 i hi).choose_spec.2.2
  ·rw[aLD N7] at hH
   obtain⟨k1,k2,k3,k4⟩:=hR.row b' l' CC e' p' h hH
   refine⟨k1,k2,k3,fun i hi => ?_⟩
   obtain⟨rv,c1,c2,c3⟩:=k4 i hi
   refine⟨rv,?_,c2,c3⟩
   rw[GQ]
   ·exact c1
   ·refine h5 _ fun BW => ?_
    have awS:Live H b':=⟨CC,e',p',hH,.inl (by rintro rfl;simp at hi)⟩
    exact N7 (hR.inj b b' l l' (aLf eT HB) hm h J1 awS BW.symm)
 ·exact hR.inj b1 b2 l1 l2 Dh m1 m2 (Az hb (qG cs new o hlen) Gy) (Az hb (qG cs new o hlen) Kn) BW
 ·obtain⟨⟨e0,fz0,k1⟩,k2⟩:=hR.Ff x hx
  refine⟨⟨e0,fz0,by rw[h5 _ (aLA (k2 b l (aLf eT HB) hm J1))];exact k1⟩,fun b' l' xR h hl=>k2 b' l' xR h (Az hb (qG cs new o hlen) hl)⟩
 ·exact h5 rb fun aeM=>hk b l HB hm J1 aeM.symm
theorem AO {H:aH} {b b':Nat} (h:Live (H.set b .dead) b'):Live H b'∧b'≠b:=by
 obtain⟨cs,e,p,h1,h2⟩:=h
 by_cases hb:b=b'
 ·subst hb
  have bH:=(aLd.1 h1).1
  rw[aLC (by simpa using bH)] at h1
  cases h1
 ·rw[aLD hb] at h1
  exact⟨⟨cs,e,p,h1,h2⟩,aLA hb⟩
theorem Ug {lo b:Nat} {H:aH} (h:lo≤b):Ext lo H (H.set b .dead) :=
 ⟨by simp,fun b' xR _=>aLD (by omega),fun _ _ hl=>(AO hl).1⟩
theorem VA (hR:Rel m L0 H w) (b:Nat):Rel m L0 (H.set b .dead) w∧∀lo,Trans lo m H w m (H.set b .dead) w:=by
 refine⟨⟨hR.valid,fun b' l' cs e p h hH => ?_,fun b1 b2 l1 l2 Dh h1 h2 Gy Kn=>hR.inj b1 b2 l1 l2 Dh h1 h2 (AO Gy).1 (AO Kn).1,fun x hx=>⟨(hR.Ff x hx).1,fun b' l' xR h hl=>(hR.Ff x hx).2 b' l' xR h (AO hl).1⟩⟩,
  fun lo=>⟨fun _ _ h=>h,fun b' l' h h'=>(by rw[h] at h';cases h'),aLe _,fun _ _ _=>rfl,rfl,rfl,rfl⟩⟩
 by_cases hb:b=b'
 ·subst hb
  have bH:=(aLd.1 hH).1
  rw[aLC (by simpa using bH)] at hH
  cases hH
 ·rw[aLD hb] at hH
  exact hR.row b' l' cs e p h hH
theorem A2 {H:aH} {b b':Nat} {x:QG} (h:Live (H.set b .dead++[x]) b') (hb:b'≠H.length):Live H b'∧b'≠b∧b'<H.length:=by
 have bH:=h.lt
 simp at bH
 have:=iQ h (by simp;omega)
 exact⟨(AO this).1,(AO this).2,by omega⟩
theorem agE {lo b:Nat} {H:aH} {x:QG} (h:lo≤b):Ext lo H (H.set b .dead++[x]) :=
 (Ug h).trans (sM lo _ x)
theorem aoE (P:Program) {lo b o n e:Nat} {l:Loc} {cs new tP:List Value} (hR:Rel m L0 H w) (eT:L0≤lo) (HB:lo≤b) (hm:m b=some l) (hf:m H.length=none)
  (hb:H[b]? = some (.row cs e true)) (hlen:o+n≤cs.length) (Bn:l.base+o+n+new.length≤l.Tf) (Cn:new.all iR=true) (hn:RL m new tP) :
  ∃w',(storeCells ⟨l.rb,l.base+o+n,none⟩ tP).run P w = .ok () w' ∧
   Rel (yQ m H.length ⟨l.rb,l.base+o,e,l.Tf,true⟩) L0 (H.set b .dead++[.row ((cs.drop o).take n++new) e true]) w' ∧
   Trans lo m H w (yQ m H.length ⟨l.rb,l.base+o,e,l.Tf,true⟩) (H.set b .dead++[.row ((cs.drop o).take n++new) e true]) w':=by
 have J1:Live H b:=⟨cs,e,true,hb,.inr rfl⟩
 obtain⟨g1,g2,g3,g4⟩:=hR.row b l cs e true hm hb
 obtain⟨arr,et,fz,v1,v2,v3⟩:=hR.valid b l hm
 have B7:tP.length=new.length:=hn.1.symm
 obtain⟨w',GX,h1,h2,h3,h4,h5,h6,h7⟩:=Iv P l.rb (l.base+o+n) tP 0 w arr et fz v1 (by rw[B7,v2];omega) (by rw[hn.iR];exact Cn)
  (fun j j1 j2=>v3 (aLf eT HB) j (by omega) (by rw[B7] at j2;omega))
 have bH:∀b' l',m b'=some l'→l'.rb<w.heap.size:=fun b' l' h=>by
  obtain⟨arr,e,fz,h1,_⟩:=hR.valid b' l' h
  exact(aLn.1 h1).1
 have vA:=xT (l:=⟨l.rb,l.base+o,e,l.Tf,true⟩) hf
 have EX:(H.set b .dead).length=H.length:=by simp
 have hnb:(H.set b .dead++[.row ((cs.drop o).take n++new) e true])[H.length]? = some (.row ((cs.drop o).take n++new) e true):=by
  rw[aLw (by simp)]
  simp
 have aBK:∀b',b'≠H.length→b'≠b→(H.set b .dead++[.row ((cs.drop o).take n++new) e true])[b']? = H[b']? := by
  intro b' k1 k2
  rcases aLh b' H.length with k3 | k3
  ·rw[aLv (by simpa using k3),aLD (aLA k2)]
  ·rw[aLE (by simp;omega),aLE k3]
 have YN:∀b' l',m b'=some l'→Live H b'→b'≠b→l'.rb≠l.rb:=fun b' l' k1 k2 k3 k4 =>
  k3 (hR.inj b b' l l' (aLf eT HB) hm k1 J1 k2 k4.symm).symm
 refine⟨w',h1,⟨fun b' l' h => ?_,fun b' l' CC e' p' h hH => ?_,fun b1 b2 l1 l2 Dh m1 m2 Gy Kn BW => ?_,fun x hx => ?_⟩,⟨vA,fun b' l' h hnn => ?_,by rw[h6];exact aLe _,fun rb BW hk => ?_,h7⟩⟩
 ·by_cases R8:b'=H.length
  ·subst R8
   rw[bZ] at h
   cases h
   exact⟨GX,et,fz,h2,by rw[h3];exact v2,fun _ j j1 j2=>v3 (aLf eT HB) j (by simp only at j1;omega) j2⟩
  ·rw[cZ R8] at h
   obtain⟨azU,e1,fz1,w1,w2,w3⟩:=hR.valid b' l' h
   by_cases N7:l'.rb=l.rb
   ·rw[N7] at w1 ⊢
    rw[v1] at w1
    cases w1
    exact⟨GX,et,fz,h2,by rw[h3];exact w2,w3⟩
   ·exact⟨azU,e1,fz1,by rw[h5 _ N7];exact w1,w2,w3⟩
 ·by_cases R8:b'=H.length
  ·subst R8
   rw[bZ] at h
   cases h
   rw[hnb] at hH
   cases hH
   have hold:((cs.drop o).take n).length=n:=by simp;omega
   refine⟨rfl,rfl,by simp only[aLp,hold];omega,fun i hi => ?_⟩
   simp only[aLp,hold] at hi
   refine⟨GX.getD (l.base+o+i) undef,?_,?_,?_⟩
   ·show w'.cell? ⟨l.rb,l.base+o+i,none⟩=_
    rw[Dn h2]
    have:l.base+o+i<GX.size:=by rw[h3,v2];omega
    simp[this]
   ·rw[h4]
    refine RV.mono vA ?_
    by_cases qU:i<n
    ·rw[if_neg (by omega)]
     have e1:((cs.drop o).take n++new).getD i undef=cs.getD (o+i) undef:=by
      simp only[aLb]
      rw[aLv (by rw[hold];exact qU),aLB qU,aLc]
     rw[e1]
     obtain⟨rv,c1,c2,_⟩:=g4 (o+i) (by omega)
     rw[Dn v1,←aLq] at c1
     simpa[aLm,c1] using c2
    ·rw[if_pos (by rw[B7];omega)]
     have e1:((cs.drop o).take n++new).getD i undef=new.getD (i-n) undef:=by
      simp only[aLb]
      rw[aLw (by rw[hold];omega),hold]
     rw[e1,show l.base+o+i-(l.base+o+n+0)=i-n by omega]
     exact hn.2 (i-n) (by omega)
   ·by_cases qU:i<n
    ·have e1:((cs.drop o).take n++new).getD i undef=cs.getD (o+i) undef:=by
      simp only[aLb]
      rw[aLv (by rw[hold];exact qU),aLB qU,aLc]
     rw[e1]
     exact(g4 (o+i) (by omega)).choose_spec.2.2
    ·have e1:((cs.drop o).take n++new).getD i undef=new.getD (i-n) undef:=by
      simp only[aLb]
      rw[aLw (by rw[hold];omega),hold]
     rw[e1]
     have:=aLs.1 Cn new[i-n] (aLr (by omega))
     simpa[aLb,aLl (show i-n<new.length by omega)] using this
  ·rw[cZ R8] at h
   by_cases N7:b'=b
   ·subst N7
    have Om:=J1.lt
    rw[aLv (by simpa using Om),aLC Om] at hH
    cases hH
   ·rw[aBK b' R8 N7] at hH
    obtain⟨k1,k2,k3,k4⟩:=hR.row b' l' CC e' p' h hH
    refine⟨k1,k2,k3,fun i hi => ?_⟩
    obtain⟨rv,c1,c2,c3⟩:=k4 i hi
    refine⟨rv,?_,c2.mono vA,c3⟩
    rw[GQ]
    ·exact c1
    ·exact h5 _ (YN b' l' h ⟨CC,e',p',hH,.inl (by rintro rfl;simp at hi)⟩ N7)
 ·by_cases e1:b1=H.length<;>by_cases e2:b2=H.length
  ·omega
  ·subst e1
   rw[bZ] at m1
   rw[cZ e2] at m2
   cases m1
   obtain⟨k1,k2,_⟩:=A2 Kn e2
   exact absurd BW.symm (YN b2 l2 m2 k1 k2)
  ·subst e2
   rw[bZ] at m2
   rw[cZ e1] at m1
   cases m2
   obtain⟨k1,k2,_⟩:=A2 Gy e1
   exact absurd BW (YN b1 l1 m1 k1 k2)
  ·rw[cZ e1] at m1
   rw[cZ e2] at m2
   exact hR.inj b1 b2 l1 l2 Dh m1 m2 (A2 Gy e1).1 (A2 Kn e2).1 BW
 ·obtain⟨⟨e0,fz0,k1⟩,k2⟩:=hR.Ff x hx
  have kb:=k2 b l (aLf eT HB) hm J1
  refine⟨⟨e0,fz0,by rw[h5 _ (aLA kb)];exact k1⟩,fun b' l' xR h hl => ?_⟩
  by_cases he:b'=H.length
  ·subst he
   rw[bZ] at h
   cases h
   exact kb
  ·rw[cZ he] at h
   exact k2 b' l' xR h (A2 hl he).1
 ·by_cases R8:b'=H.length
  ·subst R8
   rw[bZ] at h
   cases h
   exact⟨⟨aLe _,by simp⟩,.inr (.inr ⟨b,l,HB,hm,J1,rfl⟩)⟩
  ·rw[cZ R8,hnn] at h
   cases h
 ·exact h5 rb fun aeM=>hk b l HB hm J1 aeM.symm
end
end Go.PM
namespace Go.PM
section
variable {P:Program} {m:dS} {L0:Nat} {H:aH} {w:World}
def cR (P:Program) (s:Sem Next) (L0 lo:Nat) (m:dS) (H:aH) (w:World) (v:Value) (H':aH):Prop :=
 ∃rv w' m',(s.run P w = .ok (.value rv) w'∨(s.run P w = .ok .skip w'∧rv=undef))∧RV m' v rv∧Rel m' L0 H' w'∧Trans lo m H w m' H' w'
theorem cR.value {s:Sem Value} {lo:Nat} {v rv:Value} {H':aH} {w':World} {m':dS} (h:s.run P w = .ok rv w') (h1:RV m' v rv) (h2:Rel m' L0 H' w') (h3:Trans lo m H w m' H' w') :
 cR P (do pure (.value (←s))) L0 lo m H w v H':=⟨rv,w',m',.inl (fC h),h1,h2,h3⟩
theorem Ru {b o n:Nat} {cs:List Value} (h:H.read b o n=some cs):∃all e p,H[b]? = some (.row all e p)∧o+n≤all.length∧cs=(all.drop o).take n∧cs.length=n:=by
 unfold aH.read at h
 split at h
 ·rename_i all e p hb
  split at h
  ·rename_i hle
   cases h
   exact⟨all,e,p,hb,hle,rfl,by simp;omega⟩
  ·cases h
 ·cases h
theorem Bw {b o n:Nat} {cs:List Value} {l:Loc} (hR:Rel m L0 H w) (hm:m b=some l) (h:H.read b o n=some cs) :
  ∃rs:List Value,RL m cs rs∧rs.length=n∧cs.all iR=true∧∀j v,rs[j]? = some v→w.cell? ((⟨l.rb,l.base+o,none⟩:Addr).add j)=some v:=by
 obtain⟨all,e,p,hb,hle,rfl,hn⟩:=Ru h
 obtain⟨g1,g2,g3,g4⟩:=hR.row b l all e p hm hb
 have vM:∀i,i<n→((all.drop o).take n).getD i undef=all.getD (o+i) undef:=fun i hi=>by
  simp[aLb,aLB hi,aLc]
 refine⟨(aLa n).map fun i=>(w.cell? ⟨l.rb,l.base+(o+i),none⟩).getD undef,⟨by simp;omega,fun i hi => ?_⟩,by simp,?_,fun j v hj => ?_⟩
 ·rw[hn] at hi
  rw[vM i hi]
  obtain⟨rv,c1,c2,_⟩:=g4 (o+i) (by omega)
  simp[aLb,hi,c1]
  simpa[aLb] using c2
 ·rw[aLs]
  intro x hx
  obtain⟨i,hi,rfl⟩:=List.getElem_of_mem hx
  rw[hn] at hi
  obtain⟨_,_,_,c3⟩:=g4 (o+i) (by omega)
  rw[←vM i hi] at c3
  simpa[aLb,aLl (show i<((all.drop o).take n).length by omega)] using c3
 ·have hj':j<n:=by
   have:=(aLd.1 hj).1
   simpa using this
  obtain⟨rv,c1,_,_⟩:=g4 (o+j) (by omega)
  simp[hj',c1] at hj
  subst hj
  rw[Addr.add_lit,aLq]
  exact c1
theorem Ri {t:TypeId} {agg:Bool} {size nb:Nat} {z:List Value} {pv rp v:Value} (ht:oH P t=some (agg,size,z,nb)) (hv:rB agg size pv H=some v) (hR:Rel m L0 H w) (hp:RV m pv rp) :
  ∃rv,RV m v rv∧(Instr.loadAt t rp).run P w = .ok rv w:=by
 obtain⟨i,d,zz,hi,hd,_,rfl,rfl,_,_⟩:=kJ ht
 unfold rB at hv
 split at hv
 ·rename_i b o
  cases hp with
  |
   ptr _ _ l hm =>
   have sS:(Instr.loadAt t (.pointer (some ⟨l.rb,l.base+o,none⟩))).run P w=(loadVar t ⟨l.rb,l.base+o,none⟩).run P w:=rfl
   split at hv
   ·rename_i ha
    cases hr:H.read b o i.size with
    | none=>rw[hr] at hv;cases hv
    |
     some cs =>
     rw[hr] at hv
     cases hv
     obtain⟨rs,h1,h2,_,h3⟩:=Bw hR hm hr
     refine⟨.agg rs.toArray,RL.avZ h1,?_⟩
     rw[sS]
     have:=run_loadCells_list (P:=P) w ⟨l.rb,l.base+o,none⟩ rs h3
     rw[h2] at this
     unfold loadVar
     simp[Sem.run_bind,Gq t d hd,ha,run_sizeOf t i hi,this]
   ·rename_i ha
    have Z7:Ga d=false:=by simpa using ha
    split at hv
    ·rename_i x hr
     cases hv
     obtain⟨rs,h1,h2,_,h3⟩:=Bw hR hm hr
     obtain⟨r,hrs⟩:∃r,rs=[r]:=by
      cases rs with
      | nil=>cases h2
      |
       cons r rs=>cases rs with
       | nil=>exact⟨r,rfl⟩
       | cons _ _=>simp at h2
     subst hrs
     have hc:=h3 0 r rfl
     rw[Addr.add_zero'] at hc
     refine⟨r,h1.lG.1,?_⟩
     rw[sS]
     unfold loadVar
     simp[Sem.run_bind,Gq t d hd,Z7,hc]
    ·cases hv
 ·cases hv
theorem Mm {size n k:Nat} {pv rv:Value} {new:List Value} (hs:kU H size n pv=some new) (hk:xG pv=some k) (hnk:n≤k) (hR:Rel m L0 H w) (hp:RV m pv rv) :
  ∃tP:List Value,RL m new tP∧new.all iR=true∧∀w',w'.heap=w.heap→(Builtin.firstCells size n rv).run P w' = .ok tP.toArray w':=by
 unfold kU at hs
 split at hs
 ·rename_i b o n' c
  cases hk
  cases hp with
  |
   slice _ _ _ _ l ra rc hm hn hc hx ha =>
   obtain⟨rs,h1,h2,h2',h3⟩:=Bw hR hm hs
   rcases ha with ha | ⟨rfl,ha⟩
   ·
    have h0:n=0:=by omega
    subst h0
    have e0:rs=[]:=aLk (by simpa using h2)
    subst e0
    exact⟨[],h1,h2',fun w' _=>run_firstCells_some (P:=P) w' size 0 _ _ _ [] (by simp) fun j v hj=>by cases hj⟩
   ·refine⟨rs,h1,h2',fun w' hw'=>run_firstCells_some (P:=P) w' size n _ _ _ rs h2 fun j v hj => ?_⟩
    rw[←h3 j v hj]
    exact GQ (by rw[hw'])
 ·split at hs
  ·rename_i hn
   cases hs
   cases hp
   exact⟨[],RL.nil m,rfl,fun w' _=>run_firstCells_none w' size n _ _⟩
  ·cases hs
 ·rename_i s
  split at hs
  ·cases hs
   cases hp
   refine⟨_,RL.map (f:=fun b:UInt8=>Value.int .u8 (b.toNat:Int)) (g:=fun b:UInt8=>Value.int .u8 (b.toNat:Int)) (fun x _ => .int _ _),?_,fun w' _ => ?_⟩
   ·rw[aLs]
    intro x hx
    obtain⟨b,_,rfl⟩:=List.mem_map.1 hx
    rfl
   ·simp only[Builtin.firstCells,Sem.run_pure]
    congr 1
    apply Array.ext'
    simp[ByteArray.data_extract]
  ·cases hs
 ·cases hs
theorem TQ {t u ty e:TypeId} {i:TypeInfo} {d:TypeDesc} (ht:P.underlying t=some (.slice e)) (hu:P.underlying u=some d) (hd:Od d=true) (hi:P.info? e=some i)
  {a:Addr} {n c k:Nat} {x:Value} {tP:List Value} {w':World} (hl:Builtin.lenOf x=pure k) (hf:(Builtin.firstCells i.size k x).run P w = .ok tP.toArray w) (EI:n+k≤c)
  (xI:(storeCells (a.add (n*i.size)) tP).run P w = .ok () w') :
  (Builtin.append_ #[t,u] ty #[.slice (some a) n c,x]).run P w = .ok (.slice (some a) (n+k) c) w':=by
 cases d<;>first | (cases hd;done) | simp[Builtin.append_,run_underlying ht,run_underlying hu,run_sizeOf e i hi,hl,hf,EI,xI]
theorem WI {t u ty e:TypeId} {i:TypeInfo} {d:TypeDesc} (ht:P.underlying t=some (.slice e)) (hu:P.underlying u=some d) (hd:Od d=true) (hi:P.info? e=some i)
  {x:Value} (hl:Builtin.lenOf x=pure 0) {tP:List Value} (hf:(Builtin.firstCells i.size 0 x).run P w = .ok tP.toArray w) :
  (Builtin.append_ #[t,u] ty #[.slice none 0 0,x]).run P w = .ok (.slice none 0 0) w:=by
 cases d<;>first | (cases hd;done) | simp[Builtin.append_,run_underlying ht,run_underlying hu,run_sizeOf e i hi,hl,hf]
theorem TR {t u ty e:TypeId} {i:TypeInfo} {d:TypeDesc} {z:Value} (ht:P.underlying t=some (.slice e)) (hu:P.underlying u=some d) (hd:Od d=true) (hi:P.info? e=some i) (hz:i.zero=some z)
  {base:Option Addr} {n c k:Nat} {x:Value} {EZ tP:List Value} (hl:Builtin.lenOf x=pure k) (hfo:(Builtin.firstCells i.size n (.slice base n c)).run P w.drew = .ok EZ.toArray w.drew)
  (hf:(Builtin.firstCells i.size k x).run P w.drew = .ok tP.toArray w.drew) (hg:c<n+k) (Dh:1≤i.bytes) (hb:(n+k)*i.bytes≤140737488355328) :
  (Builtin.append_ #[t,u] ty #[.slice base n c,x]).run P w = .ok (.slice (some ⟨w.heap.size,0,none⟩) (n+k) (grownCap w (n+k) c e))
   (w.drew.alloc (.cells (EZ.toArray++tP.toArray++Builtin.zeroCells z.cells (grownCap w (n+k) c e-(n+k))) e)):=by
 have Bn:=growslice_fits (bytes:=i.bytes) hg hb
 have h1:¬(n+k≤c):=by omega
 have h2:¬(281474976710656<Builtin.nextslicecap (n+k) c*i.bytes):=by omega
 have h3:¬i.bytes=0:=by omega
 cases d<;>first | (cases hd;done) | simp[Builtin.append_,run_underlying ht,run_underlying hu,run_sizeOf e i hi,typeInfo,zeroValue,hi,hz,hl,h1,h2,h3,Question.forced,hfo,hf,newRow,grownCap]
 all_goals
  congr 2
  apply Array.ext'
  simp
theorem addr_add (g o k:Nat):(⟨g,o,none⟩:Addr).add k=⟨g,o+k,none⟩:=Addr.add_lit g o k
theorem MK {s:Sem Value} {lo size bytes add:Nat} {x rx v:Value} {new tP:List Value} {H':aH} {e:TypeId} (xP:fK lo size bytes x add new H=some (v,H')) (hR:Rel m L0 H w) (eT:L0≤lo) (hx:RV m x rx)
  (hn:RL m new tP) (hf:∀b,H.length≤b→b<H'.length→m b=none)
  (EI:∀a n c w',rx = .slice (some a) n c→n+add≤c→(storeCells (a.add (n*size)) tP).run P w = .ok () w'→s.run P w = .ok (.slice (some a) (n+add) c) w')
  (aFg:rx = .slice none 0 0→add=0→s.run P w = .ok (.slice none 0 0) w)
  (auW:∀base n c EZ,rx = .slice base n c→(Builtin.firstCells size n rx).run P w.drew = .ok (List.toArray EZ) w.drew→EZ.length=n*size→c<n+add→(n+add)*bytes≤140737488355328→∃cap arr,n+add≤cap ∧
   s.run P w = .ok (.slice (some ⟨w.heap.size,0,none⟩) (n+add) cap) (w.drew.alloc (.cells arr e))∧arr.size=cap*size∧∀i,i<(EZ++tP).length→arr.getD i undef=(EZ++tP).getD i undef) :
  ∃rv w' m',s.run P w = .ok rv w'∧RV m' v rv∧Rel m' L0 H' w'∧Trans lo m H w m' H' w':=by
 unfold fK at xP
 split at xP
 case isFalse=>cases xP
 rename_i Xw
 obtain⟨Dh,NG,Cn,hnl⟩:=Xw
 split at xP
 ·rename_i n c
  split at xP
  ·rename_i h0
   obtain⟨rfl,rfl⟩:=h0
   cases hx
   split at xP
   ·rename_i Qg
    cases xP
    exact⟨_,w,m,aFg rfl Qg,.M5,hR,Trans.refl lo m H w⟩
   ·rename_i Qg
    split at xP
    ·rename_i hb
     cases xP
     obtain⟨cap,arr,k1,k2,k3,k4⟩:=auW none 0 0 [] rfl (by simp[Builtin.firstCells]) (by simp) (by omega) (by simpa using hb)
     have hmn:m H.length=none:=hf _ (aLe _) (by simp)
     have hl:new.length≤arr.size:=by rw[k3,hnl];exact aLF _ (by omega)
     have hA:=AT hR hmn (w':=w.drew.alloc (.cells arr e)) (arr:=arr) (e:=e) (fz:=(0,0)) rfl ⟨rfl,rfl,rfl⟩ (cs:=new) (gQ:=size) (T2:=true) hl
      (fun i hi=>by
       rw[k4 i (by rw[List.nil_append,←hn.1];exact hi)]
       exact hn.2 i hi) Cn (fun j _ h=>by simp at h)
     refine⟨_,_,_,k2,?_,hA.1,hA.2 lo⟩
     rw[Nat.zero_add] at k1 ⊢
     exact .slice _ 0 add add _ _ cap (bZ m _ _) (aLe _) k1 (fun h=>by cases h) (.inr ⟨rfl,by simp only[k3];omega⟩)
    ·cases xP
  ·cases xP
 ·rename_i b o n c
  cases hx with
  |
   slice _ _ _ _ l ra rc hm hnc hcr hxp ha =>
   split at xP
   ·rename_i cs es p hbk
    obtain⟨g1,g2,g3,g4⟩:=hR.row b l cs es p hm hbk
    split at xP
    ·rename_i hle
     obtain⟨rfl,hle⟩:=hle
     have hold:∃EZ:List Value,RL m ((cs.drop o).take (n*es)) EZ∧EZ.length=n*es∧(Builtin.firstCells es n (.slice (some ra) n rc)).run P w.drew = .ok EZ.toArray w.drew:=by
      have HS:H.read b o (n*es)=some ((cs.drop o).take (n*es)):=by simp[aH.read,hbk,hle]
      obtain⟨rs,h1,h2,_,h3⟩:=Bw hR hm HS
      rcases ha with ha | ⟨rfl,ha⟩
      ·have h0:n=0:=by omega
       subst h0
       have e0:rs=[]:=aLk (by simpa using h2)
       subst e0
       exact⟨[],h1,by simp,run_firstCells_some (P:=P) w.drew es 0 _ _ _ [] (by simp) fun j v hj=>by cases hj⟩
      ·exact⟨rs,h1,h2,run_firstCells_some (P:=P) w.drew es n _ _ _ rs h2 fun j v hj=>by rw[World.cell?_drew];exact h3 j v hj⟩
     obtain⟨EZ,o1,o2,o3⟩:=hold
     have grown:∀(Hd:aH) (hRd:Rel m L0 Hd w) (hTd:Trans lo m H w m Hd w) (hEd:Ext lo H Hd) (hld:Hd.length=H.length),H'=Hd++[.row ((cs.drop o).take (n*es)++new) es true]→v = .slice (some ⟨H.length,0,none⟩) (n+add) (n+add) →
       rc<n+add→(n+add)*bytes≤140737488355328→∃rv w' m',s.run P w = .ok rv w'∧RV m' v rv∧Rel m' L0 H' w'∧Trans lo m H w m' H' w':=by
      intro Hd hRd hTd hEd hld hH' hv hg hb
      subst hH'
      subst hv
      obtain⟨cap,arr,k1,k2,k3,k4⟩:=auW (some ra) n rc EZ rfl o3 o2 hg hb
      have hmn:m Hd.length=none:=by rw[hld];exact hf _ (aLe _) (by simp[hld])
      have hlen:((cs.drop o).take (n*es)++new).length=(n+add)*es:=by rw[aLp,o1.1,o2,hnl,Nat.add_mul]
      have hA:=AT hRd hmn (w':=w.drew.alloc (.cells arr e)) (arr:=arr) (e:=e) (fz:=(0,0)) rfl ⟨rfl,rfl,rfl⟩ (cs:=(cs.drop o).take (n*es)++new) (gQ:=es) (T2:=true)
       (by rw[hlen,k3];exact aLF _ k1)
       (fun i hi=>by
        rw[k4 i (by rw[aLp,o2,←hn.1,hnl,←Nat.add_mul];rw[hlen] at hi;exact hi)]
        exact(o1.append hn).2 i hi)
       (by
        have HS:H.read b o (n*es)=some ((cs.drop o).take (n*es)):=by simp[aH.read,hbk,hle]
        obtain⟨_,_,_,h2',_⟩:=Bw hR hm HS
        rw[List.all_append,h2',Cn];rfl) (fun j _ h=>by simp at h)
      rw[hld] at hA
      refine⟨_,_,_,k2,?_,hA.1,?_⟩
      ·exact .slice _ 0 _ _ _ _ cap (bZ m _ _) (aLe _) k1 (fun h=>by cases h) (.inr ⟨rfl,by simp only[k3];omega⟩)
      ·exact Trans.trans (H1:=Hd) hf hEd (sM lo Hd _) hTd (hA.2 lo)
     split at xP
     ·rename_i bX
      split at xP
      ·rename_i Qg
       cases xP
       subst Qg
       have e0:new=[]:=aLk (by simpa using hnl)
       subst e0
       have e1:tP=[]:=aLk hn.1.symm
       subst e1
       exact⟨_,w,m,EI ra n rc w rfl (by omega) rfl,.slice b o n c l ra rc hm hnc hcr hxp ha,hR,Trans.refl lo m H w⟩
      ·rename_i Qg
       cases hw:H.write lo b (o+n*es) new with
       | none=>rw[hw] at xP;cases xP
       |
        some H1 =>
        rw[hw] at xP
        cases xP
        rcases ha with ha | ⟨rfl,ha⟩
        ·omega
        ·obtain⟨w',s1,s2,s3⟩:=GM P hR eT hm hw hn
         refine⟨_,w',m,EI _ n rc w' rfl (by omega) (by rw[addr_add,aLq];exact s1),?_,s2,s3⟩
         exact .slice b o (n+add) c l _ rc hm (by omega) hcr hxp (.inr ⟨rfl,ha⟩)
     ·rename_i bX
      split at xP
      ·rename_i hb
       split at xP
       ·rename_i hp
        split at xP
        ·rename_i HB
         cases xP
         by_cases hg:rc<n+add
         ·exact grown (H.set b .dead) (VA hR b).1 ((VA hR b).2 lo) (Ug HB) (by simp) rfl rfl hg hb
         ·
          subst hp
          rcases ha with ha | ⟨rfl,ha⟩
          ·omega
          ·have hmn:m H.length=none:=hf _ (aLe _) (by simp)
           have Bn:l.base+o+n*es+new.length≤l.Tf:=by
            rw[hnl]
            have:(n+add)*es≤rc*es:=aLF _ (by omega)
            rw[Nat.add_mul] at this
            rw[g1] at ha
            omega
           obtain⟨w',s1,s2,s3⟩:=aoE P hR eT HB hm hmn hbk hle Bn Cn hn
           refine⟨_,w',_,EI _ n rc w' rfl (by omega) (by rw[addr_add];exact s1),?_,s2,s3⟩
           refine .slice _ 0 _ _ _ _ rc (bZ m _ _) (aLe _) (by omega) (fun h=>by cases h) (.inr ⟨rfl,?_⟩)
           rw[g1] at ha
           simp only
           omega
        ·cases xP
       ·rename_i hp
        cases xP
        have B1:l.T2=false:=by rw[g2];simpa using hp
        have:=hxp B1
        exact grown H hR (Trans.refl lo m H w) (Ext.refl lo H) rfl rfl rfl (by omega) hb
      ·cases xP
    ·cases xP
   ·cases xP
 ·cases xP
end
end Go.PM