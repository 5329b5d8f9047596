/- Texts of a claim, in one: part 1. -/
import Derived.Orders
import Derived.Laws.Entries
import Derived.Laws.AppendOwn
import Derived.Laws.MakeOwn
import Derived.Laws.Build
import Derived.Laws.Rows
import Derived.Laws.World
import Derived.Laws.Strings
import Derived.Laws.BytesString
import Derived.Lib.ItoaNum
import Derived.Laws.StructEq
import Derived.Laws.Cover3
open Array renaming getD_eq_getD_getElem? → aKJ,getElem?_eq_some_iff → aKK,getElem?_modify → aKW,toList_inj → aKR
open Function renaming comp_def → aKQ
open List renaming all_eq_true → aKP,drop_eq_getElem_cons → aKG,drop_eq_nil_of_le → aKF,eq_nil_of_length_eq_zero → aKH,getD_eq_getElem?_getD → aKy,getElem?_append_left → aKS,getElem?_append_right → aKT,getElem?_cons_zero → aKV,getElem?_drop → aKz,getElem?_eq_getElem → aKI,getElem?_eq_none → aK1,getElem?_eq_some_iff → aKA,getElem?_set_ne → aK0,getElem?_set_self → aKZ,getElem?_take_of_lt → aKY,getElem_mem → aKO,length_append → aKM,length_cons → aKL,range → aKx
open Nat renaming add_assoc → aKN,le_refl → aKB,le_trans → aKC,lt_of_lt_of_le → aKD,lt_or_ge → aKE,mul_le_mul_right → aK2,sub_self → aKU
open Ne renaming symm → aKX
set_option linter.unusedSimpArgs false
set_option linter.unusedVariables false
namespace Go.PM
abbrev Env:=Nat→Value
def put (ρ:Env):Option Nat→Value→Env
 | none,_=>ρ
 | some d,v=>fun k=>if k=d then v else ρ k
def ev (ρ:Env):Operand→Value
 | .tmp t=>ρ t
 | .const v=>v
 | .global _=>undef
 | .func f => .func (.func f) #[] #[]
inductive QI where
 | dead
 | row (cells:List Value) (gU:Nat) (Uy:Bool)
 deriving Inhabited
abbrev aJ:=List QI
def aX:Value→List Value
 | .agg cs=>cs.toList
 | v=>[v]
def iQ:Value→Bool
 | .agg _ | .tuple _=>false
 | _=>true
inductive CK where
 | int | bool | str
inductive qH where
 | mv (x:Operand)
 | pick (c a b:Operand)
 | bin (op:BinOp) (x y:Operand)
 | eqb (neg:Bool) (x y:Operand)
 | isnil (neg:Bool) (x:Operand)
 | eqagg (neg:Bool) (ks:List CK) (x y:Operand)
 | un (op:UnOp) (x:Operand)
 | cvt (k:IntKind) (x:Operand)
 | cvs (x:Operand)
 | ext (x:Operand) (i:Nat)
 | fld (agg:Bool) (off size:Nat) (x:Operand)
 | build (zero:List Value) (places:List (Nat×Nat)) (parts:List (Nat×Operand))
 | chk (x:Operand)
 | faddr (off:Nat) (x:Operand)
 | iaddr (size:Nat) (x i:Operand)
 | sidx (x i:Operand)
 | ssub (x:Operand) (lo hi:Option Operand)
 | mkfn (fn:Nat) (gG:List Operand)
 | len (x:Operand)
 | slen (x:Operand)
 | akY (x:Operand)
 | min (x y:Operand)
 | max (x y:Operand)
 | die
 | load (agg:Bool) (size:Nat) (p:Operand)
 | sub (size:Nat) (x:Operand) (lo hi mx:Option Operand)
 | b2s (x:Operand)
 | new (zero:List Value)
 | box (x:Operand)
 | make (zero:List Value) (bytes:Nat) (len cap:Operand)
 | lit (zero:List Value) (len:Nat) (parts:List (Nat×Operand))
 | call (f:Nat) (args:List Operand)
 | store (size:Nat) (p v:Operand)
 | app (size bytes:Nat) (x y:Operand)
 | appz (zero:List Value) (bytes:Nat) (x n:Operand)
 | copy (size:Nat) (x y:Operand)
 | clear (zero:List Value) (x:Operand)
 | callv (fv:Operand) (args:List Operand)
 deriving Inhabited
def dK:BinOp→Value→Value→Option Value
 | .shl,.int k a,.int _ b=>if b<0 then none else some (.int k (k.wrap (a*2^Nat.min b.toNat k.bits)))
 | .shr,.int k a,.int _ b=>if b<0 then none else some (.int k (a.fdiv (2^Nat.min b.toNat k.bits)))
 |
  op,.int k a,.int k' b =>
  if k=k' then
   match op with
   | .add=>some (.int k (k.wrap (a+b)))
   | .sub=>some (.int k (k.wrap (a-b)))
   | .mul=>some (.int k (k.wrap (a*b)))
   | .quo=>if b=0 then none else some (.int k (k.wrap (a.tdiv b)))
   | .rem=>if b=0 then none else some (.int k (a.tmod b))
   | .and=>some (.int k (k.wrap ((BitVec.ofInt k.bits a &&& BitVec.ofInt k.bits b).toNat:Int)))
   | .or=>some (.int k (k.wrap ((BitVec.ofInt k.bits a ||| BitVec.ofInt k.bits b).toNat:Int)))
   | .xor=>some (.int k (k.wrap ((BitVec.ofInt k.bits a ^^^ BitVec.ofInt k.bits b).toNat:Int)))
   | .andNot=>some (.int k (k.wrap ((BitVec.ofInt k.bits a &&& ~~~ BitVec.ofInt k.bits b).toNat:Int)))
   | .eql=>some (.bool (a == b))
   | .neq=>some (.bool (a != b))
   | .lss=>some (.bool (a<b))
   | .leq=>some (.bool (a≤b))
   | .gtr=>some (.bool (a>b))
   | .geq=>some (.bool (a≥b))
   | _=>none
  else none
 |
  op,.string a,.string b =>
  match op with
  | .add=>if ((a.size+b.size:Nat):Int)>IntKind.i64.max then none else some (.string (a++b))
  | .eql=>some (.bool (a.toList == b.toList))
  | .neq=>some (.bool (!(a.toList == b.toList)))
  | .lss=>some (.bool (Op.bytesLess a.toList b.toList))
  | .leq=>some (.bool (Op.bytesLess a.toList b.toList||a.toList == b.toList))
  | .gtr=>some (.bool (!(Op.bytesLess a.toList b.toList||a.toList == b.toList)))
  | .geq=>some (.bool (!(Op.bytesLess a.toList b.toList)))
  | _=>none
 | _,_,_=>none
def pun:UnOp→Value→Option Value
 | .neg,.int k n=>some (.int k (k.wrap (0-n)))
 | .not,.bool b=>some (.bool !b)
 | _,_=>none
def yA:CK→Value→Value→Option Bool
 | .int,.int k a,.int k' b=>if k=k' then some (a == b) else none
 | .bool,.bool a,.bool b=>some (a == b)
 | .str,.string a,.string b=>some (a == b)
 | _,_,_=>none
def sU:List CK→List Value→List Value→Option Bool
 | [],[],[]=>some true
 |
  k::ks,x::xs,y::ys=>match yA k x y with
  | some true=>sU ks xs ys
  | some false=>some false
  | none=>none
 | _,_,_=>none
def Au (places:List (Nat×Nat)) (cells:List Value):List (Nat×Value)→Option (List Value)
 | []=>some cells
 |
  (i,v)::rest =>
  match places[i]? with
  | none=>none
  |
   some (off,size) =>
   if (aX v).length=size∧off+size≤cells.length then
    Au places (cells.take off++aX v++cells.drop (off+size)) rest
   else none
def fG (v:Option Value) (aEI:Option Nat) (top:Nat):Option Nat :=
 match v with
 | none=>aEI
 | some (.int _ i)=>if 0≤i∧i≤top then some i.toNat else none
 | _=>none
def Cc (lo hi:Option Value) (n:Nat):Option (Nat×Nat) :=
 match fG hi (some n) n with
 | none=>none
 |
  some h=>match fG lo (some 0) h with
  | none=>none
  | some l=>some (l,h)
def kE (o:qH) (ρ:Env):Option Value :=
 match o with
 | .mv x=>some (ev ρ x)
 |
  .pick c a b=>match ev ρ c with
  | .bool t=>some (if t then ev ρ a else ev ρ b)
  | _=>none
 | .bin op x y=>dK op (ev ρ x) (ev ρ y)
 |
  .eqb neg x y=>match ev ρ x,ev ρ y with
  | .bool a,.bool b=>some (.bool ((a == b) != neg))
  | _,_=>none
 |
  .isnil neg x=>match ev ρ x with
  | .slice none _ _=>some (.bool (true != neg))
  | .slice (some _) _ _=>some (.bool (false != neg))
  | _=>none
 |
  .eqagg neg ks x y=>match ev ρ x,ev ρ y with
  | .agg a,.agg b=>(sU ks a.toList b.toList).map fun t => .bool (t != neg)
  | _,_=>none
 | .un op x=>pun op (ev ρ x)
 |
  .cvt k x=>match ev ρ x with
  | .int _ n=>some (.int k (k.wrap n))
  | _=>none
 |
  .cvs x=>match ev ρ x with
  | .string s=>some (.string s)
  | _=>none
 |
  .ext x i=>match ev ρ x with
  | .tuple vs=>vs[i]?
  | _=>none
 |
  .fld agg off size x=>match ev ρ x with
  | .agg cs=>if agg then (if off+size≤cs.size then some (.agg (cs.extract off (off+size))) else none) else cs[off]?
  | _=>none
 | .build zero places parts=>(Au places zero (parts.map fun(i,x)=>(i,ev ρ x))).map fun cs => .agg cs.toArray
 |
  .chk x=>match ev ρ x with
  | .pointer (some a)=>some (.pointer (some a))
  | _=>none
 |
  .faddr off x=>match ev ρ x with
  | .pointer (some ⟨b,o,none⟩)=>some (.pointer (some ⟨b,o+off,none⟩))
  | _=>none
 |
  .iaddr size x i=>match ev ρ x,ev ρ i with
  | .slice (some ⟨b,o,none⟩) n _,.int _ i=>if 0≤i∧i<n then some (.pointer (some ⟨b,o+i.toNat*size,none⟩)) else none
  | _,_=>none
 |
  .sidx x i=>match ev ρ x,ev ρ i with
  | .string s,.int _ i=>if 0≤i∧i<s.size then some (.int .u8 ((s.data.toList.getD i.toNat 0).toNat:Int)) else none
  | _,_=>none
 |
  .ssub x lo hi=>match ev ρ x with
  |
   .string s=>match Cc (lo.map (ev ρ)) (hi.map (ev ρ)) s.size with
   | some (l,h)=>some (.string (s.extract l h))
   | none=>none
  | _=>none
 | .mkfn f gG=>some (.func (.func f) #[] (gG.map (ev ρ)).toArray)
 |
  .slen x=>match ev ρ x with
  | .string s=>some (.int .i64 s.size)
  | _=>none
 |
  .len x=>match ev ρ x with
  | .slice _ n _=>some (.int .i64 n)
  | _=>none
 |
  .akY x=>match ev ρ x with
  | .slice none _ 0=>some (.int .i64 0)
  | _=>none
 |
  .min x y=>match ev ρ x,ev ρ y with
  | .int k a,.int _ b=>some (.int k (if b<a then b else a))
  | _,_=>none
 |
  .max x y=>match ev ρ x,ev ρ y with
  | .int k a,.int _ b=>some (.int k (if b>a then b else a))
  | _,_=>none
 | _=>none
def aJ.cells (H:aJ) (b:Nat):Option (List Value) :=
 match H[b]? with
 | some (.row cs _ _)=>some cs
 | _=>none
def aJ.read (H:aJ) (b o n:Nat):Option (List Value) :=
 match H[b]? with
 | some (.row cs _ _)=>if o+n≤cs.length then some ((cs.drop o).take n) else none
 | _=>none
def kM (cs:List Value) (o:Nat) (new:List Value):List Value:=cs.take o++new++cs.drop (o+new.length)
def aJ.write (H:aJ) (lo b o:Nat) (new:List Value):Option aJ :=
 match H[b]? with
 | some (.row cs e p)=>if lo≤b∧o+new.length≤cs.length∧new.all iQ then some (H.set b (.row (kM cs o new) e p)) else none
 | _=>none
def dG (n:Nat) (zero:List Value):List Value:=(aKx (n*zero.length)).map fun i=>zero.getD (i % zero.length) undef
inductive Out where
 | val (v:Value) (H:aJ)
 | call (f:Nat) (args:List Value)
def lD (H:aJ) (size n:Nat):Value→Option (List Value)
 | .slice (some ⟨b,o,none⟩) _ _=>H.read b o (n*size)
 | .slice none _ _=>if n=0 then some [] else none
 | .string s=>if size=1 then some ((s.data.toList.take n).map fun b => .int .u8 b.toNat) else none
 | _=>none
def wC:Value→Option Nat
 | .slice _ n _=>some n
 | .string s=>some s.size
 | _=>none
def fJ (lo size bytes:Nat) (x:Value) (add:Nat) (new:List Value) (H:aJ):Option (Value×aJ) :=
 if 1≤bytes∧1≤size∧new.all iQ∧new.length=add*size then
  match x with
  |
   .slice none n c =>
   if n=0∧c=0 then
    if add=0 then some (.slice none 0 0,H)
    else if add*bytes≤140737488355328 then some (.slice (some ⟨H.length,0,none⟩) add add,H++[.row new size true])
    else none
   else none
  |
   .slice (some ⟨b,o,none⟩) n c =>
   match H[b]? with
   |
    some (.row cs e p) =>
    if e=size∧o+n*size≤cs.length then
     if n+add≤c then
      if add=0 then some (.slice (some ⟨b,o,none⟩) n c,H)
      else (H.write lo b (o+n*size) new).map fun H'=>(.slice (some ⟨b,o,none⟩) (n+add) c,H')
     else if (n+add)*bytes≤140737488355328 then
      if p then
       if lo≤b then some (.slice (some ⟨H.length,0,none⟩) (n+add) (n+add),H.set b .dead++[.row ((cs.drop o).take (n*size)++new) size true])
       else none
      else some (.slice (some ⟨H.length,0,none⟩) (n+add) (n+add),H++[.row ((cs.drop o).take (n*size)++new) size true])
     else none
    else none
   | _=>none
  | _=>none
 else none
def E9 (size:Nat) (x:Value) (lo hi mx:Option Value) (H:aJ):Option (Value×aJ) :=
 match x with
 |
  .slice none n c=>if n=0∧c=0 then
   match fG mx (some 0) 0 with
   | none=>none
   |
    some m=>match fG hi (if mx.isSome then none else some 0) m with
    | none=>none
    |
     some h=>match fG lo (some 0) h with
     | none=>none
     | some _=>some (.slice none 0 0,H)
  else none
 |
  .slice (some ⟨b,o,none⟩) n c =>
  match H[b]? with
  |
   some (.row _ e _) =>
   if e=size then
    match fG mx (some c) c with
    | none=>none
    |
     some m=>match fG hi (if mx.isSome then none else some n) m with
     | none=>none
     |
      some h=>match fG lo (some 0) h with
      | none=>none
      |
       some l =>
       if mx.isSome∧m=l then some (.slice (some ⟨H.length,0,none⟩) 0 0,H++[.row [] size false])
       else some (.slice (some ⟨b,o+l*size,none⟩) (h-l) (m-l),H)
   else none
  | _=>none
 | _=>none
def yS:List Value→Option (List UInt8)
 | []=>some []
 | .int .u8 n::r=>(yS r).map (UInt8.ofNat n.toNat :: ·)
 | _=>none
def qQ (agg:Bool) (size:Nat) (v:Value) (H:aJ):Option Value :=
 match v with
 |
  .pointer (some ⟨b,o,none⟩) =>
  if agg then (H.read b o size).map fun cs => .agg cs.toArray
  else match H.read b o 1 with
   | some [v]=>some v
   | _=>none
 | _=>none
def pop (lo:Nat) (o:qH) (ρ:Env) (H:aJ):Option Out :=
 match o with
 | .load agg size p=>(qQ agg size (ev ρ p) H).map fun v => .val v H
 | .sub size x l h m=>(E9 size (ev ρ x) (l.map (ev ρ)) (h.map (ev ρ)) (m.map (ev ρ)) H).map fun(v,H') => .val v H'
 |
  .b2s x=>match ev ρ x with
  | .slice none _ _=>some (.val (.string ByteArray.empty) H)
  |
   .slice (some ⟨b,o,none⟩) n _=>match H.read b o n with
   | some cs=>(yS cs).map fun bs => .val (.string ⟨bs.toArray⟩) H
   | none=>none
  | _=>none
 | .new zero=>some (.val (.pointer (some ⟨H.length,0,none⟩)) (H++[.row zero zero.length false]))
 | .box x=>if (aX (ev ρ x)).all iQ then some (.val (.pointer (some ⟨H.length,0,none⟩)) (H++[.row (aX (ev ρ x)) (aX (ev ρ x)).length false])) else none
 |
  .make zero bytes l c=>match ev ρ l,ev ρ c with
  | .int .i64 l,.int .i64 c=>if 0≤l∧l≤c∧c*bytes≤281474976710656∧c≤9223372036854775807 then
    some (.val (.slice (some ⟨H.length,0,none⟩) l.toNat c.toNat) (H++[.row (dG c.toNat zero) zero.length false])) else none
  | _,_=>none
 |
  .lit zero n parts =>
  match Au ((aKx n).map fun i=>(i*zero.length,zero.length)) (dG n zero) (parts.map fun(i,x)=>(i,ev ρ x)) with
  | some cs=>if cs.all iQ then some (.val (.slice (some ⟨H.length,0,none⟩) n n) (H++[.row cs zero.length false])) else none
  | none=>none
 |
  .store size p v=>match ev ρ p with
  | .pointer (some ⟨b,o,none⟩)=>if (aX (ev ρ v)).length=size then (H.write lo b o (aX (ev ρ v))).map fun H' => .val undef H' else none
  | _=>none
 |
  .app size bytes x y=>match wC (ev ρ y) with
  |
   some n=>match lD H size n (ev ρ y) with
   | some new=>(fJ lo size bytes (ev ρ x) n new H).map fun(v,H') => .val v H'
   | none=>none
  | none=>none
 |
  .appz zero bytes x n=>match ev ρ n with
  | .int .i64 n=>if 0≤n∧n*bytes≤140737488355328 then (fJ lo zero.length bytes (ev ρ x) n.toNat (dG n.toNat zero) H).map fun(v,H') => .val v H' else none
  | _=>none
 |
  .copy size x y=>match ev ρ x,wC (ev ρ y) with
  | .slice none _ _,some _=>some (.val (.int .i64 0) H)
  |
   .slice (some ⟨b,o,none⟩) d _,some s=>match lD H size (Nat.min s d) (ev ρ y) with
   | some new=>(H.write lo b o new).map fun H' => .val (.int .i64 (Nat.min s d)) H'
   | none=>none
  | _,_=>none
 |
  .clear zero x=>match ev ρ x with
  | .slice none _ _=>some (.val undef H)
  | .slice (some ⟨b,o,none⟩) n _=>if n=0 then some (.val undef H) else (H.write lo b o (dG n zero)).map fun H' => .val undef H'
  | _=>none
 | .call f args=>some (.call f (args.map (ev ρ)))
 |
  .callv fv args=>match ev ρ fv with
  | .func (.func f) first gG=>some (.call f (first.toList++args.map (ev ρ)++gG.toList))
  | _=>none
 | o=>(kE o ρ).map (.val · H)
structure PI where
 dst:Option Nat
 op:qH
 g:Option (Nat×Bool):=none
 quiet:Bool:=false
 cf:List (Operand×Operand):=[]
 deriving Inhabited
inductive aE where
 | skip
 | cU (ops:List PI)
 | seq (a b:aE)
 | cond (c:Operand) (a b:aE)
 | block (id:Nat) (a:aE)
 | loop (a:aE)
 | exit (id:Nat)
 | ret
 deriving Inhabited
inductive CY where
 | tmp (t:Nat)
 | cell (t:Nat) (agg:Bool) (size:Nat)
 deriving Inhabited
structure aU where
 ntmps:Nat
 res:List CY
 body:aE
 deriving Inhabited
inductive Ex where
 | normal
 | exit (id:Nat)
 | ret
abbrev iL:=Nat→List Value→Nat→aJ→Option (Value×aJ)
def B8 (g:Option (Nat×Bool)) (ρ:Env):Option Bool :=
 match g with
 | none=>some true
 |
  some (t,want)=>match ρ t with
  | .bool b=>some (b == want)
  | .tuple _=>some false
  | _=>none
def kV:Value→Option Nat
 | .pointer (some a)=>some a.block
 | .slice (some a) _ _=>some a.block
 | _=>none
def C7 (ρ:Env) (c:Operand×Operand):Bool :=
 match kV (ev ρ c.1),kV (ev ρ c.2) with
 | some a,some b=>a != b
 | _,_=>true
def B1 (call:iL) (lo:Nat) (i:PI) (ρ:Env) (H:aJ):Option (Value×aJ) :=
 match B8 i.g ρ with
 | none=>none
 | some false=>some (undef,H)
 |
  some true =>
  if i.cf.all (C7 ρ) then
   match pop lo i.op ρ H with
   | some (.val v H')=>some (v,H')
   | some (.call f args)=>call f args (if i.quiet then H.length else lo) H
   | none=>none
  else none
def BD (call:iL) (lo:Nat) (i:PI) (ρ:Env) (H:aJ):Option (Env×aJ) :=
 match B1 call lo i ρ H with
 | some (v,H')=>some (put ρ i.dst v,H')
 | none=>none
def jF (call:iL) (lo:Nat):List PI→Env→aJ→Option (Env×aJ)
 | [],ρ,H=>some (ρ,H)
 |
  i::is,ρ,H=>match BD call lo i ρ H with
  | some (aQ,H')=>jF call lo is aQ H'
  | none=>none
def BW (body:Env→aJ→Option (Ex×Env×aJ)):Nat→Env→aJ→Option (Ex×Env×aJ)
 | 0,_,_=>none
 |
  n+1,ρ,H=>match body ρ H with
  | some (.normal,aQ,H')=>BW body n aQ H'
  | r=>r
def dV (call:iL) (lo n:Nat):aE→Env→aJ→Option (Ex×Env×aJ)
 | .skip,ρ,H=>some (.normal,ρ,H)
 | .cU ops,ρ,H=>(jF call lo ops ρ H).map fun(aQ,H')=>(.normal,aQ,H')
 |
  .seq a b,ρ,H=>match dV call lo n a ρ H with
  | some (.normal,aQ,H')=>dV call lo n b aQ H'
  | r=>r
 |
  .cond c a b,ρ,H=>match ev ρ c with
  | .bool t=>if t then dV call lo n a ρ H else dV call lo n b ρ H
  | _=>none
 |
  .block id a,ρ,H=>match dV call lo n a ρ H with
  | some (.exit We,aQ,H')=>if We=id then some (.normal,aQ,H') else some (.exit We,aQ,H')
  | r=>r
 | .loop a,ρ,H=>BW (dV call lo n a) n ρ H
 | .exit id,ρ,H=>some (.exit id,ρ,H)
 | .ret,ρ,H=>some (.ret,ρ,H)
def ZT (ρ:Env) (H:aJ):CY→Option Value
 | .tmp t=>some (ρ t)
 | .cell t agg size=>qQ agg size (ρ t) H
def DW (ρ:Env) (H:aJ):List CY→Option (List Value)
 | []=>some []
 |
  r::rs=>match ZT ρ H r,DW ρ H rs with
  | some v,some vs=>some (v::vs)
  | _,_=>none
def tZ (res:List CY) (ρ:Env) (H:aJ):Option Value :=
 match DW ρ H res with
 | some [v]=>some v
 | some vs=>some (.tuple vs.toArray)
 | none=>none
def acZ (args:List Value):Env:=fun k=>args.getD k undef
structure Db where
 DN:Nat→Option (List Value→aJ→Option Value)
 eff:Nat→Bool
abbrev Tab:=Nat→Option aU
def oN (E:Db) (T:Tab):Nat→iL
 | 0,_,_,_,_=>none
 |
  n+1,f,args,lo,H =>
  match E.DN f with
  | some p=>(p args H).map (·,H)
  |
   none=>match T f with
   | none=>none
   |
    some pf =>
    if args.length≤pf.ntmps then
     match dV (oN E T n) lo n pf.body (acZ args) H with
     | some (.normal,ρ,H') | some (.ret,ρ,H')=>(tZ pf.res ρ H').map (·,H')
     | _=>none
    else none
def LT (n:Nat):Operand := .tmp n
def LI (n:Int):Operand := .const (.int .i64 n)
def LG:Operand := .const (.bool true)
def LF:Operand := .const (.bool false)
def LL (n:Nat):qH := .load false 1 (.tmp n)
def LK (n:Nat):qH := .load true 3 (.tmp n)
def LX (n k:Nat):qH := .ext (.tmp n) k
def LA (k n:Nat):qH := .faddr k (.tmp n)
def LO (d:Nat) (p:qH):PI:=⟨some d,p,none,false,[]⟩
def LQ (d:Nat) (p:qH):PI:=⟨some d,p,none,true,[]⟩
def LN (p:qH):PI:=⟨none,p,none,false,[]⟩
def LM (d s:Nat):PI:=⟨some d,.mv (.tmp s),none,false,[]⟩
def LY (g d:Nat) (p:qH):PI:=⟨some d,p,some (g,true),false,[]⟩
def LZ (g d:Nat) (p:qH):PI:=⟨some d,p,some (g,false),false,[]⟩
def LS (l:List PI) (c:aE):aE := .seq (.cU l) c
end Go.PM
namespace Go.PM
def Gc:TypeDesc→Bool
 | .struct _ | .array _ _=>true
 | _=>false
def oO (P:Program) (t:TypeId):Option (Bool×Nat×List Value×Nat) :=
 match P.info? t,P.underlying t with
 |
  some i,some u=>match i.zero with
  | some z=>some (Gc u,i.size,aX z,i.bytes)
  | none=>none
 | _,_=>none
def lK (P:Program) (t:TypeId):Option (Bool×Nat×List Value×Nat) :=
 match P.underlying t with
 | some (.slice e)=>oO P e
 | _=>none
def nA:Value→Bool
 | .bool _ | .int _ _ | .string _ | .pointer none | .slice none 0 0 | .nilFunc | .nilIface=>true
 | .agg cs=>cs.all fun | .bool _ | .int _ _ | .string _ | .pointer none | .slice none 0 0 | .nilFunc | .nilIface=>true | _=>false
 | .tuple vs=>vs.isEmpty
 | _=>false
def SZ:Operand→Bool
 | .tmp _ | .func _=>true
 | .const v=>nA v
 | .global _=>false
def zV (P:Program):Nat→List Field→Option (List CK)
 | _,[]=>some []
 |
  i,f::fs =>
  if f.name != "_"&&f.offset == i then
   match (P.info? f.type).map (·.size),P.underlying f.type,zV P (i+1) fs with
   | some 1,some (.int _),some ks=>some (.int::ks)
   | some 1,some .bool,some ks=>some (.bool::ks)
   | some 1,some .string,some ks=>some (.str::ks)
   | _,_,_=>none
  else none
def FA (P:Program) (t:TypeId):Option (List CK) :=
 match P.underlying t with
 | some (.struct fs)=>if P.stoodInHeld t||P.eqGuardType P.depth t then none else zV P 0 fs.toList
 | _=>none
def Sr:Operand→Bool
 | .const (.slice none 0 0)=>true
 | _=>false
def D2 (P:Program) (op:BinOp) (t:TypeId) (x y:Operand):Option qH :=
 match P.underlying t with
 | some (.int _) | some .string=>some (.bin op x y)
 |
  some .bool=>match op with
  | .eql=>some (.eqb false x y)
  | .neq=>some (.eqb true x y)
  | _=>none
 |
  some (.slice _)=>match op with
  | .eql=>if Sr y then some (.isnil false x) else none
  | .neq=>if Sr y then some (.isnil true x) else none
  | _=>none
 | some (.struct _)=>match op,FA P t with
   | .eql,some ks=>some (.eqagg false ks x y)
   | .neq,some ks=>some (.eqagg true ks x y)
   | _,_=>none
 | _=>none
def NZ:TypeDesc→Bool
 | .slice _ | .string=>true
 | _=>false
def rV (P:Program) (b:Builtin) (args:Array Operand) (ts:Array TypeId):Option qH :=
 match b,args.toList,ts.toList with
 |
  .len,[x],t::_=>match P.underlying t with
  | some .string=>some (.slen x)
  | some (.slice _)=>some (.len x)
  | _=>none
 |
  .cap,[x],t::_=>match P.underlying t with
  | some (.slice _)=>some (.akY x)
  | _=>none
 | .min,[x,y],_=>some (.min x y)
 | .max,[x,y],_=>some (.max x y)
 |
  .append,[x,y],s::t::_=>match lK P s,P.underlying t with
  | some (_,size,zero,bytes),some (.int _)=>if zero.all iQ&&zero.all nA&&1≤zero.length&&size == zero.length then some (.appz zero bytes x y) else none
  | some (_,size,zero,bytes),some d=>if NZ d then (if size == zero.length then some (.app size bytes x y) else none) else none
  | _,_=>none
 |
  .copy,[x,y],t::_=>match lK P t with
  | some (_,size,_,_)=>some (.copy size x y)
  | _=>none
 |
  .clear,[x],t::_=>match lK P t with
  | some (_,size,zero,_)=>if zero.all iQ&&zero.all nA&&size == zero.length&&1≤zero.length then some (.clear zero x) else none
  | _=>none
 | _,_,_=>none
def tJ (P:Program) (o:Op):Option qH :=
 if o.operands.all SZ then
  match o with
  | .move x | .assign x=>some (.mv x)
  | .pick c a b=>some (.pick c a b)
  | .binOp op t x y _=>D2 P op t x y
  | .unOp op _ x=>some (.un op x)
  |
   .convert s d x=>match P.underlying s,P.underlying d with
   | some (.int _),some (.int k)=>some (.cvt k x)
   | some .string,some .string=>some (.cvs x)
   |
    some (.slice e),some .string=>match P.underlying e with
    | some (.int .u8)=>some (.b2s x)
    | _=>none
   | _,_=>none
  | .extract x i=>some (.ext x i)
  |
   .field t x i=>match P.underlying t with
   |
    some (.struct fs)=>match fs[i]? with
    | some f=>(oO P f.type).map fun(agg,size,_,_) => .fld agg f.offset size x
    | none=>none
   | _=>none
  |
   .build t parts=>match P.underlying t,oO P t with
   |
    some (.struct fs),some (_,_,zero,_) =>
    match fs.toList.mapM fun f=>(P.info? f.type).map fun i=>(f.offset,i.size) with
    | some places=>if zero.all nA then some (.build zero places parts.toList) else none
    | none=>none
   | _,_=>none
  | .nilCheck x=>some (.chk x)
  |
   .fieldAddr t x i=>match P.underlying t with
   |
    some (.struct fs)=>match fs[i]? with
    |
     some f=>match P.info? f.type with
     | some i=>if i.size=0 then none else some (.faddr f.offset x)
     | none=>none
    | none=>none
   | _=>none
  | .indexAddr t x i=>(lK P t).map fun(_,size,_,_) => .iaddr size x i
  |
   .index t x i=>match P.underlying t with
   | some .string=>some (.sidx x i)
   | _=>none
  |
   .slice t x lo hi mx=>match P.underlying t with
   | some .string=>if mx.isNone then some (.ssub x lo hi) else none
   | some (.slice e)=>(oO P e).map fun(_,size,_,_) => .sub size x lo hi mx
   | _=>none
  | .makeInterface _ _ | .panic _=>some .die
  | .makeFunc (.func f) first gG=>if first.isEmpty then some (.mkfn f gG.toList) else none
  | .load t p=>(oO P t).map fun(agg,size,_,_) => .load agg size p
  | .store t p v=>(P.info? t).map fun i => .store i.size p v
  |
   .alloc t=>match oO P t with
   | some (_,_,zero,_)=>if zero.all iQ&&zero.all nA then some (.new zero) else none
   | none=>none
  | .box _ x=>some (.box x)
  |
   .makeSlice t l c=>match lK P t with
   | some (_,size,zero,bytes)=>if zero.all iQ&&zero.all nA&&size == zero.length&&1≤size then some (.make zero bytes l c) else none
   | none=>none
  |
   .buildSlice t n parts=>match lK P t with
   | some (_,size,zero,_)=>if zero.all iQ&&zero.all nA&&size == zero.length&&1≤size&&n*size≤16777216 then some (.lit zero n parts.toList) else none
   | none=>none
  | .call { callee := .builtin b,args,argTypes }=>rV P b args argTypes
  | .call { callee := .value (.func f),args,.. }=>some (.call f args.toList)
  | .call { callee := .value (.tmp t),args,.. }=>some (.callv (.tmp t) args.toList)
  | _=>none
 else none
inductive Cls where
 | pure | look | quiet | write
 deriving DecidableEq
def gZ (E:Db):qH→Cls
 | .load .. | .b2s _ => .look
 | .sub _ _ _ _ mx=>if mx.isSome then .quiet else .look
 | .new _ | .box _ | .make .. | .lit .. | .callv .. => .quiet
 | .call f _=>if E.eff f then .write else .quiet
 | .store .. | .app .. | .appz .. | .copy .. | .clear .. => .write
 | _ => .pure
def HQ:qH→Option Operand
 | .load _ _ p=>some p
 | .sub _ x _ _ _=>some x
 | .b2s x=>some x
 | .store _ p _=>some p
 | .app _ _ x _=>some x
 | .appz _ _ x _=>some x
 | .copy _ x _=>some x
 | .clear _ x=>some x
 | _=>none
def AO (o:Oper) (M:List Nat):Nat :=
 o.after.toList.foldr (fun e s=>if Region.binds .any e then s ||| 2^e.on ||| M.getD e.on 0 else s) 0
def SU:List Oper→List Nat→List Nat
 | [],acc=>acc
 | o::os,acc=>SU os (acc++[AO o acc])
def tmpsOf (xs:Array Operand):List Nat:=xs.toList.filterMap fun | .tmp t=>some t | _=>none
def AF (ops:List Oper) (o:Oper):List Nat :=
 tmpsOf o.op.operands++(match o.guard with | some (j,_)=>((ops[j]?).bind (·.dst)).toList | none=>[])
def ahead (M:List Nat) (i j:Nat):Bool:=(M.getD (Nat.max i j) 0).testBit (Nat.min i j)
def guardOf (ops:List Oper) (i:Nat) (o:Oper):Option (Option (Nat×Bool)) :=
 match o.guard with
 | none=>some none
 |
  some (j,want)=>if j<i then match (ops[j]?).bind (·.dst) with
   | some d=>some (some (d,want))
   | none=>none
  else none
def Gv (ops:List Oper) (i j:Nat):Operand→Bool
 | .tmp t=>(ops.take j).drop i |>.all fun o=>o.dst != some t
 | _=>false
def conflicts (E:Db) (ops:List Oper) (ps:List qH) (M:List Nat) (j:Nat) (pj:qH):Option (List (Operand×Operand)) :=
 (aKx j).foldr (fun i acc=>match acc,ps[i]? with
  |
   some l,some pi =>
   match gZ E pi,gZ E pj with
   |
    .look,.write | .write,.look =>
    if ahead M i j then some l
    else match HQ pi,HQ pj with
     | some a,some b=>if Gv ops i j a then some ((a,b)::l) else none
     | _,_=>none
   | .write,.write | .quiet,.write | .write,.quiet=>if ahead M i j then some l else none
   | _,_=>some l
  | _,_=>none) (some [])
def ahP (mask:Nat):Option (Nat×Bool)→Bool
 | some (j,_)=>mask.testBit j
 | none=>true
def avF (n:Nat):Option Nat→Bool
 | some d=>decide (d<n)
 | none=>true
def Ys (E:Db) (ops:List Oper) (ps:List qH) (M:List Nat) (n:Nat) (draw:Bool) (i:Nat):Option PI :=
 match ops[i]?,ps[i]? with
 |
  some o,some p =>
  if avF n o.dst then
   match guardOf ops i o with
   | none=>none
   |
    some g =>
    if draw then
     if (o.after.toList.all fun e => !Region.binds .any e||decide (e.on<i))
      && ahP (M.getD i 0) o.guard
      && (
       (o.dst.toList++AF ops o).all fun t=>(aKx ops.length).all fun k=>match ops[k]? with
       | some ok=>ok.dst != some t||k == i||ahead M i k
       | none=>true)
      && (M.getD i 0 == AO o M)
     then (conflicts E ops ps M i p).map fun cf=>{ dst:=o.dst,op:=p,g:=g,quiet:=(match gZ E p with | .quiet=>true | _=>false),cf:=cf }
     else none
    else some { dst:=o.dst,op:=p,g:=g }
  else none
 | _,_=>none
def Bj (P:Program) (E:Db) (n:Nat) (ops:Array Oper) (draw:Bool):Option (List PI) :=
 match ops.toList.mapM fun o=>tJ P o.op with
 |
  some ps =>
  let M:=if draw then SU ops.toList [] else []
  (aKx ops.size).mapM fun i=>Ys E ops.toList ps M n draw i
 | none=>none
def jU (P:Program) (E:Db) (n:Nat):Code→Option aE
 | .skip=>some .skip
 | .region _ ops draw=>(Bj P E n ops draw).map .cU
 |
  .seq a b=>match jU P E n a,jU P E n b with
  | some a,some b=>some (.seq a b)
  | _,_=>none
 |
  .cond c a b=>if SZ c then match jU P E n a,jU P E n b with
   | some a,some b=>some (.cond c a b)
   | _,_=>none
  else none
 | .block id a=>(jU P E n a).map (.block id)
 | .loop a=>(jU P E n a).map .loop
 | .exit id=>some (.exit id)
 | .ret=>some .ret
 | _=>none
def PK (P:Program) (E:Db) (fn:Func):Option aU :=
 match fn.body with
 | none=>none
 |
  some c =>
  if fn.name == "runtime.NumGoroutine" then none else
  match fn.results.toList.mapM fun | .tmp t=>some (.tmp t) | .cell t ty=>(oO P ty).map fun(agg,size,_,_) => .cell t agg size with
  | none=>none
  | some res=>(jU P E fn.ntmps c).map fun body=>{ ntmps:=fn.ntmps,res:=res,body:=body }
def W1 (P:Program) (E:Db):Tab:=fun f=>(P.funcs[f]?).bind (PK P E)
end Go.PM
namespace Go.PM
structure Loc where
 rb:Nat
 base:Nat
 gU:Nat
 St:Nat
 Uy:Bool
abbrev dO:=Nat→Option Loc
inductive RV (m:dO):Value→Value→Prop
 | bool (b:Bool):RV m (.bool b) (.bool b)
 | int (k:IntKind) (n:Int):RV m (.int k n) (.int k n)
 | str (s:ByteArray):RV m (.string s) (.string s)
 | ajG:RV m (.pointer none) (.pointer none)
 | ptr (b o:Nat) (l:Loc) (h:m b=some l):RV m (.pointer (some ⟨b,o,none⟩)) (.pointer (some ⟨l.rb,l.base+o,none⟩))
 | Nj:RV m (.slice none 0 0) (.slice none 0 0)
 | slice (b o n c:Nat) (l:Loc) (ra:Addr) (rc:Nat) (h:m b=some l) (hn:n≤c) (hc:c≤rc) (hx:l.Uy=false→rc=c)
  (ha:rc=0∨(ra=⟨l.rb,l.base+o,none⟩∧l.base+o+rc*l.gU≤l.St)):RV m (.slice (some ⟨b,o,none⟩) n c) (.slice (some ra) n rc)
 | nilFunc:RV m .nilFunc .nilFunc
 | nilIface:RV m .nilIface .nilIface
 | func (fn:Fn) (f g c d:Array Value) (h1:f.size=g.size) (h2:∀i,i<f.size→RV m (f.getD i undef) (g.getD i undef))
  (h3:c.size=d.size) (h4:∀i,i<c.size→RV m (c.getD i undef) (d.getD i undef)):RV m (.func fn f c) (.func fn g d)
 | agg (f g:Array Value) (h1:f.size=g.size) (h2:∀i,i<f.size→RV m (f.getD i undef) (g.getD i undef)):RV m (.agg f) (.agg g)
 | tuple (f g:Array Value) (h1:f.size=g.size) (h2:∀i,i<f.size→RV m (f.getD i undef) (g.getD i undef)):RV m (.tuple f) (.tuple g)
theorem RV.mono {m m':dO} (hm:∀b l,m b=some l→m' b=some l) {v r:Value} (h:RV m v r):RV m' v r:=by
 induction h with
 | bool b=>exact .bool b
 | int k n=>exact .int k n
 | str s=>exact .str s
 | ajG=>exact .ajG
 | ptr b o l h=>exact .ptr b o l (hm _ _ h)
 | Nj=>exact .Nj
 | slice b o n c l ra rc h hn hc hx ha=>exact .slice b o n c l ra rc (hm _ _ h) hn hc hx ha
 | nilFunc=>exact .nilFunc
 | nilIface=>exact .nilIface
 | func fn f g c d h1 _ h3 _ i2 i4=>exact .func fn f g c d h1 i2 h3 i4
 | agg f g h1 _ i2=>exact .agg f g h1 i2
 | tuple f g h1 _ i2=>exact .tuple f g h1 i2
theorem RV.undef (m:dO):RV m undef undef := .tuple _ _ rfl (fun i hi=>absurd hi (by simp))
def RL (m:dO) (xs ys:List Value):Prop:=xs.length=ys.length∧∀i,i<xs.length→RV m (xs.getD i Go.undef) (ys.getD i Go.undef)
theorem RL.mono {m m':dO} (hm:∀b l,m b=some l→m' b=some l) {xs ys:List Value} (h:RL m xs ys):RL m' xs ys :=
 ⟨h.1,fun i hi=>(h.2 i hi).mono hm⟩
theorem RL.nil (m:dO):RL m [] []:=⟨rfl,fun i hi=>absurd hi (by simp)⟩
theorem RL.cons {m:dO} {x y:Value} {xs ys:List Value} (h:RV m x y) (hs:RL m xs ys):RL m (x::xs) (y::ys):=by
 refine⟨by simp[hs.1],fun i hi => ?_⟩
 cases i with
 | zero=>simpa using h
 | succ i=>simpa using hs.2 i (by simpa using hi)
theorem RL.lO {m:dO} {x y:Value} {xs ys:List Value} (h:RL m (x::xs) (y::ys)):RV m x y∧RL m xs ys:=by
 refine⟨by simpa using h.2 0 (by simp),by simpa using h.1,fun i hi => ?_⟩
 simpa using h.2 (i+1) (by simpa using hi)
theorem RL.append {m:dO} {xs ys us vs:List Value} (h:RL m xs ys) (h':RL m us vs):RL m (xs++us) (ys++vs):=by
 induction xs generalizing ys with
 |
  nil =>
  cases ys with
  | nil=>simpa using h'
  | cons y ys=>exact absurd h.1 (by simp)
 |
  cons x xs ih =>
  cases ys with
  | nil=>exact absurd h.1 (by simp)
  | cons y ys=>exact RL.cons h.lO.1 (ih h.lO.2)
theorem RL.take {m:dO} {xs ys:List Value} (h:RL m xs ys) (n:Nat):RL m (xs.take n) (ys.take n):=by
 refine⟨by simp[h.1],fun i hi => ?_⟩
 simp only[List.length_take] at hi
 have:=h.2 i (by omega)
 simpa[aKy,List.getElem?_take,show i<n by omega] using this
theorem RL.drop {m:dO} {xs ys:List Value} (h:RL m xs ys) (n:Nat):RL m (xs.drop n) (ys.drop n):=by
 refine⟨by simp[h.1],fun i hi => ?_⟩
 simp only[List.length_drop] at hi
 have:=h.2 (n+i) (by omega)
 simpa[aKy,aKz] using this
theorem Cs (a:Array Value) (i:Nat):a.toList.getD i Go.undef=a.getD i Go.undef:=by simp
theorem RL.arr {m:dO} {f g:Array Value} (h1:f.size=g.size) (h2:∀i,i<f.size→RV m (f.getD i Go.undef) (g.getD i Go.undef)):RL m f.toList g.toList :=
 ⟨by simpa using h1,fun i hi=>by simpa using h2 i (by simpa using hi)⟩
theorem RL.auG {m:dO} {xs ys:List Value} (h:RL m xs ys):RV m (.agg xs.toArray) (.agg ys.toArray) :=
 .agg _ _ (by simpa using h.1) (fun i hi=>by simpa using h.2 i (by simpa using hi))
theorem RL.Zo {m:dO} {xs ys:List Value} (h:RL m xs ys):RV m (.tuple xs.toArray) (.tuple ys.toArray) :=
 .tuple _ _ (by simpa using h.1) (fun i hi=>by simpa using h.2 i (by simpa using hi))
theorem RL.map {m:dO} {α:Type} {f g:α→Value}:∀ {l:List α},(∀x∈l,RV m (f x) (g x))→RL m (l.map f) (l.map g)
 | [],_=>RL.nil m
 | x::l,h=>RL.cons (h x (by simp)) (RL.map fun y hy=>h y (by simp[hy]))
theorem RV.aX {m:dO} {v r:Value} (h:RV m v r):RL m (aX v) (aX r):=by
 cases h with
 | agg f g h1 h2=>exact RL.arr h1 h2
 | _=>exact RL.cons (by first | exact .bool _ | exact .int _ _ | exact .str _ | exact .ajG | (exact .ptr _ _ _ (by assumption)) | exact .Nj | (exact .slice _ _ _ _ _ _ _ (by assumption) (by assumption) (by assumption) (by assumption) (by assumption)) | exact .nilFunc | exact .nilIface | (exact .func _ _ _ _ _ (by assumption) (by assumption) (by assumption) (by assumption)) | (exact .tuple _ _ (by assumption) (by assumption))) (RL.nil m)
theorem RV.iQ {m:dO} {v r:Value} (h:RV m v r):iQ r=iQ v:=by cases h<;>rfl
theorem RL.iQ {m:dO} {xs ys:List Value} (h:RL m xs ys):ys.all PM.iQ=xs.all PM.iQ:=by
 induction xs generalizing ys with
 |
  nil =>
  cases ys with
  | nil=>rfl
  | cons y ys=>exact absurd h.1 (by simp)
 |
  cons x xs ih =>
  cases ys with
  | nil=>exact absurd h.1 (by simp)
  | cons y ys=>simp[h.lO.1.iQ,ih h.lO.2]
theorem iA (v:Value):v.cells.toList=aX v:=by cases v<;>rfl
theorem fV (v:Value):v.cells.size=(aX v).length:=by rw[←iA];simp
theorem SI (v:Value):v.oneCell'=iQ v:=by cases v<;>rfl
theorem RV.const {m:dO} {v:Value} (h:nA v=true):RV m v v:=by
 have one:∀u:Value,(match u with | .bool _ | .int _ _ | .string _ | .pointer none | .slice none 0 0 | .nilFunc | .nilIface=>true | _=>false)=true→RV m u u:=by
  intro u hu
  split at hu<;>first | exact .bool _ | exact .int _ _ | exact .str _ | exact .ajG | exact .Nj | exact .nilFunc | exact .nilIface | cases hu
 unfold nA at h
 split at h
 case h_8 cs =>
  refine .agg _ _ rfl fun i hi=>one _ ?_
  have:=Array.all_eq_true.1 h i hi
  have e:cs.getD i Go.undef=cs[i]:=by simp[hi]
  rw[e]
  exact this
 case h_9 vs =>
  have:vs = #[]:=by simpa using h
  subst this
  exact RV.undef m
 all_goals first | exact .bool _ | exact .int _ _ | exact .str _ | exact .ajG | exact .Nj | exact .nilFunc | exact .nilIface | cases h
theorem XA {m:dO} {ρ:Env} {a:Act} {x:Operand} (hx:SZ x=true) (ht:∀t,x = .tmp t→RV m (ρ t) (a.tmps.getD t Go.undef)):RV m (ev ρ x) (a.eval x):=by
 cases x with
 | tmp t=>exact ht t rfl
 | const v=>exact RV.const hx
 | global g=>cases hx
 | func f=>exact .func _ _ _ _ _ rfl (fun i hi=>absurd hi (by simp)) rfl (fun i hi=>absurd hi (by simp))
def Live (H:aJ) (b:Nat):Prop:=∃cs e p,H[b]? = some (.row cs e p)∧(cs≠[]∨p=true)
theorem Live.lt {H:aJ} {b:Nat} (h:Live H b):b<H.length:=by
 obtain⟨cs,e,p,h,_⟩:=h
 exact(aKA.1 h).1
def arM:List (Nat×Array Value):=[]
 ++ [(3,(Lib.pow10Tab.map fun z=>Value.int .u64 z).toArray)]
def SA (w:World):Prop:=∀x∈arM,∃e fz,w.heap[x.1]? = some (.cells x.2 e fz)
def azC (m:dO) (L0:Nat) (H:aJ) (w:World):Prop :=
 ∀x∈arM,(∃e fz,w.heap[x.1]? = some (.cells x.2 e fz))∧∀b l,L0≤b→m b=some l→Live H b→l.rb≠x.1
structure Rel (m:dO) (L0:Nat) (H:aJ) (w:World):Prop where
 valid:∀b l,m b=some l→∃arr e fz,w.heap[l.rb]? = some (.cells arr e fz)∧arr.size=l.St∧(L0≤b→∀j,l.base≤j→j<l.St→¬(fz.1≤j∧j<fz.2))
 row:∀b l cs e p,m b=some l→H[b]? = some (.row cs e p)→l.gU=e∧l.Uy=p∧l.base+cs.length≤l.St ∧
  ∀i,i<cs.length→∃rv,w.cell? ⟨l.rb,l.base+i,none⟩=some rv∧RV m (cs.getD i Go.undef) rv∧iQ (cs.getD i Go.undef)=true
 inj:∀b1 b2 l1 l2,L0≤b1→m b1=some l1→m b2=some l2→Live H b1→Live H b2→l1.rb=l2.rb→b1=b2
 FX:azC m L0 H w
structure Ext (lo:Nat) (H H':aJ):Prop where
 len:H.length≤H'.length
 low:∀b,b<lo→b<H.length→H'[b]? = H[b]?
 liv:∀b,b<H.length→Live H' b→Live H b
theorem Ext.refl (lo:Nat) (H:aJ):Ext lo H H:=⟨aKB _,fun _ _ _=>rfl,fun _ _ h=>h⟩
theorem Ext.trans {lo:Nat} {H H1 H2:aJ} (h:Ext lo H H1) (h':Ext lo H1 H2):Ext lo H H2 :=
 ⟨aKC h.len h'.len,fun b hb hl=>(h'.low b hb (aKD hl h.len)).trans (h.low b hb hl),
  fun b hb hl=>h.liv b hb (h'.liv b (aKD hb h.len) hl)⟩
structure Trans (lo:Nat) (m:dO) (H:aJ) (w:World) (m':dO) (H':aJ) (w':World):Prop where
 ext:∀b l,m b=some l→m' b=some l
 new:∀b l,m' b=some l→m b=none→(H.length≤b∧b<H'.length) ∧
  (w.heap.size≤l.rb∨¬Live H' b∨∃b0 l0,lo≤b0∧m b0=some l0∧Live H b0∧l0.rb=l.rb)
 size:w.heap.size≤w'.heap.size
 dB:∀rb,rb<w.heap.size→(∀b l,lo≤b→m b=some l→Live H b→l.rb≠rb)→w'.heap[rb]? = w.heap[rb]?
 same:w'.os=w.os∧w'.output=w.output∧w'.tape=w.tape
theorem Trans.refl (lo:Nat) (m:dO) (H:aJ) (w:World):Trans lo m H w m H w :=
 ⟨fun _ _ h=>h,fun b l h h'=>(by rw[h] at h';cases h'),aKB _,fun _ _ _=>rfl,rfl,rfl,rfl⟩
theorem Trans.trans {lo:Nat} {m m1 m2:dO} {H H1 H2:aJ} {w w1 w2:World} (hf:∀b,H.length≤b→b<H2.length→m b=none)
  (e1:Ext lo H H1) (e2:Ext lo H1 H2) (h1:Trans lo m H w m1 H1 w1) (h2:Trans lo m1 H1 w1 m2 H2 w2):Trans lo m H w m2 H2 w2:=by
 have Es:∀b l,m b=some l→b<H2.length→b<H.length:=fun b l hm hb=>by
  rcases aKE b H.length with h | h
  ·exact h
  ·rw[hf b h hb] at hm;cases hm
 refine⟨fun b l h=>h2.ext _ _ (h1.ext _ _ h),fun b l h hn => ?_,aKC h1.size h2.size,fun rb Bm hk => ?_,
  h2.same.1.trans h1.same.1,h2.same.2.1.trans h1.same.2.1,h2.same.2.2.trans h1.same.2.2⟩
 ·cases QK:m1 b with
  |
   some l1 =>
   have:l1=l:=by have:=h2.ext _ _ QK;rw[h] at this;injection this with this;exact this.symm
   subst this
   obtain⟨⟨ha,hb⟩,hc⟩:=h1.new b l1 QK hn
   refine⟨⟨ha,aKD hb e2.len⟩,?_⟩
   rcases hc with hc | hc | hc
   ·exact .inl hc
   ·exact .inr (.inl fun hl=>hc (e2.liv b hb hl))
   ·exact .inr (.inr hc)
  |
   none =>
   obtain⟨⟨ha,hb⟩,hc⟩:=h2.new b l h QK
   refine⟨⟨aKC e1.len ha,hb⟩,?_⟩
   rcases hc with hc | hc | ⟨b0,l0,dS,hm0,Ct,Kp⟩
   ·exact .inl (aKC h1.size hc)
   ·exact .inr (.inl hc)
   ·cases Yv:m b0 with
    |
     some lb =>
     have:lb=l0:=by have:=h1.ext _ _ Yv;rw[hm0] at this;injection this with this;exact this.symm
     subst this
     have bI:=Es b0 lb Yv (aKD Ct.lt e2.len)
     exact .inr (.inr ⟨b0,lb,dS,Yv,e1.liv b0 bI Ct,Kp⟩)
    |
     none =>
     obtain⟨_,hd⟩:=h1.new b0 l0 hm0 Yv
     rcases hd with hd | hd | ⟨b1,l1,g1,g2,g3,g4⟩
     ·exact .inl (Kp▸hd)
     ·exact absurd Ct hd
     ·exact .inr (.inr ⟨b1,l1,g1,g2,g3,g4.trans Kp⟩)
 ·rw[h2.dB rb (aKD Bm h1.size) ?_,h1.dB rb Bm hk]
  intro b l dS QK hl hr
  cases Yv:m b with
  |
   some lb =>
   have:lb=l:=by have:=h1.ext _ _ Yv;rw[QK] at this;injection this with this;exact this.symm
   subst this
   have bI:=Es b lb Yv (aKD hl.lt e2.len)
   exact hk b lb dS Yv (e1.liv b bI hl) hr
  |
   none =>
   obtain⟨_,hd⟩:=h1.new b l QK Yv
   rcases hd with hd | hd | ⟨b0,l0,g1,g2,g3,g4⟩
   ·omega
   ·exact hd hl
   ·exact hk b0 l0 g1 g2 g3 (g4.trans hr)
end Go.PM
namespace Go.PM
section
variable {P:Program} {m:dO}
theorem aaI {op:BinOp} {t:TypeId} {x y:Operand} {v vx vy rx ry:Value} (hv:dK op vx vy=some v) (hx:RV m vx rx) (hy:RV m vy ry):∃rv,RV m v rv∧∀w,(do eqGuard op t x y rx ry;binOp op t rx ry:Sem Value).run P w = .ok rv w:=by
 unfold dK at hv
 split at hv
 ·cases hx;cases hy
  split at hv
  ·cases hv
  ·rename_i hb
   cases hv
   exact⟨_,.int _ _,fun w=>by
    show (if _ then _ else _:Sem Value).run P w=_
    rw[if_neg hb];rfl⟩
 ·cases hx;cases hy
  split at hv
  ·cases hv
  ·rename_i hb
   cases hv
   exact⟨_,.int _ _,fun w=>by
    show (if _ then _ else _:Sem Value).run P w=_
    rw[if_neg hb];rfl⟩
 ·cases hx;cases hy
  rename_i k a k' b _ _
  split at hv
  ·rename_i hk
   subst hk
   have e:∀(z:Sem Value),(if k≠k then (stuck "BinOp: operands of different kinds":Sem Value) else z)=z:=fun z=>if_neg (by simp)
   split at hv<;>first
    | (cases hv;done)
    | (cases hv;exact⟨_,.int _ _,fun w=>by
       show (if k≠k then _ else _:Sem Value).run P w=_
       rw[e];rfl⟩)
    | (cases hv;exact⟨_,.bool _,fun w=>by
       show (if k≠k then _ else _:Sem Value).run P w=_
       rw[e];rfl⟩)
    | (
      split at hv
      · cases hv
      · rename_i hb
        cases hv
        exact⟨_,.int _ _,fun w=>by
         show (if k≠k then _ else _:Sem Value).run P w=_
         rw[e]
         show (if b=0 then _ else _:Sem Value).run P w=_
         rw[if_neg hb];rfl⟩)
  ·cases hv
 ·cases hx;cases hy
  rename_i a b _ _
  split at hv<;>first
   | (cases hv;done)
   | (cases hv;exact⟨_,.bool _,fun w=>rfl⟩)
   | (
     split at hv
     ·cases hv
     ·rename_i hb
      cases hv
      exact⟨_,.str _,fun w=>by
       show (if _ then _ else _:Sem Value).run P w=_
       rw[if_neg hb];rfl⟩)
 ·cases hv
theorem aaX {neg:Bool} {t:TypeId} {x y:Operand} {a b:Bool} (h:P.underlying t=some .bool) (w:World) :
  (do eqGuard (if neg then .neq else .eql) t x y (.bool a) (.bool b);binOp (if neg then .neq else .eql) t (.bool a) (.bool b):Sem Value).run P w = .ok (.bool ((a == b) != neg)) w:=by
 cases neg
 ·show ((Op.equal t (.bool a) (.bool b)) >>= fun r=>pure (.bool r):Sem Value).run P w=_
  rw[Sem.run_bind,run_equal_bool w t a b h]
  cases a<;>cases b<;>rfl
 ·show ((Op.equal t (.bool a) (.bool b)) >>= fun r=>pure (.bool !r):Sem Value).run P w=_
  rw[Sem.run_bind,run_equal_bool w t a b h]
  cases a<;>cases b<;>rfl
theorem Hg {neg:Bool} {t e:TypeId} {x y:Operand} {a:Option Addr} {n c:Nat} (h:P.underlying t=some (.slice e)) (w:World) :
  (do eqGuard (if neg then .neq else .eql) t x y (.slice a n c) (.slice none 0 0);binOp (if neg then .neq else .eql) t (.slice a n c) (.slice none 0 0):Sem Value).run P w = .ok (.bool (a.isNone != neg)) w:=by
 cases neg
 ·show ((Op.equal t (.slice a n c) (.slice none 0 0)) >>= fun r=>pure (.bool r):Sem Value).run P w=_
  rw[Sem.run_bind,run_equal_slice_nil w t e a n c h]
  cases a<;>rfl
 ·show ((Op.equal t (.slice a n c) (.slice none 0 0)) >>= fun r=>pure (.bool !r):Sem Value).run P w=_
  rw[Sem.run_bind,run_equal_slice_nil w t e a n c h]
  cases a<;>rfl
theorem G8 (t:TypeId) (d:TypeDesc) (h:P.underlying t=some d) (w:World):(isAgg t).run P w = .ok (Gc d) w:=by
 unfold isAgg
 rw[Sem.run_bind,run_underlying h,Result.andThen_ok]
 cases d<;>rfl
theorem run_sizeOf (t:TypeId) (i:TypeInfo) (h:P.info? t=some i) (w:World):(sizeOf t).run P w = .ok i.size w:=by
 simp[sizeOf,typeInfo,h]
theorem D3 (t:TypeId) (d:TypeDesc) (h:P.underlying t=some d) (hd:Gc d=false) (zs:Array Value) (i:Nat) (hz:i<zs.size) (w:World) :
  (part t zs i).run P w = .ok zs[i] w:=by
 unfold part
 rw[Sem.run_bind,G8 t d h w,Result.andThen_ok,hd]
 simp[hz]
theorem SJ (t:TypeId) (d:TypeDesc) (n:TypeInfo) (h:P.underlying t=some d) (hn:P.info? t=some n) (hd:Gc d=true) (zs:Array Value) (i:Nat) (w:World) :
  (part t zs i).run P w = .ok (.agg (zs.extract i (i+n.size))) w:=by
 unfold part
 rw[Sem.run_bind,G8 t d h w,Result.andThen_ok,hd]
 simp[run_sizeOf t n hn]
theorem PT {a b:Value} {c:Bool} (h:yA .int a b=some c):∃k n n',a = .int k n∧b = .int k n'∧c=(n == n'):=by
 cases a<;>cases b<;>simp[yA] at h
 obtain⟨rfl,rfl⟩:=h
 exact⟨_,_,_,rfl,rfl,rfl⟩
theorem L7 {a b:Value} {c:Bool} (h:yA .bool a b=some c):∃n n',a = .bool n∧b = .bool n'∧c=(n == n'):=by
 cases a<;>cases b<;>simp[yA] at h
 subst h
 exact⟨_,_,rfl,rfl,rfl⟩
theorem Pt {a b:Value} {c:Bool} (h:yA .str a b=some c):∃n n',a = .string n∧b = .string n'∧c=(n == n'):=by
 cases a<;>cases b<;>simp[yA] at h
 subst h
 exact⟨_,_,rfl,rfl,rfl⟩
theorem Jm (d:Nat) (xs ys:Array Value) (w:World):∀(fs:List Field) (ks:List CK) (i:Nat) (r:Bool),
  zV P i fs=some ks→sU ks (xs.toList.drop i) (ys.toList.drop i)=some r→(Op.eqFields (d+1) xs ys fs).run P w = .ok r w
 |
  [],ks,i,r,hp,he=>by
  cases hp
  unfold sU at he
  split at he
  ·cases he;rfl
  ·rename_i h _ _;cases h
  ·cases he
 |
  f::fs,ks,i,r,hp,he=>by
  unfold zV at hp
  split at hp
  ·rename_i hno
   simp only[Bool.and_eq_true,bne_iff_ne,ne_eq,beq_iff_eq] at hno
   obtain⟨ajF,ayU⟩:=hno
   have key:∀(k:CK) (ks':List CK) (dd:TypeDesc),P.underlying f.type=some dd→Gc dd=false→zV P (i+1) fs=some ks'→ks=k::ks' →
     (∀a b c,yA k a b=some c→(Op.equalIn (d+1) f.type a b).run P w = .ok c w)→(Op.eqFields (d+1) xs ys (f::fs)).run P w = .ok r w:=by
    intro k ks' dd hu hdd F2 hks hq
    subst hks
    have hlx:i<xs.size:=by
     rcases aKE i xs.size with h | h
     ·exact h
     ·rw[aKF (by simpa using h)] at he;cases he
    have hly:i<ys.size:=by
     rcases aKE i ys.size with h | h
     ·exact h
     ·rw[aKF (as:=ys.toList) (by simpa using h)] at he
      rw[aKG (by simpa using hlx)] at he
      cases he
    have e1:xs.toList.drop i=xs[i]::xs.toList.drop (i+1):=by rw[aKG (by simpa using hlx)];rfl
    have e2:ys.toList.drop i=ys[i]::ys.toList.drop (i+1):=by rw[aKG (by simpa using hly)];rfl
    rw[e1,e2,sU] at he
    simp only[Op.eqFields,ajF,ne_eq,not_false_eq_true,if_true,Sem.run_bind,ayU,D3 f.type dd hu hdd xs i hlx,D3 f.type dd hu hdd ys i hly,Result.andThen_ok]
    cases hc:yA k xs[i] ys[i] with
    | none=>rw[hc] at he;cases he
    |
     some b =>
     rw[hq _ _ b hc]
     cases b
     ·rw[hc] at he
      cases he
      rfl
     ·rw[hc] at he
      simp only[Result.andThen_ok,Bool.not_true,Bool.false_eq_true,if_false]
      exact Jm d xs ys w fs ks' (i+1) r F2 he
   split at hp
   ·rename_i ks' _ hu F2
    cases hp
    refine key .int ks' _ hu rfl F2 rfl fun a b c h => ?_
    obtain⟨k,n,n',rfl,rfl,rfl⟩:=PT h
    exact run_equalIn_int w d f.type _ _ _ _ hu
   ·rename_i ks' _ hu F2
    cases hp
    refine key .bool ks' _ hu rfl F2 rfl fun a b c h => ?_
    obtain⟨n,n',rfl,rfl,rfl⟩:=L7 h
    exact run_equalIn_bool w d f.type _ _ hu
   ·rename_i ks' _ hu F2
    cases hp
    refine key .str ks' _ hu rfl F2 rfl fun a b c h => ?_
    obtain⟨n,n',rfl,rfl,rfl⟩:=Pt h
    simp[Op.equalIn,run_underlying hu]
   ·cases hp
  ·cases hp
end
end Go.PM
namespace Go.PM
section
variable {P:Program} {m:dO}
theorem X8 {k:CK} {a b a' b':Value} {c:Bool} (ha:RV m a a') (hb:RV m b b') (h:yA k a b=some c):yA k a' b'=some c:=by
 cases k
 ·obtain⟨k,n,n',rfl,rfl,rfl⟩:=PT h
  cases ha;cases hb;exact h
 ·obtain⟨n,n',rfl,rfl,rfl⟩:=L7 h
  cases ha;cases hb;exact h
 ·obtain⟨n,n',rfl,rfl,rfl⟩:=Pt h
  cases ha;cases hb;exact h
theorem Wv:∀ {ks:List CK} {xs ys KN ys':List Value} {r:Bool},RL m xs KN→RL m ys ys'→sU ks xs ys=some r→sU ks KN ys'=some r:=by
 intro ks
 induction ks with
 |
  nil =>
  intro xs ys KN ys' r hx hy h
  cases xs with
  | cons x xs=>cases ys<;>cases h
  |
   nil =>
   cases ys with
   | cons y ys=>cases h
   |
    nil =>
    have e1:KN=[]:=aKH hx.1.symm
    have e2:ys'=[]:=aKH hy.1.symm
    subst e1;subst e2;exact h
 |
  cons k ks ih =>
  intro xs ys KN ys' r hx hy h
  cases xs with
  | nil=>cases ys<;>cases h
  |
   cons x xs =>
   cases ys with
   | nil=>cases h
   |
    cons y ys =>
    cases KN with
    | nil=>exact absurd hx.1 (by simp)
    |
     cons x' KN =>
     cases ys' with
     | nil=>exact absurd hy.1 (by simp)
     |
      cons y' ys' =>
      rw[sU] at h ⊢
      cases hc:yA k x y with
      | none=>rw[hc] at h;cases h
      |
       some c =>
       rw[hc] at h
       rw[X8 hx.lO.1 hy.lO.1 hc]
       cases c
       ·exact h
       ·exact ih hx.lO.2 hy.lO.2 h
theorem RE {neg:Bool} {t:TypeId} {x y:Operand} {a b:Array Value} {ks:List CK} {r:Bool} (h:FA P t=some ks) (he:sU ks a.toList b.toList=some r) (w:World) :
  (do eqGuard (if neg then .neq else .eql) t x y (.agg a) (.agg b);binOp (if neg then .neq else .eql) t (.agg a) (.agg b):Sem Value).run P w = .ok (.bool (r != neg)) w:=by
 unfold FA at h
 split at h
 ·rename_i fs hu
  split at h
  ·cases h
  ·rename_i hg
   simp only[Bool.or_eq_true,not_or,Bool.not_eq_true] at hg
   have hfo:P.fieldsOf t=fs:=by simp[Program.fieldsOf,hu]
   have hh:(Op.equal t (.agg a) (.agg b)).run P w = .ok r w:=by
    show (Op.equalIn (9998+1+1) t (.agg a) (.agg b)).run P w=_
    rw[run_equalIn_struct w (9998+1) t a b (by rw[hfo];exact hu) hg.1,hfo]
    exact Jm 9998 a b w fs.toList ks 0 r h (by simpa using he)
   have hgd:∀op,(eqGuard op t x y (.agg a) (.agg b)).run P w = .ok () w:=by
    intro op
    cases op<;>first | rfl | (show ((program >>= fun p=>program >>= fun q=>_):Sem Unit).run P w=_;simp[hg.2])
   rw[Sem.run_bind,hgd,Result.andThen_ok]
   cases neg
   ·show ((Op.equal t (.agg a) (.agg b)) >>= fun r=>pure (.bool r):Sem Value).run P w=_
    rw[Sem.run_bind,hh]
    cases r<;>rfl
   ·show ((Op.equal t (.agg a) (.agg b)) >>= fun r=>pure (.bool !r):Sem Value).run P w=_
    rw[Sem.run_bind,hh]
    cases r<;>rfl
 ·cases h
theorem ayV {op:UnOp} {v vx rx:Value} (hv:pun op vx=some v) (hx:RV m vx rx):∃rv,RV m v rv∧∀w,(Op.unary op rx).run P w = .ok rv w:=by
 unfold pun at hv
 split at hv
 ·cases hx;cases hv;exact⟨_,.int _ _,fun w=>rfl⟩
 ·cases hx;cases hv;exact⟨_,.bool _,fun w=>rfl⟩
 ·cases hv
theorem RL.getElem? {xs ys:List Value} (h:RL m xs ys) (i:Nat) (v:Value) (hv:xs[i]? = some v):∃r,ys[i]? = some r∧RV m v r:=by
 have hi:=(aKA.1 hv).1
 have hr:=h.2 i hi
 have qL:i<ys.length:=h.1▸hi
 refine⟨ys[i],aKI qL,?_⟩
 simp only[aKy,hv,aKI qL,Option.getD_some] at hr
 exact hr
theorem atF {t:TypeId} {fs:Array Field} {i:Nat} {f:Field} {agg:Bool} {size:Nat} {z:List Value} {by_:Nat} {v:Value} {cs rs:Array Value} (hu:P.underlying t=some (.struct fs)) (hf:fs[i]? = some f)
  (ht:oO P f.type=some (agg,size,z,by_)) (hv:(if agg then (if f.offset+size≤cs.size then some (Value.agg (cs.extract f.offset (f.offset+size))) else none) else cs[f.offset]?)=some v)
  (hr:RL m cs.toList rs.toList):∃rv,RV m v rv∧∀w,(Instr.field t (.agg rs) i).run P w = .ok rv w:=by
 unfold oO at ht
 split at ht
 ·rename_i n d hn hd
  split at ht
  ·rename_i z' hz
   cases ht
   have sN:∀w,(Instr.field t (.agg rs) i).run P w=(part f.type rs f.offset).run P w:=by
    intro w
    unfold Instr.field
    rw[Sem.run_bind,run_underlying hu,Result.andThen_ok]
    simp[hf,asAgg]
   cases ha:Gc d with
   |
    true =>
    rw[ha] at hv
    simp only[if_true] at hv
    split at hv
    ·rename_i hb
     cases hv
     refine⟨.agg (rs.extract f.offset (f.offset+n.size)),?_,fun w=>by rw[sN,SJ f.type d n hd hn ha]⟩
     have h1:rs.size=cs.size:=by simpa using hr.1.symm
     refine .agg _ _ (by simp[h1]) fun j hj => ?_
     simp only[Array.size_extract] at hj
     have:=hr.2 (f.offset+j) (by simp;omega)
     simp only[aKJ,Array.getElem?_extract]
     simpa[show j<min (f.offset+n.size) cs.size-f.offset by omega,show j<min (f.offset+n.size) rs.size-f.offset by omega] using this
    ·cases hv
   |
    false =>
    rw[ha] at hv
    simp only[Bool.false_eq_true,if_false] at hv
    obtain⟨r,h1,h2⟩:=hr.getElem? f.offset v (by simpa using hv)
    obtain⟨bI,he⟩:=aKK.1 (show rs[f.offset]? = some r by simpa using h1)
    exact⟨r,h2,fun w=>by rw[sN,D3 f.type d hd ha rs f.offset bI,he]⟩
  ·cases ht
 ·cases ht
theorem aeN (l:List Value):∀(off j:Nat) (cs:Array Value),off+j+l.length≤cs.size →
  ((l.zipIdx j).foldl (fun(cs:Array Value) (x:Value×Nat)=>cs.setIfInBounds (off+x.2) x.1) cs).toList=cs.toList.take (off+j)++l++cs.toList.drop (off+j+l.length):=by
 induction l with
 | nil=>intro off j cs h;simp
 |
  cons x l ih =>
  intro off j cs h
  simp only[aKL] at h
  simp only[List.zipIdx_cons,List.foldl_cons]
  rw[ih off (j+1) _ (by simp;omega)]
  simp only[Array.toList_setIfInBounds,aKL]
  have bI:off+j<cs.toList.length:=by simp;omega
  have e1:(cs.toList.set (off+j) x).take (off+(j+1))=cs.toList.take (off+j)++[x]:=by
   rw[show off+(j+1)=off+j+1 by omega,List.take_add_one,List.take_set]
   have:(cs.toList.set (off+j) x)[off+j]? = some x:=by simp[List.getElem?_set];simpa using bI
   rw[this,List.set_eq_of_length_le (by simp;omega)]
   rfl
  have e2:(cs.toList.set (off+j) x).drop (off+(j+1)+l.length)=cs.toList.drop (off+j+(l.length+1)):=by
   rw[List.drop_set]
   rw[if_pos (by omega)]
   congr 1
   omega
  rw[e1,e2]
  simp
theorem UT (places:List (Nat×Nat)) (place:Nat→Option (Nat×Nat)) (Qj:∀i q,places[i]? = some q→place i=some q):∀(ps qs:List (Nat×Value)) (cs:List Value) (rs:Array Value) (out:List Value),
  ps.map (·.1)=qs.map (·.1)→RL m (ps.map (·.2)) (qs.map (·.2))→RL m cs rs.toList→Au places cs ps=some out→∃P9,Instr.fill place rs qs=some P9∧RL m out P9.toList:=by
 intro ps
 induction ps with
 |
  nil =>
  intro qs cs rs out hi hv hc h
  cases qs with
  | cons q qs=>cases hi
  | nil=>cases h;exact⟨rs,rfl,hc⟩
 |
  cons p ps ih =>
  intro qs cs rs out hi hv hc h
  cases qs with
  | nil=>cases hi
  |
   cons q qs =>
   obtain⟨i,v⟩:=p
   obtain⟨i',r⟩:=q
   simp only[List.map_cons,List.cons.injEq] at hi
   obtain⟨rfl,hi⟩:=hi
   simp only[List.map_cons] at hv
   obtain⟨hvr,F2⟩:=hv.lO
   rw[Au] at h
   rw[Instr.fill]
   cases hp:places[i]? with
   | none=>rw[hp] at h;cases h
   |
    some os =>
    obtain⟨off,size⟩:=os
    rw[hp] at h
    rw[Qj i _ hp]
    simp only at h ⊢
    split at h
    ·rename_i hs
     have hl:(aX r).length=(aX v).length:=hvr.aX.1.symm
     have Fa:rs.size=cs.length:=by simpa using hc.1.symm
     have Vd:¬((decide (r.cells.size≠size)||decide (off+r.cells.size>rs.size))=true):=by
      rw[fV,hl,hs.1,Fa]
      simp
      omega
     rw[if_neg (by simpa using Vd)]
     refine ih qs _ _ out hi F2 ?_ h
     have hr:r.cells.zipIdx.foldl (fun(cs:Array Value) (x:Value×Nat)=>cs.setIfInBounds (off+x.2) x.1) rs=(((aX r).zipIdx 0).foldl (fun(cs:Array Value) (x:Value×Nat)=>cs.setIfInBounds (off+x.2) x.1) rs):=by
      rw[←iA,←Array.foldl_toList,Array.toList_zipIdx]
     have aCu:=aeN (aX r) off 0 rs (by rw[hl,hs.1,Fa];omega)
     show RL m _ (r.cells.zipIdx.foldl (fun(cs:Array Value) (x:Value×Nat)=>cs.setIfInBounds (off+x.2) x.1) rs).toList
     rw[hr,aCu]
     simp only[Nat.add_zero]
     rw[hl,hs.1]
     exact((hc.take off).append hvr.aX).append (hc.drop (off+size))
    ·cases h
theorem Tt (places:List (Nat×Nat)):∀(ps:List (Nat×Value)) (cs out:List Value),Au places cs ps=some out→out.length=cs.length:=by
 intro ps
 induction ps with
 | nil=>intro cs out h;cases h;rfl
 |
  cons p ps ih =>
  intro cs out h
  obtain⟨i,v⟩:=p
  rw[Au] at h
  split at h
  ·cases h
  ·split at h
   ·rename_i hs
    rw[ih _ _ h]
    simp only[aKM,List.length_take,List.length_drop,hs.1]
    omega
   ·cases h
end
end Go.PM
namespace Go.PM
section
variable {P:Program} {m:dO}
def RO (m:dO):Option Value→Option Value→Prop
 | none,none=>True
 | some v,some r=>RV m v r
 | _,_=>False
theorem abM {k:IntKind} {i:Int} {y:Nat} {code:BoundsCode} (h:0≤i∧i≤y) (w:World):(Instr.sliceBound (.int k i) y code).run P w = .ok i.toNat w:=by
 simp[Instr.sliceBound,asIntOf,h.1,h.2]
theorem rW {v v':Option Value} {d:Option Nat} {top k:Nat} (h:fG v d top=some k) (hv:RO m v v') :
  (v=none∧v'=none∧d=some k)∨(∃u r,v=some u∧v'=some r∧k≤top∧∀awW,top≤awW→∀code w,(Instr.sliceBound r awW code).run P w = .ok k w):=by
 cases v with
 |
  none =>
  cases v' with
  | some r=>exact hv.elim
  | none=>exact .inl ⟨rfl,rfl,h⟩
 |
  some u =>
  cases v' with
  | none=>exact hv.elim
  |
   some r =>
   have hr:RV m u r:=hv
   refine .inr ⟨u,r,rfl,rfl,?_⟩
   cases hr<;>simp only[fG] at h<;>try (cases h;done)
   split at h
   ·rename_i hb
    cases h
    exact⟨by omega,fun awW ht code w=>abM ⟨hb.1,by omega⟩ w⟩
   ·cases h
theorem amE {t:TypeId} {s:ByteArray} {lo hi gF qL:Option Value} {l h:Nat} (hu:P.underlying t=some .string) (hs:Cc lo hi s.size=some (l,h))
  (hl:RO m lo gF) (hh:RO m hi qL) (w:World):(Instr.sliceAt t (.string s) gF qL none).run P w = .ok (.string (s.extract l h)) w:=by
 have key:(Instr.sliceBounds false s.size s.size gF qL none).run P w = .ok (l,h,s.size) w:=by
  unfold Cc at hs
  cases h1:fG hi (some s.size) s.size with
  | none=>rw[h1] at hs;cases hs
  |
   some h' =>
   rw[h1] at hs
   simp only at hs
   cases h2:fG lo (some 0) h' with
   | none=>rw[h2] at hs;cases hs
   |
    some l' =>
    rw[h2] at hs
    cases hs
    rcases rW (P:=P) h1 hh with⟨_,rfl,e⟩ | ⟨_,r,_,rfl,_,hr⟩<;>rcases rW (P:=P) h2 hl with⟨_,rfl,e'⟩ | ⟨_,r',_,rfl,_,I3⟩
    ·cases e;cases e';rfl
    ·cases e;simp[Instr.sliceBounds,I3 _ (aKB _)]
    ·cases e';simp[Instr.sliceBounds,hr _ (aKB _)]
    ·simp[Instr.sliceBounds,hr _ (aKB _),I3 _ (aKB _)]
 have h1:(Instr.sliceAt t (.string s) gF qL none).run P w=(Instr.slice t (.string s) gF qL none).run P w:=by
  unfold Instr.sliceAt
  rw[Sem.run_bind,run_underlying hu,Result.andThen_ok]
 rw[h1]
 unfold Instr.slice
 rw[Sem.run_bind,run_underlying hu,Result.andThen_ok]
 simp[key]
theorem fO {s:Sem Value} {v:Value} {w w':World} (h:s.run P w = .ok v w'):(do pure (.value (←s)):Sem Next).run P w = .ok (.value v) w':=by
 rw[Sem.run_bind,h];rfl
theorem kO {t:TypeId} {agg:Bool} {size:Nat} {z:List Value} {n:Nat} (h:oO P t=some (agg,size,z,n)) :
  ∃i d zz,P.info? t=some i∧P.underlying t=some d∧i.zero=some zz∧agg=Gc d∧size=i.size∧z=aX zz∧n=i.bytes:=by
 unfold oO at h
 split at h
 ·rename_i i d hi hd
  split at h
  ·rename_i zz hz
   cases h
   exact⟨i,d,zz,hi,hd,hz,rfl,rfl,rfl,rfl⟩
  ·cases h
 ·cases h
theorem lH {t:TypeId} {agg:Bool} {size:Nat} {z:List Value} {n:Nat} (h:lK P t=some (agg,size,z,n)) :
  ∃e,P.underlying t=some (.slice e)∧oO P e=some (agg,size,z,n):=by
 unfold lK at h
 split at h
 ·rename_i e he;exact⟨e,he,h⟩
 ·cases h
theorem aeR {t e:TypeId} {i0:TypeInfo} {b o n c:Nat} {k:IntKind} {i:Int} {r:Value} (hu:P.underlying t=some (.slice e)) (hi0:P.info? e=some i0) (hr:RV m (.slice (some ⟨b,o,none⟩) n c) r) (h:0≤i∧i<n) :
  ∃rv,RV m (.pointer (some ⟨b,o+i.toNat*i0.size,none⟩)) rv∧∀w,(Instr.indexAt t r (.int k i)).run P w = .ok rv w:=by
 cases hr with
 |
  slice _ _ _ _ l ra rc hm hn hc hx ha =>
  rcases ha with ha | ⟨rfl,ha⟩
  ·omega
  ·have e1:(⟨l.rb,l.base+o,none⟩:Addr).add (i.toNat*i0.size)=⟨l.rb,l.base+(o+i.toNat*i0.size),none⟩:=by
    unfold Addr.add
    split
    ·rename_i h0;simp[h0]
    ·simp[aKN]
   refine⟨_,.ptr b _ l hm,fun w => ?_⟩
   simp[Instr.indexAt,asIntOf,run_underlying hu,h.1,h.2,run_sizeOf e i0 hi0,e1]
theorem aeZ {t:TypeId} {fs:Array Field} {f:Field} {j b o:Nat} {i0:TypeInfo} {r:Value} (hu:P.underlying t=some (.struct fs)) (hf:fs[j]? = some f) (hi0:P.info? f.type=some i0) (hs:i0.size≠0)
  (hr:RV m (.pointer (some ⟨b,o,none⟩)) r):∃rv,RV m (.pointer (some ⟨b,o+f.offset,none⟩)) rv∧∀w,(Instr.fieldAt t r j).run P w = .ok rv w:=by
 cases hr with
 |
  ptr _ _ l hm =>
  have e1:(⟨l.rb,l.base+o,none⟩:Addr).add f.offset=⟨l.rb,l.base+(o+f.offset),none⟩:=by
   unfold Addr.add
   split
   ·rename_i h0;simp[h0]
   ·simp[aKN]
  refine⟨_,.ptr b _ l hm,fun w => ?_⟩
  unfold Instr.fieldAt
  rw[Sem.run_bind,run_underlying hu,Result.andThen_ok]
  simp[hf,Instr.sureAddr,fieldPlace,run_sizeOf f.type i0 hi0,hs,e1]
theorem aiQ {t:TypeId} {s:ByteArray} {k:IntKind} {i:Int} (hu:P.underlying t=some .string) (h:0≤i∧i<s.size) (w:World) :
  (Instr.index t (.string s) (.int k i)).run P w = .ok (.int .u8 ((s.data.toList.getD i.toNat 0).toNat:Int)) w:=by
 have bI:i.toNat<s.size:=by omega
 have e:s[i.toNat]? = some s[i.toNat]:=by simp[bI]
 have e2:s.data.toList.getD i.toNat 0=s[i.toNat]:=by
  have:i.toNat<s.data.toList.length:=by simpa using bI
  simp[aKy,aKI this]
  rfl
 unfold Instr.index
 rw[Sem.run_bind]
 simp only[asIntOf,Sem.run_pure,Result.andThen_ok,Sem.run_bind,run_underlying hu,h.1,if_true,e,e2]
end
end Go.PM
namespace Go.PM
section
variable {P:Program} {m:dO}
theorem RO.map {ρ:Env} {a:Act} {x:Option Operand} (h:∀y,x=some y→RV m (ev ρ y) (a.eval y)):RO m (x.map (ev ρ)) (x.map a.eval):=by
 cases x with
 | none=>trivial
 | some y=>exact h y rfl
theorem Wz {y:Operand} (h:Sr y=true):y = .const (.slice none 0 0):=by
 unfold Sr at h
 split at h
 ·rfl
 ·cases h
theorem VG {op:BinOp} {t:TypeId} {x y:Operand} {po:qH} {ρ:Env} {a:Act} {v:Value} (hp:D2 P op t x y=some po) (hv:kE po ρ=some v)
  (hx:RV m (ev ρ x) (a.eval x)) (hy:RV m (ev ρ y) (a.eval y)) :
  ∃rv,RV m v rv∧∀w,(do eqGuard op t x y (a.eval x) (a.eval y);binOp op t (a.eval x) (a.eval y):Sem Value).run P w = .ok rv w:=by
 unfold D2 at hp
 split at hp
 ·cases hp;exact aaI hv hx hy
 ·cases hp;exact aaI hv hx hy
 ·rename_i hu
  split at hp<;>first | (cases hp;done) | skip
  all_goals
   cases hp
   simp only[kE] at hv
   generalize ev ρ x=vx at hx hv
   generalize ev ρ y=vy at hy hv
   generalize a.eval x=rx at hx ⊢
   generalize a.eval y=ry at hy ⊢
   split at hv
   ·cases hx;cases hy;cases hv
    first | exact⟨_,.bool _,fun w=>aaX (neg:=false) hu w⟩ | exact⟨_,.bool _,fun w=>aaX (neg:=true) hu w⟩
   ·cases hv
 ·rename_i e hu
  split at hp<;>first | (cases hp;done) | skip
  all_goals
   split at hp
   ·rename_i hn
    cases hp
    have hy0:=Wz hn
    subst hy0
    simp only[kE] at hv
    generalize ev ρ x=vx at hx hv
    show ∃rv,RV m v rv∧∀w,(do eqGuard _ t x _ (a.eval x) (.slice none 0 0);binOp _ t (a.eval x) (.slice none 0 0):Sem Value).run P w = .ok rv w
    generalize a.eval x=rx at hx ⊢
    split at hv
    ·cases hv
     cases hx
     first | exact⟨_,.bool _,fun w=>Hg (neg:=false) hu w⟩ | exact⟨_,.bool _,fun w=>Hg (neg:=true) hu w⟩
    ·cases hv
     cases hx
     first | exact⟨_,.bool _,fun w=>Hg (neg:=false) hu w⟩ | exact⟨_,.bool _,fun w=>Hg (neg:=true) hu w⟩
    ·cases hv
   ·cases hp
 ·split at hp<;>first | (cases hp;done) | skip
  all_goals
   rename_i ks hks
   cases hp
   simp only[kE] at hv
   generalize ev ρ x=vx at hx hv
   generalize ev ρ y=vy at hy hv
   generalize a.eval x=rx at hx ⊢
   generalize a.eval y=ry at hy ⊢
   split at hv
   ·rename_i f g
    cases hx with
    |
     agg _ f' h1 h2 =>
     cases hy with
     |
      agg _ g' h3 h4 =>
      cases hc:sU ks f.toList g.toList with
      | none=>rw[hc] at hv;cases hv
      |
       some r =>
       rw[hc] at hv
       cases hv
       have hc':=Wv (RL.arr h1 h2) (RL.arr h3 h4) hc
       first | exact⟨_,.bool _,fun w=>RE (neg:=false) hks hc' w⟩ | exact⟨_,.bool _,fun w=>RE (neg:=true) hks hc' w⟩
   ·cases hv
 ·cases hp
theorem adQ {t:TypeId} {fs:Array Field} {z:List Value} {agg:Bool} {size n:Nat} {places:List (Nat×Nat)} {parts:List (Nat×Operand)} {ρ:Env} {a:Act} {cs:List Value}
  (hu:P.underlying t=some (.struct fs)) (ht:oO P t=some (agg,size,z,n)) (hz:z.all nA=true)
  (hp:fs.toList.mapM (fun f=>(P.info? f.type).map fun i=>(f.offset,i.size))=some places)
  (hf:Au places z (parts.map fun(i,x)=>(i,ev ρ x))=some cs) (hr:∀p∈parts,RV m (ev ρ p.2) (a.eval p.2)) :
  ∃rv,RV m (.agg cs.toArray) rv∧∀w,(Instr.build t (parts.toArray.map fun(i,x)=>(i,a.eval x))).run P w = .ok rv w:=by
 obtain⟨i,d,zz,hi,hd,K5,rfl,rfl,rfl,rfl⟩:=kO ht
 have Qj:∀(l:List Field) (ps:List (Nat×Nat)),l.mapM (fun f=>(P.info? f.type).map fun i=>(f.offset,i.size))=some ps →
   ∀w,(l.mapM (fun f=>do pure (f.offset,←sizeOf f.type)):Sem (List (Nat×Nat))).run P w = .ok ps w:=by
  intro l
  induction l with
  | nil=>intro ps h w;cases h;rfl
  |
   cons f l ih =>
   intro ps h w
   simp only[List.mapM_cons,Option.pure_def,Option.bind_eq_bind] at h
   cases h1:P.info? f.type with
   | none=>rw[h1] at h;cases h
   |
    some j =>
    rw[h1] at h
    simp only[Option.map_some,Option.bind_some] at h
    cases h2:l.mapM (fun f=>(P.info? f.type).map fun i=>(f.offset,i.size)) with
    | none=>rw[h2] at h;cases h
    |
     some qs =>
     rw[h2] at h
     cases h
     simp only[List.mapM_cons,Sem.run_bind,run_sizeOf f.type j h1,Result.andThen_ok,Sem.run_pure,ih qs h2 w]
 have hzr:RL m (aX zz) (aX zz):=by
  refine⟨rfl,fun j hj => ?_⟩
  have hm:(aX zz)[j]∈aX zz:=aKO hj
  have:=RV.const (m:=m) (aKP.1 hz _ hm)
  simpa[aKy,aKI hj] using this
 obtain⟨P9,h1,h2⟩:=UT (m:=m) places (places[·]?) (fun _ _ h=>h) (parts.map fun(i,x)=>(i,ev ρ x)) (parts.map fun(i,x)=>(i,a.eval x)) (aX zz) zz.cells cs
  (by simp[aKQ]) (by simpa[aKQ] using RL.map (l:=parts) (f:=fun p=>ev ρ p.2) (g:=fun p=>a.eval p.2) hr) (by rw[iA];exact hzr) hf
 refine⟨.agg P9,RL.auG h2,fun w => ?_⟩
 unfold Instr.build
 have axJ:(fs.mapM fun f=>do pure (f.offset,←sizeOf f.type):Sem (Array (Nat×Nat))).run P w = .ok places.toArray w:=by
  rw[←Array.toArray_toList (xs:=fs),List.mapM_toArray]
  rw[Sem.run_map,Qj _ _ hp]
  rfl
 simp only[Sem.run_bind,zeroValue,typeInfo,run_program,Result.andThen_ok,hi,Sem.run_pure,K5,run_underlying hu,axJ]
 have e:(Array.map (fun x:Nat×Operand=>(x.1,a.eval x.2)) parts.toArray).toList=parts.map fun(i,x)=>(i,a.eval x):=by simp
 have e2:(fun x:Nat=>(places.toArray)[x]?)=(fun x=>places[x]?):=by funext x;simp
 simp only[e2]
 have h1':Instr.fill (fun x=>places[x]?) zz.cells (Array.map (fun x:Nat×Operand=>(x.1,a.eval x.2)) parts.toArray).toList=some P9:=by rw[e];exact h1
 simp only[h1']
 rfl
theorem Tc (f:Operand→Value) (x:Operand):(#[x]:Array Operand).map f = #[f x]:=by simp
theorem NT (f:Operand→Value) (x y:Operand):(#[x,y]:Array Operand).map f = #[f x,f y]:=by simp
theorem Ng {b:Builtin} {args:Array Operand} {ts:Array TypeId} {ty:TypeId} {cs:Array Bool} {po:qH} {ρ:Env} {a:Act} {v:Value} (hp:rV P b args ts=some po) (hv:kE po ρ=some v)
  (hr:∀x∈args,RV m (ev ρ x) (a.eval x)):∃rv,RV m v rv∧∀w,(builtin b ts ty cs (args.map a.eval)).run P w = .ok (.value rv) w:=by
 unfold rV at hp
 split at hp
 ·rename_i x t F7 Br hts
  have ea:args = #[x]:=aKR.1 (by simpa using Br)
  have et:ts=(t::F7).toArray:=aKR.1 (by simpa using hts)
  subst ea;subst et
  have hx:=hr x (by simp)
  rw[Tc]
  split at hp
  ·rename_i hu
   cases hp
   simp only[kE] at hv
   generalize ev ρ x=vx at hx hv
   generalize a.eval x=rx at hx ⊢
   split at hv
   ·cases hx;cases hv
    exact⟨_,.int _ _,fun w=>fO (by simp[Builtin.len_,run_underlying hu,goInt])⟩
   ·cases hv
  ·rename_i e hu
   cases hp
   simp only[kE] at hv
   generalize ev ρ x=vx at hx hv
   generalize a.eval x=rx at hx ⊢
   split at hv
   ·cases hv
    cases hx
    ·exact⟨_,.int _ _,fun w=>fO (by simp[Builtin.len_,run_underlying hu,goInt])⟩
    ·exact⟨_,.int _ _,fun w=>fO (by simp[Builtin.len_,run_underlying hu,goInt])⟩
   ·cases hv
  ·cases hp
 ·rename_i x t F7 Br hts
  have ea:args = #[x]:=aKR.1 (by simpa using Br)
  have et:ts=(t::F7).toArray:=aKR.1 (by simpa using hts)
  subst ea;subst et
  have hx:=hr x (by simp)
  rw[Tc]
  split at hp
  ·rename_i e hu
   cases hp
   simp only[kE] at hv
   generalize ev ρ x=vx at hx hv
   generalize a.eval x=rx at hx ⊢
   split at hv
   ·cases hv
    cases hx
    exact⟨_,.int _ _,fun w=>fO (by simp[Builtin.cap_,run_underlying hu,goInt])⟩
   ·cases hv
  ·cases hp
 ·rename_i x y Br
  have ea:args = #[x,y]:=aKR.1 (by simpa using Br)
  subst ea
  have hx:=hr x (by simp)
  have hy:=hr y (by simp)
  rw[NT]
  cases hp
  simp only[kE] at hv
  generalize ev ρ x=vx at hx hv
  generalize a.eval x=rx at hx ⊢
  generalize ev ρ y=vy at hy hv
  generalize a.eval y=ry at hy ⊢
  split at hv
  ·cases hv
   cases hx
   cases hy
   exact⟨_,.int _ _,fun w=>fO (by rfl)⟩
  ·cases hv
 ·rename_i x y Br
  have ea:args = #[x,y]:=aKR.1 (by simpa using Br)
  subst ea
  have hx:=hr x (by simp)
  have hy:=hr y (by simp)
  rw[NT]
  cases hp
  simp only[kE] at hv
  generalize ev ρ x=vx at hx hv
  generalize a.eval x=rx at hx ⊢
  generalize ev ρ y=vy at hy hv
  generalize a.eval y=ry at hy ⊢
  split at hv
  ·cases hv
   cases hx
   cases hy
   exact⟨_,.int _ _,fun w=>fO (by rfl)⟩
  ·cases hv
 ·split at hp
  ·split at hp
   ·cases hp;cases hv
   ·cases hp
  ·split at hp
   ·split at hp
    ·cases hp;cases hv
    ·cases hp
   ·cases hp
  ·cases hp
 ·split at hp
  ·cases hp;cases hv
  ·cases hp
 ·split at hp
  ·split at hp
   ·cases hp;cases hv
   ·cases hp
  ·cases hp
 ·cases hp
theorem ajY {o:Oper} {po:qH} {ρ:Env} {a:Act} {v:Value} (hp:tJ P o.op=some po) (hv:kE po ρ=some v) (hr:∀x∈o.op.operands,RV m (ev ρ x) (a.eval x)) :
  ∃rv,RV m v rv∧∀w,(execOp a.eval o).run P w = .ok (.value rv) w:=by
 obtain⟨dst,op,type,pos,after,guard⟩:=o
 unfold tJ at hp
 simp only at hp hr ⊢
 split at hp
 case isFalse=>cases hp
 cases op with
 | move x=>cases hp;cases hv;exact⟨_,hr x (by simp[Op.operands]),fun w=>rfl⟩
 | assign x=>cases hp;cases hv;exact⟨_,hr x (by simp[Op.operands]),fun w=>rfl⟩
 |
  pick c x y =>
  cases hp
  have hc:=hr c (by simp[Op.operands])
  have hx:=hr x (by simp[Op.operands])
  have hy:=hr y (by simp[Op.operands])
  simp only[kE] at hv
  split at hv
  ·rename_i t ht
   rw[ht] at hc
   cases hv
   generalize hrc:a.eval c=rc at hc
   cases hc
   cases t
   ·exact⟨_,hy,fun w=>by simp[execOp,hrc,asBool]⟩
   ·exact⟨_,hx,fun w=>by simp[execOp,hrc,asBool]⟩
  ·cases hv
 |
  binOp op t x y yt =>
  obtain⟨rv,h1,h2⟩:=VG hp hv (hr x (by simp[Op.operands])) (hr y (by simp[Op.operands]))
  exact⟨rv,h1,fun w=>fO (h2 w)⟩
 |
  unOp op t x =>
  cases hp
  obtain⟨rv,h1,h2⟩:=ayV hv (hr x (by simp[Op.operands]))
  exact⟨rv,h1,fun w=>fO (h2 w)⟩
 |
  extract x i =>
  cases hp
  have hx:=hr x (by simp[Op.operands])
  simp only[kE] at hv
  split at hv
  ·rename_i vs TZ
   rw[TZ] at hx
   generalize Nc:a.eval x=rx at hx
   cases hx with
   |
    tuple _ g h1 h2 =>
    obtain⟨r,h3,h4⟩:=(RL.arr h1 h2).getElem? i v (by simpa using hv)
    have h3':g[i]? = some r:=by simpa using h3
    exact⟨r,h4,fun w=>fO (by simp[Nc,Instr.extract,h3'])⟩
  ·cases hv
 |
  convert s d x =>
  have hx:=hr x (by simp[Op.operands])
  simp only at hp
  split at hp
  ·rename_i k1 k2 hs hd
   cases hp
   simp only[kE] at hv
   split at hv
   ·rename_i n hn
    cases hv
    rw[hn] at hx
    generalize Nc:a.eval x=rx at hx
    cases hx
    exact⟨_,.int _ _,fun w=>fO (by simp[Nc,convert,run_underlying hs,run_underlying hd,Conv.intToInt])⟩
   ·cases hv
  ·rename_i hs hd
   cases hp
   simp only[kE] at hv
   split at hv
   ·rename_i n hn
    cases hv
    rw[hn] at hx
    generalize Nc:a.eval x=rx at hx
    cases hx
    exact⟨_,.str _,fun w=>fO (by simp[Nc,convert,run_underlying hs,run_underlying hd])⟩
   ·cases hv
  ·split at hp
   ·cases hp;simp[kE] at hv
   ·cases hp
  ·cases hp
 |
  field t x i =>
  have hx:=hr x (by simp[Op.operands])
  simp only at hp
  split at hp
  ·rename_i fs hu
   split at hp
   ·rename_i f hf
    cases ht:oO P f.type with
    | none=>rw[ht] at hp;cases hp
    |
     some q =>
     obtain⟨agg,size,z,n⟩:=q
     rw[ht] at hp
     cases hp
     simp only[kE] at hv
     split at hv
     ·rename_i cs P4
      rw[P4] at hx
      generalize Nc:a.eval x=rx at hx
      cases hx with
      |
       agg _ g h1 h2 =>
       obtain⟨rv,h3,h4⟩:=atF hu hf ht hv (RL.arr h1 h2)
       exact⟨rv,h3,fun w=>fO (by rw[Nc];exact h4 w)⟩
     ·cases hv
   ·cases hp
  ·cases hp
 |
  build t parts =>
  simp only at hp
  split at hp
  ·rename_i fs agg size z n hu ht
   split at hp
   ·rename_i places Qj
    split at hp
    ·rename_i hz
     cases hp
     simp only[kE] at hv
     cases hf:Au places z (parts.toList.map fun(i,x)=>(i,ev ρ x)) with
     | none=>rw[hf] at hv;cases hv
     |
      some cs =>
      rw[hf] at hv
      cases hv
      obtain⟨rv,h1,h2⟩:=adQ (m:=m) (a:=a) hu ht hz Qj hf (fun p hpm=>hr p.2 (by simp only[Op.operands];simp;exact⟨p.1,by simpa using hpm⟩))
      exact⟨rv,h1,fun w=>fO (by simpa using h2 w)⟩
    ·cases hp
   ·cases hp
  ·cases hp
 |
  nilCheck x =>
  cases hp
  have hx:=hr x (by simp[Op.operands])
  simp only[kE] at hv
  split at hv
  ·rename_i ad had
   cases hv
   rw[had] at hx
   generalize Nc:a.eval x=rx at hx
   cases hx with
   | ptr b o l h=>exact⟨_,.ptr b o l h,fun w=>by simp[execOp,Nc]⟩
  ·cases hv
 |
  fieldAddr t x i =>
  have hx:=hr x (by simp[Op.operands])
  simp only at hp
  split at hp
  ·rename_i fs hu
   split at hp
   ·rename_i f hf
    split at hp
    ·rename_i i0 hi0
     split at hp
     ·cases hp
     ·rename_i hs
      cases hp
      simp only[kE] at hv
      split at hv
      ·rename_i b o hbo
       cases hv
       rw[hbo] at hx
       obtain⟨rv,h1,h2⟩:=aeZ hu hf hi0 hs hx
       exact⟨rv,h1,fun w=>fO (h2 w)⟩
      ·cases hv
    ·cases hp
   ·cases hp
  ·cases hp
 |
  indexAddr t x i =>
  have hx:=hr x (by simp[Op.operands])
  have hi:=hr i (by simp[Op.operands])
  simp only at hp
  cases ht:lK P t with
  | none=>rw[ht] at hp;cases hp
  |
   some q =>
   obtain⟨agg,size,z,n⟩:=q
   rw[ht] at hp
   cases hp
   obtain⟨e,hu,Mo⟩:=lH ht
   obtain⟨i0,d,zz,hi0,_,_,_,rfl,_,_⟩:=kO Mo
   simp only[kE] at hv
   split at hv
   ·rename_i b o n' c k j hb hj
    split at hv
    ·rename_i bI
     cases hv
     rw[hb] at hx
     rw[hj] at hi
     generalize hri:a.eval i=ri at hi
     cases hi
     obtain⟨rv,h1,h2⟩:=aeR (k:=k) hu hi0 hx bI
     exact⟨rv,h1,fun w=>fO (by rw[hri];exact h2 w)⟩
    ·cases hv
   ·cases hv
 |
  index t x i =>
  have hx:=hr x (by simp[Op.operands])
  have hi:=hr i (by simp[Op.operands])
  simp only at hp
  split at hp
  ·rename_i hu
   cases hp
   simp only[kE] at hv
   split at hv
   ·rename_i s k j hb hj
    split at hv
    ·rename_i bI
     cases hv
     rw[hb] at hx
     rw[hj] at hi
     generalize hri:a.eval i=ri at hi
     generalize Nc:a.eval x=rx at hx
     cases hi
     cases hx
     exact⟨_,.int _ _,fun w=>fO (by rw[hri,Nc];exact aiQ hu bI w)⟩
    ·cases hv
   ·cases hv
  ·cases hp
 |
  slice t x lo hi mx =>
  have hx:=hr x (by simp[Op.operands])
  simp only at hp
  split at hp
  ·rename_i hu
   split at hp
   ·rename_i hmx
    cases hp
    have aEs:mx=none:=by simpa using hmx
    subst aEs
    simp only[kE] at hv
    split at hv
    ·rename_i s hs
     split at hv
     ·rename_i l h hlh
      cases hv
      rw[hs] at hx
      generalize Nc:a.eval x=rx at hx
      cases hx
      exact⟨_,.str _,fun w=>fO (by
       rw[Nc]
       exact amE hu hlh (RO.map fun y hy=>hr y (by simp[Op.operands,hy])) (RO.map fun y hy=>hr y (by simp[Op.operands,hy])) w)⟩
     ·cases hv
    ·cases hv
   ·cases hp
  ·rename_i e hu
   cases ht:oO P e with
   | none=>rw[ht] at hp;cases hp
   | some q=>rw[ht] at hp;cases hp;simp[kE] at hv
  ·cases hp
 |
  makeFunc fn first gG =>
  cases fn with
  |
   func f =>
   simp only at hp
   split at hp
   ·rename_i azE
    cases hp
    cases hv
    have hf0:first = #[]:=by simpa using azE
    subst hf0
    have hc:RL m (gG.toList.map (ev ρ)) (gG.toList.map a.eval):=RL.map fun x hx=>hr x (by simpa[Op.operands] using hx)
    refine⟨.func (.func f) #[] (gG.toList.map a.eval).toArray,.func _ _ _ _ _ rfl (fun i hi=>absurd hi (by simp)) (by simp) (fun i hi => ?_),fun w=>fO ?_⟩
    ·have:=hc.2 i (by simpa using hi)
     simpa[aKJ,aKy] using this
    ·have:(gG.toList.map a.eval).toArray=gG.map a.eval:=aKR.1 (by rw[Array.toList_map])
     rw[this]
     simp[Instr.makeFunc]
   ·cases hp
  | _=>cases hp
 | makeInterface t x=>cases hp;cases hv
 | panic x=>cases hp;cases hv
 |
  load t p =>
  simp only at hp
  cases ht:oO P t with
  | none=>rw[ht] at hp;cases hp
  | some q=>rw[ht] at hp;cases hp;cases hv
 |
  store t p x =>
  simp only at hp
  cases ht:P.info? t with
  | none=>rw[ht] at hp;cases hp
  | some q=>rw[ht] at hp;cases hp;cases hv
 |
  alloc t =>
  simp only at hp
  split at hp
  ·split at hp
   ·cases hp;cases hv
   ·cases hp
  ·cases hp
 | box t x=>cases hp;cases hv
 |
  makeSlice t l c =>
  simp only at hp
  split at hp
  ·split at hp
   ·cases hp;cases hv
   ·cases hp
  ·cases hp
 |
  buildSlice t n parts =>
  simp only at hp
  split at hp
  ·split at hp
   ·cases hp;cases hv
   ·cases hp
  ·cases hp
 |
  call c =>
  obtain⟨callee,args,ts⟩:=c
  cases callee with
  |
   builtin b =>
   have Xc:∀x∈args,RV m (ev ρ x) (a.eval x):=fun x hx=>hr x (by simpa[Op.operands,Call.operands] using hx)
   obtain⟨rv,h3,h4⟩:=Ng (ty:=type) (cs:=args.map fun | .const _=>true | _=>false) hp hv Xc
   exact⟨rv,h3,fun w=>h4 w⟩
  |
   value f =>
   cases f with
   | func g=>cases hp;cases hv
   | tmp t=>cases hp;cases hv
   | const c=>cases hp
   | global g=>cases hp
  | invoke r s=>cases hp
 | _=>cases hp
end
end Go.PM
namespace Go.PM
section
variable {m:dO} {L0:Nat} {H:aJ} {w:World}
def yT (m:dO) (b:Nat) (l:Loc):dO:=fun b'=>if b'=b then some l else m b'
theorem cD (m:dO) (b:Nat) (l:Loc):yT m b l b=some l:=by simp[yT]
theorem dA {m:dO} {b b':Nat} {l:Loc} (h:b'≠b):yT m b l b'=m b':=by simp[yT,h]
theorem yJ {m:dO} {b:Nat} {l:Loc} (hf:m b=none):∀b' l',m b'=some l'→yT m b l b'=some l':=by
 intro b' l' h
 rw[dA]
 ·exact h
 ·rintro rfl;rw[hf] at h;cases h
theorem GC {w w':World} {a:Addr} (h:w'.heap[a.block]? = w.heap[a.block]?):w'.cell? a=w.cell? a:=by simp[World.cell?,h]
theorem Du {w:World} {g i:Nat} {arr:Array Value} {e:TypeId} {fz:Nat×Nat} (h:w.heap[g]? = some (.cells arr e fz)):w.cell? ⟨g,i,none⟩=arr[i]? := by simp[World.cell?,h]
theorem iO {H:aJ} {x:QI} {b:Nat} (h:Live (H++[x]) b) (hb:b<H.length):Live H b:=by
 obtain⟨cs,e,p,h1,h2⟩:=h
 rw[aKS hb] at h1
 exact⟨cs,e,p,h1,h2⟩
theorem sZ (lo:Nat) (H:aJ) (x:QI):Ext lo H (H++[x]) :=
 ⟨by simp,fun b _ hl=>aKS hl,fun _ hb h=>iO h hb⟩
theorem AV (hR:Rel m L0 H w) (hf:m H.length=none) {w':World} {arr:Array Value} {e:TypeId} {fz:Nat×Nat} (hw:w'.heap=w.heap.push (.cells arr e fz))
  (hs:w'.os=w.os∧w'.output=w.output∧w'.tape=w.tape) {cs:List Value} {gU:Nat} {Uy:Bool} (hlen:cs.length≤arr.size)
  (hc:∀i,i<cs.length→RV m (cs.getD i undef) (arr.getD i undef)) (ET:cs.all iQ=true) (hfz:∀j,j<arr.size→¬(fz.1≤j∧j<fz.2)) :
  Rel (yT m H.length ⟨w.heap.size,0,gU,arr.size,Uy⟩) L0 (H++[.row cs gU Uy]) w' ∧
  ∀lo,Trans lo m H w (yT m H.length ⟨w.heap.size,0,gU,arr.size,Uy⟩) (H++[.row cs gU Uy]) w':=by
 have hold:∀g,g<w.heap.size→w'.heap[g]? = w.heap[g]? := fun g hg=>by rw[hw,Array.getElem?_push];simp[Nat.ne_of_lt hg]
 have pO:w'.heap[w.heap.size]? = some (.cells arr e fz):=by rw[hw];simp
 have bI:∀b l,m b=some l→l.rb<w.heap.size:=fun b l h=>by
  obtain⟨arr,e,fz,h1,_⟩:=hR.valid b l h
  exact(aKK.1 h1).1
 have uX:=yJ (l:=⟨w.heap.size,0,gU,arr.size,Uy⟩) hf
 constructor
 ·refine⟨fun b l h => ?_,fun b l CH e' p' h hH => ?_,fun b1 b2 l1 l2 hb h1 h2 CU JN Bm => ?_,fun x hx => ?_⟩
  ·by_cases hb:b=H.length
   ·subst hb
    rw[cD] at h
    cases h
    exact⟨arr,e,fz,pO,rfl,fun _ j _ hj=>hfz j hj⟩
   ·rw[dA hb] at h
    obtain⟨Ht,e',fz',g1,g2,g3⟩:=hR.valid b l h
    exact⟨Ht,e',fz',by rw[hold _ (bI b l h)];exact g1,g2,g3⟩
  ·by_cases hb:b=H.length
   ·subst hb
    rw[cD] at h
    cases h
    simp only[aKT (aKB _),aKU,aKV,Option.some.injEq,QI.row.injEq] at hH
    obtain⟨rfl,rfl,rfl⟩:=hH
    refine⟨rfl,rfl,by simpa using hlen,fun i hi => ?_⟩
    refine⟨arr.getD i undef,?_,(hc i hi).mono uX,?_⟩
    ·rw[Nat.zero_add,Du pO]
     have:i<arr.size:=aKD hi hlen
     simp[this]
    ·have:=aKP.1 ET cs[i] (aKO hi)
     simpa[aKy,aKI hi] using this
   ·rw[dA hb] at h
    have ahC:b<H.length:=by
     have:=(aKA.1 hH).1
     simp at this
     omega
    rw[aKS ahC] at hH
    obtain⟨g1,g2,g3,g4⟩:=hR.row b l CH e' p' h hH
    refine⟨g1,g2,g3,fun i hi => ?_⟩
    obtain⟨rv,h1,h2,h3⟩:=g4 i hi
    exact⟨rv,by rw[GC (hold _ (bI b l h))];exact h1,h2.mono uX,h3⟩
  ·by_cases e1:b1=H.length<;>by_cases e2:b2=H.length
   ·omega
   ·subst e1
    rw[cD] at h1
    rw[dA e2] at h2
    cases h1
    have:=bI b2 l2 h2
    simp only at Bm
    omega
   ·subst e2
    rw[cD] at h2
    rw[dA e1] at h1
    cases h2
    have:=bI b1 l1 h1
    simp only at Bm
    omega
   ·rw[dA e1] at h1
    rw[dA e2] at h2
    have k1:=CU.lt
    have k2:=JN.lt
    simp at k1 k2
    exact hR.inj b1 b2 l1 l2 hb h1 h2 (iO CU (by omega)) (iO JN (by omega)) Bm
  ·obtain⟨⟨e0,fz0,g1⟩,g2⟩:=hR.FX x hx
   have hxl:x.1<w.heap.size:=(aKK.1 g1).1
   refine⟨⟨e0,fz0,by rw[hold _ hxl];exact g1⟩,fun b l hb h hl => ?_⟩
   by_cases he:b=H.length
   ·subst he
    rw[cD] at h
    cases h
    simp only
    omega
   ·rw[dA he] at h
    have k:=hl.lt
    simp at k
    exact g2 b l hb h (iO hl (by omega))
 ·intro lo
  refine⟨uX,fun b l h hn => ?_,by rw[hw];simp,fun rb Bm _=>hold rb Bm,hs⟩
  by_cases hb:b=H.length
  ·subst hb
   rw[cD] at h
   cases h
   exact⟨⟨aKB _,by simp⟩,.inl (aKB _)⟩
  ·rw[dA hb,hn] at h
   cases h
theorem adU (hR:Rel m L0 H w) (hf:m H.length=none) {b:Nat} {l:Loc} (hb:m b=some l) (gU:Nat) :
  Rel (yT m H.length ⟨l.rb,l.St,gU,l.St,false⟩) L0 (H++[.row [] gU false]) w ∧
  ∀lo,Trans lo m H w (yT m H.length ⟨l.rb,l.St,gU,l.St,false⟩) (H++[.row [] gU false]) w:=by
 have uX:=yJ (l:=⟨l.rb,l.St,gU,l.St,false⟩) hf
 have aaA:∀b',Live (H++[.row [] gU false]) b'→b'<H.length:=by
  intro b' h
  rcases aKE b' H.length with hl | hl
  ·exact hl
  ·obtain⟨cs,e,p,h1,h2⟩:=h
   have bI:=(aKA.1 h1).1
   simp at bI
   have Sc:b'=H.length:=by omega
   subst Sc
   simp only[aKT (aKB _),aKU,aKV,Option.some.injEq,QI.row.injEq] at h1
   obtain⟨rfl,_,rfl⟩:=h1
   rcases h2 with h2 | h2
   ·exact absurd rfl h2
   ·cases h2
 constructor
 ·refine⟨fun b' l' h => ?_,fun b' l' CH e' p' h hH => ?_,fun b1 b2 l1 l2 GZ h1 h2 CU JN Bm => ?_,fun x hx => ?_⟩
  ·by_cases Sc:b'=H.length
   ·subst Sc
    rw[cD] at h
    cases h
    obtain⟨arr,e,fz,g1,g2,_⟩:=hR.valid b l hb
    exact⟨arr,e,fz,g1,g2,fun _ j h1 h2=>by simp only at h1 h2;omega⟩
   ·rw[dA Sc] at h
    exact hR.valid b' l' h
  ·by_cases Sc:b'=H.length
   ·subst Sc
    rw[cD] at h
    cases h
    simp only[aKT (aKB _),aKU,aKV,Option.some.injEq,QI.row.injEq] at hH
    obtain⟨rfl,rfl,rfl⟩:=hH
    exact⟨rfl,rfl,by simp,fun i hi=>absurd hi (by simp)⟩
   ·rw[dA Sc] at h
    have ahC:b'<H.length:=by
     have:=(aKA.1 hH).1
     simp at this
     omega
    rw[aKS ahC] at hH
    obtain⟨g1,g2,g3,g4⟩:=hR.row b' l' CH e' p' h hH
    refine⟨g1,g2,g3,fun i hi => ?_⟩
    obtain⟨rv,h1,h2,h3⟩:=g4 i hi
    exact⟨rv,h1,h2.mono uX,h3⟩
  ·have k1:=aaA b1 CU
   have k2:=aaA b2 JN
   rw[dA (by omega)] at h1 h2
   exact hR.inj b1 b2 l1 l2 GZ h1 h2 (iO CU k1) (iO JN k2) Bm
  ·obtain⟨g1,g2⟩:=hR.FX x hx
   refine⟨g1,fun b' l' xJ h hl => ?_⟩
   have k:=aaA b' hl
   rw[dA (by omega)] at h
   exact g2 b' l' xJ h (iO hl k)
 ·intro lo
  refine⟨uX,fun b' l' h hn => ?_,aKB _,fun rb Bm _=>rfl,rfl,rfl,rfl⟩
  by_cases Sc:b'=H.length
  ·subst Sc
   exact⟨⟨aKB _,by simp⟩,.inr (.inl fun hl=>by have:=aaA _ hl;omega)⟩
  ·rw[dA Sc,hn] at h
   cases h
theorem So {w:World} {g i:Nat} {arr:Array Value} {e:TypeId} {fz:Nat×Nat} (h:w.heap[g]? = some (.cells arr e fz)) (v:Value) :
  (w.setCell ⟨g,i,none⟩ v).heap[g]? = some (.cells (arr.setIfInBounds i v) e fz):=by
 simp only[World.setCell,aKW,h,if_true,Option.map_some]
 rfl
theorem Qv {w:World} {g i k:Nat} (h:k≠g) (v:Value):(w.setCell ⟨g,i,none⟩ v).heap[k]? = w.heap[k]? := by
 simp[World.setCell,aKW,aKX h]
theorem IF (P:Program) (g o:Nat):∀(vs:List Value) (i:Nat) (w:World) (arr:Array Value) (e:TypeId) (fz:Nat×Nat),
  w.heap[g]? = some (.cells arr e fz)→o+i+vs.length≤arr.size→vs.all iQ=true→(∀j,o+i≤j→j<o+i+vs.length→¬(fz.1≤j∧j<fz.2)) →
  ∃w' Ht,(storeCells ⟨g,o,none⟩ vs i).run P w = .ok () w'∧w'.heap[g]? = some (.cells Ht e fz)∧Ht.size=arr.size ∧
   (∀j,Ht.getD j undef=if o+i≤j∧j<o+i+vs.length then vs.getD (j-(o+i)) undef else arr.getD j undef) ∧
   (∀k,k≠g→w'.heap[k]? = w.heap[k]?)∧w'.heap.size=w.heap.size∧w'.os=w.os∧w'.output=w.output∧w'.tape=w.tape
 | [],i,w,arr,e,fz,hg,_,_,_=>⟨w,arr,rfl,hg,rfl,fun j=>by rw[if_neg (by rintro⟨h1,h2⟩;simp only[List.length_nil] at h2;omega)],fun _ _=>rfl,rfl,rfl,rfl,rfl⟩
 |
  v::vs,i,w,arr,e,fz,hg,hl,ET,hfz=>by
  simp only[aKL] at hl hfz
  simp only[List.all_cons,Bool.and_eq_true] at ET
  have bI:o+i<arr.size:=by omega
  have hc:w.cell? ⟨g,o+i,none⟩=some arr[o+i]:=by rw[Du hg];simp[bI]
  have hfr:w.frozen? ⟨g,o+i,none⟩=false:=by
   have:=hfz (o+i) (by omega) (by omega)
   simp only[World.frozen?,hg]
   simpa using this
  have wU:(store ((⟨g,o,none⟩:Addr).add i) v).run P w = .ok () (w.setCell ⟨g,o+i,none⟩ v):=by
   rw[Addr.add_lit,run_store P w _ v .plain (by rw[SI];exact ET.1),hc]
   simp[hfr]
  obtain⟨w',Ht,h1,h2,h3,h4,h5,h6,h7⟩:=IF P g o vs (i+1) (w.setCell ⟨g,o+i,none⟩ v) (arr.setIfInBounds (o+i) v) e fz (So hg v) (by simp;omega) ET.2
   (fun j h1 h2=>hfz j (by omega) (by omega))
  refine⟨w',Ht,?_,h2,by simpa using h3,fun j => ?_,fun k hk=>by rw[h5 k hk,Qv hk],by rw[h6];simp,h7⟩
  ·rw[storeCells,Sem.run_bind,wU,Result.andThen_ok]
   exact h1
  ·rw[h4]
   by_cases hj:j=o+i
   ·subst hj
    rw[if_neg (by omega),if_pos (by simp)]
    simp[bI]
   ·by_cases Hu:o+(i+1)≤j∧j<o+(i+1)+vs.length
    ·rw[if_pos Hu,if_pos (by simp;omega)]
     have:j-(o+i)=j-(o+(i+1))+1:=by omega
     rw[this]
     simp
    ·rw[if_neg Hu,if_neg (by simp;omega)]
     simp[aKX hj]
theorem Mf (cs new:List Value) (o i:Nat) (h:o+new.length≤cs.length):(kM cs o new).getD i undef=if o≤i∧i<o+new.length then new.getD (i-o) undef else cs.getD i undef:=by
 unfold kM
 simp only[aKy]
 by_cases h1:i<o
 ·rw[if_neg (by omega),List.append_assoc,aKS (by simp;omega),aKY h1]
 ·by_cases h2:i<o+new.length
  ·rw[if_pos (by omega),List.append_assoc,aKT (by simp;omega),aKS (by simp;omega)]
   congr 3
   simp
   omega
  ·rw[if_neg (by omega),aKT (by simp;omega),aKz]
   congr 2
   simp
   omega
theorem qA (cs new:List Value) (o:Nat) (h:o+new.length≤cs.length):(kM cs o new).length=cs.length:=by
 simp[kM]
 omega
theorem Ec {lo b o:Nat} {new:List Value} {H H':aJ} (h:H.write lo b o new=some H') :
  ∃cs e p,H[b]? = some (.row cs e p)∧lo≤b∧o+new.length≤cs.length∧new.all iQ=true∧H'=H.set b (.row (kM cs o new) e p):=by
 unfold aJ.write at h
 split at h
 ·rename_i cs e p hb
  split at h
  ·rename_i hc
   cases h
   exact⟨cs,e,p,hb,hc.1,hc.2.1,hc.2.2,rfl⟩
  ·cases h
 ·cases h
theorem AJ {H:aJ} {b:Nat} {cs CH:List Value} {e:Nat} {p:Bool} (hb:H[b]? = some (.row cs e p)) (hl:CH.length=cs.length) {b':Nat} (h:Live (H.set b (.row CH e p)) b'):Live H b':=by
 obtain⟨cs1,e1,p1,h1,h2⟩:=h
 by_cases Oe:b=b'
 ·subst Oe
  rw[aKZ (aKA.1 hb).1] at h1
  cases h1
  refine⟨cs,_,_,hb,h2.imp (fun h => ?_) id⟩
  intro h0
  subst h0
  exact h (aKH hl)
 ·rw[aK0 Oe] at h1
  exact⟨cs1,e1,p1,h1,h2⟩
theorem GI {lo b o:Nat} {new:List Value} {H H':aJ} (h:H.write lo b o new=some H'):Ext lo H H':=by
 obtain⟨cs,e,p,hb,dS,hlen,ET,rfl⟩:=Ec h
 refine⟨by simp,fun b' xJ _=>aK0 (by omega),fun b' _ hl=>AJ hb (qA cs new o hlen) hl⟩
theorem GR (P:Program) {lo b o:Nat} {l:Loc} {new tD:List Value} {H':aJ} (hR:Rel m L0 H w) (dS:L0≤lo) (hm:m b=some l) (hw:H.write lo b o new=some H') (hn:RL m new tD) :
  ∃w',(storeCells ⟨l.rb,l.base+o,none⟩ tD).run P w = .ok () w'∧Rel m L0 H' w'∧Trans lo m H w m H' w':=by
 obtain⟨cs,e,p,hb,Hw,hlen,ET,rfl⟩:=Ec hw
 by_cases fW:new=[]
 ·subst fW
  have e1:tD=[]:=aKH hn.1.symm
  subst e1
  have e2:kM cs o []=cs:=by simp[kM]
  have e3:H.set b (.row cs e p)=H:=by
   apply List.ext_getElem?
   intro i
   by_cases hi:b=i
   ·subst hi;rw[aKZ (aKA.1 hb).1,hb]
   ·rw[aK0 hi]
  rw[e2,e3]
  exact⟨w,rfl,hR,Trans.refl lo m H w⟩
 have Jn:Live H b:=⟨cs,e,p,hb,.inl (by
  rintro rfl
  simp only[List.length_nil] at hlen
  exact fW (aKH (by omega)))⟩
 obtain⟨g1,g2,g3,g4⟩:=hR.row b l cs e p hm hb
 obtain⟨arr,et,fz,v1,v2,v3⟩:=hR.valid b l hm
 have BX:tD.length=new.length:=hn.1.symm
 obtain⟨w',Ht,h1,h2,h3,h4,h5,h6,h7⟩:=IF P l.rb (l.base+o) tD 0 w arr et fz v1 (by rw[BX,v2];omega) (by rw[hn.iQ];exact ET)
  (fun j j1 j2=>v3 (aKC dS Hw) j (by omega) (by rw[BX] at j2;omega))
 have bI:∀b' l',m b'=some l'→l'.rb<w.heap.size:=fun b' l' h=>by
  obtain⟨arr,e,fz,h1,_⟩:=hR.valid b' l' h
  exact(aKK.1 h1).1
 refine⟨w',h1,⟨fun b' l' h => ?_,fun b' l' CH e' p' h hH => ?_,fun b1 b2 l1 l2 GZ m1 m2 CU JN Bm => ?_,fun x hx => ?_⟩,⟨fun _ _ h=>h,fun b' l' h h'=>(by rw[h] at h';cases h'),by rw[h6];exact aKB _,fun rb Bm hk => ?_,h7⟩⟩
 ·obtain⟨axH,e1,fz1,w1,w2,w3⟩:=hR.valid b' l' h
  by_cases Oe:l'.rb=l.rb
  ·rw[Oe] at w1 ⊢
   rw[v1] at w1
   cases w1
   exact⟨Ht,et,fz,h2,by rw[h3];exact w2,w3⟩
  ·exact⟨axH,e1,fz1,by rw[h5 _ Oe];exact w1,w2,w3⟩
 ·by_cases Oe:b=b'
  ·subst Oe
   rw[hm] at h
   cases h
   rw[aKZ (aKA.1 hb).1] at hH
   cases hH
   refine⟨g1,g2,by rw[qA _ _ _ hlen];exact g3,fun i hi => ?_⟩
   rw[qA _ _ _ hlen] at hi
   refine⟨Ht.getD (l.base+i) undef,?_,?_,?_⟩
   ·rw[Du h2]
    have:l.base+i<Ht.size:=by rw[h3,v2];omega
    simp[this]
   ·rw[h4,Mf _ _ _ _ hlen]
    by_cases uW:o≤i∧i<o+new.length
    ·rw[if_pos uW,if_pos (by rw[BX];omega)]
     have:=hn.2 (i-o) (by omega)
     rw[show l.base+i-(l.base+o+0)=i-o by omega]
     exact this
    ·rw[if_neg uW,if_neg (by rw[BX];omega)]
     obtain⟨rv,c1,c2,_⟩:=g4 i hi
     rw[Du v1] at c1
     simpa[aKJ,c1] using c2
   ·rw[Mf _ _ _ _ hlen]
    split
    ·rename_i uW
     have:=aKP.1 ET new[i-o] (aKO (by omega))
     simpa[aKy,aKI (show i-o<new.length by omega)] using this
    ·exact(g4 i hi).choose_spec.2.2
  ·rw[aK0 Oe] at hH
   obtain⟨k1,k2,k3,k4⟩:=hR.row b' l' CH e' p' h hH
   refine⟨k1,k2,k3,fun i hi => ?_⟩
   obtain⟨rv,c1,c2,c3⟩:=k4 i hi
   refine⟨rv,?_,c2,c3⟩
   rw[GC]
   ·exact c1
   ·refine h5 _ fun Bm => ?_
    have ayX:Live H b':=⟨CH,e',p',hH,.inl (by rintro rfl;simp at hi)⟩
    exact Oe (hR.inj b b' l l' (aKC dS Hw) hm h Jn ayX Bm.symm)
 ·exact hR.inj b1 b2 l1 l2 GZ m1 m2 (AJ hb (qA cs new o hlen) CU) (AJ hb (qA cs new o hlen) JN) Bm
 ·obtain⟨⟨e0,fz0,k1⟩,k2⟩:=hR.FX x hx
  refine⟨⟨e0,fz0,by rw[h5 _ (aKX (k2 b l (aKC dS Hw) hm Jn))];exact k1⟩,fun b' l' xJ h hl=>k2 b' l' xJ h (AJ hb (qA cs new o hlen) hl)⟩
 ·exact h5 rb fun acQ=>hk b l Hw hm Jn acQ.symm
theorem AT {H:aJ} {b b':Nat} (h:Live (H.set b .dead) b'):Live H b'∧b'≠b:=by
 obtain⟨cs,e,p,h1,h2⟩:=h
 by_cases hb:b=b'
 ·subst hb
  have bI:=(aKA.1 h1).1
  rw[aKZ (by simpa using bI)] at h1
  cases h1
 ·rw[aK0 hb] at h1
  exact⟨⟨cs,e,p,h1,h2⟩,aKX hb⟩
theorem Uk {lo b:Nat} {H:aJ} (h:lo≤b):Ext lo H (H.set b .dead) :=
 ⟨by simp,fun b' xJ _=>aK0 (by omega),fun _ _ hl=>(AT hl).1⟩
theorem Uw (hR:Rel m L0 H w) (b:Nat):Rel m L0 (H.set b .dead) w∧∀lo,Trans lo m H w m (H.set b .dead) w:=by
 refine⟨⟨hR.valid,fun b' l' cs e p h hH => ?_,fun b1 b2 l1 l2 GZ h1 h2 CU JN=>hR.inj b1 b2 l1 l2 GZ h1 h2 (AT CU).1 (AT JN).1,fun x hx=>⟨(hR.FX x hx).1,fun b' l' xJ h hl=>(hR.FX x hx).2 b' l' xJ h (AT hl).1⟩⟩,
  fun lo=>⟨fun _ _ h=>h,fun b' l' h h'=>(by rw[h] at h';cases h'),aKB _,fun _ _ _=>rfl,rfl,rfl,rfl⟩⟩
 by_cases hb:b=b'
 ·subst hb
  have bI:=(aKA.1 hH).1
  rw[aKZ (by simpa using bI)] at hH
  cases hH
 ·rw[aK0 hb] at hH
  exact hR.row b' l' cs e p h hH
theorem BR {H:aJ} {b b':Nat} {x:QI} (h:Live (H.set b .dead++[x]) b') (hb:b'≠H.length):Live H b'∧b'≠b∧b'<H.length:=by
 have bI:=h.lt
 simp at bI
 have:=iO h (by simp;omega)
 exact⟨(AT this).1,(AT this).2,by omega⟩
theorem aeX {lo b:Nat} {H:aJ} {x:QI} (h:lo≤b):Ext lo H (H.set b .dead++[x]) :=
 (Uk h).trans (sZ lo _ x)
theorem akT (P:Program) {lo b o n e:Nat} {l:Loc} {cs new tD:List Value} (hR:Rel m L0 H w) (dS:L0≤lo) (Hw:lo≤b) (hm:m b=some l) (hf:m H.length=none)
  (hb:H[b]? = some (.row cs e true)) (hlen:o+n≤cs.length) (xG:l.base+o+n+new.length≤l.St) (ET:new.all iQ=true) (hn:RL m new tD) :
  ∃w',(storeCells ⟨l.rb,l.base+o+n,none⟩ tD).run P w = .ok () w' ∧
   Rel (yT m H.length ⟨l.rb,l.base+o,e,l.St,true⟩) L0 (H.set b .dead++[.row ((cs.drop o).take n++new) e true]) w' ∧
   Trans lo m H w (yT m H.length ⟨l.rb,l.base+o,e,l.St,true⟩) (H.set b .dead++[.row ((cs.drop o).take n++new) e true]) w':=by
 have Jn:Live H b:=⟨cs,e,true,hb,.inr rfl⟩
 obtain⟨g1,g2,g3,g4⟩:=hR.row b l cs e true hm hb
 obtain⟨arr,et,fz,v1,v2,v3⟩:=hR.valid b l hm
 have BX:tD.length=new.length:=hn.1.symm
 obtain⟨w',Ht,h1,h2,h3,h4,h5,h6,h7⟩:=IF P l.rb (l.base+o+n) tD 0 w arr et fz v1 (by rw[BX,v2];omega) (by rw[hn.iQ];exact ET)
  (fun j j1 j2=>v3 (aKC dS Hw) j (by omega) (by rw[BX] at j2;omega))
 have bI:∀b' l',m b'=some l'→l'.rb<w.heap.size:=fun b' l' h=>by
  obtain⟨arr,e,fz,h1,_⟩:=hR.valid b' l' h
  exact(aKK.1 h1).1
 have uX:=yJ (l:=⟨l.rb,l.base+o,e,l.St,true⟩) hf
 have Fa:(H.set b .dead).length=H.length:=by simp
 have hnb:(H.set b .dead++[.row ((cs.drop o).take n++new) e true])[H.length]? = some (.row ((cs.drop o).take n++new) e true):=by
  rw[aKT (by simp)]
  simp
 have aAO:∀b',b'≠H.length→b'≠b→(H.set b .dead++[.row ((cs.drop o).take n++new) e true])[b']? = H[b']? := by
  intro b' k1 k2
  rcases aKE b' H.length with k3 | k3
  ·rw[aKS (by simpa using k3),aK0 (aKX k2)]
  ·rw[aK1 (by simp;omega),aK1 k3]
 have YQ:∀b' l',m b'=some l'→Live H b'→b'≠b→l'.rb≠l.rb:=fun b' l' k1 k2 k3 k4 =>
  k3 (hR.inj b b' l l' (aKC dS Hw) hm k1 Jn k2 k4.symm).symm
 refine⟨w',h1,⟨fun b' l' h => ?_,fun b' l' CH e' p' h hH => ?_,fun b1 b2 l1 l2 GZ m1 m2 CU JN Bm => ?_,fun x hx => ?_⟩,⟨uX,fun b' l' h hnn => ?_,by rw[h6];exact aKB _,fun rb Bm hk => ?_,h7⟩⟩
 ·by_cases Sc:b'=H.length
  ·subst Sc
   rw[cD] at h
   cases h
   exact⟨Ht,et,fz,h2,by rw[h3];exact v2,fun _ j j1 j2=>v3 (aKC dS Hw) j (by simp only at j1;omega) j2⟩
  ·rw[dA Sc] at h
   obtain⟨axH,e1,fz1,w1,w2,w3⟩:=hR.valid b' l' h
   by_cases Oe:l'.rb=l.rb
   ·rw[Oe] at w1 ⊢
    rw[v1] at w1
    cases w1
    exact⟨Ht,et,fz,h2,by rw[h3];exact w2,w3⟩
   ·exact⟨axH,e1,fz1,by rw[h5 _ Oe];exact w1,w2,w3⟩
 ·by_cases Sc:b'=H.length
  ·subst Sc
   rw[cD] at h
   cases h
   rw[hnb] at hH
   cases hH
   have hold:((cs.drop o).take n).length=n:=by simp;omega
   refine⟨rfl,rfl,by simp only[aKM,hold];omega,fun i hi => ?_⟩
   simp only[aKM,hold] at hi
   refine⟨Ht.getD (l.base+o+i) undef,?_,?_,?_⟩
   ·show w'.cell? ⟨l.rb,l.base+o+i,none⟩=_
    rw[Du h2]
    have:l.base+o+i<Ht.size:=by rw[h3,v2];omega
    simp[this]
   ·rw[h4]
    refine RV.mono uX ?_
    by_cases uW:i<n
    ·rw[if_neg (by omega)]
     have e1:((cs.drop o).take n++new).getD i undef=cs.getD (o+i) undef:=by
      simp only[aKy]
      rw[aKS (by rw[hold];exact uW),aKY uW,aKz]
     rw[e1]
     obtain⟨rv,c1,c2,_⟩:=g4 (o+i) (by omega)
     rw[Du v1,←aKN] at c1
     simpa[aKJ,c1] using c2
    ·rw[if_pos (by rw[BX];omega)]
     have e1:((cs.drop o).take n++new).getD i undef=new.getD (i-n) undef:=by
      simp only[aKy]
      rw[aKT (by rw[hold];omega),hold]
     rw[e1,show l.base+o+i-(l.base+o+n+0)=i-n by omega]
     exact hn.2 (i-n) (by omega)
   ·by_cases uW:i<n
    ·have e1:((cs.drop o).take n++new).getD i undef=cs.getD (o+i) undef:=by
      simp only[aKy]
      rw[aKS (by rw[hold];exact uW),aKY uW,aKz]
     rw[e1]
     exact(g4 (o+i) (by omega)).choose_spec.2.2
    ·have e1:((cs.drop o).take n++new).getD i undef=new.getD (i-n) undef:=by
      simp only[aKy]
      rw[aKT (by rw[hold];omega),hold]
     rw[e1]
     have:=aKP.1 ET new[i-n] (aKO (by omega))
     simpa[aKy,aKI (show i-n<new.length by omega)] using this
  ·rw[dA Sc] at h
   by_cases Oe:b'=b
   ·subst Oe
    have OW:=Jn.lt
    rw[aKS (by simpa using OW),aKZ OW] at hH
    cases hH
   ·rw[aAO b' Sc Oe] at hH
    obtain⟨k1,k2,k3,k4⟩:=hR.row b' l' CH e' p' h hH
    refine⟨k1,k2,k3,fun i hi => ?_⟩
    obtain⟨rv,c1,c2,c3⟩:=k4 i hi
    refine⟨rv,?_,c2.mono uX,c3⟩
    rw[GC]
    ·exact c1
    ·exact h5 _ (YQ b' l' h ⟨CH,e',p',hH,.inl (by rintro rfl;simp at hi)⟩ Oe)
 ·by_cases e1:b1=H.length<;>by_cases e2:b2=H.length
  ·omega
  ·subst e1
   rw[cD] at m1
   rw[dA e2] at m2
   cases m1
   obtain⟨k1,k2,_⟩:=BR JN e2
   exact absurd Bm.symm (YQ b2 l2 m2 k1 k2)
  ·subst e2
   rw[cD] at m2
   rw[dA e1] at m1
   cases m2
   obtain⟨k1,k2,_⟩:=BR CU e1
   exact absurd Bm (YQ b1 l1 m1 k1 k2)
  ·rw[dA e1] at m1
   rw[dA e2] at m2
   exact hR.inj b1 b2 l1 l2 GZ m1 m2 (BR CU e1).1 (BR JN e2).1 Bm
 ·obtain⟨⟨e0,fz0,k1⟩,k2⟩:=hR.FX x hx
  have kb:=k2 b l (aKC dS Hw) hm Jn
  refine⟨⟨e0,fz0,by rw[h5 _ (aKX kb)];exact k1⟩,fun b' l' xJ h hl => ?_⟩
  by_cases he:b'=H.length
  ·subst he
   rw[cD] at h
   cases h
   exact kb
  ·rw[dA he] at h
   exact k2 b' l' xJ h (BR hl he).1
 ·by_cases Sc:b'=H.length
  ·subst Sc
   rw[cD] at h
   cases h
   exact⟨⟨aKB _,by simp⟩,.inr (.inr ⟨b,l,Hw,hm,Jn,rfl⟩)⟩
  ·rw[dA Sc,hnn] at h
   cases h
 ·exact h5 rb fun acQ=>hk b l Hw hm Jn acQ.symm
end
end Go.PM
namespace Go.PM
section
variable {P:Program} {m:dO} {L0:Nat} {H:aJ} {w:World}
def cT (P:Program) (s:Sem Next) (L0 lo:Nat) (m:dO) (H:aJ) (w:World) (v:Value) (H':aJ):Prop :=
 ∃rv w' m',(s.run P w = .ok (.value rv) w'∨(s.run P w = .ok .skip w'∧rv=undef))∧RV m' v rv∧Rel m' L0 H' w'∧Trans lo m H w m' H' w'
theorem cT.value {s:Sem Value} {lo:Nat} {v rv:Value} {H':aJ} {w':World} {m':dO} (h:s.run P w = .ok rv w') (h1:RV m' v rv) (h2:Rel m' L0 H' w') (h3:Trans lo m H w m' H' w') :
 cT P (do pure (.value (←s))) L0 lo m H w v H':=⟨rv,w',m',.inl (fO h),h1,h2,h3⟩
theorem Rc {b o n:Nat} {cs:List Value} (h:H.read b o n=some cs):∃all e p,H[b]? = some (.row all e p)∧o+n≤all.length∧cs=(all.drop o).take n∧cs.length=n:=by
 unfold aJ.read at h
 split at h
 ·rename_i all e p hb
  split at h
  ·rename_i hle
   cases h
   exact⟨all,e,p,hb,hle,rfl,by simp;omega⟩
  ·cases h
 ·cases h
theorem Bw {b o n:Nat} {cs:List Value} {l:Loc} (hR:Rel m L0 H w) (hm:m b=some l) (h:H.read b o n=some cs) :
  ∃rs:List Value,RL m cs rs∧rs.length=n∧cs.all iQ=true∧∀j v,rs[j]? = some v→w.cell? ((⟨l.rb,l.base+o,none⟩:Addr).add j)=some v:=by
 obtain⟨all,e,p,hb,hle,rfl,hn⟩:=Rc h
 obtain⟨g1,g2,g3,g4⟩:=hR.row b l all e p hm hb
 have xQ:∀i,i<n→((all.drop o).take n).getD i undef=all.getD (o+i) undef:=fun i hi=>by
  simp[aKy,aKY hi,aKz]
 refine⟨(aKx n).map fun i=>(w.cell? ⟨l.rb,l.base+(o+i),none⟩).getD undef,⟨by simp;omega,fun i hi => ?_⟩,by simp,?_,fun j v hj => ?_⟩
 ·rw[hn] at hi
  rw[xQ i hi]
  obtain⟨rv,c1,c2,_⟩:=g4 (o+i) (by omega)
  simp[aKy,hi,c1]
  simpa[aKy] using c2
 ·rw[aKP]
  intro x hx
  obtain⟨i,hi,rfl⟩:=List.getElem_of_mem hx
  rw[hn] at hi
  obtain⟨_,_,_,c3⟩:=g4 (o+i) (by omega)
  rw[←xQ i hi] at c3
  simpa[aKy,aKI (show i<((all.drop o).take n).length by omega)] using c3
 ·have hj':j<n:=by
   have:=(aKA.1 hj).1
   simpa using this
  obtain⟨rv,c1,_,_⟩:=g4 (o+j) (by omega)
  simp[hj',c1] at hj
  subst hj
  rw[Addr.add_lit,aKN]
  exact c1
theorem RD {t:TypeId} {agg:Bool} {size nb:Nat} {z:List Value} {pv rp v:Value} (ht:oO P t=some (agg,size,z,nb)) (hv:qQ agg size pv H=some v) (hR:Rel m L0 H w) (hp:RV m pv rp) :
  ∃rv,RV m v rv∧(Instr.loadAt t rp).run P w = .ok rv w:=by
 obtain⟨i,d,zz,hi,hd,_,rfl,rfl,_,_⟩:=kO ht
 unfold qQ at hv
 split at hv
 ·rename_i b o
  cases hp with
  |
   ptr _ _ l hm =>
   have sN:(Instr.loadAt t (.pointer (some ⟨l.rb,l.base+o,none⟩))).run P w=(loadVar t ⟨l.rb,l.base+o,none⟩).run P w:=rfl
   split at hv
   ·rename_i ha
    cases hr:H.read b o i.size with
    | none=>rw[hr] at hv;cases hv
    |
     some cs =>
     rw[hr] at hv
     cases hv
     obtain⟨rs,h1,h2,_,h3⟩:=Bw hR hm hr
     refine⟨.agg rs.toArray,RL.auG h1,?_⟩
     rw[sN]
     have:=run_loadCells_list (P:=P) w ⟨l.rb,l.base+o,none⟩ rs h3
     rw[h2] at this
     unfold loadVar
     simp[Sem.run_bind,G8 t d hd,ha,run_sizeOf t i hi,this]
   ·rename_i ha
    have ha':Gc d=false:=by simpa using ha
    split at hv
    ·rename_i x hr
     cases hv
     obtain⟨rs,h1,h2,_,h3⟩:=Bw hR hm hr
     obtain⟨r,hrs⟩:∃r,rs=[r]:=by
      cases rs with
      | nil=>cases h2
      |
       cons r rs=>cases rs with
       | nil=>exact⟨r,rfl⟩
       | cons _ _=>simp at h2
     subst hrs
     have hc:=h3 0 r rfl
     rw[Addr.add_zero'] at hc
     refine⟨r,h1.lO.1,?_⟩
     rw[sN]
     unfold loadVar
     simp[Sem.run_bind,G8 t d hd,ha',hc]
    ·cases hv
 ·cases hv
theorem MF {size n k:Nat} {pv rv:Value} {new:List Value} (hs:lD H size n pv=some new) (hk:wC pv=some k) (hnk:n≤k) (hR:Rel m L0 H w) (hp:RV m pv rv) :
  ∃tD:List Value,RL m new tD∧new.all iQ=true∧∀w',w'.heap=w.heap→(Builtin.firstCells size n rv).run P w' = .ok tD.toArray w':=by
 unfold lD at hs
 split at hs
 ·rename_i b o n' c
  cases hk
  cases hp with
  |
   slice _ _ _ _ l ra rc hm hn hc hx ha =>
   obtain⟨rs,h1,h2,h2',h3⟩:=Bw hR hm hs
   rcases ha with ha | ⟨rfl,ha⟩
   ·
    have h0:n=0:=by omega
    subst h0
    have e0:rs=[]:=aKH (by simpa using h2)
    subst e0
    exact⟨[],h1,h2',fun w' _=>run_firstCells_some (P:=P) w' size 0 _ _ _ [] (by simp) fun j v hj=>by cases hj⟩
   ·refine⟨rs,h1,h2',fun w' hw'=>run_firstCells_some (P:=P) w' size n _ _ _ rs h2 fun j v hj => ?_⟩
    rw[←h3 j v hj]
    exact GC (by rw[hw'])
 ·split at hs
  ·rename_i hn
   cases hs
   cases hp
   exact⟨[],RL.nil m,rfl,fun w' _=>run_firstCells_none w' size n _ _⟩
  ·cases hs
 ·rename_i s
  split at hs
  ·cases hs
   cases hp
   refine⟨_,RL.map (f:=fun b:UInt8=>Value.int .u8 (b.toNat:Int)) (g:=fun b:UInt8=>Value.int .u8 (b.toNat:Int)) (fun x _ => .int _ _),?_,fun w' _ => ?_⟩
   ·rw[aKP]
    intro x hx
    obtain⟨b,_,rfl⟩:=List.mem_map.1 hx
    rfl
   ·simp only[Builtin.firstCells,Sem.run_pure]
    congr 1
    apply Array.ext'
    simp[ByteArray.data_extract]
  ·cases hs
 ·cases hs
theorem SN {t u ty e:TypeId} {i:TypeInfo} {d:TypeDesc} (ht:P.underlying t=some (.slice e)) (hu:P.underlying u=some d) (hd:NZ d=true) (hi:P.info? e=some i)
  {a:Addr} {n c k:Nat} {x:Value} {tD:List Value} {w':World} (hl:Builtin.lenOf x=pure k) (hf:(Builtin.firstCells i.size k x).run P w = .ok tD.toArray w) (EU:n+k≤c)
  (wU:(storeCells (a.add (n*i.size)) tD).run P w = .ok () w') :
  (Builtin.append_ #[t,u] ty #[.slice (some a) n c,x]).run P w = .ok (.slice (some a) (n+k) c) w':=by
 cases d<;>first | (cases hd;done) | simp[Builtin.append_,run_underlying ht,run_underlying hu,run_sizeOf e i hi,hl,hf,EU,wU]
theorem WE {t u ty e:TypeId} {i:TypeInfo} {d:TypeDesc} (ht:P.underlying t=some (.slice e)) (hu:P.underlying u=some d) (hd:NZ d=true) (hi:P.info? e=some i)
  {x:Value} (hl:Builtin.lenOf x=pure 0) {tD:List Value} (hf:(Builtin.firstCells i.size 0 x).run P w = .ok tD.toArray w) :
  (Builtin.append_ #[t,u] ty #[.slice none 0 0,x]).run P w = .ok (.slice none 0 0) w:=by
 cases d<;>first | (cases hd;done) | simp[Builtin.append_,run_underlying ht,run_underlying hu,run_sizeOf e i hi,hl,hf]
theorem TP {t u ty e:TypeId} {i:TypeInfo} {d:TypeDesc} {z:Value} (ht:P.underlying t=some (.slice e)) (hu:P.underlying u=some d) (hd:NZ d=true) (hi:P.info? e=some i) (hz:i.zero=some z)
  {base:Option Addr} {n c k:Nat} {x:Value} {E8 tD:List Value} (hl:Builtin.lenOf x=pure k) (hfo:(Builtin.firstCells i.size n (.slice base n c)).run P w.drew = .ok E8.toArray w.drew)
  (hf:(Builtin.firstCells i.size k x).run P w.drew = .ok tD.toArray w.drew) (hg:c<n+k) (GZ:1≤i.bytes) (hb:(n+k)*i.bytes≤140737488355328) :
  (Builtin.append_ #[t,u] ty #[.slice base n c,x]).run P w = .ok (.slice (some ⟨w.heap.size,0,none⟩) (n+k) (grownCap w (n+k) c e))
   (w.drew.alloc (.cells (E8.toArray++tD.toArray++Builtin.zeroCells z.cells (grownCap w (n+k) c e-(n+k))) e)):=by
 have xG:=growslice_fits (bytes:=i.bytes) hg hb
 have h1:¬(n+k≤c):=by omega
 have h2:¬(281474976710656<Builtin.nextslicecap (n+k) c*i.bytes):=by omega
 have h3:¬i.bytes=0:=by omega
 cases d<;>first | (cases hd;done) | simp[Builtin.append_,run_underlying ht,run_underlying hu,run_sizeOf e i hi,typeInfo,zeroValue,hi,hz,hl,h1,h2,h3,Question.forced,hfo,hf,newRow,grownCap]
 all_goals
  congr 2
  apply Array.ext'
  simp
theorem addr_add (g o k:Nat):(⟨g,o,none⟩:Addr).add k=⟨g,o+k,none⟩:=Addr.add_lit g o k
theorem MS {s:Sem Value} {lo size bytes add:Nat} {x rx v:Value} {new tD:List Value} {H':aJ} {e:TypeId} (xL:fJ lo size bytes x add new H=some (v,H')) (hR:Rel m L0 H w) (dS:L0≤lo) (hx:RV m x rx)
  (hn:RL m new tD) (hf:∀b,H.length≤b→b<H'.length→m b=none)
  (EU:∀a n c w',rx = .slice (some a) n c→n+add≤c→(storeCells (a.add (n*size)) tD).run P w = .ok () w'→s.run P w = .ok (.slice (some a) (n+add) c) w')
  (aEt:rx = .slice none 0 0→add=0→s.run P w = .ok (.slice none 0 0) w)
  (auM:∀base n c E8,rx = .slice base n c→(Builtin.firstCells size n rx).run P w.drew = .ok (List.toArray E8) w.drew→E8.length=n*size→c<n+add→(n+add)*bytes≤140737488355328→∃cap arr,n+add≤cap ∧
   s.run P w = .ok (.slice (some ⟨w.heap.size,0,none⟩) (n+add) cap) (w.drew.alloc (.cells arr e))∧arr.size=cap*size∧∀i,i<(E8++tD).length→arr.getD i undef=(E8++tD).getD i undef) :
  ∃rv w' m',s.run P w = .ok rv w'∧RV m' v rv∧Rel m' L0 H' w'∧Trans lo m H w m' H' w':=by
 unfold fJ at xL
 split at xL
 case isFalse=>cases xL
 rename_i hc0
 obtain⟨GZ,FP,ET,hnl⟩:=hc0
 split at xL
 ·rename_i n c
  split at xL
  ·rename_i h0
   obtain⟨rfl,rfl⟩:=h0
   cases hx
   split at xL
   ·rename_i QA
    cases xL
    exact⟨_,w,m,aEt rfl QA,.Nj,hR,Trans.refl lo m H w⟩
   ·rename_i QA
    split at xL
    ·rename_i hb
     cases xL
     obtain⟨cap,arr,k1,k2,k3,k4⟩:=auM none 0 0 [] rfl (by simp[Builtin.firstCells]) (by simp) (by omega) (by simpa using hb)
     have hmn:m H.length=none:=hf _ (aKB _) (by simp)
     have hl:new.length≤arr.size:=by rw[k3,hnl];exact aK2 _ (by omega)
     have hA:=AV hR hmn (w':=w.drew.alloc (.cells arr e)) (arr:=arr) (e:=e) (fz:=(0,0)) rfl ⟨rfl,rfl,rfl⟩ (cs:=new) (gU:=size) (Uy:=true) hl
      (fun i hi=>by
       rw[k4 i (by rw[List.nil_append,←hn.1];exact hi)]
       exact hn.2 i hi) ET (fun j _ h=>by simp at h)
     refine⟨_,_,_,k2,?_,hA.1,hA.2 lo⟩
     rw[Nat.zero_add] at k1 ⊢
     exact .slice _ 0 add add _ _ cap (cD m _ _) (aKB _) k1 (fun h=>by cases h) (.inr ⟨rfl,by simp only[k3];omega⟩)
    ·cases xL
  ·cases xL
 ·rename_i b o n c
  cases hx with
  |
   slice _ _ _ _ l ra rc hm hnc hcr hxp ha =>
   split at xL
   ·rename_i cs es p ZD
    obtain⟨g1,g2,g3,g4⟩:=hR.row b l cs es p hm ZD
    split at xL
    ·rename_i hle
     obtain⟨rfl,hle⟩:=hle
     have hold:∃E8:List Value,RL m ((cs.drop o).take (n*es)) E8∧E8.length=n*es∧(Builtin.firstCells es n (.slice (some ra) n rc)).run P w.drew = .ok E8.toArray w.drew:=by
      have HA:H.read b o (n*es)=some ((cs.drop o).take (n*es)):=by simp[aJ.read,ZD,hle]
      obtain⟨rs,h1,h2,_,h3⟩:=Bw hR hm HA
      rcases ha with ha | ⟨rfl,ha⟩
      ·have h0:n=0:=by omega
       subst h0
       have e0:rs=[]:=aKH (by simpa using h2)
       subst e0
       exact⟨[],h1,by simp,run_firstCells_some (P:=P) w.drew es 0 _ _ _ [] (by simp) fun j v hj=>by cases hj⟩
      ·exact⟨rs,h1,h2,run_firstCells_some (P:=P) w.drew es n _ _ _ rs h2 fun j v hj=>by rw[World.cell?_drew];exact h3 j v hj⟩
     obtain⟨E8,o1,o2,o3⟩:=hold
     have grown:∀(Hd:aJ) (hRd:Rel m L0 Hd w) (hTd:Trans lo m H w m Hd w) (hEd:Ext lo H Hd) (hld:Hd.length=H.length),H'=Hd++[.row ((cs.drop o).take (n*es)++new) es true]→v = .slice (some ⟨H.length,0,none⟩) (n+add) (n+add) →
       rc<n+add→(n+add)*bytes≤140737488355328→∃rv w' m',s.run P w = .ok rv w'∧RV m' v rv∧Rel m' L0 H' w'∧Trans lo m H w m' H' w':=by
      intro Hd hRd hTd hEd hld hH' hv hg hb
      subst hH'
      subst hv
      obtain⟨cap,arr,k1,k2,k3,k4⟩:=auM (some ra) n rc E8 rfl o3 o2 hg hb
      have hmn:m Hd.length=none:=by rw[hld];exact hf _ (aKB _) (by simp[hld])
      have hlen:((cs.drop o).take (n*es)++new).length=(n+add)*es:=by rw[aKM,o1.1,o2,hnl,Nat.add_mul]
      have hA:=AV hRd hmn (w':=w.drew.alloc (.cells arr e)) (arr:=arr) (e:=e) (fz:=(0,0)) rfl ⟨rfl,rfl,rfl⟩ (cs:=(cs.drop o).take (n*es)++new) (gU:=es) (Uy:=true)
       (by rw[hlen,k3];exact aK2 _ k1)
       (fun i hi=>by
        rw[k4 i (by rw[aKM,o2,←hn.1,hnl,←Nat.add_mul];rw[hlen] at hi;exact hi)]
        exact(o1.append hn).2 i hi)
       (by
        have HA:H.read b o (n*es)=some ((cs.drop o).take (n*es)):=by simp[aJ.read,ZD,hle]
        obtain⟨_,_,_,h2',_⟩:=Bw hR hm HA
        rw[List.all_append,h2',ET];rfl) (fun j _ h=>by simp at h)
      rw[hld] at hA
      refine⟨_,_,_,k2,?_,hA.1,?_⟩
      ·exact .slice _ 0 _ _ _ _ cap (cD m _ _) (aKB _) k1 (fun h=>by cases h) (.inr ⟨rfl,by simp only[k3];omega⟩)
      ·exact Trans.trans (H1:=Hd) hf hEd (sZ lo Hd _) hTd (hA.2 lo)
     split at xL
     ·rename_i bZ
      split at xL
      ·rename_i QA
       cases xL
       subst QA
       have e0:new=[]:=aKH (by simpa using hnl)
       subst e0
       have e1:tD=[]:=aKH hn.1.symm
       subst e1
       exact⟨_,w,m,EU ra n rc w rfl (by omega) rfl,.slice b o n c l ra rc hm hnc hcr hxp ha,hR,Trans.refl lo m H w⟩
      ·rename_i QA
       cases hw:H.write lo b (o+n*es) new with
       | none=>rw[hw] at xL;cases xL
       |
        some H1 =>
        rw[hw] at xL
        cases xL
        rcases ha with ha | ⟨rfl,ha⟩
        ·omega
        ·obtain⟨w',s1,s2,s3⟩:=GR P hR dS hm hw hn
         refine⟨_,w',m,EU _ n rc w' rfl (by omega) (by rw[addr_add,aKN];exact s1),?_,s2,s3⟩
         exact .slice b o (n+add) c l _ rc hm (by omega) hcr hxp (.inr ⟨rfl,ha⟩)
     ·rename_i bZ
      split at xL
      ·rename_i hb
       split at xL
       ·rename_i hp
        split at xL
        ·rename_i Hw
         cases xL
         by_cases hg:rc<n+add
         ·exact grown (H.set b .dead) (Uw hR b).1 ((Uw hR b).2 lo) (Uk Hw) (by simp) rfl rfl hg hb
         ·
          subst hp
          rcases ha with ha | ⟨rfl,ha⟩
          ·omega
          ·have hmn:m H.length=none:=hf _ (aKB _) (by simp)
           have xG:l.base+o+n*es+new.length≤l.St:=by
            rw[hnl]
            have:(n+add)*es≤rc*es:=aK2 _ (by omega)
            rw[Nat.add_mul] at this
            rw[g1] at ha
            omega
           obtain⟨w',s1,s2,s3⟩:=akT P hR dS Hw hm hmn ZD hle xG ET hn
           refine⟨_,w',_,EU _ n rc w' rfl (by omega) (by rw[addr_add];exact s1),?_,s2,s3⟩
           refine .slice _ 0 _ _ _ _ rc (cD m _ _) (aKB _) (by omega) (fun h=>by cases h) (.inr ⟨rfl,?_⟩)
           rw[g1] at ha
           simp only
           omega
        ·cases xL
       ·rename_i hp
        cases xL
        have BY:l.Uy=false:=by rw[g2];simpa using hp
        have:=hxp BY
        exact grown H hR (Trans.refl lo m H w) (Ext.refl lo H) rfl rfl rfl (by omega) hb
      ·cases xL
    ·cases xL
   ·cases xL
 ·cases xL
end
end Go.PM