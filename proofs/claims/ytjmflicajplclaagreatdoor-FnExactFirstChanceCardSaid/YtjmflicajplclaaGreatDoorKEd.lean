/- Texts of a claim, in one: part 4. -/
import Derived.Test.YtjmflicajplclaaGreatDoorKEc
open Bool renaming and_eq_true → aLM,false_eq_true → aLQ
open List renaming all_cons → aL6,all_eq_true → aLs,append_nil → aMm,drop_drop → aMe,drop_eq_getElem_cons → aLj,drop_zero → aMq,eq_of_mem_replicate → aMp,flatMap_append → aMi,flatMap_cons → aL2,flatMap_nil → aMl,getElem?_append_left → aLv,getElem?_eq_some_iff → aLd,getElem?_set_ne → aLD,getElem?_set_self → aLC,mem_append → aMa,mem_append_left → aMt,mem_append_right → aMu,mem_cons → aMs,mem_cons_of_mem → aLN,mem_cons_self → aLO,mem_flatMap → aMg,mem_of_getElem? → aL8,mem_of_mem_drop → aMc,mem_of_mem_take → aMb,mem_or_eq_of_mem_set → aMj,mem_singleton → aMk,replicate → aL4,replicate_succ → aMo,set_eq_take_append_cons_drop → aL9,take_append_drop → aMn,take_length → aMr,take_of_length_le → aL7,take_succ_cons → aL1,take_take → aMd
open Nat renaming add_assoc → aLq,add_mul → aLJ,le_refl → aLe,le_trans → aLf,lt_of_lt_of_le → aLg,min_eq_left → aMf,mul_le_mul_right → aLF,succ_mul → aL3,zero_mul → aMh
set_option linter.unusedSimpArgs false
set_option linter.unusedVariables false
namespace Go.PM
inductive TK where
 | op
 | cl (e:Nat)
 | nil
 deriving DecidableEq
inductive VV where
 | any
 | sc (v:Value)
 | agg (cs:List VV)
 | eH (vs:List VV)
 | tree (es:List VV) (k:TK)
 | cS (x:VV) (off:Nat)
 | ref (b g o n c:Nat)
 | ptr (b g j off:Nat)
 | yV (f:Nat) (gU:List VV)
 deriving Inhabited
inductive eR where
 | dead
 | row (g:Nat) (es:List VV) (e:Nat) (w:Bool)
 deriving Inhabited
abbrev aA:=List eR
abbrev cV:=Nat→VV
def tJ:VV := .eH []
def qM:Value→Bool
 | .bool _ | .int _ _ | .string _ | .pointer none | .nilFunc | .nilIface=>true
 | _=>false
def kR:Value→VV
 | .slice none 0 0 => .tree [] .nil
 | v=>if qM v then .sc v else .any
def inj:Value→VV
 | .agg cs => .agg (cs.toList.map kR)
 | .tuple vs=>if vs.isEmpty then .eH [] else .any
 | v=>kR v
def fE (ρ:cV):Operand→VV
 | .tmp t=>ρ t
 | .const v=>inj v
 | .global _ => .any
 | .func f => .yV f []
def M9 (ρ:cV):Option Nat→VV→cV
 | none,_=>ρ
 | some d,v=>fun k=>if k=d then v else ρ k
def aB:VV→List VV
 | .agg cs=>cs
 | v=>[v]
def elemOf:List VV→VV
 | [x]=>x
 | cs => .agg cs
def bP:VV→Bool
 | .any | .agg _ | .eH _=>false
 | _=>true
def uni:List VV→Bool
 | []=>true
 | x::xs=>xs.all fun y=>(aB y).length == (aB x).length
mutual
def aY:VV→Bool
 | .any=>false
 | .sc v=>qM v
 | .agg cs=>aO cs
 | .eH vs=>aO vs
 | .tree es k=>decide (k = .op)&&aO es&&uni es
 | .cS x _=>aY x
 | .ref .. => false
 | .ptr .. => false
 | .yV _ gU=>aO gU
def aO:List VV→Bool
 | []=>true
 | x::xs=>aY x&&aO xs
end
def CH:VV→Bool
 | .agg [_]=>false
 | _=>true
mutual
def gV:VV→Bool
 | .any=>false
 | .sc v=>qM v
 | .agg cs=>rE cs
 | .eH vs=>rE vs
 | .tree es k=>decide (k = .op)&&rE es&&uni es&&es.all CH
 | .cS _ _=>false
 | .ref .. => false
 | .ptr .. => false
 | .yV _ _=>false
def rE:List VV→Bool
 | []=>true
 | x::xs=>gV x&&rE xs
end
mutual
def Jb:VV→Bool
 | .sc v=>qM v
 | .agg cs=>U7 cs
 | .eH vs=>U7 vs
 | _=>false
def U7:List VV→Bool
 | []=>true
 | x::xs=>Jb x&&U7 xs
end
mutual
def below (k:Nat):VV→Bool
 | .any=>true
 | .sc _=>true
 | .agg cs=>nM k cs
 | .eH vs=>nM k vs
 | .tree es _=>nM k es
 | .cS x _=>below k x
 | .ref b _ _ _ _=>decide (b<k)
 | .ptr b _ _ _=>decide (b<k)
 | .yV _ gU=>nM k gU
def nM (k:Nat):List VV→Bool
 | []=>true
 | x::xs=>below k x&&nM k xs
end
def MM (k:Nat) (v:VV):VV:=if below k v then v else .any
def aJ (H:aA) (b g:Nat):Option (List VV×Nat×Bool) :=
 match H[b]? with
 | some (.row g' es e w)=>if g'=g then some (es,e,w) else none
 | _=>none
def uD:List CK→List VV→List VV→Option Bool
 | [],[],[]=>some true
 |
  k::ks,.sc x::xs,.sc y::ys=>match yG k x y with
  | some true=>uD ks xs ys
  | some false=>some false
  | none=>none
 | _,_,_=>none
def dD (cs:List VV) (o:Nat) (new:List VV):List VV:=cs.take o++new++cs.drop (o+new.length)
def isAny:VV→Bool
 | .any=>true
 | _=>false
def BT (places:List (Nat×Nat)) (cells:List VV):List (Nat×VV)→Option (List VV)
 | []=>some cells
 |
  (i,v)::rest =>
  match places[i]? with
  | none=>none
  |
   some (off,size) =>
   if (aB v).length=size∧off+size≤cells.length∧isAny v=false then
    BT places (cells.take off++aB v++cells.drop (off+size)) rest
   else none
def zE (e:Nat) (es:List VV):List (Nat×VV)→Option (List VV)
 | []=>some es
 | (i,v)::rest=>if i<es.length∧(aB v).length=e∧(aB v).all bP then zE e (es.set i v) rest else none
def IC:Option VV→Option (Option Value)
 | none=>some none
 | some (.sc v)=>some (some v)
 | some _=>none
def dJ (agg:Bool) (size:Nat) (x:VV) (o:Nat):Option VV :=
 if agg then (if o+size≤(aB x).length then some (.agg (((aB x).drop o).take size)) else none) else (aB x)[o]?
structure Fl where
 bf:Bool
 lr:Bool
def bG (agg:Bool) (size:Nat) (p:VV) (H:aA):Option VV :=
 match p with
 | .cS x o=>dJ agg size x o
 |
  .ptr b g j o=>match aJ H b g with
  |
   some (es,_,_)=>match es[j]? with
   | some x=>dJ agg size x o
   | none=>none
  | none=>none
 | _=>none
def bI (size:Nat) (x i:VV) (H:aA):Option VV :=
 match x,i with
 |
  .tree es _,.sc (.int _ i)=>if 0≤i then match es[i.toNat]? with
  | some x=>if (aB x).length=size then some (.cS x 0) else none
  | none=>none
  else none
 |
  .ref b g o n _,.sc (.int _ i)=>match aJ H b g with
  | some (_,e,_)=>if e=size∧0≤i∧i<n then some (.ptr b g (o+i.toNat) 0) else none
  | none=>none
 | _,_=>none
def G4 (size:Nat) (x:VV) (l h m:Option VV) (H:aA):Option VV :=
 match IC l,IC h,IC m with
 |
  some lv,some hv,some mv =>
  match x with
  |
   .tree (y::ys) _ =>
   if (aB y).length=size then
    match fM mv (some (ys.length+1)) (ys.length+1) with
    | none=>none
    |
     some m=>match fM hv (if mv.isSome then none else some (ys.length+1)) m with
     | none=>none
     |
      some h=>match fM lv (some 0) h with
      | none=>none
      | some l=>if mv.isSome∧m=l then some (.tree [] (.cl size)) else some (.tree (((y::ys).drop l).take (h-l)) .op)
   else none
  |
   .ref b g o n c =>
   match aJ H b g with
   |
    some (_,e,_) =>
    if e=size then
     match fM mv (some c) c with
     | none=>none
     |
      some m=>match fM hv (if mv.isSome then none else some n) m with
      | none=>none
      |
       some h=>match fM lv (some 0) h with
       | none=>none
       | some l=>if mv.isSome∧m=l then some (.tree [] (.cl size)) else some (.ref b g (o+l) (h-l) (m-l))
    else none
   | none=>none
  | _=>none
 | _,_,_=>none
def Lb:List VV→Option (List UInt8)
 | []=>some []
 | .sc (.int .u8 n)::r=>(Lb r).map (UInt8.ofNat n.toNat :: ·)
 | _=>none
def dG (size:Nat) (y:VV) (H:aA):Option (List VV) :=
 match y with
 | .tree es _=>if es.all fun x=>(aB x).length == size&&(aB x).all bP then some es else none
 |
  .ref b g o n _=>match aJ H b g with
  | some (es,e,_)=>if e=size∧o+n≤es.length∧(((es.drop o).take n).all fun x=>(aB x).all bP) then some ((es.drop o).take n) else none
  | none=>none
 | .sc (.string s)=>if size=1 then some (s.data.toList.map fun b => .sc (.int .u8 b.toNat)) else none
 | _=>none
def dK (lo size bytes:Nat) (x:VV) (new:List VV) (H:aA):Option (VV×aA) :=
 if 1≤bytes∧1≤size then
  match x with
  | .tree [] .nil=>if new.length=0 then some (x,H) else if new.length*bytes≤140737488355328 then some (.ref H.length 0 0 new.length new.length,H++[.row 0 new size true]) else none
  | .tree es (.cl e)=>if e=size then (if new.length=0 then some (x,H) else if (es.length+new.length)*bytes≤140737488355328 then some (.ref H.length 0 0 (es.length+new.length) (es.length+new.length),H++[.row 0 (es++new) size true]) else none) else none
  |
   .ref b g o n c=>match aJ H b g with
   |
    some (es,e,true) =>
    if e=size∧lo≤b∧o+n≤es.length then
     if n+new.length≤c then
      if new.length=0 then some (x,H)
      else if o+n+new.length≤es.length then some (.ref b g o (n+new.length) c,H.set b (.row g (dD es (o+n) new) e true))
      else none
     else if (n+new.length)*bytes≤140737488355328 then some (.ref b (g+1) 0 (n+new.length) (n+new.length),H.set b (.row (g+1) ((es.drop o).take n++new) e true))
     else none
    else none
   | _=>none
  | _=>none
 else none
def bM (lo size:Nat) (p v:VV) (H:aA):Option aA :=
 match p with
 |
  .ptr b g j o=>match aJ H b g with
  |
   some (es,e,true)=>match es[j]? with
   |
    some x =>
    if (aB v).length=size∧lo≤b∧(aB v).all bP then
     if o=0∧size=e then some (H.set b (.row g (es.set j v) e true))
     else if 2≤e∧o+size≤e then some (H.set b (.row g (es.set j (.agg (dD (aB x) o (aB v)))) e true))
     else none
    else none
   | none=>none
  | _=>none
 | _=>none
def BR (zero:List Value) (bytes:Nat) (l c:VV) (H:aA):Option (VV×aA) :=
 match l,c with
 | .sc (.int .i64 l),.sc (.int .i64 c)=>if 0≤l∧l≤c∧c*bytes≤281474976710656∧c≤9223372036854775807 then
  some (.ref H.length 0 0 l.toNat c.toNat,H++[.row 0 (aL4 c.toNat (elemOf (zero.map kR))) zero.length true]) else none
 | _,_=>none
def nT (lr:Bool) (zero:List Value) (n:Nat) (parts:List (Nat×VV)) (H:aA):Option (VV×aA) :=
 match zE zero.length (aL4 n (elemOf (zero.map kR))) parts with
 | some es=>if (zero.map kR).all bP then (if n=0∨lr=true then some (.ref H.length 0 0 n n,H++[.row 0 es zero.length true]) else some (.tree es (.cl zero.length),H)) else none
 | none=>none
def Ml (lo size:Nat) (x y:VV) (H:aA):Option (VV×aA) :=
 match x,dG size y H with
 | .tree [] .nil,some _=>some (.sc (.int .i64 0),H)
 |
  .ref b g o d _,some new=>match aJ H b g with
  | some (es,e,true)=>if e=size∧lo≤b∧o+(new.take d).length≤es.length then some (.sc (.int .i64 (new.take d).length),H.set b (.row g (dD es o (new.take d)) e true)) else none
  | _=>none
 | _,_=>none
def Tn (lo:Nat) (zero:List Value) (x:VV) (H:aA):Option aA :=
 match x with
 |
  .ref b g o n _=>match aJ H b g with
  | some (es,e,true)=>if n=0 then some H else if e=zero.length∧lo≤b∧o+n≤es.length∧(zero.map kR).all bP then some (H.set b (.row g (dD es o (aL4 n (elemOf (zero.map kR)))) e true)) else none
  | _=>none
 | _=>none
def HT (neg:Bool) (x:VV) (H:aA):Option VV :=
 match x with
 | .tree [] .nil=>some (.sc (.bool (true != neg)))
 | .tree [] (.cl _)=>some (.sc (.bool (false != neg)))
 | .tree (_::_) _=>some (.sc (.bool (false != neg)))
 | .ref b g _ _ _=>(aJ H b g).map fun _ => .sc (.bool (false != neg))
 | _=>none
def pV (x:VV) (H:aA):Option VV :=
 match x with
 | .tree es _=>some (.sc (.int .i64 es.length))
 | .ref b g _ n _=>(aJ H b g).map fun _ => .sc (.int .i64 n)
 | _=>none
def lR (off:Nat) (x:VV) (H:aA):Option VV :=
 match x with
 | .cS x o=>some (.cS x (o+off))
 | .ptr b g j o=>(aJ H b g).map fun _ => .ptr b g j (o+off)
 | _=>none
def afS (x:VV) (H:aA):Option VV :=
 match x with
 | .cS x o=>some (.cS x o)
 | .ptr b g j o=>(aJ H b g).map fun _ => .ptr b g j o
 | _=>none
def zW (x:VV) (l h:Option VV):Option VV :=
 match x,IC l,IC h with
 |
  .sc (.string s),some lv,some hv=>match Cl lv hv s.size with
  | some (l,h)=>some (.sc (.string (s.extract l h)))
  | none=>none
 | _,_,_=>none
def arQ (agg:Bool) (off size:Nat) (x:VV):Option VV :=
 match x with
 | .agg cs=>if agg then (if off+size≤cs.length then some (.agg ((cs.drop off).take size)) else none) else cs[off]?
 | _=>none
def Px (f:Value→Option Value) (x:VV):Option VV :=
 match x with
 | .sc a=>(f a).map .sc
 | _=>none
def KI (f:Value→Value→Option Value) (x y:VV):Option VV :=
 match x,y with
 | .sc a,.sc b=>(f a b).map .sc
 | _,_=>none
def Vh (c a b:VV):Option VV :=
 match c with
 | .sc (.bool t)=>some (if t then a else b)
 | _=>none
def anW (i:Nat) (x:VV):Option VV :=
 match x with
 | .eH vs=>vs[i]?
 | _=>none
def Yw (neg:Bool) (ks:List CK) (x y:VV):Option VV :=
 match x,y with
 | .agg a,.agg b=>(uD ks a b).map fun t => .sc (.bool (t != neg))
 | _,_=>none
def acH:Value→Option Value
 | .string s=>some (.string s)
 | _=>none
def Dw:Value→Option Value
 | .string s=>some (.int .i64 s.size)
 | _=>none
def I3:Value→Value→Option Value
 | .string s,.int _ i=>if 0≤i∧i<s.size then some (.int .u8 ((s.data.toList.getD i.toNat 0).toNat:Int)) else none
 | _,_=>none
def vop (fl:Fl) (lo:Nat) (o:qN) (ρ:cV) (H:aA):Option (VV×aA) :=
 match o with
 | .mv x=>some (fE ρ x,H)
 | .pick c a b=>(Vh (fE ρ c) (fE ρ a) (fE ρ b)).map (·,H)
 | .bin op x y=>(KI (dO op) (fE ρ x) (fE ρ y)).map (·,H)
 | .eqb neg x y=>(KI (NZ neg) (fE ρ x) (fE ρ y)).map (·,H)
 | .isnil neg x=>(HT neg (fE ρ x) H).map (·,H)
 | .eqagg neg ks x y=>(Yw neg ks (fE ρ x) (fE ρ y)).map (·,H)
 | .un op x=>(Px (pun op) (fE ρ x)).map (·,H)
 | .cvt k x=>(Px (Xq k) (fE ρ x)).map (·,H)
 | .cvs x=>(Px acH (fE ρ x)).map (·,H)
 | .ext x i=>(anW i (fE ρ x)).map (·,H)
 | .fld agg off size x=>(arQ agg off size (fE ρ x)).map (·,H)
 | .build zero places parts=>(BT places (zero.map kR) (parts.map fun(i,x)=>(i,fE ρ x))).map fun cs=>(.agg cs,H)
 | .chk x=>(afS (fE ρ x) H).map (·,H)
 | .faddr off x=>(lR off (fE ρ x) H).map (·,H)
 | .iaddr size x i=>(bI size (fE ρ x) (fE ρ i) H).map (·,H)
 | .sidx x i=>(KI I3 (fE ρ x) (fE ρ i)).map (·,H)
 | .ssub x l h=>(zW (fE ρ x) (l.map (fE ρ)) (h.map (fE ρ))).map (·,H)
 | .mkfn f gU=>some (.yV f (gU.map (fE ρ)),H)
 | .len x=>(pV (fE ρ x) H).map (·,H)
 | .slen x=>(Px Dw (fE ρ x)).map (·,H)
 | .min x y=>(KI Um (fE ρ x) (fE ρ y)).map (·,H)
 | .max x y=>(KI Uh (fE ρ x) (fE ρ y)).map (·,H)
 | .load agg size p=>(bG agg size (fE ρ p) H).map (·,H)
 | .sub size x l h m=>(G4 size (fE ρ x) (l.map (fE ρ)) (h.map (fE ρ)) (m.map (fE ρ)) H).map (·,H)
 |
  .b2s x=>match fE ρ x with
  | .sc _=>none
  |
   y=>match dG 1 y H with
   | some es=>(Lb es).map fun bs=>(.sc (.string ⟨bs.toArray⟩),H)
   | none=>none
 | .new zero=>if (zero.map kR).all bP then some (.ptr H.length 0 0 0,H++[.row 0 [elemOf (zero.map kR)] zero.length true]) else none
 | .box x=>if (aB (fE ρ x)).all bP then (if fl.bf then some (.cS (fE ρ x) 0,H) else some (.ptr H.length 0 0 0,H++[.row 0 [fE ρ x] (aB (fE ρ x)).length true])) else none
 | .make zero bytes l c=>if (zero.map kR).all bP then BR zero bytes (fE ρ l) (fE ρ c) H else none
 | .lit zero n parts=>nT fl.lr zero n (parts.map fun(i,x)=>(i,fE ρ x)) H
 | .store size p v=>(bM lo size (fE ρ p) (fE ρ v) H).map fun H'=>(tJ,H')
 |
  .app size bytes x y=>match dG size (fE ρ y) H with
  | some new=>dK lo size bytes (fE ρ x) new H
  | none=>none
 |
  .appz zero bytes x n=>match fE ρ n with
  | .sc (.int .i64 n)=>if 0≤n∧n*bytes≤140737488355328∧(zero.map kR).all bP then dK lo zero.length bytes (fE ρ x) (aL4 n.toNat (elemOf (zero.map kR))) H else none
  | _=>none
 | .copy size x y=>Ml lo size (fE ρ x) (fE ρ y) H
 | .clear zero x=>(Tn lo zero (fE ρ x) H).map fun H'=>(tJ,H')
 | _=>none
inductive VBx where
 | no
 | row (i:Nat) (w:Bool)
 | Er (i:Nat)
 | tree
 | bad
def pT (H:aA):VV→VBx
 | .tree [] .nil => .no
 | .tree _ _ => .tree
 | .cS _ _ => .tree
 |
  .ref b g _ _ _=>match aJ H b g with
  | some (_,_,w) => .row b w
  | none => .Er b
 |
  .ptr b g _ _=>match aJ H b g with
  | some (_,_,w) => .row b w
  | none => .Er b
 | .any => .bad
 | _ => .no
def lB (H:aA) (x y:VV):Bool :=
 match pT H x,pT H y with
 | .bad,_=>false
 | _,.bad=>false
 | .no,_=>true
 | _,.no=>true
 | .row i _,.row j _=>i != j
 | .row i _,.Er j=>i != j
 | .Er i,.row j _=>i != j
 | .Er _,.Er _=>false
 | .Er _,.tree=>false
 | .tree,.Er _=>false
 | .row _ w,.tree=>w
 | .tree,.row _ w=>w
 | .tree,.tree=>false
def gB (ρ:cV) (H:aA) (c:Operand×Operand):Bool:=lB H (fE ρ c.1) (fE ρ c.2)
def Ee (g:Option (Nat×Bool)) (ρ:cV):Option Bool :=
 match g with
 | none=>some true
 |
  some (t,want)=>match ρ t with
  | .sc (.bool b)=>some (b == want)
  | .eH _=>some false
  | _=>none
def fz:Nat→aA→VV→Option VV
 | 0,_,_=>none
 |
  d+1,H,v =>
  if aY v then some v else
  match v with
  | .agg cs=>(cs.mapM (fz d H)).map .agg
  | .eH vs=>(vs.mapM (fz d H)).map .eH
  | .tree es _=>(es.mapM (fz d H)).map (.tree · .op)
  | .cS x o=>(fz d H x).map (.cS · o)
  |
   .ref b g o n c=>match aJ H b g with
   | some (es,_,_)=>if o+n≤es.length∧n≤c then (((es.drop o).take n).mapM (fz d H)).map (.tree · .op) else none
   | none=>none
  |
   .ptr b g j o=>match aJ H b g with
   |
    some (es,_,_)=>match es[j]? with
    | some x=>(fz d H x).map (.cS · o)
    | none=>none
   | none=>none
  | .yV f gU=>(gU.mapM (fz d H)).map (.yV f ·)
  | _=>none
def iX:Nat→aA→VV→List Nat
 | 0,_,_=>[]
 |
  d+1,H,v =>
  if aY v then [] else
  match v with
  | .agg cs=>cs.flatMap (iX d H)
  | .eH vs=>vs.flatMap (iX d H)
  | .tree es _=>es.flatMap (iX d H)
  | .cS x _=>iX d H x
  |
   .ref b g o n _=>match aJ H b g with
   | some (es,_,_)=>b::((es.drop o).take n).flatMap (iX d H)
   | none=>[]
  |
   .ptr b g j _=>match aJ H b g with
   |
    some (es,_,_)=>match es[j]? with
    | some x=>b::iX d H x
    | none=>[]
   | none=>[]
  | .yV _ gU=>gU.flatMap (iX d H)
  | _=>[]
def Ep (H:aA) (b:Nat):aA :=
 match H[b]? with
 | some (.row g es e _)=>H.set b (.row g es e false)
 | _=>H
def dB (H:aA) (ids:List Nat):aA:=ids.foldl Ep H
def depth:Nat:=8
end Go.PM
namespace Go.PM
structure View where
 m:Nat→Nat
 F:Nat→Prop
 H:aA
 P:aH
 base:Nat
def kindOk (k:TK) (n c e:Nat) (p:Bool):Prop :=
 match k with
 | .op=>True
 | .cl e'=>e'=e∧c=n∧p=false
 | .nil=>False
mutual
inductive VR (V:View):VV→Value→Prop
 | any (v:Value):VR V .any v
 | sc (v:Value) (h:qM v=true):VR V (.sc v) v
 | agg (cs:List VV) (ps:List Value) (h:VL V cs ps):VR V (.agg cs) (.agg ps.toArray)
 | eH (cs:List VV) (ps:List Value) (h:VL V cs ps):VR V (.eH cs) (.tuple ps.toArray)
 | pY (k:TK) (hk:k = .op∨k = .nil):VR V (.tree [] k) (.slice none 0 0)
 | tree (es:List VV) (k:TK) (b o c:Nat) (r:List Value) (e:Nat) (p:Bool) (hF:V.F b) (hb:V.P[b]? = some (.row r e p)) (ho:o+es.length*e≤r.length)
  (hc:es.length≤c) (he:∀x∈es,(aB x).length=e) (hk:kindOk k es.length c e p) (hl:VL V (es.flatMap aB) ((r.drop o).take (es.length*e))) :
  VR V (.tree es k) (.slice (some ⟨b,o,none⟩) es.length c)
 | cS (x:VV) (off b o:Nat) (r:List Value) (e:Nat) (p:Bool) (hF:V.F b) (hb:V.P[b]? = some (.row r e p)) (ho:o+(aB x).length≤r.length)
  (hl:VL V (aB x) ((r.drop o).take (aB x).length)):VR V (.cS x off) (.pointer (some ⟨b,o+off,none⟩))
 | ref (b g o n c:Nat) (a:Option Addr) (n' c':Nat) (bH:b<V.H.length) (hg:∀g' es e w,V.H[b]? = some (.row g' es e w)→g≤g')
  (h:∀es e w,V.H[b]? = some (.row g es e w)→a=some ⟨V.m b,o*e,none⟩∧n'=n∧c'=c)
  (hq:∀a0,a=some a0→V.base≤a0.block∧a0.block<V.P.length∧∀b' g' es e w,V.H[b']? = some (.row g' es e w)→b'≠b→V.m b'≠a0.block):VR V (.ref b g o n c) (.slice a n' c')
 | ptr (b g j off:Nat) (a:Option Addr) (bH:b<V.H.length) (hg:∀g' es e w,V.H[b]? = some (.row g' es e w)→g≤g')
  (h:∀es e w,V.H[b]? = some (.row g es e w)→a=some ⟨V.m b,j*e+off,none⟩)
  (hq:∀a0,a=some a0→V.base≤a0.block∧a0.block<V.P.length∧∀b' g' es e w,V.H[b']? = some (.row g' es e w)→b'≠b→V.m b'≠a0.block):VR V (.ptr b g j off) (.pointer a)
 | yV (f:Nat) (gU:List VV) (ps:List Value) (h:VL V gU ps):VR V (.yV f gU) (.func (.func f) #[] ps.toArray)
inductive VL (V:View):List VV→List Value→Prop
 | nil:VL V [] []
 | cons (x:VV) (v:Value) (xs:List VV) (vs:List Value) (h:VR V x v) (hs:VL V xs vs):VL V (x::xs) (v::vs)
end
structure Up (V V':View):Prop where
 F:∀b,V.F b→V'.F b
 P:∀b,V.F b→V'.P[b]? = V.P[b]?
 len:V.H.length≤V'.H.length
 row:∀b g' oY e w',b<V.H.length→V'.H[b]? = some (.row g' oY e w')→∃g es w,V.H[b]? = some (.row g es e w)∧g≤g'∧(g'=g→V'.m b=V.m b)
 NA:V'.base=V.base
 GY:V.P.length≤V'.P.length
 Er:∀b g es e w,V'.H[b]? = some (.row g es e w)→V'.m b<V.P.length→∃g0 es0 w0,V.H[b]? = some (.row g0 es0 e w0)∧V'.m b=V.m b∧(w=true→w0=true)
section
variable {V V' UH:View}
theorem Up.refl (V:View):Up V V:=⟨fun _ h=>h,fun _ _=>rfl,aLe _,fun b g es e w _ h=>⟨g,es,w,h,aLe _,fun _=>rfl⟩,rfl,aLe _,fun b g es e w h _=>⟨g,es,w,h,rfl,id⟩⟩
theorem Up.trans (h:Up V V') (h':Up V' UH):Up V UH :=
 ⟨fun b hb=>h'.F b (h.F b hb),fun b hb=>(h'.P b (h.F b hb)).trans (h.P b hb),aLf h.len h'.len,fun b g es e w hb hr=>by
  obtain⟨g1,DN,w1,h1,h2,h3⟩:=h'.row b g es e w (aLg hb h.len) hr
  obtain⟨g2,Qa,w2,h4,h5,h6⟩:=h.row b g1 DN e w1 hb h1
  exact⟨g2,Qa,w2,h4,aLf h5 h2,fun hg=>(h3 (by omega)).trans (h6 (by omega))⟩,h'.NA.trans h.NA,aLf h.GY h'.GY,fun b g es e w hb hm=>by
   obtain⟨g1,DN,w1,h1,h2,h3⟩:=h'.Er b g es e w hb (aLg hm h.GY)
   obtain⟨g2,Qa,w2,h4,h5,h6⟩:=h.Er b g1 DN e w1 h1 (by rw[←h2];exact hm)
   exact⟨g2,Qa,w2,h4,h2.trans h5,fun hw=>h6 (h3 hw)⟩⟩
theorem Up.hq (u:Up V V') {b q:Nat} (h:V.base≤q∧q<V.P.length∧∀b' g' es e w,V.H[b']? = some (.row g' es e w)→b'≠b→V.m b'≠q):V'.base≤q∧q<V'.P.length∧∀b' g' es e w,V'.H[b']? = some (.row g' es e w)→b'≠b→V'.m b'≠q:=by
 refine⟨by rw[u.NA];exact h.1,aLg h.2.1 u.GY,fun b' g' es e w hb fN hm => ?_⟩
 obtain⟨g0,es0,w0,h1,h2,_⟩:=u.Er b' g' es e w hb (by rw[hm];exact h.2.1)
 exact h.2.2 b' _ _ _ _ h1 fN (h2.symm.trans hm)
theorem VR.mono (u:Up V V') {x:VV} {v:Value} (h:VR V x v):VR V' x v:=by
 induction h using VR.rec (motive_2:=fun xs vs _=>VL V' xs vs) with
 | any=>exact .any _
 | sc _ h=>exact .sc _ h
 | agg cs ps _ ih=>exact .agg _ _ ih
 | eH cs ps _ ih=>exact .eH _ _ ih
 | pY k hk=>exact .pY k hk
 | tree es k b o c r e p hF hb ho hc he hk _ ih=>exact .tree es k b o c r e p (u.F _ hF) (by rw[u.P _ hF];exact hb) ho hc he hk ih
 | cS x off b o r e p hF hb ho _ ih=>exact .cS x off b o r e p (u.F _ hF) (by rw[u.P _ hF];exact hb) ho ih
 |
  ref b g o n c a n' c' bH hg h hq =>
  refine .ref b g o n c a n' c' (aLg bH u.len) (fun g' es e w hr => ?_) (fun es e w hr => ?_) fun a0 ha=>u.hq (hq a0 ha)
  ·obtain⟨g1,DN,w1,h1,h2,_⟩:=u.row b g' es e w bH hr
   exact aLf (hg _ _ _ _ h1) h2
  ·obtain⟨g1,DN,w1,h1,h2,h3⟩:=u.row b g es e w bH hr
   have h4:=hg _ _ _ _ h1
   have h5:g=g1:=by omega
   subst h5
   rw[h3 rfl]
   exact h _ _ _ h1
 |
  ptr b g j off a bH hg h hq =>
  refine .ptr b g j off a (aLg bH u.len) (fun g' es e w hr => ?_) (fun es e w hr => ?_) fun a0 ha=>u.hq (hq a0 ha)
  ·obtain⟨g1,DN,w1,h1,h2,_⟩:=u.row b g' es e w bH hr
   exact aLf (hg _ _ _ _ h1) h2
  ·obtain⟨g1,DN,w1,h1,h2,h3⟩:=u.row b g es e w bH hr
   have h4:=hg _ _ _ _ h1
   have h5:g=g1:=by omega
   subst h5
   rw[h3 rfl]
   exact h _ _ _ h1
 | yV f gU ps _ ih=>exact .yV _ _ _ ih
 | nil=>exact .nil
 | cons x v xs vs _ _ ih X5=>exact .cons _ _ _ _ ih X5
theorem VL.mono (u:Up V V') {xs:List VV} {vs:List Value} (h:VL V xs vs):VL V' xs vs:=by
 induction xs generalizing vs with
 | nil=>cases h;exact .nil
 |
  cons x xs ih=>cases h with
  | cons _ v _ vs h hs=>exact .cons _ _ _ _ (h.mono u) (ih hs)
end
section
variable {V:View} {xs ys:List VV} {vs ws:List Value}
theorem VL.length:∀ {xs:List VV} {vs:List Value},VL V xs vs→vs.length=xs.length
 | _,_,.nil=>rfl
 | _,_,.cons _ _ _ _ _ hs=>by simp[hs.length]
theorem VL.append:∀ {xs:List VV} {vs:List Value},VL V xs vs→VL V ys ws→VL V (xs++ys) (vs++ws)
 | _,_,.nil,h'=>h'
 | _,_,.cons _ _ _ _ h hs,h' => .cons _ _ _ _ h (hs.append h')
theorem VL.take (n:Nat):∀ {xs:List VV} {vs:List Value} ,VL V xs vs→VL V (xs.take n) (vs.take n):=by
 induction n with
 | zero=>intro xs vs _;simp;exact .nil
 |
  succ n ih=>intro xs vs h;cases h with
  | nil=>simp;exact .nil
  | cons x v xs vs h hs=>exact .cons _ _ _ _ h (ih hs)
theorem VL.drop (n:Nat):∀ {xs:List VV} {vs:List Value} ,VL V xs vs→VL V (xs.drop n) (vs.drop n):=by
 induction n with
 | zero=>intro xs vs h;simpa using h
 |
  succ n ih=>intro xs vs h;cases h with
  | nil=>simp;exact .nil
  | cons x v xs vs h hs=>exact ih hs
theorem VL.get (h:VL V xs vs) {i:Nat} {x:VV} (hx:xs[i]? = some x):∃v,vs[i]? = some v∧VR V x v:=by
 induction i generalizing xs vs with
 |
  zero=>cases h with
  | nil=>cases hx
  | cons y v xs vs h hs=>simp at hx;subst hx;exact⟨v,rfl,h⟩
 |
  succ i ih=>cases h with
  | nil=>cases hx
  | cons y v xs vs h hs=>exact ih hs (by simpa using hx)
theorem VL.map {α:Type} {f:α→VV} {g:α→Value}:∀ {l:List α},(∀x∈l,VR V (f x) (g x))→VL V (l.map f) (l.map g)
 | [],_ => .nil
 | x::l,h => .cons _ _ _ _ (h x (by simp)) (VL.map fun y hy=>h y (by simp[hy]))
theorem VL.replicate {x:VV} {v:Value} (h:VR V x v):∀n,VL V (aL4 n x) (aL4 n v)
 | 0 => .nil
 | n+1 => .cons _ _ _ _ h (VL.replicate h n)
theorem VL.kI {cs new:List VV} {ps pn:List Value} (h:VL V cs ps) (hn:VL V new pn) (o:Nat):VL V (dD cs o new) (kI ps o pn):=by
 unfold dD PM.kI
 rw[←hn.length]
 exact((h.take o).append hn).append (h.drop _)
theorem VR.kR (v:Value):VR V (kR v) v:=by
 unfold PM.kR
 split
 ·exact .pY _ (.inr rfl)
 ·split
  ·rename_i h;exact .sc _ h
  ·exact .any _
theorem VR.inj (v:Value):VR V (inj v) v:=by
 unfold PM.inj
 split
 ·rename_i cs
  have:(Value.agg cs) = .agg cs.toList.toArray:=by simp
  rw[this]
  refine .agg _ _ ?_
  have:=VL.map (V:=V) (f:=PM.kR) (g:=id) (l:=cs.toList) fun x _=>VR.kR x
  simpa using this
 ·rename_i vs
  split
  ·rename_i h
   have:vs=[].toArray:=by simpa using h
   rw[this]
   exact .eH _ _ .nil
  ·exact .any _
 ·exact VR.kR _
theorem VL.zero (z:List Value):VL V (z.map PM.kR) z:=by
 have:=VL.map (V:=V) (f:=PM.kR) (g:=id) (l:=z) fun x _=>VR.kR x
 simpa using this
theorem VR.cells {x:VV} {v:Value} (h:VR V x v) (hx:x ≠ .any):VL V (aB x) (aV v):=by
 cases h with
 | any=>exact absurd rfl hx
 |
  sc v h =>
  have:aV v=[v]:=by cases v<;>first | rfl | cases h
  rw[this]
  exact .cons _ _ _ _ (.sc v h) .nil
 | agg cs ps h=>simpa[aB,aV] using h
 | eH cs ps h=>exact .cons _ _ _ _ (.eH _ _ h) .nil
 | pY k hk=>exact .cons _ _ _ _ (.pY k hk) .nil
 | tree es k b o c r e p hF hb ho hc he hk hl=>exact .cons _ _ _ _ (.tree es k b o c r e p hF hb ho hc he hk hl) .nil
 | cS x off b o r e p hF hb ho hl=>exact .cons _ _ _ _ (.cS x off b o r e p hF hb ho hl) .nil
 | ref b g o n c a n' c' bH hg h hq=>exact .cons _ _ _ _ (.ref b g o n c a n' c' bH hg h hq) .nil
 | ptr b g j off a bH hg h hq=>exact .cons _ _ _ _ (.ptr b g j off a bH hg h hq) .nil
 | yV f gU ps h=>exact .cons _ _ _ _ (.yV _ _ _ h) .nil
theorem VR.iR {x:VV} {v:Value} (h:VR V x v) (hx:bP x=true):iR v=true:=by
 cases h with
 | sc v h=>cases v<;>first | rfl | cases h
 | any=>cases hx
 | agg=>cases hx
 | eH=>cases hx
 | _=>rfl
theorem VL.iR:∀ {xs:List VV} {vs:List Value},VL V xs vs→xs.all bP=true→vs.all PM.iR=true
 | _,_,.nil,_=>rfl
 |
  _,_,.cons _ _ _ _ h hs,hx=>by
  rw[aL6,aLM] at hx ⊢
  exact⟨h.iR hx.1,hs.iR hx.2⟩
theorem Y7 {x:VV} (h:(aB x).all bP=true):x ≠ .any:=by
 rintro rfl
 cases h
theorem mM {es:List VV} {e:Nat} (he:∀x∈es,(aB x).length=e):(es.flatMap aB).length=es.length*e:=by
 induction es with
 | nil=>simp
 |
  cons x xs ih =>
  rw[aL2,List.length_append,ih fun y hy=>he y (aLN _ hy),he x aLO,List.length_cons,aL3]
  omega
theorem xS {es:List VV} {e:Nat} (he:∀x∈es,(aB x).length=e) (i:Nat):(es.flatMap aB).drop (i*e)=(es.drop i).flatMap aB:=by
 induction i generalizing es with
 | zero=>simp
 |
  succ i ih =>
  cases es with
  | nil=>simp
  |
   cons x xs =>
   have hx:=he x aLO
   rw[aL2,List.drop_succ_cons,←ih fun y hy=>he y (aLN _ hy),show (i+1)*e=(aB x).length+i*e by rw[hx,aL3];omega,List.drop_append]
   simp
theorem yP {es:List VV} {e:Nat} (he:∀x∈es,(aB x).length=e) (i:Nat):(es.flatMap aB).take (i*e)=(es.take i).flatMap aB:=by
 induction i generalizing es with
 | zero=>simp
 |
  succ i ih =>
  cases es with
  | nil=>simp
  |
   cons x xs =>
   have hx:=he x aLO
   rw[aL2,aL1,aL2,←ih fun y hy=>he y (aLN _ hy),show (i+1)*e=(aB x).length+i*e by rw[hx,aL3];omega,List.take_append]
   simp
   exact aL7 (by omega)
theorem OC {es:List VV} {e:Nat} (he:∀x∈es,(aB x).length=e) {j:Nat} {x:VV} (hx:es[j]? = some x):((es.flatMap aB).drop (j*e)).take e=aB x:=by
 obtain⟨bH,FH⟩:=aLd.1 hx
 rw[xS he,aLj bH,FH,aL2,List.take_append,←he x (aL8 hx)]
 simp
theorem AK {es new:List VV} {e:Nat} (he:∀x∈es,(aB x).length=e) (hn:∀x∈new,(aB x).length=e) (o:Nat):dD (es.flatMap aB) (o*e) (new.flatMap aB)=(dD es o new).flatMap aB:=by
 unfold dD
 rw[yP he,mM hn,show o*e+new.length*e=(o+new.length)*e by rw[aLJ],xS he]
 simp
theorem Mo {es:List VV} {j:Nat} {x:VV} (hj:j<es.length):dD es j [x]=es.set j x:=by
 unfold dD
 rw[aL9,if_pos hj]
 simp
theorem Vn {cs new:List VV} {o:Nat} (h:o+new.length≤cs.length):(dD cs o new).length=cs.length:=by
 unfold dD
 simp
 omega
theorem MO {cs new:List VV} {o:Nat} {x:VV} (h:x∈dD cs o new):x∈cs∨x∈new:=by
 unfold dD at h
 rw[aMa,aMa] at h
 rcases h with(h | h) | h
 ·exact .inl (aMb h)
 ·exact .inr h
 ·exact .inl (aMc h)
theorem qF {cs:List VV} (h:cs.all bP=true):aB (elemOf cs)=cs:=by
 unfold elemOf
 split
 ·rename_i x
  simp only[aL6,List.all_nil,Bool.and_true] at h
  cases x<;>first | rfl | cases h
 ·rfl
theorem dH {H:aA} {b g:Nat} {es:List VV} {e:Nat} {w:Bool}:aJ H b g=some (es,e,w)↔H[b]? = some (.row g es e w):=by
 unfold aJ
 constructor
 ·intro h
  split at h
  ·rename_i hb
   split at h
   ·rename_i hg;subst hg;cases h;exact hb
   ·cases h
  ·cases h
 ·intro h
  rw[h]
  simp
end
structure SR (V:View) (lo fA:Nat):Prop where
 row:∀b g es e w,V.H[b]? = some (.row g es e w)→∃r p,V.P[V.m b]? = some (.row r e p)∧(∀x∈es,(aB x).length=e)∧VL V (es.flatMap aB) r
 wr:∀b g es e,V.H[b]? = some (.row g es e true)→¬V.F (V.m b)∧(lo≤b→fA≤V.m b)
 inj:∀a b g es e w g' oY e' w',V.H[a]? = some (.row g es e w)→V.H[b]? = some (.row g' oY e' w')→V.m a=V.m b→a=b
 fr:∀b,V.F b→b<V.P.length
 Xe:fA≤V.P.length
 NA:V.base≤V.P.length
structure Hv (lo:Nat) (V V':View):Prop extends Up V V' where
 cW:∀q,q<V.P.length→(∀b g es e,V.H[b]? = some (.row g es e true)→lo≤b→V.m b≠q)→V'.P[q]? = V.P[q]?
 EY:∀q,V'.F q→V.F q∨V.P.length≤q∨∃b g es e w,V.H[b]? = some (.row g es e w)∧V.m b=q
section
variable {V V' UH:View} {lo:Nat}
theorem Hv.refl (lo:Nat) (V:View):Hv lo V V :=
 { Up.refl V with cW:=fun _ _ _=>rfl,EY:=fun _ h => .inl h }
theorem Hv.trans (h:Hv lo V V') (h':Hv lo V' UH):Hv lo V UH :=
 { Up.trans h.toUp h'.toUp with
  cW:=fun q hq hn=>by
   rw[h'.cW q (aLg hq h.GY) ?_,h.cW q hq hn]
   intro b g es e hb hl hm
   obtain⟨g1,DN,w1,h1,h2,h3⟩:=h.Er b g es e true hb (by rw[hm];exact hq)
   have:=h3 rfl
   subst this
   exact hn b g1 DN e h1 hl (h2.symm.trans hm)
  EY:=fun q hq=>by
   rcases h'.EY q hq with h1 | h1 | ⟨b,g,es,e,w,h1,h2⟩
   ·exact h.EY q h1
   ·exact .inr (.inl (aLf h.GY h1))
   ·rcases Nat.lt_or_ge q V.P.length with hl | hl
    ·obtain⟨g1,DN,w1,h3,h4,_⟩:=h.Er b g es e w h1 (by rw[h2];exact hl)
     exact .inr (.inr ⟨b,g1,DN,e,w1,h3,h4.symm.trans h2⟩)
    ·exact .inr (.inl hl) }
end
end Go.PM
namespace Go.PM
def upd (m:Nat→Nat) (b v:Nat):Nat→Nat:=fun k=>if k=b then v else m k
theorem nP {m:Nat→Nat} {b v:Nat}:upd m b v b=v:=by simp[upd]
theorem oW {m:Nat→Nat} {b v k:Nat} (h:k≠b):upd m b v k=m k:=by simp[upd,h]
section
variable {V:View} {lo fA:Nat}
theorem SR.mlt (hS:SR V lo fA) {b g e:Nat} {es:List VV} {w:Bool} (hb:V.H[b]? = some (.row g es e w)):V.m b<V.P.length:=by
 obtain⟨r,p,h,_⟩:=hS.row b g es e w hb
 exact(aLd.1 h).1
theorem DO (hS:SR V lo fA) (x:QG):SR { V with P:=V.P++[x],F:=fun q=>V.F q∨q=V.P.length } lo fA∧Hv lo V { V with P:=V.P++[x],F:=fun q=>V.F q∨q=V.P.length }:=by
 have hU:Up V { V with P:=V.P++[x],F:=fun q=>V.F q∨q=V.P.length }:=⟨fun _ h => .inl h,fun b hb=>aLv (hS.fr b hb),aLe _,fun b g es e w _ h=>⟨g,es,w,h,aLe _,fun _=>rfl⟩,rfl,by simp,fun b g es e w hb _=>⟨g,es,w,hb,rfl,id⟩⟩
 refine⟨⟨fun b g es e w hb => ?_,fun b g es e hb=>⟨fun hF => ?_,(hS.wr b g es e hb).2⟩,hS.inj,fun b hb => ?_,by have:=hS.Xe;simp;omega,by have:=hS.NA;simp;omega⟩,{ hU with cW:=fun q hq _=>aLv hq,EY:=fun q hq => ?_ }⟩
 ·obtain⟨r,p,h1,h2,h3⟩:=hS.row b g es e w hb
  exact⟨r,p,by rw[←h1];exact aLv (hS.mlt hb),h2,h3.mono hU⟩
 ·rcases hF with hF | hF
  ·exact(hS.wr b g es e hb).1 hF
  ·have h1:V.m b=V.P.length:=hF
   have:=hS.mlt hb
   omega
 ·rcases hb with hb | hb
  ·have:=hS.fr b hb
   simp;omega
  ·subst hb;simp
 ·rcases hq with hq | hq
  ·exact .inl hq
  ·exact .inr (.inl (by omega))
theorem vL (hS:SR V lo fA) {es:List VV} {r:List Value} {e:Nat} (p:Bool) (he:∀x∈es,(aB x).length=e) (hl:VL V (es.flatMap aB) r) :
  SR { V with m:=upd V.m V.H.length V.P.length,H:=V.H++[.row 0 es e true],P:=V.P++[.row r e p] } lo fA∧Hv lo V { V with m:=upd V.m V.H.length V.P.length,H:=V.H++[.row 0 es e true],P:=V.P++[.row r e p] }:=by
 have Er:∀b g oY e' w,(V.H++[eR.row 0 es e true])[b]? = some (.row g oY e' w)→(b=V.H.length∧g=0∧oY=es∧e'=e∧w=true)∨(b≠V.H.length∧V.H[b]? = some (.row g oY e' w)):=by
  intro b g oY e' w hb
  rcases Nat.lt_trichotomy b V.H.length with h | h | h
  ·rw[aLv h] at hb
   exact .inr ⟨by omega,hb⟩
  ·subst h
   rw[List.getElem?_append_right (aLe _)] at hb
   simp at hb
   obtain⟨h1,h2,h3,h4⟩:=hb
   exact .inl ⟨rfl,h1.symm,h2.symm,h3.symm,h4⟩
  ·rw[List.getElem?_eq_none (by simp;omega)] at hb
   cases hb
 have hU:Up V { V with m:=upd V.m V.H.length V.P.length,H:=V.H++[.row 0 es e true],P:=V.P++[.row r e p] } :=
  ⟨fun _ h=>h,fun b hb=>aLv (hS.fr b hb),by simp,fun b g' oY e' w' bH hb=>by
   rcases Er b g' oY e' w' hb with⟨h,_⟩ | ⟨h,hb⟩
   ·omega
   ·exact⟨g',oY,w',hb,aLe _,fun _=>oW h⟩,rfl,by simp,fun b g oY e' w hb hm=>by
   rcases Er b g oY e' w hb with⟨rfl,_⟩ | ⟨h,hb⟩
   ·simp only[nP] at hm
    omega
   ·exact⟨g,oY,w,hb,oW h,id⟩⟩
 refine⟨⟨fun b g oY e' w hb => ?_,fun b g oY e' hb => ?_,fun a b g DN e1 w1 g' Qa e2 w2 ha hb hm => ?_,fun b hb=>by have:=hS.fr b hb;simp;omega,by have:=hS.Xe;simp;omega,by have:=hS.NA;simp;omega⟩,
  { hU with cW:=fun q hq _=>aLv hq,EY:=fun q hq => .inl hq }⟩
 ·rcases Er b g oY e' w hb with⟨rfl,rfl,rfl,rfl,rfl⟩ | ⟨h,hb⟩
  ·exact⟨r,p,by simp only[nP];simp,he,hl.mono hU⟩
  ·obtain⟨r1,p1,h1,h2,h3⟩:=hS.row b g oY e' w hb
   refine⟨r1,p1,?_,h2,h3.mono hU⟩
   simp only[oW h]
   rw[aLv (hS.mlt hb)]
   exact h1
 ·rcases Er b g oY e' true hb with⟨rfl,_⟩ | ⟨h,hb⟩
  ·simp only[nP]
   exact⟨fun hF=>by have:=hS.fr _ hF;omega,fun _=>hS.Xe⟩
  ·simp only[oW h]
   exact hS.wr b g oY e' hb
 ·rcases Er a g DN e1 w1 ha with⟨rfl,_⟩ | ⟨h,ha⟩
  ·rcases Er b g' Qa e2 w2 hb with⟨rfl,_⟩ | ⟨h',hb⟩
   ·rfl
   ·simp only[nP,oW h'] at hm
    have:=hS.mlt hb
    omega
  ·rcases Er b g' Qa e2 w2 hb with⟨rfl,_⟩ | ⟨h',hb⟩
   ·simp only[nP,oW h] at hm
    have:=hS.mlt ha
    omega
   ·simp only[oW h,oW h'] at hm
    exact hS.inj a b _ _ _ _ _ _ _ _ ha hb hm
theorem iC {H:aA} {b:Nat} {x:eR} (hb:b<H.length) {a:Nat} {y:eR} (h:(H.set b x)[a]? = some y):(a=b∧y=x)∨(a≠b∧H[a]? = some y):=by
 by_cases he:a=b
 ·subst he
  rw[aLC hb] at h
  cases h
  exact .inl ⟨rfl,rfl⟩
 ·rw[aLD (Ne.symm he)] at h
  exact .inr ⟨he,h⟩
theorem FR (hS:SR V lo fA) {b g e:Nat} {es oY:List VV} {r':List Value} (hb:V.H[b]? = some (.row g es e true)) (eT:lo≤b) (he:∀x∈oY,(aB x).length=e) (hl:VL V (oY.flatMap aB) r') {r:List Value} {p:Bool} (hp:V.P[V.m b]? = some (.row r e p)) :
  SR { V with H:=V.H.set b (.row g oY e true),P:=V.P.set (V.m b) (.row r' e p) } lo fA∧Hv lo V { V with H:=V.H.set b (.row g oY e true),P:=V.P.set (V.m b) (.row r' e p) }:=by
 have yW:=(aLd.1 hb).1
 have Qc:=hS.mlt hb
 have hU:Up V { V with H:=V.H.set b (.row g oY e true),P:=V.P.set (V.m b) (.row r' e p) } :=
  ⟨fun _ h=>h,fun q hq=>aLD (fun h=>(hS.wr b g es e hb).1 (by rw[h];exact hq)),by simp,fun a g' DN e1 w1 bH ha=>by
   rcases iC yW ha with⟨rfl,h⟩ | ⟨_,h⟩
   ·cases h
    exact⟨g,es,true,hb,aLe _,fun _=>rfl⟩
   ·exact⟨g',DN,w1,h,aLe _,fun _=>rfl⟩,rfl,by simp,fun a g1 DN e1 w1 ha _=>by
   rcases iC yW ha with⟨rfl,h⟩ | ⟨fN,h⟩
   ·cases h
    exact⟨g,es,true,hb,rfl,fun _=>rfl⟩
   ·exact⟨g1,DN,w1,h,rfl,id⟩⟩
 refine⟨⟨fun a g1 DN e1 w1 ha => ?_,fun a g1 DN e1 ha => ?_,fun a c g1 DN e1 w1 g2 Qa e2 w2 ha hc hm => ?_,fun q hq=>by have:=hS.fr q hq;simp;omega,by have:=hS.Xe;simp;omega,by have:=hS.NA;simp;omega⟩,
  { hU with cW:=fun q hq hn=>aLD (hn b g es e hb eT),EY:=fun q hq => .inl hq }⟩
 ·rcases iC yW ha with⟨rfl,h⟩ | ⟨fN,h⟩
  ·cases h
   exact⟨r',p,aLC Qc,he,hl.mono hU⟩
  ·obtain⟨r1,p1,h1,h2,h3⟩:=hS.row a g1 DN e1 w1 h
   exact⟨r1,p1,by rw[←h1];exact aLD (fun hm=>fN (hS.inj _ _ _ _ _ _ _ _ _ _ h hb hm.symm)),h2,h3.mono hU⟩
 ·rcases iC yW ha with⟨rfl,h⟩ | ⟨fN,h⟩
  ·cases h
   exact hS.wr _ _ _ _ hb
  ·exact hS.wr _ _ _ _ h
 ·rcases iC yW ha with⟨rfl,h⟩ | ⟨fN,h⟩<;>rcases iC yW hc with⟨rfl,h'⟩ | ⟨afI,h'⟩
  ·rfl
  ·exact hS.inj _ _ _ _ _ _ _ _ _ _ hb h' hm
  ·exact hS.inj _ _ _ _ _ _ _ _ _ _ h hb hm
  ·exact hS.inj _ _ _ _ _ _ _ _ _ _ h h' hm
theorem XN (hS:SR V lo fA) {b g e:Nat} {es oY:List VV} {r':List Value} (hb:V.H[b]? = some (.row g es e true)) (eT:lo≤b) (he:∀x∈oY,(aB x).length=e) (hl:VL V (oY.flatMap aB) r') {P1:aH} (hP:P1.length=V.P.length) (hk:∀q,q≠V.m b→P1[q]? = V.P[q]?) (p:Bool) :
  SR { V with m:=upd V.m b V.P.length,H:=V.H.set b (.row (g+1) oY e true),P:=P1++[.row r' e p] } lo fA∧Hv lo V { V with m:=upd V.m b V.P.length,H:=V.H.set b (.row (g+1) oY e true),P:=P1++[.row r' e p] }:=by
 have yW:=(aLd.1 hb).1
 have Qc:=hS.mlt hb
 have vM:∀q,q<V.P.length→q≠V.m b→(P1++[QG.row r' e p])[q]? = V.P[q]? := fun q hq hn=>by rw[aLv (by omega)];exact hk q hn
 have hU:Up V { V with m:=upd V.m b V.P.length,H:=V.H.set b (.row (g+1) oY e true),P:=P1++[.row r' e p] } :=
  ⟨fun _ h=>h,fun q hq=>vM q (hS.fr q hq) (fun h=>(hS.wr b g es e hb).1 (by rw[←h];exact hq)),by simp,fun a g' DN e1 w1 bH ha=>by
   rcases iC yW ha with⟨rfl,h⟩ | ⟨fN,h⟩
   ·cases h
    exact⟨g,es,true,hb,by omega,fun h=>by omega⟩
   ·exact⟨g',DN,w1,h,aLe _,fun _=>oW fN⟩,rfl,by simp;omega,fun a g1 DN e1 w1 ha hm=>by
   rcases iC yW ha with⟨rfl,h⟩ | ⟨fN,h⟩
   ·simp only[nP] at hm
    omega
   ·exact⟨g1,DN,w1,h,oW fN,id⟩⟩
 refine⟨⟨fun a g1 DN e1 w1 ha => ?_,fun a g1 DN e1 ha => ?_,fun a c g1 DN e1 w1 g2 Qa e2 w2 ha hc hm => ?_,fun q hq=>by have:=hS.fr q hq;simp;omega,by have:=hS.Xe;simp;omega,by have:=hS.NA;simp;omega⟩,
  { hU with cW:=fun q hq hn=>vM q hq (Ne.symm (hn b g es e hb eT)),EY:=fun q hq => .inl hq }⟩
 ·rcases iC yW ha with⟨rfl,h⟩ | ⟨fN,h⟩
  ·cases h
   refine⟨r',p,?_,he,hl.mono hU⟩
   simp only[nP]
   rw[←hP]
   simp
  ·obtain⟨r1,p1,h1,h2,h3⟩:=hS.row a g1 DN e1 w1 h
   refine⟨r1,p1,?_,h2,h3.mono hU⟩
   simp only[oW fN]
   rw[vM _ (hS.mlt h) (fun hm=>fN (hS.inj _ _ _ _ _ _ _ _ _ _ h hb hm))]
   exact h1
 ·rcases iC yW ha with⟨rfl,h⟩ | ⟨fN,h⟩
  ·cases h
   simp only[nP]
   exact⟨fun hF=>by have:=hS.fr _ hF;omega,fun _=>hS.Xe⟩
  ·simp only[oW fN]
   exact hS.wr _ _ _ _ h
 ·rcases iC yW ha with⟨rfl,h⟩ | ⟨fN,h⟩<;>rcases iC yW hc with⟨rfl,h'⟩ | ⟨afI,h'⟩
  ·rfl
  ·simp only[nP,oW afI] at hm
   have:=hS.mlt h'
   omega
  ·simp only[nP,oW fN] at hm
   have:=hS.mlt h
   omega
  ·simp only[oW fN,oW afI] at hm
   exact hS.inj _ _ _ _ _ _ _ _ _ _ h h' hm
def View.freeze (V:View) (b:Nat):View :=
 match V.H[b]? with
 | some (.row _ _ _ _)=>{ V with H:=Ep V.H b,F:=fun q=>V.F q∨q=V.m b }
 | _=>V
theorem Vc (V:View) (b:Nat):(V.freeze b).H=Ep V.H b:=by
 unfold View.freeze Ep
 cases h:V.H[b]? with
 | none=>rfl
 | some x=>cases x<;>rfl
theorem amB (V:View) (b:Nat):(V.freeze b).P=V.P:=by
 unfold View.freeze
 split<;>rfl
theorem UP (V:View) (b:Nat):(V.freeze b).m=V.m:=by
 unfold View.freeze
 split<;>rfl
theorem SY (hS:SR V lo fA) (b:Nat):SR (V.freeze b) lo fA∧Hv lo V (V.freeze b)∧(∀g es e w,V.H[b]? = some (.row g es e w)→(V.freeze b).F (V.m b)):=by
 unfold View.freeze
 split
 case h_2 fN=>exact⟨hS,Hv.refl _ _,fun g es e w h=>absurd h (fN _ _ _ _)⟩
 rename_i g es e w hb
 have yW:=(aLd.1 hb).1
 have hf:Ep V.H b=V.H.set b (.row g es e false):=by unfold Ep;rw[hb]
 rw[hf]
 have hU:Up V { V with H:=V.H.set b (.row g es e false),F:=fun q=>V.F q∨q=V.m b } :=
  ⟨fun _ h => .inl h,fun _ _=>rfl,by simp,fun a g' DN e1 w1 bH ha=>by
   rcases iC yW ha with⟨rfl,h⟩ | ⟨_,h⟩
   ·cases h
    exact⟨g,es,w,hb,aLe _,fun _=>rfl⟩
   ·exact⟨g',DN,w1,h,aLe _,fun _=>rfl⟩,rfl,aLe _,fun a g1 DN e1 w1 ha hm=>by
   rcases iC yW ha with⟨rfl,h⟩ | ⟨fN,h⟩
   ·cases h
    exact⟨g,es,w,hb,rfl,fun h=>by cases h⟩
   ·exact⟨g1,DN,w1,h,rfl,id⟩⟩
 refine⟨⟨fun a g1 DN e1 w1 ha => ?_,fun a g1 DN e1 ha => ?_,fun a c g1 DN e1 w1 g2 Qa e2 w2 ha hc hm => ?_,fun q hq => ?_,hS.Xe,hS.NA⟩,
  { hU with cW:=fun q hq hn=>rfl,EY:=fun q hq => ?_ },fun _ _ _ _ _ => .inr rfl⟩
 ·rcases iC yW ha with⟨rfl,h⟩ | ⟨fN,h⟩
  ·cases h
   obtain⟨r1,p1,h1,h2,h3⟩:=hS.row _ _ _ _ _ hb
   exact⟨r1,p1,h1,h2,h3.mono hU⟩
  ·obtain⟨r1,p1,h1,h2,h3⟩:=hS.row _ _ _ _ _ h
   exact⟨r1,p1,h1,h2,h3.mono hU⟩
 ·rcases iC yW ha with⟨rfl,h⟩ | ⟨fN,h⟩
  ·cases h
  ·refine⟨fun hF => ?_,(hS.wr _ _ _ _ h).2⟩
   rcases hF with hF | hF
   ·exact(hS.wr _ _ _ _ h).1 hF
   ·exact fN (hS.inj _ _ _ _ _ _ _ _ _ _ h hb hF)
 ·rcases iC yW ha with⟨rfl,h⟩ | ⟨fN,h⟩<;>rcases iC yW hc with⟨rfl,h'⟩ | ⟨afI,h'⟩
  ·rfl
  ·exact hS.inj _ _ _ _ _ _ _ _ _ _ hb h' hm
  ·exact hS.inj _ _ _ _ _ _ _ _ _ _ h hb hm
  ·exact hS.inj _ _ _ _ _ _ _ _ _ _ h h' hm
 ·rcases hq with hq | hq
  ·exact hS.fr q hq
  ·subst hq;exact hS.mlt hb
 ·rcases hq with hq | hq
  ·exact .inl hq
  ·exact .inr (.inr ⟨b,g,es,e,w,hb,hq.symm⟩)
end
end Go.PM
namespace Go.PM
section
variable {V:View} {lo fA:Nat} {ρ:cV} {mI:Env}
def ER (V:View) (ρ:cV) (mI:Env):Prop:=∀t,VR V (ρ t) (mI t)
theorem ER.mono {V':View} (u:Up V V') (h:ER V ρ mI):ER V' ρ mI:=fun t=>(h t).mono u
theorem ER.ev (h:ER V ρ mI) (x:Operand):VR V (fE ρ x) (ev mI x):=by
 cases x with
 | tmp t=>exact h t
 | const v=>exact VR.inj v
 | global g=>exact .any _
 | func f=>exact .yV f [] [] .nil
theorem ER.put {d:Option Nat} {x:VV} {v:Value} (h:ER V ρ mI) (hx:VR V x v):ER V (M9 ρ d x) (put mI d v):=by
 cases d with
 | none=>exact h
 |
  some d =>
  intro t
  simp only[M9,PM.put]
  split
  ·exact hx
  ·exact h t
theorem ER.evs (h:ER V ρ mI) (xs:List Operand):VL V (xs.map (fE ρ)) (xs.map (PM.ev mI)):=VL.map fun x _=>h.ev x
def iS (lo fA:Nat) (V:View) (r:Option (Value×aH)) (v:VV) (H':aA):Prop :=
 ∃pv V',r=some (pv,V'.P)∧V'.H=H'∧SR V' lo fA∧Hv lo V V'∧VR V' v pv
theorem iS.pure (hS:SR V lo fA) {r:Option Value} {v:VV} {pv:Value} (h:r=some pv) (hv:VR V v pv):iS lo fA V (r.map (·,V.P)) v V.H :=
 ⟨pv,V,by rw[h];rfl,rfl,hS,Hv.refl _ _,hv⟩
theorem iS.of {V':View} {pv:Value} {v:VV} (h:SR V' lo fA∧Hv lo V V') (hv:VR V' v pv):iS lo fA V (some (pv,V'.P)) v V'.H:=⟨pv,V',rfl,rfl,h.1,h.2,hv⟩
theorem iS.same (hS:SR V lo fA) {v:VV} {pv:Value} (hv:VR V v pv):iS lo fA V (some (pv,V.P)) v V.H :=
 ⟨pv,V,rfl,rfl,hS,Hv.refl _ _,hv⟩
theorem cQ {α β:Type} {o:Option α} {f:α→β} {b:β} (h:o.map f=some b):∃a,o=some a∧f a=b:=by
 cases o with
 | none=>cases h
 | some a=>cases h;exact⟨a,rfl,rfl⟩
theorem vH {x:VV} {v u:Value} (h:VR V x u) (hx:x = .sc v):u=v∧qM v=true:=by
 subst hx
 cases h with
 | sc v h=>exact⟨rfl,h⟩
theorem akW {op:BinOp} {a b c:Value} (h:dO op a b=some c):qM c=true:=by
 unfold dO at h
 split at h
 ·split at h<;>cases h;rfl
 ·split at h<;>cases h;rfl
 ·split at h
  ·split at h<;>first | (cases h;rfl) | (split at h<;>cases h<;>rfl) | cases h
  ·cases h
 ·split at h<;>first | (cases h;rfl) | (split at h<;>cases h<;>rfl) | cases h
 ·cases h
theorem asZ {op:UnOp} {a c:Value} (h:pun op a=some c):qM c=true:=by
 unfold pun at h
 split at h<;>cases h<;>rfl
theorem ajE {n:Bool} {a b c:Value} (h:NZ n a b=some c):qM c=true:=by
 unfold NZ at h
 split at h<;>cases h;rfl
theorem amN {k:IntKind} {a c:Value} (h:Xq k a=some c):qM c=true:=by
 unfold Xq at h
 split at h<;>cases h;rfl
theorem akZ {a c:Value} (h:acH a=some c):qM c=true:=by
 unfold acH at h
 split at h<;>cases h;rfl
theorem acX {a c:Value} (h:Dw a=some c):qM c=true:=by
 unfold Dw at h
 split at h<;>cases h;rfl
theorem adD {a b c:Value} (h:I3 a b=some c):qM c=true:=by
 unfold I3 at h
 split at h
 ·split at h<;>cases h;rfl
 ·cases h
theorem ajH {a b c:Value} (h:Um a b=some c):qM c=true:=by
 unfold Um at h
 split at h<;>cases h;rfl
theorem anC {a b c:Value} (h:Uh a b=some c):qM c=true:=by
 unfold Uh at h
 split at h<;>cases h;rfl
theorem GG (hS:SR V lo fA) {f:Value→Option Value} (hf:∀a c,f a=some c→qM c=true) {x v:VV} {u:Value} (hx:VR V x u) (h:Px f x=some v):iS lo fA V ((f u).map (·,V.P)) v V.H:=by
 unfold Px at h
 split at h
 ·obtain⟨h1,_⟩:=vH hx rfl
  subst h1
  obtain⟨c,hc,rfl⟩:=cQ h
  exact iS.pure hS hc (.sc _ (hf _ _ hc))
 ·cases h
theorem Dr (hS:SR V lo fA) {f:Value→Value→Option Value} (hf:∀a b c,f a b=some c→qM c=true) {x y v:VV} {u w:Value} (hx:VR V x u) (hy:VR V y w) (h:KI f x y=some v):iS lo fA V ((f u w).map (·,V.P)) v V.H:=by
 unfold KI at h
 split at h
 ·obtain⟨h1,_⟩:=vH hx rfl
  obtain⟨h2,_⟩:=vH hy rfl
  subst h1 h2
  obtain⟨c,hc,rfl⟩:=cQ h
  exact iS.pure hS hc (.sc _ (hf _ _ _ hc))
 ·cases h
theorem YK {α:Type} (l:List α) {o n a k:Nat} (h:a+k≤n):(((l.drop o).take n).drop a).take k=(l.drop (o+a)).take k:=by
 rw[List.drop_take,aMd,aMe,aMf (by omega)]
theorem Ue {x v:VV} {agg:Bool} {size off b o e:Nat} {r:List Value} {p:Bool} (hb:V.P[b]? = some (.row r e p)) (ho:o+(aB x).length≤r.length) (hl:VL V (aB x) ((r.drop o).take (aB x).length)) (h:dJ agg size x off=some v) :
  ∃u,rB agg size (.pointer (some ⟨b,o+off,none⟩)) V.P=some u∧VR V v u:=by
 unfold dJ at h
 cases agg with
 |
  true =>
  simp only[if_true] at h
  split at h
  ·rename_i hs
   cases h
   refine⟨.agg ((r.drop (o+off)).take size).toArray,?_,.agg _ _ ?_⟩
   ·simp only[rB,if_true,C7 hb (show o+off+size≤r.length by omega)]
    rfl
   ·have:=(hl.drop off).take size
    rw[YK _ hs] at this
    exact this
  ·cases h
 |
  false =>
  simp only[aLQ,if_false] at h
  obtain⟨u,hu,hv⟩:=hl.get h
  have awK:=(aLd.1 h).1
  rw[List.getElem?_take,if_pos awK,List.getElem?_drop] at hu
  refine⟨u,?_,hv⟩
  have bH:=(aLd.1 hu).1
  simp only[rB,aLQ,if_false,C7 hb (show o+off+1≤r.length by omega)]
  rw[aLj bH]
  simp only[aL1,List.take_zero]
  rw[List.getElem?_eq_getElem bH] at hu
  injection hu with hu
  rw[hu]
theorem Pb (hS:SR V lo fA) {b g e j:Nat} {es:List VV} {w:Bool} {x:VV} (hb:V.H[b]? = some (.row g es e w)) (hx:es[j]? = some x) :
  ∃r p,V.P[V.m b]? = some (.row r e p)∧(aB x).length=e∧j*e+(aB x).length≤r.length∧VL V (aB x) ((r.drop (j*e)).take (aB x).length):=by
 obtain⟨r,p,h1,h2,h3⟩:=hS.row b g es e w hb
 have hxe:=h2 x (aL8 hx)
 have hj:=(aLd.1 hx).1
 have hlen:=h3.length
 rw[mM h2] at hlen
 have hm:(j+1)*e≤es.length*e:=aLF _ hj
 rw[aL3] at hm
 refine⟨r,p,h1,hxe,by omega,?_⟩
 have:=(h3.drop (j*e)).take e
 rw[OC h2 hx] at this
 rw[hxe]
 exact this
theorem O6 (hS:SR V lo fA) {p v:VV} {u:Value} {agg:Bool} {size:Nat} (hp:VR V p u) (h:bG agg size p V.H=some v):∃w,rB agg size u V.P=some w∧VR V v w:=by
 unfold bG at h
 split at h
 ·cases hp with
  | cS x off b o r e p hF hb ho hl=>exact Ue hb ho hl h
 ·split at h
  ·rename_i es e w hr
   rw[dH] at hr
   split at h
   ·rename_i x hx
    cases hp with
    |
     ptr b g j off a bH hg ha hq =>
     have:=ha _ _ _ hr
     subst this
     obtain⟨r,p,h1,h2,h3,h4⟩:=Pb hS hr hx
     exact Ue h1 h3 h4 h
   ·cases h
  ·cases h
 ·cases h
theorem Uz (hS:SR V lo fA) {x i v:VV} {u k:Value} {size:Nat} (hx:VR V x u) (hi:VR V i k) (h:bI size x i V.H=some v):∃w,To size u k=some w∧VR V v w:=by
 unfold bI at h
 split at h
 ·rename_i es tk ik i
  obtain⟨rfl,_⟩:=vH hi rfl
  split at h
  ·rename_i h0
   split at h
   ·rename_i y hy
    split at h
    ·rename_i EX
     cases h
     have bH:=(aLd.1 hy).1
     cases hx with
     | pY=>simp at bH
     |
      tree es k b o c r e p hF hb ho hc he hk hl =>
      have hye:=he y (aL8 hy)
      have Qt:e=size:=by omega
      subst Qt
      have hm:(i.toNat+1)*e≤es.length*e:=aLF _ bH
      rw[aL3] at hm
      refine⟨_,UJ h0 (by omega),?_⟩
      have h1:=(hl.drop (i.toNat*e)).take e
      rw[OC he hy,YK _ (by omega)] at h1
      exact .cS y 0 b (o+i.toNat*e) r e p hF hb (by omega) (by rw[hye];exact h1)
    ·cases h
   ·cases h
  ·cases h
 ·rename_i b g o n c ik i
  obtain⟨rfl,_⟩:=vH hi rfl
  split at h
  ·rename_i es e w hr
   rw[dH] at hr
   split at h
   ·rename_i hc
    obtain⟨rfl,h0,h1⟩:=hc
    cases h
    cases hx with
    |
     ref b g o n c a n' c' bH hg ha hq =>
     obtain⟨rfl,rfl,rfl⟩:=ha _ _ _ hr
     refine⟨_,UJ h0 h1,.ptr b g (o+i.toNat) 0 _ bH hg (fun oY e' w' JB => ?_) fun a0 h=>by cases h;exact hq ⟨V.m b,o*e,none⟩ rfl⟩
     rw[hr] at JB
     cases JB
     rw[aLJ,Nat.add_zero]
   ·cases h
  ·cases h
 ·cases h
theorem De {l:Option Operand} {lv:Option Value} (hE:ER V ρ mI) (h:IC (l.map (fE ρ))=some lv):l.map (ev mI)=lv:=by
 cases l with
 | none=>cases h;rfl
 |
  some x =>
  simp only[Option.map_some,IC] at h
  split at h
  ·rename_i hv;cases hv
  ·rename_i v hv
   cases h
   injection hv with hv
   obtain⟨h1,_⟩:=vH (hE.ev x) hv
   rw[Option.map_some,h1]
  ·cases h
theorem Ld {v:Option Value} {d:Option Nat} {t x:Nat} (hd:∀y,d=some y→y≤t) (h:fM v d t=some x):x≤t:=by
 unfold fM at h
 split at h
 ·exact hd _ h
 ·split at h
  ·cases h;omega
  ·cases h
 ·cases h
theorem Re {v:Option Value} {d d':Option Nat} {t t' x:Nat} (ht:t≤t') (hd:v=none→d=d') (h:fM v d t=some x):fM v d' t'=some x:=by
 unfold fM at h ⊢
 cases v with
 | none=>rw[←hd rfl];exact h
 |
  some v =>
  cases v with
  |
   int k i =>
   simp only at h ⊢
   split at h
   ·rename_i h1;rw[if_pos (by omega)];exact h
   ·cases h
  | _=>simp only at h ⊢;exact h
theorem Rz (hS:SR V lo fA) (size:Nat):iS lo fA V (some (.slice (some ⟨V.P.length,0,none⟩) 0 0,V.P++[.row [] size false])) (.tree [] (.cl size)) V.H:=by
 exact(iS.of (DO hS (.row [] size false)) (.tree [] (.cl size) V.P.length 0 0 [] size false (.inr rfl) (by simp) (by simp) (by simp) (fun x hx=>by cases hx) ⟨rfl,rfl,rfl⟩ (by simp;exact .nil)) :)
theorem acL (hS:SR V lo fA) (hE:ER V ρ mI) {x v:VV} {u:Value} {size:Nat} {l h m:Option Operand} (hx:VR V x u) (hv:G4 size x (l.map (fE ρ)) (h.map (fE ρ)) (m.map (fE ρ)) V.H=some v) :
  iS lo fA V (E1 size u (l.map (ev mI)) (h.map (ev mI)) (m.map (ev mI)) V.P) v V.H:=by
 unfold G4 at hv
 split at hv
 case h_2=>cases hv
 rename_i lv hhv mv hl hh hm
 rw[De hE hl,De hE hh,De hE hm]
 split at hv
 ·rename_i y ys tk
  split at hv
  case isFalse=>cases hv
  rename_i EX
  split at hv
  ·cases hv
  rename_i m0 hm0
  split at hv
  ·cases hv
  rename_i h0 hh0
  split at hv
  ·cases hv
  rename_i l0 Ci
  cases hx with
  |
   tree es k b o c r e p hF hb ho hc he hk hl =>
   have Qt:e=size:=by rw[←he y aLO];exact EX
   subst Qt
   have hlen:(y::ys).length=ys.length+1:=rfl
   rw[hlen] at ho hc
   have b1:m0≤ys.length+1:=Ld (fun z hz=>by injection hz with hz;omega) hm0
   have b2:h0≤m0:=by
    refine Ld (fun z hz => ?_) hh0
    split at hz
    ·cases hz
    ·rename_i hmn
     injection hz with hz
     have:mv=none:=by cases mv<;>simp_all
     subst this
     simp[fM] at hm0
     omega
   have b3:l0≤h0:=Ld (fun z hz=>by injection hz with hz;omega) Ci
   have e1:fM mv (some c) c=some (if mv.isSome then m0 else c):=by
    cases mv with
    | none=>rfl
    | some q=>exact Re hc (fun hq=>by cases hq) hm0
   have e2:fM hhv (if mv.isSome then none else some (ys.length+1)) (if mv.isSome then m0 else c)=some h0:=by
    cases mv with
    |
     none =>
     simp only[Option.isSome_none,aLQ,if_false] at hh0 ⊢
     exact Re (by omega) (fun _=>rfl) hh0
    | some q=>exact hh0
   unfold E1
   simp only[hb,if_true]
   rw[e1]
   simp only
   rw[hlen,e2]
   simp only
   rw[Ci]
   simp only
   by_cases mN:mv.isSome=true∧m0=l0
   ·rw[if_pos mN] at hv
    cases hv
    rw[if_pos ⟨mN.1,by rw[if_pos mN.1];exact mN.2⟩]
    exact Rz hS e
   ·rw[if_neg mN] at hv
    cases hv
    rw[if_neg (fun hh=>mN ⟨hh.1,by have:=hh.2;rw[if_pos hh.1] at this;exact this⟩)]
    have bH:(((y::ys).drop l0).take (h0-l0)).length=h0-l0:=by simp;omega
    have Oj:l0*e+(h0-l0)*e=h0*e:=by rw[←aLJ];congr 1;omega
    have Ym:h0*e≤(ys.length+1)*e:=aLF _ (by omega)
    have TZ:h0-l0≤(if mv.isSome then m0 else c)-l0:=by split<;>omega
    have:=VR.tree (V:=V) (((y::ys).drop l0).take (h0-l0)) .op b (o+l0*e) ((if mv.isSome then m0 else c)-l0) r e p hF hb (by rw[bH];omega) (by rw[bH];exact TZ) (fun z hz=>he z (aMc (aMb hz))) trivial (by
     rw[bH]
     have h1:=(hl.drop (l0*e)).take ((h0-l0)*e)
     rw[YK _ (by rw[hlen];omega),xS he,yP (fun z hz=>he z (aMc hz))] at h1
     exact h1)
    rw[bH] at this
    exact iS.same hS this
 ·rename_i b g o n c
  split at hv
  case h_2=>cases hv
  rename_i es e w hr
  rw[dH] at hr
  split at hv
  case isFalse=>cases hv
  rename_i EX
  subst EX
  split at hv
  ·cases hv
  rename_i m0 hm0
  split at hv
  ·cases hv
  rename_i h0 hh0
  split at hv
  ·cases hv
  rename_i l0 Ci
  cases hx with
  |
   ref b g o n c a n' c' bH hg ha hq =>
   obtain⟨rfl,rfl,rfl⟩:=ha _ _ _ hr
   obtain⟨r,p,h1,_⟩:=hS.row b g es e w hr
   unfold E1
   simp only[h1,if_true]
   rw[hm0]
   simp only
   rw[hh0]
   simp only
   rw[Ci]
   simp only
   by_cases mN:mv.isSome=true∧m0=l0
   ·rw[if_pos mN] at hv
    cases hv
    rw[if_pos mN]
    exact Rz hS e
   ·rw[if_neg mN] at hv
    cases hv
    rw[if_neg mN]
    refine iS.same hS (.ref b g (o+l0) _ _ _ _ _ bH hg (fun oY e' w' JB => ?_) fun a0 h=>by cases h;exact hq ⟨V.m b,o*e,none⟩ rfl)
    rw[hr] at JB
    cases JB
    exact⟨by rw[aLJ],rfl,rfl⟩
 ·cases hv
theorem Dd {es:List VV} (h:(es.all fun x=>(aB x).all bP)=true):(es.flatMap aB).all bP=true:=by
 rw[aLs] at h ⊢
 intro x hx
 obtain⟨y,hy,CT⟩:=aMg.1 hx
 exact aLs.1 (h y hy) x CT
theorem AJ (hS:SR V lo fA) {y:VV} {u:Value} {size:Nat} {new:List VV} (hy:VR V y u) (h:dG size y V.H=some new) :
  xG u=some new.length∧(∀x∈new,(aB x).length=size)∧(new.flatMap aB).all bP=true∧∀n,n≤new.length→∃pn,kU V.P size n u=some pn∧VL V ((new.take n).flatMap aB) pn:=by
 unfold dG at h
 split at h
 ·rename_i es tk
  split at h
  case isFalse=>cases h
  rename_i kV
  cases h
  have alX:∀x∈new,(aB x).length=size∧(aB x).all bP=true:=fun x hx=>by
   have:=aLs.1 kV x hx
   simpa using this
  refine⟨?_,fun x hx=>(alX x hx).1,Dd (aLs.2 fun x hx=>(alX x hx).2),fun n hn => ?_⟩
  ·cases hy<;>rfl
  ·cases hy with
   |
    pY k hk =>
    have:n=0:=by simpa using hn
    subst this
    exact⟨[],rfl,by simp;exact .nil⟩
   |
    tree es k b o c r e p hF hb ho hc he hk hl =>
    cases Qt:new with
    |
     nil =>
     rw[Qt] at hn
     have:n=0:=by simpa using hn
     subst this
     refine⟨[],?_,by simp;exact .nil⟩
     simp only[kU,aMh]
     rw[C7 hb (by omega)]
     simp
    |
     cons x xs =>
     have Nd:e=size:=by rw[←he x (by rw[Qt];exact aLO)];exact(alX x (by rw[Qt];exact aLO)).1
     subst Nd
     have hm:n*e≤new.length*e:=aLF _ hn
     refine⟨_,by simp only[kU];exact C7 hb (by omega),?_⟩
     rw[←Qt,←yP he]
     have h1:=hl.take (n*e)
     rw[aMd,aMf hm] at h1
     exact h1
 ·rename_i b g o n c
  split at h
  case h_2=>cases h
  rename_i es e w hr
  rw[dH] at hr
  split at h
  case isFalse=>cases h
  rename_i hc
  obtain⟨rfl,hlen,kV⟩:=hc
  cases h
  obtain⟨r,p,h1,h2,h3⟩:=hS.row b g es e w hr
  have hn2:((es.drop o).take n).length=n:=by simp;omega
  have B7:=h3.length
  rw[mM h2] at B7
  cases hy with
  |
   ref b g o n c a n' c' bH hg ha hq =>
   obtain⟨rfl,rfl,rfl⟩:=ha _ _ _ hr
   have anH:∀x∈(es.drop o).take n',(aB x).length=e:=fun x hx=>h2 x (aMc (aMb hx))
   refine⟨by rw[hn2];rfl,anH,Dd kV,fun k hk => ?_⟩
   rw[hn2] at hk
   have hm:(o+k)*e≤es.length*e:=aLF _ (by omega)
   rw[aLJ] at hm
   refine⟨_,by simp only[kU];exact C7 h1 (by omega),?_⟩
   rw[aMd,aMf hk]
   have h4:=(h3.drop (o*e)).take (k*e)
   rw[xS h2,yP (fun x hx=>h2 x (aMc hx))] at h4
   exact h4
 ·rename_i s
  split at h
  case isFalse=>cases h
  rename_i hs
  subst hs
  cases h
  obtain⟨rfl,_⟩:=vH hy rfl
  have hlen:(s.data.toList.map fun b=>VV.sc (.int .u8 (b.toNat:Int))).length=s.size:=by simp
  refine⟨by rw[hlen];rfl,fun x hx => ?_,?_,fun n hn => ?_⟩
  ·obtain⟨b,_,rfl⟩:=List.mem_map.1 hx
   rfl
  ·refine Dd (aLs.2 fun x hx => ?_)
   obtain⟨b,_,rfl⟩:=List.mem_map.1 hx
   rfl
  ·refine⟨(s.data.toList.take n).map fun b=>Value.int .u8 (b.toNat:Int),by simp only[kU,if_true],?_⟩
   rw[←List.map_take,List.flatMap_map]
   have:((s.data.toList.take n).flatMap fun a=>aB (VV.sc (.int .u8 (a.toNat:Int))))=(s.data.toList.take n).map fun a=>VV.sc (.int .u8 (a.toNat:Int)):=by
    generalize s.data.toList.take n=l
    induction l with
    | nil=>rfl
    | cons a l ih=>rw[aL2,ih];rfl
   rw[this]
   exact VL.map fun b _ => .sc _ rfl
 ·cases h
end
end Go.PM
namespace Go.PM
section
variable {V:View} {lo fA:Nat} {ρ:cV} {mI:Env}
theorem NF (hS:SR V lo fA) {es:List VV} {r:List Value} {e n c:Nat} {p:Bool}:VR { V with m:=upd V.m V.H.length V.P.length,H:=V.H++[.row 0 es e true],P:=V.P++[.row r e p] } (.ref V.H.length 0 0 n c) (.slice (some ⟨V.P.length,0,none⟩) n c):=by
 refine .ref _ _ _ _ _ _ _ _ (by simp) (fun g' es e w _=>Nat.zero_le _) (fun oY e' w' h=>⟨?_,rfl,rfl⟩) fun a0 ha => ?_
 ·simp only[nP,aMh]
 ·cases ha
  refine⟨hS.NA,by simp,fun b' g' oY e' w' hb fN hm => ?_⟩
  have xR:(V.H++[eR.row 0 es e true])[b']? = some (.row g' oY e' w'):=hb
  have bH:b'<V.H.length:=by
   have:=(aLd.1 xR).1
   simp at this
   omega
  rw[aLv bH] at xR
  have h2:=hS.mlt xR
  simp only[oW (show b'≠V.H.length by omega)] at hm
  omega
theorem ZM (hS:SR V lo fA) {es:List VV} {r:List Value} {e:Nat} {p:Bool}:VR { V with m:=upd V.m V.H.length V.P.length,H:=V.H++[.row 0 es e true],P:=V.P++[.row r e p] } (.ptr V.H.length 0 0 0) (.pointer (some ⟨V.P.length,0,none⟩)):=by
 refine .ptr _ _ _ _ _ (by simp) (fun g' es e w _=>Nat.zero_le _) (fun oY e' w' h => ?_) fun a0 ha => ?_
 ·simp only[nP,aMh]
 ·cases ha
  refine⟨hS.NA,by simp,fun b' g' oY e' w' hb fN hm => ?_⟩
  have xR:(V.H++[eR.row 0 es e true])[b']? = some (.row g' oY e' w'):=hb
  have bH:b'<V.H.length:=by
   have:=(aLd.1 xR).1
   simp at this
   omega
  rw[aLv bH] at xR
  have h2:=hS.mlt xR
  simp only[oW (show b'≠V.H.length by omega)] at hm
  omega
theorem Jd (hS:SR V lo fA) {x v:VV} {u:Value} {size bytes:Nat} {nw:List VV} {pn:List Value} {H':aA} (hx:VR V x u) (hn:∀x∈nw,(aB x).length=size) (Cn:(nw.flatMap aB).all bP=true) (hl:VL V (nw.flatMap aB) pn) (h:dK lo size bytes x nw V.H=some (v,H')) :
  iS lo fA V (fK fA size bytes u nw.length pn V.P) v H':=by
 unfold dK at h
 split at h
 case isFalse=>cases h
 rename_i hbs
 have Qc:pn.length=nw.length*size:=by rw[hl.length,mM hn]
 unfold fK
 rw[if_pos ⟨hbs.1,hbs.2,hl.iR Cn,Qc⟩]
 split at h
 ·cases hx with
  | tree es k b o c r e p hF hb ho hc he hk hl=>exact hk.elim
  |
   pY =>
   simp only[and_self,if_true]
   split at h
   ·rename_i h0
    cases h
    rw[if_pos h0]
    exact iS.same hS (.pY _ (.inr rfl))
   ·rename_i h0
    split at h
    case isFalse=>cases h
    rename_i h1
    cases h
    rw[if_neg h0,if_pos h1]
    exact(iS.of (vL hS (es:=nw) (r:=pn) (e:=size) true hn hl) (NF hS) :)
 ·rename_i es e
  split at h
  case isFalse=>cases h
  rename_i Qt
  subst Qt
  cases hx with
  | pY k hk=>rcases hk with hk | hk<;>cases hk
  |
   tree es k b o c r e' p hF hb ho hc he hk FA =>
   obtain⟨h1,h2,h3⟩:=hk
   subst h1 h2 h3
   simp only[hb]
   rw[if_pos ⟨trivial,ho⟩]
   split at h
   ·rename_i h0
    cases h
    rw[if_pos (by omega),if_pos h0]
    exact iS.same hS (.tree es _ b o _ r e false hF hb ho hc he ⟨rfl,rfl,rfl⟩ FA)
   ·rename_i h0
    split at h
    case isFalse=>cases h
    rename_i EX
    cases h
    rw[if_neg (by omega),if_pos EX]
    simp only[aLQ,if_false]
    have kV:∀x∈es++nw,(aB x).length=e:=fun x hx=>by
     rcases aMa.1 hx with h | h
     ·exact he x h
     ·exact hn x h
    exact(iS.of (vL hS (es:=es++nw) (r:=(r.drop o).take (es.length*e)++pn) (e:=e) true kV (by rw[aMi];exact FA.append hl)) (NF hS) :)
 ·rename_i b g o n c
  split at h
  case h_2=>cases h
  rename_i es e hr
  rw[dH] at hr
  split at h
  case isFalse=>cases h
  rename_i hc
  obtain⟨rfl,eT,hon⟩:=hc
  obtain⟨r,p,h1,h2,h3⟩:=hS.row b g es e true hr
  have B7:=h3.length
  rw[mM h2] at B7
  have HB:=(hS.wr b g es e hr).2 eT
  cases hx with
  |
   ref b g o n c a n' c' bH hg ha hq =>
   obtain⟨rfl,rfl,rfl⟩:=ha _ _ _ hr
   have hm:(o+n')*e≤es.length*e:=aLF _ hon
   rw[aLJ] at hm
   simp only[h1]
   rw[if_pos ⟨trivial,by omega⟩]
   split at h
   ·rename_i hnc
    rw[if_pos hnc]
    split at h
    ·rename_i h0
     cases h
     rw[if_pos h0]
     exact iS.same hS (.ref _ _ _ _ _ _ _ _ bH hg ha hq)
    ·rename_i h0
     split at h
     case isFalse=>cases h
     rename_i Bn
     cases h
     rw[if_neg h0]
     have Ym:(o+n'+nw.length)*e≤es.length*e:=aLF _ Bn
     rw[aLJ,aLJ] at Ym
     have kV:∀x∈dD es (o+n') nw,(aB x).length=e:=fun x hx=>by
      rcases MO hx with h | h
      ·exact h2 x h
      ·exact hn x h
     have HG:VL V ((dD es (o+n') nw).flatMap aB) (kI r (o*e+n'*e) pn):=by
      rw[←AK h2 hn,aLJ]
      exact h3.kI hl _
     obtain⟨g1,g2⟩:=FR hS hr eT kV HG h1
     refine⟨.slice (some ⟨V.m b,o*e,none⟩) (n'+nw.length) c',{ V with H:=V.H.set b (.row g (dD es (o+n') nw) e true),P:=V.P.set (V.m b) (.row (kI r (o*e+n'*e) pn) e p) },?_,rfl,g1,g2,?_⟩
     ·unfold aH.write
      simp only[h1]
      rw[if_pos ⟨HB,by omega,hl.iR Cn⟩]
      rfl
     ·refine .ref _ _ _ _ _ _ _ _ (by simpa using bH) (fun g' oY e' w' JB => ?_) (fun oY e' w' JB => ?_) fun a0 h=>by cases h;exact g2.toUp.hq (hq _ rfl)
      ·rcases iC bH JB with⟨_,h⟩ | ⟨h,_⟩
       ·cases h;exact aLe _
       ·exact absurd rfl h
      ·rcases iC bH JB with⟨_,h⟩ | ⟨h,_⟩
       ·cases h;exact⟨rfl,rfl,rfl⟩
       ·exact absurd rfl h
   ·rename_i hnc
    split at h
    case isFalse=>cases h
    rename_i EX
    cases h
    rw[if_neg hnc,if_pos EX]
    have kV:∀x∈(es.drop o).take n'++nw,(aB x).length=e:=fun x hx=>by
     rcases aMa.1 hx with h | h
     ·exact h2 x (aMc (aMb h))
     ·exact hn x h
    have HG:VL V (((es.drop o).take n'++nw).flatMap aB) ((r.drop (o*e)).take (n'*e)++pn):=by
     rw[aMi]
     refine VL.append ?_ hl
     have h4:=(h3.drop (o*e)).take (n'*e)
     rw[xS h2,yP (fun x hx=>h2 x (aMc hx))] at h4
     exact h4
    have fin:∀P1:aH,P1.length=V.P.length→(∀q,q≠V.m b→P1[q]? = V.P[q]?) →
      iS lo fA V (some (.slice (some ⟨V.P.length,0,none⟩) (n'+nw.length) (n'+nw.length),P1++[.row ((r.drop (o*e)).take (n'*e)++pn) e true])) (.ref b (g+1) 0 (n'+nw.length) (n'+nw.length)) (V.H.set b (.row (g+1) ((es.drop o).take n'++nw) e true)):=by
     intro P1 hP hk
     refine(iS.of (XN hS hr eT kV HG hP hk true) ?_ :)
     refine .ref _ _ _ _ _ _ _ _ (by simpa using bH) (fun g' oY e' w' JB => ?_) (fun oY e' w' JB => ?_) fun a0 h => ?_
     ·rcases iC bH JB with⟨_,h⟩ | ⟨h,_⟩
      ·cases h;exact aLe _
      ·exact absurd rfl h
     ·rcases iC bH JB with⟨_,h⟩ | ⟨h,_⟩
      ·cases h;exact⟨by simp only[nP,aMh],rfl,rfl⟩
      ·exact absurd rfl h
     ·cases h
      refine⟨hS.NA,by simp[hP],fun b' g' oY e' w' hb fN hm => ?_⟩
      rcases iC bH hb with⟨h,_⟩ | ⟨_,h⟩
      ·exact fN h
      ·simp only[oW fN] at hm
       have:=hS.mlt h
       omega
    cases p with
    |
     true =>
     simp only[if_true,HB]
     exact fin (V.P.set (V.m b) .dead) (by simp) fun q hq=>aLD (Ne.symm hq)
    |
     false =>
     simp only[aLQ,if_false]
     exact fin V.P rfl fun _ _=>rfl
 ·cases h
theorem VC (hS:SR V lo fA) {p v:VV} {u w:Value} {size:Nat} {H':aA} (hp:VR V p u) (hv:VR V v w) (h:bM lo size p v V.H=some H'):iS lo fA V (It fA size u w V.P) tJ H':=by
 unfold bM at h
 split at h
 case h_2=>cases h
 rename_i b g j o
 split at h
 case h_2=>cases h
 rename_i es e hr
 rw[dH] at hr
 split at h
 case h_2=>cases h
 rename_i x hx
 split at h
 case isFalse=>cases h
 rename_i hc
 obtain⟨EX,eT,Cn⟩:=hc
 obtain⟨r,q,h1,h2,h3⟩:=hS.row b g es e true hr
 have B7:=h3.length
 rw[mM h2] at B7
 have HB:=(hS.wr b g es e hr).2 eT
 have hj:=(aLd.1 hx).1
 have hxe:=h2 x (aL8 hx)
 have hm:(j+1)*e≤es.length*e:=aLF _ hj
 rw[aL3] at hm
 have mN:=hv.cells (Y7 Cn)
 have hwl:(aV w).length=size:=by rw[mN.length,EX]
 cases hp with
 |
  ptr b g j off a bH hg ha hq =>
  have:=ha _ _ _ hr
  subst this
  have fin:∀y:VV,(aB y).length=e→o+size≤e→aB y=dD (aB x) o (aB v)→H'=V.H.set b (.row g (es.set j y) e true)→iS lo fA V (It fA size (.pointer (some ⟨V.m b,j*e+o,none⟩)) w V.P) tJ H':=by
   intro y hy ho hye hH
   subst hH
   have kV:∀z∈es.set j y,(aB z).length=e:=fun z hz=>by
    rcases aMj hz with h | h
    ·exact h2 z h
    ·subst h;exact hy
   have HG:VL V ((es.set j y).flatMap aB) (kI r (j*e+o) (aV w)):=by
    have e1:(es.set j y).flatMap aB=dD (es.flatMap aB) (j*e+o) (aB v):=by
     rw[←Mo hj,←AK h2 (new:=[y]) (fun z hz=>by rw[aMk] at hz;subst hz;exact hy)]
     simp only[aL2,aMl,aMm]
     rw[hye]
     have hx2:=OC h2 hx
     unfold dD
     have t1:(es.flatMap aB).take (j*e+o)=(es.flatMap aB).take (j*e)++(aB x).take o:=by
      rw[List.take_add,←hx2,aMd,aMf (by omega)]
     have t2:(es.flatMap aB).drop (j*e+o+(aB v).length)=(aB x).drop (o+(aB v).length)++(es.flatMap aB).drop (j*e+e):=by
      have t0:(es.flatMap aB).drop (j*e+e)=((es.flatMap aB).drop (j*e+(o+(aB v).length))).drop (e-(o+(aB v).length)):=by
       rw[aMe]
       congr 1
       omega
      rw[←hx2,List.drop_take,aMe,t0,aMn,aLq]
     rw[t1,t2]
     have t3:(List.take o (aB x)++aB v++List.drop (o+(aB v).length) (aB x)).length=e:=by
      simp;omega
     rw[t3]
     simp only[List.append_assoc]
    rw[e1]
    exact h3.kI mN _
   obtain⟨g1,g2⟩:=FR hS hr eT kV HG h1
   refine⟨undef,{ V with H:=V.H.set b (.row g (es.set j y) e true),P:=V.P.set (V.m b) (.row (kI r (j*e+o) (aV w)) e q) },?_,rfl,g1,g2,.eH [] [] .nil⟩
   unfold It
   simp only[hwl,if_true]
   unfold aH.write
   simp only[h1]
   rw[if_pos ⟨HB,by omega,mN.iR Cn⟩]
   rfl
  split at h
  ·rename_i ho
   obtain⟨rfl,rfl⟩:=ho
   cases h
   refine fin v EX (by omega) ?_ rfl
   unfold dD
   rw[Nat.zero_add,List.take_zero,List.nil_append,List.drop_of_length_le (by omega),aMm]
  ·split at h
   case isFalse=>cases h
   rename_i ho
   cases h
   have US:(dD (aB x) o (aB v)).length=e:=by rw[Vn (by omega)];exact hxe
   exact fin (.agg (dD (aB x) o (aB v))) US (by omega) rfl rfl
theorem F8 {z:List Value} (hz:(z.map kR).all bP=true):(aB (elemOf (z.map kR))).length=z.length:=by
 rw[qF hz,List.length_map]
theorem DQ {z:List Value} (hz:(z.map kR).all bP=true):∀n,VL V ((aL4 n (elemOf (z.map kR))).flatMap aB) (dE n z):=by
 intro n
 have Cn:z.all iR=true:=(VL.zero (V:=V) z).iR hz
 have akJ:dE n z=(aL4 n ()).flatMap fun _=>z:=by
  rcases Nat.eq_zero_or_pos z.length with h0 | lQ
  ·have:z=[]:=List.length_eq_zero_iff.1 h0
   subst this
   simp[dE]
  ·exact UI (enc:=fun(_:Unit)=>z) (gQ:=z.length) (x:=()) ⟨fun _=>rfl,fun _=>Cn,lQ⟩
 rw[akJ]
 clear akJ
 induction n with
 | zero=>exact .nil
 |
  succ n ih =>
  rw[aMo,aMo,aL2,aL2,qF hz]
  exact(VL.zero z).append ih
theorem YJ (hS:SR V lo fA) {z:List Value} {bytes:Nat} {l c v:VV} {u w:Value} {H':aA} (hz:(z.map kR).all bP=true) (hl:VR V l u) (hc:VR V c w) (h:BR z bytes l c V.H=some (v,H')):iS lo fA V (ZU z bytes u w V.P) v H':=by
 unfold BR at h
 split at h
 case h_2=>cases h
 obtain⟨rfl,_⟩:=vH hl rfl
 obtain⟨rfl,_⟩:=vH hc rfl
 split at h
 case isFalse=>cases h
 rename_i Wm
 cases h
 unfold ZU
 simp only[if_pos Wm]
 exact(iS.of (vL hS (e:=z.length) false (fun x hx=>by rw[aMp hx];exact F8 hz) (DQ hz _)) (NF hS) :)
theorem adX (hS:SR V lo fA) {z:List Value} (hz:(z.map kR).all bP=true):iS lo fA V (some (.pointer (some ⟨V.P.length,0,none⟩),V.P++[.row z z.length false])) (.ptr V.H.length 0 0 0) (V.H++[.row 0 [elemOf (z.map kR)] z.length true]):=by
 exact(iS.of (vL hS (es:=[elemOf (z.map kR)]) (r:=z) (e:=z.length) false (fun x hx=>by rw[aMk] at hx;subst hx;exact F8 hz) (by simp only[aL2,aMl,aMm,qF hz];exact VL.zero z)) (ZM hS) :)
theorem abY (hS:SR V lo fA) {x v:VV} {u:Value} {H':aA} {bf:Bool} (hx:VR V x u) (hs:(aB x).all bP=true) (h:(if bf=true then some (VV.cS x 0,V.H) else some (VV.ptr V.H.length 0 0 0,V.H++[eR.row 0 [x] (aB x).length true]))=some (v,H')) :
  iS lo fA V (if (aV u).all iR then some (.pointer (some ⟨V.P.length,0,none⟩),V.P++[.row (aV u) (aV u).length false]) else none) v H':=by
 have hc:=hx.cells (Y7 hs)
 rw[if_pos (hc.iR hs)]
 split at h
 ·cases h
  have g:=DO hS (.row (aV u) (aV u).length false)
  refine(iS.of g ?_ :)
  have hm:=hc.mono g.2.toUp
  refine .cS x 0 V.P.length 0 (aV u) (aV u).length false (.inr rfl) (by simp) (by rw[hc.length];omega) ?_
  rw[aMq,aL7 (by rw[hc.length];exact aLe _)]
  exact hm
 ·cases h
  rw[hc.length]
  exact(iS.of (vL hS (es:=[x]) (r:=aV u) (e:=(aB x).length) false (fun y hy=>by rw[aMk] at hy;subst hy;rfl) (by simpa using hc)) (ZM hS) :)
theorem take_set {α:Type} {l:List α} {i:Nat} {x:α} (h:i<l.length):l.set i x=l.take i++x::l.drop (i+1):=by
 rw[aL9,if_pos h]
inductive Xv (V:View):List (Nat×VV)→List (Nat×Value)→Prop
 | nil:Xv V [] []
 | cons {i:Nat} {x:VV} {v:Value} {xs:List (Nat×VV)} {vs:List (Nat×Value)} (h:VR V x v) (hs:Xv V xs vs):Xv V ((i,x)::xs) ((i,v)::vs)
theorem HP {e n:Nat}:∀ {parts:List (Nat×VV)} {CL:List (Nat×Value)} {es oY:List VV} {r:List Value},es.length=n→(∀x∈es,(aB x).length=e)→VL V (es.flatMap aB) r →
  Xv V parts CL→zE e es parts=some oY→oY.length=n∧(∀x∈oY,(aB x).length=e)∧∃r',Aq ((List.range n).map fun i=>(i*e,e)) r CL=some r'∧VL V (oY.flatMap aB) r'
 |
  [],_,es,oY,r,hn,he,hl,.nil,h=>by
  cases h
  exact⟨hn,he,r,rfl,hl⟩
 |
  (i,v)::parts,(_,w)::CL,es,oY,r,hn,he,hl,.cons hv hps,h=>by
  unfold zE at h
  split at h
  case isFalse=>cases h
  rename_i hc
  obtain⟨hi,hve,Cn⟩:=hc
  have mN:=hv.cells (Y7 Cn)
  have hwl:(aV w).length=e:=by rw[mN.length,hve]
  have B7:=hl.length
  rw[mM he] at B7
  have hm:(i+1)*e≤es.length*e:=aLF _ hi
  rw[aL3] at hm
  have kV:∀x∈es.set i v,(aB x).length=e:=fun x hx=>by
   rcases aMj hx with h | h
   ·exact he x h
   ·subst h;exact hve
  have HG:VL V ((es.set i v).flatMap aB) (r.take (i*e)++aV w++r.drop (i*e+e)):=by
   have h1:=hl.kI mN (i*e)
   have h2:=AK he (new:=[v]) (fun z hz=>by rw[aMk] at hz;subst hz;exact hve) i
   simp only[aL2,aMl,aMm] at h2
   rw[h2,Mo hi] at h1
   unfold kI at h1
   rw[hwl] at h1
   exact h1
  obtain⟨g1,g2,r',g3,g4⟩:=HP (n:=n) (by rw[List.length_set];exact hn) kV HG hps h
  refine⟨g1,g2,r',?_,g4⟩
  unfold Aq
  have hr:((List.range n).map fun i=>(i*e,e))[i]? = some (i*e,e):=by simp[List.getElem?_range (show i<n by omega)]
  simp only[hr]
  rw[if_pos ⟨hwl,by omega⟩]
  exact g3
theorem KT (hE:ER V ρ mI):∀parts:List (Nat×Operand),Xv V (parts.map fun(i,x)=>(i,fE ρ x)) (parts.map fun(i,x)=>(i,ev mI x))
 | [] => .nil
 | (i,x)::parts => .cons (hE.ev x) (KT hE parts)
theorem Ke {e:Nat}:∀ {parts:List (Nat×VV)} {es oY:List VV},(es.all fun x=>(aB x).all bP)=true→zE e es parts=some oY→(oY.all fun x=>(aB x).all bP)=true
 | [],es,oY,h,hf=>by cases hf;exact h
 |
  (i,v)::parts,es,oY,h,hf=>by
  unfold zE at hf
  split at hf
  case isFalse=>cases hf
  rename_i hc
  refine Ke ?_ hf
  rw[aLs] at h ⊢
  intro x hx
  rcases aMj hx with h1 | h1
  ·exact h x h1
  ·subst h1;exact hc.2.2
theorem aeG (hS:SR V lo fA) {lr:Bool} {z:List Value} {n:Nat} {parts:List (Nat×VV)} {CL:List (Nat×Value)} {v:VV} {H':aA} (hp:Xv V parts CL) (h:nT lr z n parts V.H=some (v,H')):iS lo fA V (atL z n CL V.P) v H':=by
 unfold nT at h
 split at h
 case h_2=>cases h
 rename_i es Qt
 split at h
 case isFalse=>cases h
 rename_i hz
 obtain⟨g1,g2,r',g3,g4⟩:=HP (V:=V) (n:=n) (by simp) (fun x hx=>by rw[aMp hx];exact F8 hz) (DQ hz n) hp Qt
 have Cn:=Ke (by
  rw[aLs]
  intro x hx
  rw[aMp hx,qF hz]
  exact hz) Qt
 unfold atL
 simp only[g3]
 rw[if_pos (g4.iR (Dd Cn))]
 split at h
 ·cases h
  exact(iS.of (vL hS (e:=z.length) false g2 g4) (NF hS) :)
 ·cases h
  have k:=DO hS (.row r' z.length false)
  refine(iS.of k ?_ :)
  have hm:=g4.mono k.2.toUp
  have B7:=g4.length
  rw[mM g2] at B7
  subst g1
  refine .tree es _ V.P.length 0 es.length r' z.length false (.inr rfl) (by simp) (by omega) (aLe _) g2 ⟨rfl,rfl,rfl⟩ ?_
  rw[aMq,aL7 (by omega)]
  exact hm
theorem QX (hS:SR V lo fA) {b g e o:Nat} {es nw:List VV} {pn:List Value} (hr:V.H[b]? = some (.row g es e true)) (eT:lo≤b) (Bn:o+nw.length≤es.length) (hn:∀x∈nw,(aB x).length=e) (Cn:(nw.flatMap aB).all bP=true) (hl:VL V (nw.flatMap aB) pn) :
  ∃V',V.P.write fA (V.m b) (o*e) pn=some V'.P∧V'.H=V.H.set b (.row g (dD es o nw) e true)∧SR V' lo fA∧Hv lo V V':=by
 obtain⟨r,q,h1,h2,h3⟩:=hS.row b g es e true hr
 have B7:=h3.length
 rw[mM h2] at B7
 have HB:=(hS.wr b g es e hr).2 eT
 have Qc:=hl.length
 rw[mM hn] at Qc
 have hm:(o+nw.length)*e≤es.length*e:=aLF _ Bn
 rw[aLJ] at hm
 have kV:∀x∈dD es o nw,(aB x).length=e:=fun x hx=>by
  rcases MO hx with h | h
  ·exact h2 x h
  ·exact hn x h
 have HG:VL V ((dD es o nw).flatMap aB) (kI r (o*e) pn):=by
  rw[←AK h2 hn]
  exact h3.kI hl _
 obtain⟨g1,g2⟩:=FR hS hr eT kV HG h1
 refine⟨{ V with H:=V.H.set b (.row g (dD es o nw) e true),P:=V.P.set (V.m b) (.row (kI r (o*e) pn) e q) },?_,rfl,g1,g2⟩
 unfold aH.write
 simp only[h1]
 rw[if_pos ⟨HB,by omega,hl.iR Cn⟩]
theorem Yv (hS:SR V lo fA) {x y v:VV} {u w:Value} {size:Nat} {H':aA} (hx:VR V x u) (hy:VR V y w) (h:Ml lo size x y V.H=some (v,H')):iS lo fA V (copyV fA size u w V.P) v H':=by
 unfold Ml at h
 split at h
 ·rename_i new hs
  obtain⟨h1,_⟩:=AJ hS hy hs
  cases h
  cases hx with
  | tree es k b o c r e p hF hb ho hc he hk hl=>exact hk.elim
  |
   pY =>
   unfold copyV
   simp only[h1]
   exact iS.same hS (.sc _ rfl)
 ·rename_i b g o d c new hs
  obtain⟨h1,h2,h3,h4⟩:=AJ hS hy hs
  split at h
  case h_2=>cases h
  rename_i es e hr
  rw[dH] at hr
  split at h
  case isFalse=>cases h
  rename_i hc
  obtain⟨rfl,eT,Bn⟩:=hc
  cases h
  cases hx with
  |
   ref b g o n c a n' c' bH hg ha hq =>
   obtain⟨rfl,rfl,rfl⟩:=ha _ _ _ hr
   have asH:(new.take n').length=Nat.min new.length n':=by rw[List.length_take];exact Nat.min_comm _ _
   obtain⟨pn,h5,h6⟩:=h4 (Nat.min new.length n') (Nat.min_le_left _ _)
   have ht:new.take (Nat.min new.length n')=new.take n':=by
    rw[←asH,List.length_take,←aMd,aMr]
   rw[ht] at h6
   have PT:∀x∈new.take n',(aB x).length=e:=fun x hx=>h2 x (aMb hx)
   have Cn:((new.take n').flatMap aB).all bP=true:=by
    rw[aLs] at h3 ⊢
    intro x hx
    obtain⟨y,hy,CT⟩:=aMg.1 hx
    exact h3 x (aMg.2 ⟨y,aMb hy,CT⟩)
   obtain⟨V',k1,k2,k3,k4⟩:=QX hS hr eT Bn PT Cn h6
   refine⟨.int .i64 (Nat.min new.length n'),V',?_,k2,k3,k4,?_⟩
   ·unfold copyV
    simp only[h1,h5,k1]
    rfl
   ·rw[asH]
    exact .sc _ rfl
 ·cases h
theorem Wj (hS:SR V lo fA) {x:VV} {u:Value} {z:List Value} {H':aA} (hx:VR V x u) (h:Tn lo z x V.H=some H'):iS lo fA V (S4 fA z u V.P) tJ H':=by
 unfold Tn at h
 split at h
 case h_2=>cases h
 rename_i b g o n c
 split at h
 case h_2=>cases h
 rename_i es e hr
 rw[dH] at hr
 cases hx with
 |
  ref b g o n c a n' c' bH hg ha hq =>
  obtain⟨rfl,rfl,rfl⟩:=ha _ _ _ hr
  unfold S4
  simp only
  split at h
  ·rename_i h0
   cases h
   rw[if_pos h0]
   exact iS.same hS (.eH [] [] .nil)
  ·rename_i h0
   rw[if_neg h0]
   split at h
   case isFalse=>cases h
   rename_i hc
   obtain⟨rfl,eT,Bn,hz⟩:=hc
   cases h
   have PT:∀x∈aL4 n' (elemOf (z.map kR)),(aB x).length=z.length:=fun x hx=>by rw[aMp hx];exact F8 hz
   obtain⟨V',k1,k2,k3,k4⟩:=QX hS hr eT (nw:=aL4 n' (elemOf (z.map kR))) (by simpa using Bn) PT (Dd (by
    rw[aLs]
    intro x hx
    rw[aMp hx,qF hz]
    exact hz)) (DQ hz n')
   refine⟨undef,V',?_,k2,k3,k4,.eH [] [] .nil⟩
   rw[k1]
   rfl
end
end Go.PM
namespace Go.PM
section
variable {V:View} {lo fA:Nat} {ρ:cV} {mI:Env}
theorem W7 {x v:VV} {u:Value} {neg:Bool} (hx:VR V x u) (h:HT neg x V.H=some v):∃w,ahL neg u=some w∧VR V v w:=by
 unfold HT at h
 split at h
 ·cases h
  cases hx with
  | tree es k b o c r e p hF hb ho hc he hk hl=>exact hk.elim
  | pY=>exact⟨_,rfl,.sc _ rfl⟩
 ·cases h
  cases hx with
  | pY k hk=>rcases hk with hk | hk<;>cases hk
  | tree=>exact⟨_,rfl,.sc _ rfl⟩
 ·cases h
  cases hx with
  | tree=>exact⟨_,rfl,.sc _ rfl⟩
 ·obtain⟨⟨es,e,w⟩,hr,rfl⟩:=cQ h
  rw[dH] at hr
  cases hx with
  |
   ref b g o n c a n' c' bH hg ha hq =>
   obtain⟨rfl,rfl,rfl⟩:=ha _ _ _ hr
   exact⟨_,rfl,.sc _ rfl⟩
 ·cases h
theorem afE {x v:VV} {u:Value} (hx:VR V x u) (h:pV x V.H=some v):∃w,aAf u=some w∧VR V v w:=by
 unfold pV at h
 split at h
 ·cases h
  cases hx<;>exact⟨_,rfl,.sc _ rfl⟩
 ·obtain⟨⟨es,e,w⟩,hr,rfl⟩:=cQ h
  rw[dH] at hr
  cases hx with
  |
   ref b g o n c a n' c' bH hg ha hq =>
   obtain⟨rfl,rfl,rfl⟩:=ha _ _ _ hr
   exact⟨_,rfl,.sc _ rfl⟩
 ·cases h
theorem UO {x v:VV} {u:Value} {off:Nat} (hx:VR V x u) (h:lR off x V.H=some v):∃w,akR off u=some w∧VR V v w:=by
 unfold lR at h
 split at h
 ·cases h
  cases hx with
  | cS x off b o r e p hF hb ho hl=>exact⟨_,rfl,by rw[aLq];exact .cS _ _ b o r e p hF hb ho hl⟩
 ·obtain⟨⟨es,e,w⟩,hr,rfl⟩:=cQ h
  rw[dH] at hr
  cases hx with
  |
   ptr b g j off a bH hg ha hq =>
   have:=ha _ _ _ hr
   subst this
   refine⟨_,rfl,.ptr _ _ _ _ _ bH hg (fun oY e' w' JB => ?_) fun a0 h=>by cases h;have:=hq _ rfl;exact this⟩
   rw[hr] at JB
   cases JB
   rw[aLq]
 ·cases h
theorem acI {x v:VV} {u:Value} (hx:VR V x u) (h:afS x V.H=some v):∃w,aA5 u=some w∧VR V v w:=by
 unfold afS at h
 split at h
 ·cases h
  cases hx with
  | cS x off b o r e p hF hb ho hl=>exact⟨_,rfl,.cS _ _ b o r e p hF hb ho hl⟩
 ·obtain⟨⟨es,e,w⟩,hr,rfl⟩:=cQ h
  rw[dH] at hr
  cases hx with
  |
   ptr b g j off a bH hg ha hq =>
   have:=ha _ _ _ hr
   subst this
   exact⟨_,rfl,.ptr _ _ _ _ _ bH hg ha hq⟩
 ·cases h
theorem XI {c a b v:VV} {u x y:Value} (hc:VR V c u) (ha:VR V a x) (hb:VR V b y) (h:Vh c a b=some v):∃t,u = .bool t∧VR V v (if t then x else y):=by
 unfold Vh at h
 split at h
 ·rename_i t
  cases h
  obtain⟨rfl,_⟩:=vH hc rfl
  refine⟨t,rfl,?_⟩
  cases t
  ·exact hb
  ·exact ha
 ·cases h
theorem aeP {x v:VV} {u:Value} {i:Nat} (hx:VR V x u) (h:anW i x=some v):∃w,awF i u=some w∧VR V v w:=by
 unfold anW at h
 split at h
 ·cases hx with
  |
   eH cs ps hl =>
   obtain⟨w,hw,hv⟩:=hl.get h
   exact⟨w,by simpa[awF] using hw,hv⟩
 ·cases h
theorem acO {x v:VV} {u:Value} {agg:Bool} {off size:Nat} (hx:VR V x u) (h:arQ agg off size x=some v):∃w,aqD agg off size u=some w∧VR V v w:=by
 unfold arQ at h
 split at h
 ·rename_i cs
  cases hx with
  |
   agg cs ps hl =>
   split at h
   ·rename_i ha
    split at h
    ·rename_i hs
     cases h
     refine⟨.agg ((ps.drop off).take size).toArray,?_,.agg _ _ ((hl.drop off).take size)⟩
     unfold aqD
     simp only[ha,if_true]
     rw[if_pos (by simpa[hl.length] using hs)]
     congr 2
     apply Array.ext'
     simp[List.extract_eq_take_drop]
    ·cases h
   ·rename_i ha
    obtain⟨w,hw,hv⟩:=hl.get h
    refine⟨w,?_,hv⟩
    unfold aqD
    simp only[ha]
    simpa using hw
 ·cases h
theorem Qk {ks:List CK}:∀ {xs ys:List VV} {us ws:List Value} {t:Bool},VL V xs us→VL V ys ws→uD ks xs ys=some t→tA ks us ws=some t:=by
 induction ks with
 |
  nil =>
  intro xs ys us ws t h1 h2 h
  cases h1 with
  |
   nil=>cases h2 with
   | nil=>exact h
   | cons=>simp[uD] at h
  | cons=>simp[uD] at h
 |
  cons k ks ih =>
  intro xs ys us ws t h1 h2 h
  cases h1 with
  | nil=>simp[uD] at h
  |
   cons x u xs us hx Nd=>cases h2 with
   | nil=>cases x<;>simp[uD] at h
   |
    cons y w ys ws hy hys =>
    cases hx with
    |
     sc _ _=>cases hy with
     |
      sc _ _ =>
      simp only[uD] at h
      simp only[tA]
      split at h
      ·rename_i h1
       rw[h1]
       exact ih Nd hys h
      ·rename_i h1
       rw[h1]
       exact h
      ·cases h
     | _=>simp[uD] at h
    | _=>simp[uD] at h
theorem Pq {places:List (Nat×Nat)}:∀ {parts:List (Nat×VV)} {CL:List (Nat×Value)} {cs CC:List VV} {r:List Value},VL V cs r→Xv V parts CL→BT places cs parts=some CC →
  ∃r',Aq places r CL=some r'∧VL V CC r'
 | [],_,cs,CC,r,hl,.nil,h=>by cases h;exact⟨r,rfl,hl⟩
 |
  (i,v)::parts,(_,w)::CL,cs,CC,r,hl,.cons hv hps,h=>by
  unfold BT at h
  unfold Aq
  split at h
  ·cases h
  ·rename_i off size Qc
   simp only[Qc]
   split at h
   case isFalse=>cases h
   rename_i hc
   have mN:=hv.cells (fun e=>by subst e;cases hc.2.2)
   rw[if_pos ⟨by rw[mN.length];exact hc.1,by rw[hl.length];exact hc.2.1⟩]
   exact Pq (((hl.take off).append mN).append (hl.drop _)) hps h
theorem MS:∀ {es:List VV} {r:List Value} {bs:List UInt8},VL V (es.flatMap aB) r→Lb es=some bs→xV r=some bs
 | [],_,bs,.nil,h=>h
 |
  x::es,r,bs,hl,h=>by
  unfold Lb at h
  split at h
  ·rename_i e;cases e
  ·rename_i n r' e
   cases e
   obtain⟨t,ht,rfl⟩:=cQ h
   rw[aL2] at hl
   cases hl with
   |
    cons _ u _ us hu hus =>
    obtain⟨rfl,_⟩:=vH hu rfl
    unfold xV
    rw[MS hus ht]
    rfl
  ·cases h
theorem lift {r:Option VV} {v:VV} {H':aA} {s:Option (Value×aH)} (h:r.map (·,V.H)=some (v,H')) (k:r=some v→iS lo fA V s v V.H):iS lo fA V s v H':=by
 obtain⟨a,ha,he⟩:=cQ h
 cases he
 exact k ha
theorem aeV (hS:SR V lo fA) (hE:ER V ρ mI) {fl:Fl} {o:qN} {v:VV} {H':aA} {q:Bool} (h:vop fl lo o ρ V.H=some (v,H')):iS lo fA V (lS fA q o mI V.P) v H':=by
 cases o<;>simp only[vop] at h
 case mv x=>cases h;rw[arR];exact iS.same hS (hE.ev x)
 case pick c a b =>
  refine lift h fun h => ?_
  obtain⟨t,ht,hv⟩:=XI (hE.ev c) (hE.ev a) (hE.ev b) h
  rw[aeI,ht]
  exact iS.same hS hv
 case bin op x y=>rw[aoM];exact lift h fun h=>Dr (f:=dO op) hS (fun _ _ _=>akW) (hE.ev x) (hE.ev y) h
 case eqb neg x y=>rw[alZ];exact lift h fun h=>Dr (f:=NZ neg) hS (fun _ _ _=>ajE) (hE.ev x) (hE.ev y) h
 case isnil neg x =>
  rw[Yk]
  refine lift h fun h => ?_
  obtain⟨w,h1,h2⟩:=W7 (hE.ev x) h
  exact iS.pure hS h1 h2
 case eqagg neg ks x y =>
  rw[Ya]
  refine lift h fun h => ?_
  unfold Yw at h
  split at h
  case h_2=>cases h
  rename_i a b hx hy
  obtain⟨t,ht,rfl⟩:=cQ h
  have h1:=hE.ev x
  have h2:=hE.ev y
  rw[hx] at h1
  rw[hy] at h2
  generalize ev mI x=u at h1 ⊢
  generalize ev mI y=w at h2 ⊢
  cases h1 with
  |
   agg cs ps h1=>cases h2 with
   |
    agg CC ps' h2 =>
    refine iS.pure hS (pv := .bool (t != neg)) ?_ (.sc _ rfl)
    unfold ajV
    simp only
    rw[Qk h1 h2 ht]
    rfl
 case un op x=>rw[arO];exact lift h fun h=>GG (f:=pun op) hS (fun _ _=>asZ) (hE.ev x) h
 case cvt k x=>rw[aiQ];exact lift h fun h=>GG (f:=Xq k) hS (fun _ _=>amN) (hE.ev x) h
 case cvs x =>
  have e:lS fA q (.cvs x) mI V.P=(acH (ev mI x)).map (·,V.P):=dW rfl
  rw[e];exact lift h fun h=>GG (f:=acH) hS (fun _ _=>akZ) (hE.ev x) h
 case ext x i =>
  rw[aoU]
  refine lift h fun h => ?_
  obtain⟨w,h1,h2⟩:=aeP (hE.ev x) h
  exact iS.pure hS h1 h2
 case fld agg off size x =>
  rw[amY]
  refine lift h fun h => ?_
  obtain⟨w,h1,h2⟩:=acO (hE.ev x) h
  exact iS.pure hS h1 h2
 case build zero places parts =>
  obtain⟨cs,OQ,he⟩:=cQ h
  cases he
  obtain⟨r,h1,h2⟩:=Pq (VL.zero zero) (KT hE parts) OQ
  rw[Yz,h1]
  exact iS.same hS (.agg _ _ h2)
 case chk x =>
  rw[aiA]
  refine lift h fun h => ?_
  obtain⟨w,h1,h2⟩:=acI (hE.ev x) h
  exact iS.pure hS h1 h2
 case faddr off x =>
  rw[Ys]
  refine lift h fun h => ?_
  obtain⟨w,h1,h2⟩:=UO (hE.ev x) h
  exact iS.pure hS h1 h2
 case iaddr size x i =>
  rw[Y4]
  refine lift h fun h => ?_
  obtain⟨w,h1,h2⟩:=Uz hS (hE.ev x) (hE.ev i) h
  exact iS.pure hS h1 h2
 case sidx x i =>
  have e:lS fA q (.sidx x i) mI V.P=(I3 (ev mI x) (ev mI i)).map (·,V.P):=dW rfl
  rw[e];exact lift h fun h=>Dr (f:=I3) hS (fun _ _ _=>adD) (hE.ev x) (hE.ev i) h
 case ssub x l h' =>
  refine lift h fun h => ?_
  unfold zW at h
  split at h
  case h_2=>cases h
  rename_i s lv hv hx h1 h2
  split at h
  case h_2=>cases h
  rename_i a b IV
  cases h
  obtain⟨e1,_⟩:=vH (hE.ev x) hx
  have e:lS fA q (.ssub x l h') mI V.P=some (.string (s.extract a b),V.P):=by
   rw[dW rfl]
   simp only[kA,e1]
   rw[De hE h1,De hE h2,IV]
   rfl
  rw[e]
  exact iS.same hS (.sc _ rfl)
 case mkfn f gU =>
  cases h
  rw[aeX]
  exact iS.same hS (.yV _ _ _ (hE.evs gU))
 case len x =>
  rw[aiN]
  refine lift h fun h => ?_
  obtain⟨w,h1,h2⟩:=afE (hE.ev x) h
  exact iS.pure hS h1 h2
 case slen x =>
  have e:lS fA q (.slen x) mI V.P=(Dw (ev mI x)).map (·,V.P):=dW rfl
  rw[e];exact lift h fun h=>GG (f:=Dw) hS (fun _ _=>acX) (hE.ev x) h
 case min x y=>rw[alR];exact lift h fun h=>Dr (f:=Um) hS (fun _ _ _=>ajH) (hE.ev x) (hE.ev y) h
 case max x y=>rw[alT];exact lift h fun h=>Dr (f:=Uh) hS (fun _ _ _=>anC) (hE.ev x) (hE.ev y) h
 case load agg size p =>
  rw[acJ]
  refine lift h fun h => ?_
  obtain⟨w,h1,h2⟩:=O6 hS (hE.ev p) h
  exact iS.pure hS h1 h2
 case sub size x l hh m =>
  rw[anU]
  exact lift h fun h=>acL hS hE (hE.ev x) h
 case b2s x =>
  split at h
  ·cases h
  rename_i y fN
  split at h
  case h_2=>cases h
  rename_i es Qt
  obtain⟨bs,hbs,he⟩:=cQ h
  cases he
  obtain⟨h1,h2,h3,h4⟩:=AJ hS (hE.ev x) Qt
  obtain⟨pn,h5,h6⟩:=h4 es.length (aLe _)
  rw[aMr] at h6
  have hb:=MS h6 hbs
  have hx:=hE.ev x
  have e:lS fA q (.b2s x) mI V.P=some (.string ⟨bs.toArray⟩,V.P):=by
   apply sP
   simp only[pop]
   generalize ev mI x=u at *
   cases u<;>first | (exfalso;simp[xG] at h1;done) | skip
   case string s =>
    generalize fE ρ x=y at *
    cases hx with
    | any=>simp[dG] at Qt
    | sc _ _=>exact absurd rfl (fN _)
   case slice a n c =>
    injection h1 with h1
    subst h1
    cases a with
    |
     none =>
     simp only[kU] at h5
     split at h5
     ·cases h5
      cases hb
      rfl
     ·cases h5
    |
     some a =>
     obtain⟨b,o,sp⟩:=a
     cases sp with
     | some s=>simp[kU] at h5
     |
      none =>
      simp only[kU,Nat.mul_one] at h5
      simp only[h5,hb]
      rfl
  rw[e]
  exact iS.same hS (.sc _ rfl)
 case new zero =>
  split at h
  case isFalse=>cases h
  rename_i hz
  cases h
  rw[aoP]
  exact adX hS hz
 case box x =>
  split at h
  case isFalse=>cases h
  rename_i hs
  rw[aoW]
  exact abY hS (hE.ev x) hs h
 case make zero bytes l c =>
  split at h
  case isFalse=>cases h
  rename_i hz
  rw[abX]
  exact YJ hS hz (hE.ev l) (hE.ev c) h
 case lit zero n parts =>
  rw[akP]
  exact aeG hS (KT hE parts) h
 case store size p x =>
  obtain⟨a,ha,he⟩:=cQ h
  cases he
  rw[YZ]
  exact VC hS (hE.ev p) (hE.ev x) ha
 case app size bytes x y =>
  split at h
  case h_2=>cases h
  rename_i new hn
  obtain⟨h1,h2,h3,h4⟩:=AJ hS (hE.ev y) hn
  obtain⟨pn,h5,h6⟩:=h4 new.length (aLe _)
  rw[aMr] at h6
  rw[aiU]
  unfold ayF
  simp only[h1,h5]
  exact Jd hS (hE.ev x) h2 h3 h6 h
 case appz zero bytes x n =>
  split at h
  case h_2=>cases h
  rename_i k hk
  split at h
  case isFalse=>cases h
  rename_i hc
  obtain⟨e1,_⟩:=vH (hE.ev n) hk
  have PT:∀x∈aL4 k.toNat (elemOf (zero.map kR)),(aB x).length=zero.length:=fun x hx=>by rw[aMp hx];exact F8 hc.2.2
  have:=Jd hS (hE.ev x) PT (Dd (by
    rw[aLs]
    intro x hx
    rw[aMp hx,qF hc.2.2]
    exact hc.2.2)) (DQ hc.2.2 _) h
  rw[List.length_replicate] at this
  rw[acM]
  unfold aiJ
  rw[e1]
  simp only[if_pos (show 0≤k∧k*(bytes:Int)≤140737488355328 from⟨hc.1,hc.2.1⟩)]
  exact this
 case copy size x y =>
  rw[acD]
  exact Yv hS (hE.ev x) (hE.ev y) h
 case clear zero x =>
  obtain⟨a,ha,he⟩:=cQ h
  cases he
  rw[X0]
  exact Wj hS (hE.ev x) ha
 all_goals cases h
end
end Go.PM
namespace Go.PM
def bare (F:Nat→Prop) (P:aH):View:=⟨fun _=>0,F,[],P,0⟩
theorem C3 {es:List VV}:aO es=true↔∀x∈es,aY x=true:=by
 induction es with
 | nil=>simp[aO]
 | cons x xs ih=>simp[aO,ih]
theorem FV {x:VV} (h:aY x=true):aO (aB x)=true:=by
 unfold aB
 split
 ·simpa[aY] using h
 ·simp[aO,h]
theorem Pt {es:List VV} (h:aO es=true):aO (es.flatMap aB)=true:=by
 rw[C3] at h ⊢
 intro x hx
 obtain⟨y,hy,CT⟩:=aMg.1 hx
 exact C3.1 (FV (h y hy)) x CT
theorem Lq {es:List VV} {k:TK} (h:aY (.tree es k)=true):k = .op∧aO es=true∧uni es=true:=by
 simp only[aY,aLM,decide_eq_true_eq] at h
 exact⟨h.1.1,h.1.2,h.2⟩
theorem Mj {x:VV} (h:aY x=true):x ≠ .any:=by
 rintro rfl
 cases h
theorem atE {es:List VV} (h:uni es=true):∃e,∀x∈es,(aB x).length=e:=by
 cases es with
 | nil=>exact⟨0,fun x hx=>by cases hx⟩
 |
  cons x xs =>
  refine⟨(aB x).length,fun y hy => ?_⟩
  rcases aMs.1 hy with rfl | hy
  ·rfl
  ·have:=aLs.1 h y hy
   simpa using this
section
variable {V V':View}
theorem VR.pure {x:VV} {v:Value} (hF:∀b,V.F b→V'.F b∧V'.P[b]? = V.P[b]?) (h:VR V x v):aY x=true→VR V' x v:=by
 induction h using VR.rec (motive_2:=fun xs vs _=>aO xs=true→VL V' xs vs) with
 | any=>intro hp;cases hp
 | sc _ h=>intro _;exact .sc _ h
 | agg cs ps _ ih=>intro hp;exact .agg _ _ (ih hp)
 | eH cs ps _ ih=>intro hp;exact .eH _ _ (ih hp)
 | pY k hk=>intro _;exact .pY k hk
 | tree es k b o c r e p Yb hb ho hc he hk _ ih=>intro hp;exact .tree es k b o c r e p (hF _ Yb).1 (by rw[(hF _ Yb).2];exact hb) ho hc he hk (ih (Pt (Lq hp).2.1))
 | cS x off b o r e p Yb hb ho _ ih=>intro hp;exact .cS x off b o r e p (hF _ Yb).1 (by rw[(hF _ Yb).2];exact hb) ho (ih (FV hp))
 | ref=>intro hp;cases hp
 | ptr=>intro hp;cases hp
 | yV f gU ps _ ih=>intro hp;exact .yV _ _ _ (ih hp)
 | nil=>exact .nil
 |
  cons x v xs vs _ _ ih X5 =>
  rename_i hp
  simp only[aO,aLM] at hp
  exact .cons _ _ _ _ (ih hp.1) (X5 hp.2)
theorem VL.pure {xs:List VV} {vs:List Value} (hF:∀b,V.F b→V'.F b∧V'.P[b]? = V.P[b]?) (h:VL V xs vs) (hp:aO xs=true):VL V' xs vs:=by
 induction xs generalizing vs with
 | nil=>cases h;exact .nil
 |
  cons x xs ih=>cases h with
  |
   cons _ v _ vs h hs =>
   simp only[aO,aLM] at hp
   exact .cons _ _ _ _ (h.pure hF hp.1) (ih hs hp.2)
theorem VL.flatten {es:List VV} {ps:List Value} (h:VL V es ps) (hp:aO es=true):VL V (es.flatMap aB) (ps.flatMap aV):=by
 induction es generalizing ps with
 | nil=>cases h;exact .nil
 |
  cons x xs ih =>
  cases h with
  |
   cons _ v _ vs h hs =>
   simp only[aO,aLM] at hp
   rw[aL2,aL2]
   exact(h.cells (Mj hp.1)).append (ih hs hp.2)
theorem So {P P':aH} (h:P <+: P'):∀b,(bare (· < P.length) P).F b→(bare (· < P'.length) P').F b∧(bare (· < P'.length) P').P[b]? = (bare (· < P.length) P).P[b]? := by
 intro b hb
 obtain⟨L,rfl⟩:=h
 have xR:b<P.length:=hb
 exact⟨by show b<(P++L).length;simp;omega,aLv xR⟩
mutual
theorem real (x:VV) (hp:aY x=true) (P:aH):∃P' pv,P <+: P'∧VR (bare (· < P'.length) P') x pv:=by
 cases x with
 | any=>cases hp
 | sc v=>exact⟨P,v,List.prefix_refl _,.sc v hp⟩
 |
  agg cs =>
  obtain⟨P',ps,h1,h2⟩:=R9 cs hp P
  exact⟨P',_,h1,.agg _ _ h2⟩
 |
  eH cs =>
  obtain⟨P',ps,h1,h2⟩:=R9 cs hp P
  exact⟨P',_,h1,.eH _ _ h2⟩
 |
  tree es k =>
  obtain⟨rfl,h1,h2⟩:=Lq hp
  obtain⟨P',ps,h3,h4⟩:=R9 es h1 P
  obtain⟨e,he⟩:=atE h2
  have h5:=h4.flatten h1
  have hl:=h5.length
  rw[mM he] at hl
  have CW:P' <+: P'++[QG.row (ps.flatMap aV) e false]:=List.prefix_append _ _
  refine⟨_,.slice (some ⟨P'.length,0,none⟩) es.length es.length,h3.trans CW,?_⟩
  refine .tree es .op P'.length 0 es.length (ps.flatMap aV) e false (show P'.length<(P'++[QG.row (ps.flatMap aV) e false]).length by simp) (by show (P'++[QG.row (ps.flatMap aV) e false])[P'.length]? = _;simp) (by omega) (aLe _) he trivial ?_
  rw[aMq,aL7 (by omega)]
  exact VL.pure (So CW) h5 (Pt h1)
 |
  cS x off =>
  obtain⟨P',pv,h3,h4⟩:=real x hp P
  have h5:=h4.cells (Mj hp)
  have CW:P' <+: P'++[QG.row (aV pv) (aV pv).length false]:=List.prefix_append _ _
  refine⟨_,.pointer (some ⟨P'.length,0+off,none⟩),h3.trans CW,?_⟩
  refine .cS x off P'.length 0 (aV pv) (aV pv).length false (show P'.length<(P'++[QG.row (aV pv) (aV pv).length false]).length by simp) (by show (P'++[QG.row (aV pv) (aV pv).length false])[P'.length]? = _;simp) (by rw[h5.length];omega) ?_
  rw[aMq,aL7 (by rw[h5.length];exact aLe _)]
  exact VL.pure (So CW) h5 (FV hp)
 | ref=>cases hp
 | ptr=>cases hp
 |
  yV f gU =>
  obtain⟨P',ps,h1,h2⟩:=R9 gU hp P
  exact⟨P',_,h1,.yV _ _ _ h2⟩
theorem R9 (xs:List VV) (hp:aO xs=true) (P:aH):∃P' ps,P <+: P'∧VL (bare (· < P'.length) P') xs ps:=by
 cases xs with
 | nil=>exact⟨P,[],List.prefix_refl _,.nil⟩
 |
  cons x xs =>
  simp only[aO,aLM] at hp
  obtain⟨P1,pv,h1,h2⟩:=real x hp.1 P
  obtain⟨P2,ps,h3,h4⟩:=R9 xs hp.2 P1
  exact⟨P2,pv::ps,h1.trans h3,.cons _ _ _ _ (h2.pure (So h3) hp.1) h4⟩
end
theorem OX {es:List VV}:rE es=true↔∀x∈es,gV x=true:=by
 induction es with
 | nil=>simp[rE]
 | cons x xs ih=>simp[rE,ih]
theorem Ft {es:List VV} {k:TK} (h:gV (.tree es k)=true):k = .op∧rE es=true∧uni es=true∧es.all CH=true:=by
 simp only[gV,aLM,decide_eq_true_eq] at h
 exact⟨h.1.1.1,h.1.1.2,h.1.2,h.2⟩
theorem XW {x:VV} (h:gV x=true):rE (aB x)=true:=by
 unfold aB
 split
 ·simpa[gV] using h
 ·simp[rE,h]
theorem Q9 {es:List VV} (h:rE es=true):rE (es.flatMap aB)=true:=by
 rw[OX] at h ⊢
 intro x hx
 obtain⟨y,hy,CT⟩:=aMg.1 hx
 exact OX.1 (XW (h y hy)) x CT
mutual
theorem UB (x:VV) (h:gV x=true):aY x=true:=by
 cases x with
 | sc v=>exact h
 | agg cs=>exact GN cs h
 | eH cs=>exact GN cs h
 |
  tree es k =>
  obtain⟨h1,h2,h3,_⟩:=Ft h
  simp[aY,h1,GN es h2,h3]
 | any=>cases h
 | cS=>cases h
 | ref=>cases h
 | ptr=>cases h
 | yV=>cases h
theorem GN (xs:List VV) (h:rE xs=true):aO xs=true:=by
 cases xs with
 | nil=>rfl
 |
  cons x xs =>
  simp only[rE,aLM] at h
  simp[aO,UB x h.1,GN xs h.2]
end
theorem Wu {e:Nat}:∀ {es oY:List VV},(∀x∈es,(aB x).length=e)→(∀x∈oY,(aB x).length=e)→es.all CH=true→oY.all CH=true→es.length=oY.length→es.flatMap aB=oY.flatMap aB→es=oY
 | [],[],_,_,_,_,_,_=>rfl
 |
  x::es,y::oY,h1,h2,h3,h4,hl,h=>by
  rw[aL2,aL2] at h
  have hx:=h1 x aLO
  have hy:=h2 y aLO
  obtain⟨e1,e2⟩:=List.append_inj h (by omega)
  simp only[aL6,aLM] at h3 h4
  have CT:x=y:=by
   have g1:=h3.1
   have g2:=h4.1
   unfold aB at e1
   split at e1<;>split at e1
   ·rw[e1]
   ·rename_i cs _ _
    subst e1
    cases g1
   ·rename_i cs
    subst e1
    cases g2
   ·injection e1
  rw[CT,Wu (fun z hz=>h1 z (aLN _ hz)) (fun z hz=>h2 z (aLN _ hz)) h3.2 h4.2 (by simpa using hl) e2]
theorem VR.uniq {x y:VV} {v:Value} (h:VR V x v) (h':VR V y v) (hx:gV x=true) (hy:gV y=true):x=y:=by
 induction h using VR.rec (motive_2:=fun xs vs _=>∀ys,VL V ys vs→rE xs=true→rE ys=true→xs=ys) generalizing y with
 | any=>cases hx
 |
  sc _ h=>cases h' with
  | sc _ _=>rfl
  | any=>cases hy
  | agg=>cases h
  | eH=>cases h
  | pY=>cases h
  | tree=>cases h
  | cS=>cases hy
  | ref=>cases hy
  | ptr=>cases hy
  | yV=>cases hy
 |
  agg cs ps h ih=>generalize hw:Value.agg ps.toArray=w at h';cases h' with
  | sc _ h'=>subst hw;cases h'
  | any=>cases hy
  |
   agg CC ps' h' =>
   injection hw with hw
   have:ps=ps':=by simpa using hw
   subst this
   rw[ih _ h' hx hy]
  | eH=>cases hw
  | pY=>cases hw
  | tree=>cases hw
  | cS=>cases hy
  | ref=>cases hy
  | ptr=>cases hy
  | yV=>cases hy
 |
  eH cs ps h ih=>generalize hw:Value.tuple ps.toArray=w at h';cases h' with
  | sc _ h'=>subst hw;cases h'
  | any=>cases hy
  |
   eH CC ps' h' =>
   injection hw with hw
   have:ps=ps':=by simpa using hw
   subst this
   rw[ih _ h' hx hy]
  | agg=>cases hw
  | pY=>cases hw
  | tree=>cases hw
  | cS=>cases hy
  | ref=>cases hy
  | ptr=>cases hy
  | yV=>cases hy
 |
  pY k hk =>
  obtain⟨rfl,_⟩:=Ft hx
  generalize hw:Value.slice none 0 0=w at h'
  cases h' with
  | sc _ h'=>subst hw;cases h'
  | any=>cases hy
  | pY k' hk'=>obtain⟨rfl,_⟩:=Ft hy;rfl
  | agg=>cases hw
  | eH=>cases hw
  | tree=>cases hw
  | cS=>cases hy
  | ref=>cases hy
  | ptr=>cases hy
  | yV=>cases hy
 |
  tree es k b o c r e p hF hb ho hc he hk hl ih =>
  obtain⟨rfl,hx1,hx2,hx3⟩:=Ft hx
  generalize hw:Value.slice (some ⟨b,o,none⟩) es.length c=w at h'
  cases h' with
  | sc _ h'=>subst hw;cases h'
  | any=>cases hy
  | pY=>cases hw
  | agg=>cases hw
  | eH=>cases hw
  |
   tree oY k' b' o' c' r' e' p' hF' xR ho' W8 he' hk' FA =>
   obtain⟨rfl,hy1,hy2,hy3⟩:=Ft hy
   injection hw with h1 h2 h3
   injection h1 with h1
   injection h1 with h1 h4
   subst h1 h3 h4
   rw[hb] at xR
   injection xR with xR
   injection xR with g1 g2 g3
   subst g1 g2 g3
   rw[←h2] at FA
   rw[Wu he he' hx3 hy3 h2 (ih _ FA (Q9 hx1) (Q9 hy1))]
  | cS=>cases hy
  | ref=>cases hy
  | ptr=>cases hy
  | yV=>cases hy
 | cS=>cases hx
 | ref=>cases hx
 | ptr=>cases hx
 | yV=>cases hx
 | nil=>rename_i h' _ _;cases h';rfl
 |
  cons x v xs vs _ _ ih X5 =>
  rename_i ys h' hx hy
  cases h' with
  |
   cons y _ ys _ h' hs' =>
   simp only[rE,aLM] at hx hy
   rw[ih h' hx.1 hy.1,X5 _ hs' hx.2 hy.2]
end
end Go.PM
namespace Go.PM
section
variable {V:View} {lo fA:Nat}
theorem rQ {α β:Type} {f:α→Option β} {x:α} {xs:List α} {r:List β} (h:(x::xs).mapM f=some r):∃y ys,f x=some y∧xs.mapM f=some ys∧r=y::ys:=by
 rw[List.mapM_cons] at h
 cases hx:f x with
 | none=>rw[hx] at h;cases h
 |
  some y =>
  rw[hx] at h
  cases hs:xs.mapM f with
  | none=>rw[hs] at h;cases h
  | some ys=>rw[hs] at h;cases h;exact⟨y,ys,rfl,rfl,rfl⟩
theorem Bc {α β:Type} {f:α→Option β}:∀ {xs:List α} {r:List β},xs.mapM f=some r→r.length=xs.length
 | [],r,h=>by cases h;rfl
 |
  x::xs,r,h=>by
  obtain⟨y,ys,_,h2,rfl⟩:=rQ h
  simp[Bc h2]
theorem Z8 {d:Nat} {H:aA} {x x':VV} (h:fz d H x=some x'):(∃cs CC,x = .agg cs∧x' = .agg CC∧CC.length=cs.length)∨(aB x=[x]∧aB x'=[x']):=by
 cases d with
 | zero=>cases h
 |
  succ d =>
  unfold fz at h
  split at h
  ·cases h
   cases x with
   | agg cs=>exact .inl ⟨cs,cs,rfl,rfl,rfl⟩
   | _=>exact .inr ⟨rfl,rfl⟩
  ·split at h
   ·obtain⟨CC,h1,rfl⟩:=cQ h
    exact .inl ⟨_,_,rfl,rfl,Bc h1⟩
   ·obtain⟨CC,h1,rfl⟩:=cQ h;exact .inr ⟨rfl,rfl⟩
   ·obtain⟨CC,h1,rfl⟩:=cQ h;exact .inr ⟨rfl,rfl⟩
   ·obtain⟨CC,h1,rfl⟩:=cQ h;exact .inr ⟨rfl,rfl⟩
   ·split at h
    ·split at h
     ·obtain⟨CC,h1,rfl⟩:=cQ h;exact .inr ⟨rfl,rfl⟩
     ·cases h
    ·cases h
   ·split at h
    ·split at h
     ·obtain⟨CC,h1,rfl⟩:=cQ h;exact .inr ⟨rfl,rfl⟩
     ·cases h
    ·cases h
   ·obtain⟨CC,h1,rfl⟩:=cQ h;exact .inr ⟨rfl,rfl⟩
   ·cases h
theorem TH {d:Nat} {H:aA} {x x':VV} (h:fz d H x=some x'):(aB x').length=(aB x).length:=by
 rcases Z8 h with⟨cs,CC,rfl,rfl,h'⟩ | ⟨h1,h2⟩
 ·exact h'
 ·rw[h1,h2];rfl
def QW (V:View) (G:Nat→Prop) (ids:List Nat):Prop:=∀i∈ids,∀g es e w,V.H[i]? = some (.row g es e w)→G (V.m i)
theorem O9 (hS:SR V lo fA) {G:Nat→Prop} (hG:∀q,V.F q→G q):∀(d:Nat) (v v':VV) (pv:Value),VR V v pv→fz d V.H v=some v'→QW V G (iX d V.H v)→VR (bare G V.P) v' pv:=by
 have hFG:∀b,V.F b→(bare G V.P).F b∧(bare G V.P).P[b]? = V.P[b]? := fun b hb=>⟨hG b hb,rfl⟩
 intro d
 induction d with
 | zero=>intro v v' pv _ h;cases h
 |
  succ d ih =>
  have ihL:∀(xs LB:List VV) (ps:List Value),VL V xs ps→xs.mapM (fz d V.H)=some LB→QW V G (xs.flatMap (iX d V.H))→VL (bare G V.P) LB ps:=by
   intro xs
   induction xs with
   | nil=>intro LB ps hl h _;cases h;cases hl;exact .nil
   |
    cons x xs ihx =>
    intro LB ps hl h hi
    obtain⟨y,ys,h1,h2,rfl⟩:=rQ h
    cases hl with
    |
     cons _ v _ vs hx Nd =>
     exact .cons _ _ _ _ (ih x y v hx h1 fun i qK=>hi i (by rw[aL2];exact aMt _ qK)) (ihx ys vs Nd h2 fun i qK=>hi i (by rw[aL2];exact aMu _ qK))
  have ihC:∀(x x':VV) (ps:List Value),VL V (aB x) ps→fz d V.H x=some x'→QW V G (iX d V.H x)→VL (bare G V.P) (aB x') ps:=by
   intro x x' ps hl h hi
   rcases Z8 h with⟨cs,CC,rfl,rfl,mN⟩ | ⟨h1,h2⟩
   ·have:=ih _ _ (.agg ps.toArray) (.agg _ _ hl) h hi
    generalize hw:Value.agg ps.toArray=w at this
    cases this with
    |
     agg _ ps' FA =>
     injection hw with hw
     have:ps=ps':=by simpa using hw
     subst this
     exact FA
   ·rw[h1] at hl
    rw[h2]
    cases hl with
    |
     cons _ v _ vs hx Nd =>
     cases Nd
     exact .cons _ _ _ _ (ih _ _ _ hx h hi) .nil
  have ihF:∀(xs LB:List VV) (ps:List Value),VL V (xs.flatMap aB) ps→xs.mapM (fz d V.H)=some LB→QW V G (xs.flatMap (iX d V.H))→VL (bare G V.P) (LB.flatMap aB) ps:=by
   intro xs
   induction xs with
   | nil=>intro LB ps hl h _;cases h;cases hl;exact .nil
   |
    cons x xs ihx =>
    intro LB ps hl h hi
    obtain⟨y,ys,h1,h2,rfl⟩:=rQ h
    rw[aL2] at hl ⊢
    have hlen:=hl.length
    have a1:=hl.take (aB x).length
    have a2:=hl.drop (aB x).length
    rw[List.take_left] at a1
    rw[List.drop_left] at a2
    rw[←aMn (aB x).length ps]
    exact(ihC x y _ a1 h1 fun i qK=>hi i (by rw[aL2];exact aMt _ qK)).append (ihx ys _ a2 h2 fun i qK=>hi i (by rw[aL2];exact aMu _ qK))
  have aCd:∀(xs LB:List VV) (e:Nat),xs.mapM (fz d V.H)=some LB→(∀x∈xs,(aB x).length=e)→∀x∈LB,(aB x).length=e:=by
   intro xs
   induction xs with
   | nil=>intro LB e h _ x hx;cases h;cases hx
   |
    cons x xs ihx =>
    intro LB e h he z hz
    obtain⟨y,ys,h1,h2,rfl⟩:=rQ h
    rcases aMs.1 hz with rfl | hz
    ·rw[TH h1];exact he x aLO
    ·exact ihx ys e h2 (fun w hw=>he w (aLN _ hw)) z hz
  intro v v' pv hv h hi
  unfold fz at h
  unfold iX at hi
  split at h
  ·rename_i hp
   cases h
   exact hv.pure hFG hp
  ·rename_i hp
   rw[if_neg hp] at hi
   split at h
   ·obtain⟨CC,h1,rfl⟩:=cQ h
    cases hv with
    | agg cs ps hl=>exact .agg _ _ (ihL _ _ _ hl h1 hi)
   ·obtain⟨CC,h1,rfl⟩:=cQ h
    cases hv with
    | eH cs ps hl=>exact .eH _ _ (ihL _ _ _ hl h1 hi)
   ·obtain⟨CC,h1,rfl⟩:=cQ h
    cases hv with
    | pY k hk=>cases h1;exact .pY _ (.inl rfl)
    |
     tree es k b o c r e p hF hb ho hc he hk hl =>
     have hlen:=Bc h1
     have:=VR.tree (V:=bare G V.P) CC .op b o c r e p (hG b hF) hb (by rw[hlen];exact ho) (by rw[hlen];exact hc) (aCd _ _ _ h1 he) trivial (by rw[hlen];exact ihF _ _ _ hl h1 hi)
     rw[hlen] at this
     exact this
   ·obtain⟨x',h1,rfl⟩:=cQ h
    cases hv with
    |
     cS x off b o r e p hF hb ho hl =>
     have hlen:=TH h1
     exact .cS x' _ b o r e p (hG b hF) hb (by rw[hlen];exact ho) (by rw[hlen];exact ihC _ _ _ hl h1 hi)
   ·rename_i b g o n c
    split at h
    case h_2=>cases h
    rename_i es e w hr
    simp only[hr] at hi
    rw[dH] at hr
    split at h
    case isFalse=>cases h
    rename_i aES
    obtain⟨hon,E5⟩:=aES
    obtain⟨oY,h1,rfl⟩:=cQ h
    obtain⟨r,p,k1,k2,k3⟩:=hS.row b g es e w hr
    have B7:=k3.length
    rw[mM k2] at B7
    cases hv with
    |
     ref b g o n c a n' c' bH hg ha hq =>
     obtain⟨rfl,rfl,rfl⟩:=ha _ _ _ hr
     have anH:∀x∈(es.drop o).take n',(aB x).length=e:=fun x hx=>k2 x (aMc (aMb hx))
     have hn2:((es.drop o).take n').length=n':=by simp;omega
     have hlen:=Bc h1
     rw[hn2] at hlen
     have hm:(o+n')*e≤es.length*e:=aLF _ hon
     rw[aLJ] at hm
     have hl:VL V (((es.drop o).take n').flatMap aB) ((r.drop (o*e)).take (n'*e)):=by
      have h4:=(k3.drop (o*e)).take (n'*e)
      rw[xS k2,yP (fun x hx=>k2 x (aMc hx))] at h4
      exact h4
     have hGb:G (V.m b):=hi b aLO _ _ _ _ hr
     have:=VR.tree (V:=bare G V.P) oY .op (V.m b) (o*e) c' r e p hGb k1 (by rw[hlen];omega) (by rw[hlen];exact E5) (aCd _ _ _ h1 anH) trivial (by rw[hlen];exact ihF _ _ _ hl h1 fun i qK=>hi i (aLN _ qK))
     rw[hlen] at this
     exact this
   ·rename_i b g j o
    split at h
    case h_2=>cases h
    rename_i es e w hr
    simp only[hr] at hi
    rw[dH] at hr
    split at h
    case h_2=>cases h
    rename_i x hx
    simp only[hx] at hi
    obtain⟨x',h1,rfl⟩:=cQ h
    obtain⟨r,p,k1,k2,k3,k4⟩:=Pb hS hr hx
    cases hv with
    |
     ptr b g j off a bH hg ha hq =>
     have:=ha _ _ _ hr
     subst this
     have hlen:=TH h1
     exact .cS x' o (V.m b) (j*e) r e p (hi b aLO _ _ _ _ hr) k1 (by rw[hlen];exact k3) (by rw[hlen];exact ihC _ _ _ k4 h1 fun i qK=>hi i (aLN _ qK))
   ·obtain⟨CC,h1,rfl⟩:=cQ h
    cases hv with
    | yV f gU ps hl=>exact .yV _ _ _ (ihL _ _ _ hl h1 hi)
   ·cases h
theorem GR (hS:SR V lo fA) {G:Nat→Prop} (hG:∀q,V.F q→G q) {d:Nat}:∀ {xs LB:List VV} {ps:List Value},VL V xs ps→xs.mapM (fz d V.H)=some LB→QW V G (xs.flatMap (iX d V.H))→VL (bare G V.P) LB ps
 | [],LB,ps,hl,h,_=>by cases h;cases hl;exact .nil
 |
  x::xs,LB,ps,hl,h,hi=>by
  obtain⟨y,ys,h1,h2,rfl⟩:=rQ h
  cases hl with
  |
   cons _ v _ vs hx Nd =>
   exact .cons _ _ _ _ (O9 hS hG d x y v hx h1 fun i qK=>hi i (by rw[aL2];exact aMt _ qK)) (GR hS hG Nd h2 fun i qK=>hi i (by rw[aL2];exact aMu _ qK))
def View.dB (V:View) (ids:List Nat):View:=ids.foldl View.freeze V
theorem Ao:∀(ids:List Nat) {V:View},SR V lo fA→SR (V.dB ids) lo fA∧Hv lo V (V.dB ids)∧(V.dB ids).H=PM.dB V.H ids∧(V.dB ids).P=V.P∧(V.dB ids).m=V.m∧QW V (V.dB ids).F ids
 | [],V,hS=>⟨hS,Hv.refl _ _,rfl,rfl,rfl,fun i hi=>by cases hi⟩
 |
  i::ids,V,hS=>by
  obtain⟨h1,h2,h3⟩:=SY hS i
  obtain⟨g1,g2,g3,g4,g5,g6⟩:=Ao ids h1
  refine⟨g1,h2.trans g2,?_,g4.trans (amB V i),g5.trans (UP V i),?_⟩
  ·show ((V.freeze i).dB ids).H=_
   rw[g3,Vc]
   rfl
  ·intro k hk g es e w hr
   show ((V.freeze i).dB ids).F (V.m k)
   rcases aMs.1 hk with rfl | hk
   ·exact g2.F _ (h3 _ _ _ _ hr)
   ·have JB:∃g es e w,(V.freeze i).H[k]? = some (.row g es e w):=by
     rw[Vc]
     unfold Ep
     split
     ·rename_i g' oY e' w' hi
      by_cases hki:k=i
      ·subst hki
       exact⟨g',oY,e',false,aLC (aLd.1 hi).1⟩
      ·exact⟨g,es,e,w,by rw[aLD (Ne.symm hki)];exact hr⟩
     ·exact⟨g,es,e,w,hr⟩
    obtain⟨g',oY,e',w',JB⟩:=JB
    have:=g6 k hk _ _ _ _ JB
    rw[UP] at this
    exact this
end
end Go.PM