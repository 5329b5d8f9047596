/- Texts of a claim, in one: part 4. -/
import Derived.Test.YtodamlihdkalfaaGreatDoorKYc
set_option linter.unusedSimpArgs false
set_option linter.unusedVariables false
namespace Go.PM
inductive TK where
 | op
 | cl (e:Nat)
 | nil
 deriving DecidableEq
inductive VV where
 | any
 | sc (v:Value)
 | agg (cs:List VV)
 | dY (vs:List VV)
 | tree (es:List VV) (k:TK)
 | cO (x:VV) (off:Nat)
 | ref (b g o n c:Nat)
 | ptr (b g j off:Nat)
 | sY (f:Nat) (eY:List VV)
 deriving Inhabited
inductive cI where
 | dead
 | row (g:Nat) (es:List VV) (e:Nat) (w:Bool)
 deriving Inhabited
abbrev aA:=List cI
abbrev cM:=Nat→VV
def oQ:VV := .dY []
def jS:Value→Bool
 | .bool _ | .int _ _ | .string _ | .pointer none | .nilFunc | .nilIface=>true
 | _=>false
def iH:Value→VV
 | .slice none 0 0 => .tree [] .nil
 | v=>if jS v then .sc v else .any
def inj:Value→VV
 | .agg cs => .agg (cs.toList.map iH)
 | .tuple vs=>if vs.isEmpty then .dY [] else .any
 | v=>iH v
def dK (ρ:cM):Operand→VV
 | .tmp t=>ρ t
 | .const v=>inj v
 | .global _ => .any
 | .func f => .sY f []
def Ic (ρ:cM):Option Nat→VV→cM
 | none,_=>ρ
 | some d,v=>fun k=>if k=d then v else ρ k
def aB:VV→List VV
 | .agg cs=>cs
 | v=>[v]
def elemOf:List VV→VV
 | [x]=>x
 | cs => .agg cs
def bQ:VV→Bool
 | .any | .agg _ | .dY _=>false
 | _=>true
def uni:List VV→Bool
 | []=>true
 | x::xs=>xs.all fun y=>(aB y).length == (aB x).length
mutual
def aO:VV→Bool
 | .any=>false
 | .sc v=>jS v
 | .agg cs=>aL cs
 | .dY vs=>aL vs
 | .tree es k=>decide (k = .op)&&aL es&&uni es
 | .cO x _=>aO x
 | .ref .. => false
 | .ptr .. => false
 | .sY _ eY=>aL eY
def aL:List VV→Bool
 | []=>true
 | x::xs=>aO x&&aL xs
end
def yW:VV→Bool
 | .agg [_]=>false
 | _=>true
mutual
def gH:VV→Bool
 | .any=>false
 | .sc v=>jS v
 | .agg cs=>qI cs
 | .dY vs=>qI vs
 | .tree es k=>decide (k = .op)&&qI es&&uni es&&es.all yW
 | .cO _ _=>false
 | .ref .. => false
 | .ptr .. => false
 | .sY _ _=>false
def qI:List VV→Bool
 | []=>true
 | x::xs=>gH x&&qI xs
end
mutual
def J5:VV→Bool
 | .sc v=>jS v
 | .agg cs=>QB cs
 | .dY vs=>QB vs
 | _=>false
def QB:List VV→Bool
 | []=>true
 | x::xs=>J5 x&&QB xs
end
mutual
def below (k:Nat):VV→Bool
 | .any=>true
 | .sc _=>true
 | .agg cs=>kC k cs
 | .dY vs=>kC k vs
 | .tree es _=>kC k es
 | .cO x _=>below k x
 | .ref b _ _ _ _=>decide (b<k)
 | .ptr b _ _ _=>decide (b<k)
 | .sY _ eY=>kC k eY
def kC (k:Nat):List VV→Bool
 | []=>true
 | x::xs=>below k x&&kC k xs
end
def Hf (k:Nat) (v:VV):VV:=if below k v then v else .any
def aK (H:aA) (b g:Nat):Option (List VV×Nat×Bool) :=
 match H[b]? with
 | some (.row g' es e w)=>if g'=g then some (es,e,w) else none
 | _=>none
def oX:List CK→List VV→List VV→Option Bool
 | [],[],[]=>some true
 |
  k::ks,.sc x::xs,.sc y::ys=>match sG k x y with
  | some true=>oX ks xs ys
  | some false=>some false
  | none=>none
 | _,_,_=>none
def cK (cs:List VV) (o:Nat) (new:List VV):List VV:=cs.take o++new++cs.drop (o+new.length)
def isAny:VV→Bool
 | .any=>true
 | _=>false
def xI (places:List (Nat×Nat)) (cells:List VV):List (Nat×VV)→Option (List VV)
 | []=>some cells
 |
  (i,v)::rest =>
  match places[i]? with
  | none=>none
  |
   some (off,size) =>
   if (aB v).length=size∧off+size≤cells.length∧isAny v=false then
    xI places (cells.take off++aB v++cells.drop (off+size)) rest
   else none
def uU (e:Nat) (es:List VV):List (Nat×VV)→Option (List VV)
 | []=>some es
 | (i,v)::rest=>if i<es.length∧(aB v).length=e∧(aB v).all bQ then uU e (es.set i v) rest else none
def FH:Option VV→Option (Option Value)
 | none=>some none
 | some (.sc v)=>some (some v)
 | some _=>none
def dW (agg:Bool) (size:Nat) (x:VV) (o:Nat):Option VV :=
 if agg then (if o+size≤(aB x).length then some (.agg (((aB x).drop o).take size)) else none) else (aB x)[o]?
structure Fl where
 bf:Bool
 lr:Bool
def dG (agg:Bool) (size:Nat) (p:VV) (H:aA):Option VV :=
 match p with
 | .cO x o=>dW agg size x o
 |
  .ptr b g j o=>match aK H b g with
  |
   some (es,_,_)=>match es[j]? with
   | some x=>dW agg size x o
   | none=>none
  | none=>none
 | _=>none
def bC (size:Nat) (x i:VV) (H:aA):Option VV :=
 match x,i with
 |
  .tree es _,.sc (.int _ i)=>if 0≤i then match es[i.toNat]? with
  | some x=>if (aB x).length=size then some (.cO x 0) else none
  | none=>none
  else none
 |
  .ref b g o n _,.sc (.int _ i)=>match aK H b g with
  | some (_,e,_)=>if e=size∧0≤i∧i<n then some (.ptr b g (o+i.toNat) 0) else none
  | none=>none
 | _,_=>none
def Ee (size:Nat) (x:VV) (l h m:Option VV) (H:aA):Option VV :=
 match FH l,FH h,FH m with
 |
  some lv,some hv,some mv =>
  match x with
  |
   .tree (y::ys) _ =>
   if (aB y).length=size then
    match dV mv (some (ys.length+1)) (ys.length+1) with
    | none=>none
    |
     some m=>match dV hv (if mv.isSome then none else some (ys.length+1)) m with
     | none=>none
     |
      some h=>match dV lv (some 0) h with
      | none=>none
      | some l=>if mv.isSome∧m=l then some (.tree [] (.cl size)) else some (.tree (((y::ys).drop l).take (h-l)) .op)
   else none
  |
   .ref b g o n c =>
   match aK H b g with
   |
    some (_,e,_) =>
    if e=size then
     match dV mv (some c) c with
     | none=>none
     |
      some m=>match dV hv (if mv.isSome then none else some n) m with
      | none=>none
      |
       some h=>match dV lv (some 0) h with
       | none=>none
       | some l=>if mv.isSome∧m=l then some (.tree [] (.cl size)) else some (.ref b g (o+l) (h-l) (m-l))
    else none
   | none=>none
  | _=>none
 | _,_,_=>none
def Ge:List VV→Option (List UInt8)
 | []=>some []
 | .sc (.int .u8 n)::r=>(Ge r).map (UInt8.ofNat n.toNat :: ·)
 | _=>none
def dD (size:Nat) (y:VV) (H:aA):Option (List VV) :=
 match y with
 | .tree es _=>if es.all fun x=>(aB x).length == size&&(aB x).all bQ then some es else none
 |
  .ref b g o n _=>match aK H b g with
  | some (es,e,_)=>if e=size∧o+n≤es.length∧(((es.drop o).take n).all fun x=>(aB x).all bQ) then some ((es.drop o).take n) else none
  | none=>none
 | .sc (.string s)=>if size=1 then some (s.data.toList.map fun b => .sc (.int .u8 b.toNat)) else none
 | _=>none
def eJ (lo size bytes:Nat) (x:VV) (new:List VV) (H:aA):Option (VV×aA) :=
 if 1≤bytes∧1≤size then
  match x with
  | .tree [] .nil=>if new.length=0 then some (x,H) else if new.length*bytes≤140737488355328 then some (.ref H.length 0 0 new.length new.length,H++[.row 0 new size true]) else none
  | .tree es (.cl e)=>if e=size then (if new.length=0 then some (x,H) else if (es.length+new.length)*bytes≤140737488355328 then some (.ref H.length 0 0 (es.length+new.length) (es.length+new.length),H++[.row 0 (es++new) size true]) else none) else none
  |
   .ref b g o n c=>match aK H b g with
   |
    some (es,e,true) =>
    if e=size∧lo≤b∧o+n≤es.length then
     if n+new.length≤c then
      if new.length=0 then some (x,H)
      else if o+n+new.length≤es.length then some (.ref b g o (n+new.length) c,H.set b (.row g (cK es (o+n) new) e true))
      else none
     else if (n+new.length)*bytes≤140737488355328 then some (.ref b (g+1) 0 (n+new.length) (n+new.length),H.set b (.row (g+1) ((es.drop o).take n++new) e true))
     else none
    else none
   | _=>none
  | _=>none
 else none
def cJ (lo size:Nat) (p v:VV) (H:aA):Option aA :=
 match p with
 |
  .ptr b g j o=>match aK H b g with
  |
   some (es,e,true)=>match es[j]? with
   |
    some x =>
    if (aB v).length=size∧lo≤b∧(aB v).all bQ then
     if o=0∧size=e then some (H.set b (.row g (es.set j v) e true))
     else if 2≤e∧o+size≤e then some (H.set b (.row g (es.set j (.agg (cK (aB x) o (aB v)))) e true))
     else none
    else none
   | none=>none
  | _=>none
 | _=>none
def AA (zero:List Value) (bytes:Nat) (l c:VV) (H:aA):Option (VV×aA) :=
 match l,c with
 | .sc (.int .i64 l),.sc (.int .i64 c)=>if 0≤l∧l≤c∧c*bytes≤281474976710656∧c≤9223372036854775807 then
  some (.ref H.length 0 0 l.toNat c.toNat,H++[.row 0 (List.replicate c.toNat (elemOf (zero.map iH))) zero.length true]) else none
 | _,_=>none
def mV (lr:Bool) (zero:List Value) (n:Nat) (parts:List (Nat×VV)) (H:aA):Option (VV×aA) :=
 match uU zero.length (List.replicate n (elemOf (zero.map iH))) parts with
 | some es=>if (zero.map iH).all bQ then (if n=0∨lr=true then some (.ref H.length 0 0 n n,H++[.row 0 es zero.length true]) else some (.tree es (.cl zero.length),H)) else none
 | none=>none
def MN (lo size:Nat) (x y:VV) (H:aA):Option (VV×aA) :=
 match x,dD size y H with
 | .tree [] .nil,some _=>some (.sc (.int .i64 0),H)
 |
  .ref b g o d _,some new=>match aK H b g with
  | some (es,e,true)=>if e=size∧lo≤b∧o+(new.take d).length≤es.length then some (.sc (.int .i64 (new.take d).length),H.set b (.row g (cK es o (new.take d)) e true)) else none
  | _=>none
 | _,_=>none
def Nt (lo:Nat) (zero:List Value) (x:VV) (H:aA):Option aA :=
 match x with
 |
  .ref b g o n _=>match aK H b g with
  | some (es,e,true)=>if n=0 then some H else if e=zero.length∧lo≤b∧o+n≤es.length∧(zero.map iH).all bQ then some (H.set b (.row g (cK es o (List.replicate n (elemOf (zero.map iH)))) e true)) else none
  | _=>none
 | _=>none
def Ec (neg:Bool) (x:VV) (H:aA):Option VV :=
 match x with
 | .tree [] .nil=>some (.sc (.bool (true != neg)))
 | .tree [] (.cl _)=>some (.sc (.bool (false != neg)))
 | .tree (_::_) _=>some (.sc (.bool (false != neg)))
 | .ref b g _ _ _=>(aK H b g).map fun _ => .sc (.bool (false != neg))
 | _=>none
def nS (x:VV) (H:aA):Option VV :=
 match x with
 | .tree es _=>some (.sc (.int .i64 es.length))
 | .ref b g _ n _=>(aK H b g).map fun _ => .sc (.int .i64 n)
 | _=>none
def Gw (off:Nat) (x:VV) (H:aA):Option VV :=
 match x with
 | .cO x o=>some (.cO x (o+off))
 | .ptr b g j o=>(aK H b g).map fun _ => .ptr b g j (o+off)
 | _=>none
def Vh (x:VV) (H:aA):Option VV :=
 match x with
 | .cO x o=>some (.cO x o)
 | .ptr b g j o=>(aK H b g).map fun _ => .ptr b g j o
 | _=>none
def tN (x:VV) (l h:Option VV):Option VV :=
 match x,FH l,FH h with
 |
  .sc (.string s),some lv,some hv=>match xZ lv hv s.size with
  | some (l,h)=>some (.sc (.string (s.extract l h)))
  | none=>none
 | _,_,_=>none
def Z3 (agg:Bool) (off size:Nat) (x:VV):Option VV :=
 match x with
 | .agg cs=>if agg then (if off+size≤cs.length then some (.agg ((cs.drop off).take size)) else none) else cs[off]?
 | _=>none
def JR (f:Value→Option Value) (x:VV):Option VV :=
 match x with
 | .sc a=>(f a).map .sc
 | _=>none
def GY (f:Value→Value→Option Value) (x y:VV):Option VV :=
 match x,y with
 | .sc a,.sc b=>(f a b).map .sc
 | _,_=>none
def P9 (c a b:VV):Option VV :=
 match c with
 | .sc (.bool t)=>some (if t then a else b)
 | _=>none
def YR (i:Nat) (x:VV):Option VV :=
 match x with
 | .dY vs=>vs[i]?
 | _=>none
def Rf (neg:Bool) (ks:List CK) (x y:VV):Option VV :=
 match x,y with
 | .agg a,.agg b=>(oX ks a b).map fun t => .sc (.bool (t != neg))
 | _,_=>none
def U1:Value→Option Value
 | .string s=>some (.string s)
 | _=>none
def Ae:Value→Option Value
 | .string s=>some (.int .i64 s.size)
 | _=>none
def E2:Value→Value→Option Value
 | .string s,.int _ i=>if 0≤i∧i<s.size then some (.int .u8 ((s.data.toList.getD i.toNat 0).toNat:Int)) else none
 | _,_=>none
def vop (fl:Fl) (lo:Nat) (o:mB) (ρ:cM) (H:aA):Option (VV×aA) :=
 match o with
 | .mv x=>some (dK ρ x,H)
 | .pick c a b=>(P9 (dK ρ c) (dK ρ a) (dK ρ b)).map (·,H)
 | .bin op x y=>(GY (cU op) (dK ρ x) (dK ρ y)).map (·,H)
 | .eqb neg x y=>(GY (Lm neg) (dK ρ x) (dK ρ y)).map (·,H)
 | .isnil neg x=>(Ec neg (dK ρ x) H).map (·,H)
 | .eqagg neg ks x y=>(Rf neg ks (dK ρ x) (dK ρ y)).map (·,H)
 | .un op x=>(JR (Yj op) (dK ρ x)).map (·,H)
 | .cvt k x=>(JR (R7 k) (dK ρ x)).map (·,H)
 | .cvs x=>(JR U1 (dK ρ x)).map (·,H)
 | .ext x i=>(YR i (dK ρ x)).map (·,H)
 | .fld agg off size x=>(Z3 agg off size (dK ρ x)).map (·,H)
 | .build zero places parts=>(xI places (zero.map iH) (parts.map fun(i,x)=>(i,dK ρ x))).map fun cs=>(.agg cs,H)
 | .chk x=>(Vh (dK ρ x) H).map (·,H)
 | .faddr off x=>(Gw off (dK ρ x) H).map (·,H)
 | .iaddr size x i=>(bC size (dK ρ x) (dK ρ i) H).map (·,H)
 | .sidx x i=>(GY E2 (dK ρ x) (dK ρ i)).map (·,H)
 | .ssub x l h=>(tN (dK ρ x) (l.map (dK ρ)) (h.map (dK ρ))).map (·,H)
 | .mkfn f eY=>some (.sY f (eY.map (dK ρ)),H)
 | .len x=>(nS (dK ρ x) H).map (·,H)
 | .slen x=>(JR Ae (dK ρ x)).map (·,H)
 | .min x y=>(GY QD (dK ρ x) (dK ρ y)).map (·,H)
 | .max x y=>(GY PK (dK ρ x) (dK ρ y)).map (·,H)
 | .load agg size p=>(dG agg size (dK ρ p) H).map (·,H)
 | .sub size x l h m=>(Ee size (dK ρ x) (l.map (dK ρ)) (h.map (dK ρ)) (m.map (dK ρ)) H).map (·,H)
 |
  .b2s x=>match dK ρ x with
  | .sc _=>none
  |
   y=>match dD 1 y H with
   | some es=>(Ge es).map fun bs=>(.sc (.string ⟨bs.toArray⟩),H)
   | none=>none
 | .new zero=>if (zero.map iH).all bQ then some (.ptr H.length 0 0 0,H++[.row 0 [elemOf (zero.map iH)] zero.length true]) else none
 | .box x=>if (aB (dK ρ x)).all bQ then (if fl.bf then some (.cO (dK ρ x) 0,H) else some (.ptr H.length 0 0 0,H++[.row 0 [dK ρ x] (aB (dK ρ x)).length true])) else none
 | .make zero bytes l c=>if (zero.map iH).all bQ then AA zero bytes (dK ρ l) (dK ρ c) H else none
 | .lit zero n parts=>mV fl.lr zero n (parts.map fun(i,x)=>(i,dK ρ x)) H
 | .store size p v=>(cJ lo size (dK ρ p) (dK ρ v) H).map fun H'=>(oQ,H')
 |
  .app size bytes x y=>match dD size (dK ρ y) H with
  | some new=>eJ lo size bytes (dK ρ x) new H
  | none=>none
 |
  .appz zero bytes x n=>match dK ρ n with
  | .sc (.int .i64 n)=>if 0≤n∧n*bytes≤140737488355328∧(zero.map iH).all bQ then eJ lo zero.length bytes (dK ρ x) (List.replicate n.toNat (elemOf (zero.map iH))) H else none
  | _=>none
 | .copy size x y=>MN lo size (dK ρ x) (dK ρ y) H
 | .clear zero x=>(Nt lo zero (dK ρ x) H).map fun H'=>(oQ,H')
 | _=>none
inductive VBx where
 | no
 | row (i:Nat) (w:Bool)
 | AT (i:Nat)
 | tree
 | bad
def zB (H:aA):VV→VBx
 | .tree [] .nil => .no
 | .tree _ _ => .tree
 | .cO _ _ => .tree
 |
  .ref b g _ _ _=>match aK H b g with
  | some (_,_,w) => .row b w
  | none => .AT b
 |
  .ptr b g _ _=>match aK H b g with
  | some (_,_,w) => .row b w
  | none => .AT b
 | .any => .bad
 | _ => .no
def xW (H:aA) (x y:VV):Bool :=
 match zB H x,zB H y with
 | .bad,_=>false
 | _,.bad=>false
 | .no,_=>true
 | _,.no=>true
 | .row i _,.row j _=>i != j
 | .row i _,.AT j=>i != j
 | .AT i,.row j _=>i != j
 | .AT _,.AT _=>false
 | .AT _,.tree=>false
 | .tree,.AT _=>false
 | .row _ w,.tree=>w
 | .tree,.row _ w=>w
 | .tree,.tree=>false
def rE (ρ:cM) (H:aA) (c:Operand×Operand):Bool:=xW H (dK ρ c.1) (dK ρ c.2)
def AS (g:Option (Nat×Bool)) (ρ:cM):Option Bool :=
 match g with
 | none=>some true
 |
  some (t,want)=>match ρ t with
  | .sc (.bool b)=>some (b == want)
  | .dY _=>some false
  | _=>none
def fz:Nat→aA→VV→Option VV
 | 0,_,_=>none
 |
  d+1,H,v =>
  if aO v then some v else
  match v with
  | .agg cs=>(cs.mapM (fz d H)).map .agg
  | .dY vs=>(vs.mapM (fz d H)).map .dY
  | .tree es _=>(es.mapM (fz d H)).map (.tree · .op)
  | .cO x o=>(fz d H x).map (.cO · o)
  |
   .ref b g o n c=>match aK H b g with
   | some (es,_,_)=>if o+n≤es.length∧n≤c then (((es.drop o).take n).mapM (fz d H)).map (.tree · .op) else none
   | none=>none
  |
   .ptr b g j o=>match aK H b g with
   |
    some (es,_,_)=>match es[j]? with
    | some x=>(fz d H x).map (.cO · o)
    | none=>none
   | none=>none
  | .sY f eY=>(eY.mapM (fz d H)).map (.sY f ·)
  | _=>none
def gY:Nat→aA→VV→List Nat
 | 0,_,_=>[]
 |
  d+1,H,v =>
  if aO v then [] else
  match v with
  | .agg cs=>cs.flatMap (gY d H)
  | .dY vs=>vs.flatMap (gY d H)
  | .tree es _=>es.flatMap (gY d H)
  | .cO x _=>gY d H x
  |
   .ref b g o n _=>match aK H b g with
   | some (es,_,_)=>b::((es.drop o).take n).flatMap (gY d H)
   | none=>[]
  |
   .ptr b g j _=>match aK H b g with
   |
    some (es,_,_)=>match es[j]? with
    | some x=>b::gY d H x
    | none=>[]
   | none=>[]
  | .sY _ eY=>eY.flatMap (gY d H)
  | _=>[]
def A2 (H:aA) (b:Nat):aA :=
 match H[b]? with
 | some (.row g es e _)=>H.set b (.row g es e false)
 | _=>H
def cG (H:aA) (ids:List Nat):aA:=ids.foldl A2 H
def depth:Nat:=8
end Go.PM
namespace Go.PM
structure View where
 m:Nat→Nat
 F:Nat→Prop
 H:aA
 P:aE
 base:Nat
def kindOk (k:TK) (n c e:Nat) (p:Bool):Prop :=
 match k with
 | .op=>True
 | .cl e'=>e'=e∧c=n∧p=false
 | .nil=>False
mutual
inductive VR (V:View):VV→Value→Prop
 | any (v:Value):VR V .any v
 | sc (v:Value) (h:jS v=true):VR V (.sc v) v
 | agg (cs:List VV) (ps:List Value) (h:VL V cs ps):VR V (.agg cs) (.agg ps.toArray)
 | dY (cs:List VV) (ps:List Value) (h:VL V cs ps):VR V (.dY cs) (.tuple ps.toArray)
 | lS (k:TK) (hk:k = .op∨k = .nil):VR V (.tree [] k) (.slice none 0 0)
 | tree (es:List VV) (k:TK) (b o c:Nat) (r:List Value) (e:Nat) (p:Bool) (hF:V.F b) (hb:V.P[b]? = some (.row r e p)) (ho:o+es.length*e≤r.length)
  (hc:es.length≤c) (he:∀x∈es,(aB x).length=e) (hk:kindOk k es.length c e p) (hl:VL V (es.flatMap aB) ((r.drop o).take (es.length*e))) :
  VR V (.tree es k) (.slice (some ⟨b,o,none⟩) es.length c)
 | cO (x:VV) (off b o:Nat) (r:List Value) (e:Nat) (p:Bool) (hF:V.F b) (hb:V.P[b]? = some (.row r e p)) (ho:o+(aB x).length≤r.length)
  (hl:VL V (aB x) ((r.drop o).take (aB x).length)):VR V (.cO x off) (.pointer (some ⟨b,o+off,none⟩))
 | ref (b g o n c:Nat) (a:Option Addr) (n' c':Nat) (aV:b<V.H.length) (hg:∀g' es e w,V.H[b]? = some (.row g' es e w)→g≤g')
  (h:∀es e w,V.H[b]? = some (.row g es e w)→a=some ⟨V.m b,o*e,none⟩∧n'=n∧c'=c)
  (hq:∀a0,a=some a0→V.base≤a0.block∧a0.block<V.P.length∧∀b' g' es e w,V.H[b']? = some (.row g' es e w)→b'≠b→V.m b'≠a0.block):VR V (.ref b g o n c) (.slice a n' c')
 | ptr (b g j off:Nat) (a:Option Addr) (aV:b<V.H.length) (hg:∀g' es e w,V.H[b]? = some (.row g' es e w)→g≤g')
  (h:∀es e w,V.H[b]? = some (.row g es e w)→a=some ⟨V.m b,j*e+off,none⟩)
  (hq:∀a0,a=some a0→V.base≤a0.block∧a0.block<V.P.length∧∀b' g' es e w,V.H[b']? = some (.row g' es e w)→b'≠b→V.m b'≠a0.block):VR V (.ptr b g j off) (.pointer a)
 | sY (f:Nat) (eY:List VV) (ps:List Value) (h:VL V eY ps):VR V (.sY f eY) (.func (.func f) #[] ps.toArray)
inductive VL (V:View):List VV→List Value→Prop
 | nil:VL V [] []
 | cons (x:VV) (v:Value) (xs:List VV) (vs:List Value) (h:VR V x v) (hs:VL V xs vs):VL V (x::xs) (v::vs)
end
structure Up (V V':View):Prop where
 F:∀b,V.F b→V'.F b
 P:∀b,V.F b→V'.P[b]? = V.P[b]?
 len:V.H.length≤V'.H.length
 row:∀b g' lL e w',b<V.H.length→V'.H[b]? = some (.row g' lL e w')→∃g es w,V.H[b]? = some (.row g es e w)∧g≤g'∧(g'=g→V'.m b=V.m b)
 IK:V'.base=V.base
 Dj:V.P.length≤V'.P.length
 AT:∀b g es e w,V'.H[b]? = some (.row g es e w)→V'.m b<V.P.length→∃g0 es0 w0,V.H[b]? = some (.row g0 es0 e w0)∧V'.m b=V.m b∧(w=true→w0=true)
section
variable {V V' QH:View}
theorem Up.refl (V:View):Up V V:=⟨fun _ h=>h,fun _ _=>rfl,Nat.le_refl _,fun b g es e w _ h=>⟨g,es,w,h,Nat.le_refl _,fun _=>rfl⟩,rfl,Nat.le_refl _,fun b g es e w h _=>⟨g,es,w,h,rfl,id⟩⟩
theorem Up.trans (h:Up V V') (h':Up V' QH):Up V QH :=
 ⟨fun b hb=>h'.F b (h.F b hb),fun b hb=>(h'.P b (h.F b hb)).trans (h.P b hb),Nat.le_trans h.len h'.len,fun b g es e w hb hr=>by
  obtain⟨g1,Bi,w1,h1,h2,h3⟩:=h'.row b g es e w (Nat.lt_of_lt_of_le hb h.len) hr
  obtain⟨g2,X5,w2,h4,h5,h6⟩:=h.row b g1 Bi e w1 hb h1
  exact⟨g2,X5,w2,h4,Nat.le_trans h5 h2,fun hg=>(h3 (by omega)).trans (h6 (by omega))⟩,h'.IK.trans h.IK,Nat.le_trans h.Dj h'.Dj,fun b g es e w hb hm=>by
   obtain⟨g1,Bi,w1,h1,h2,h3⟩:=h'.AT b g es e w hb (Nat.lt_of_lt_of_le hm h.Dj)
   obtain⟨g2,X5,w2,h4,h5,h6⟩:=h.AT b g1 Bi e w1 h1 (by rw[←h2];exact hm)
   exact⟨g2,X5,w2,h4,h2.trans h5,fun hw=>h6 (h3 hw)⟩⟩
theorem Up.hq (u:Up V V') {b q:Nat} (h:V.base≤q∧q<V.P.length∧∀b' g' es e w,V.H[b']? = some (.row g' es e w)→b'≠b→V.m b'≠q):V'.base≤q∧q<V'.P.length∧∀b' g' es e w,V'.H[b']? = some (.row g' es e w)→b'≠b→V'.m b'≠q:=by
 refine⟨by rw[u.IK];exact h.1,Nat.lt_of_lt_of_le h.2.1 u.Dj,fun b' g' es e w hb eW hm => ?_⟩
 obtain⟨g0,es0,w0,h1,h2,_⟩:=u.AT b' g' es e w hb (by rw[hm];exact h.2.1)
 exact h.2.2 b' _ _ _ _ h1 eW (h2.symm.trans hm)
theorem VR.mono (u:Up V V') {x:VV} {v:Value} (h:VR V x v):VR V' x v:=by
 induction h using VR.rec (motive_2:=fun xs vs _=>VL V' xs vs) with
 | any=>exact .any _
 | sc _ h=>exact .sc _ h
 | agg cs ps _ ih=>exact .agg _ _ ih
 | dY cs ps _ ih=>exact .dY _ _ ih
 | lS k hk=>exact .lS k hk
 | tree es k b o c r e p hF hb ho hc he hk _ ih=>exact .tree es k b o c r e p (u.F _ hF) (by rw[u.P _ hF];exact hb) ho hc he hk ih
 | cO x off b o r e p hF hb ho _ ih=>exact .cO x off b o r e p (u.F _ hF) (by rw[u.P _ hF];exact hb) ho ih
 |
  ref b g o n c a n' c' aV hg h hq =>
  refine .ref b g o n c a n' c' (Nat.lt_of_lt_of_le aV u.len) (fun g' es e w hr => ?_) (fun es e w hr => ?_) fun a0 ha=>u.hq (hq a0 ha)
  ·obtain⟨g1,Bi,w1,h1,h2,_⟩:=u.row b g' es e w aV hr
   exact Nat.le_trans (hg _ _ _ _ h1) h2
  ·obtain⟨g1,Bi,w1,h1,h2,h3⟩:=u.row b g es e w aV hr
   have h4:=hg _ _ _ _ h1
   have h5:g=g1:=by omega
   subst h5
   rw[h3 rfl]
   exact h _ _ _ h1
 |
  ptr b g j off a aV hg h hq =>
  refine .ptr b g j off a (Nat.lt_of_lt_of_le aV u.len) (fun g' es e w hr => ?_) (fun es e w hr => ?_) fun a0 ha=>u.hq (hq a0 ha)
  ·obtain⟨g1,Bi,w1,h1,h2,_⟩:=u.row b g' es e w aV hr
   exact Nat.le_trans (hg _ _ _ _ h1) h2
  ·obtain⟨g1,Bi,w1,h1,h2,h3⟩:=u.row b g es e w aV hr
   have h4:=hg _ _ _ _ h1
   have h5:g=g1:=by omega
   subst h5
   rw[h3 rfl]
   exact h _ _ _ h1
 | sY f eY ps _ ih=>exact .sY _ _ _ ih
 | nil=>exact .nil
 | cons x v xs vs _ _ ih Sk=>exact .cons _ _ _ _ ih Sk
theorem VL.mono (u:Up V V') {xs:List VV} {vs:List Value} (h:VL V xs vs):VL V' xs vs:=by
 induction xs generalizing vs with
 | nil=>cases h;exact .nil
 |
  cons x xs ih=>cases h with
  | cons _ v _ vs h hs=>exact .cons _ _ _ _ (h.mono u) (ih hs)
end
section
variable {V:View} {xs ys:List VV} {vs ws:List Value}
theorem VL.length:∀ {xs:List VV} {vs:List Value},VL V xs vs→vs.length=xs.length
 | _,_,.nil=>rfl
 | _,_,.cons _ _ _ _ _ hs=>by simp[hs.length]
theorem VL.append:∀ {xs:List VV} {vs:List Value},VL V xs vs→VL V ys ws→VL V (xs++ys) (vs++ws)
 | _,_,.nil,h'=>h'
 | _,_,.cons _ _ _ _ h hs,h' => .cons _ _ _ _ h (hs.append h')
theorem VL.take (n:Nat):∀ {xs:List VV} {vs:List Value} ,VL V xs vs→VL V (xs.take n) (vs.take n):=by
 induction n with
 | zero=>intro xs vs _;simp;exact .nil
 |
  succ n ih=>intro xs vs h;cases h with
  | nil=>simp;exact .nil
  | cons x v xs vs h hs=>exact .cons _ _ _ _ h (ih hs)
theorem VL.drop (n:Nat):∀ {xs:List VV} {vs:List Value} ,VL V xs vs→VL V (xs.drop n) (vs.drop n):=by
 induction n with
 | zero=>intro xs vs h;simpa using h
 |
  succ n ih=>intro xs vs h;cases h with
  | nil=>simp;exact .nil
  | cons x v xs vs h hs=>exact ih hs
theorem VL.get (h:VL V xs vs) {i:Nat} {x:VV} (hx:xs[i]? = some x):∃v,vs[i]? = some v∧VR V x v:=by
 induction i generalizing xs vs with
 |
  zero=>cases h with
  | nil=>cases hx
  | cons y v xs vs h hs=>simp at hx;subst hx;exact⟨v,rfl,h⟩
 |
  succ i ih=>cases h with
  | nil=>cases hx
  | cons y v xs vs h hs=>exact ih hs (by simpa using hx)
theorem VL.map {α:Type} {f:α→VV} {g:α→Value}:∀ {l:List α},(∀x∈l,VR V (f x) (g x))→VL V (l.map f) (l.map g)
 | [],_ => .nil
 | x::l,h => .cons _ _ _ _ (h x (by simp)) (VL.map fun y hy=>h y (by simp[hy]))
theorem VL.replicate {x:VV} {v:Value} (h:VR V x v):∀n,VL V (List.replicate n x) (List.replicate n v)
 | 0 => .nil
 | n+1 => .cons _ _ _ _ h (VL.replicate h n)
theorem VL.gU {cs new:List VV} {ps pn:List Value} (h:VL V cs ps) (hn:VL V new pn) (o:Nat):VL V (cK cs o new) (gU ps o pn):=by
 unfold cK PM.gU
 rw[←hn.length]
 exact((h.take o).append hn).append (h.drop _)
theorem VR.iH (v:Value):VR V (iH v) v:=by
 unfold PM.iH
 split
 ·exact .lS _ (.inr rfl)
 ·split
  ·rename_i h;exact .sc _ h
  ·exact .any _
theorem VR.inj (v:Value):VR V (inj v) v:=by
 unfold PM.inj
 split
 ·rename_i cs
  have:(Value.agg cs) = .agg cs.toList.toArray:=by simp
  rw[this]
  refine .agg _ _ ?_
  have:=VL.map (V:=V) (f:=PM.iH) (g:=id) (l:=cs.toList) fun x _=>VR.iH x
  simpa using this
 ·rename_i vs
  split
  ·rename_i h
   have:vs=[].toArray:=by simpa using h
   rw[this]
   exact .dY _ _ .nil
  ·exact .any _
 ·exact VR.iH _
theorem VL.zero (z:List Value):VL V (z.map PM.iH) z:=by
 have:=VL.map (V:=V) (f:=PM.iH) (g:=id) (l:=z) fun x _=>VR.iH x
 simpa using this
theorem VR.cells {x:VV} {v:Value} (h:VR V x v) (hx:x ≠ .any):VL V (aB x) (aJ v):=by
 cases h with
 | any=>exact absurd rfl hx
 |
  sc v h =>
  have:aJ v=[v]:=by cases v<;>first | rfl | cases h
  rw[this]
  exact .cons _ _ _ _ (.sc v h) .nil
 | agg cs ps h=>simpa[aB,aJ] using h
 | dY cs ps h=>exact .cons _ _ _ _ (.dY _ _ h) .nil
 | lS k hk=>exact .cons _ _ _ _ (.lS k hk) .nil
 | tree es k b o c r e p hF hb ho hc he hk hl=>exact .cons _ _ _ _ (.tree es k b o c r e p hF hb ho hc he hk hl) .nil
 | cO x off b o r e p hF hb ho hl=>exact .cons _ _ _ _ (.cO x off b o r e p hF hb ho hl) .nil
 | ref b g o n c a n' c' aV hg h hq=>exact .cons _ _ _ _ (.ref b g o n c a n' c' aV hg h hq) .nil
 | ptr b g j off a aV hg h hq=>exact .cons _ _ _ _ (.ptr b g j off a aV hg h hq) .nil
 | sY f eY ps h=>exact .cons _ _ _ _ (.sY _ _ _ h) .nil
theorem VR.fP {x:VV} {v:Value} (h:VR V x v) (hx:bQ x=true):fP v=true:=by
 cases h with
 | sc v h=>cases v<;>first | rfl | cases h
 | any=>cases hx
 | agg=>cases hx
 | dY=>cases hx
 | _=>rfl
theorem VL.fP:∀ {xs:List VV} {vs:List Value},VL V xs vs→xs.all bQ=true→vs.all PM.fP=true
 | _,_,.nil,_=>rfl
 |
  _,_,.cons _ _ _ _ h hs,hx=>by
  rw[List.all_cons,Bool.and_eq_true] at hx ⊢
  exact⟨h.fP hx.1,hs.fP hx.2⟩
theorem SQ {x:VV} (h:(aB x).all bQ=true):x ≠ .any:=by
 rintro rfl
 cases h
theorem iZ {es:List VV} {e:Nat} (he:∀x∈es,(aB x).length=e):(es.flatMap aB).length=es.length*e:=by
 induction es with
 | nil=>simp
 |
  cons x xs ih =>
  rw[List.flatMap_cons,List.length_append,ih fun y hy=>he y (List.mem_cons_of_mem _ hy),he x List.mem_cons_self,List.length_cons,Nat.succ_mul]
  omega
theorem sM {es:List VV} {e:Nat} (he:∀x∈es,(aB x).length=e) (i:Nat):(es.flatMap aB).drop (i*e)=(es.drop i).flatMap aB:=by
 induction i generalizing es with
 | zero=>simp
 |
  succ i ih =>
  cases es with
  | nil=>simp
  |
   cons x xs =>
   have hx:=he x List.mem_cons_self
   rw[List.flatMap_cons,List.drop_succ_cons,←ih fun y hy=>he y (List.mem_cons_of_mem _ hy),show (i+1)*e=(aB x).length+i*e by rw[hx,Nat.succ_mul];omega,List.drop_append]
   simp
theorem sN {es:List VV} {e:Nat} (he:∀x∈es,(aB x).length=e) (i:Nat):(es.flatMap aB).take (i*e)=(es.take i).flatMap aB:=by
 induction i generalizing es with
 | zero=>simp
 |
  succ i ih =>
  cases es with
  | nil=>simp
  |
   cons x xs =>
   have hx:=he x List.mem_cons_self
   rw[List.flatMap_cons,List.take_succ_cons,List.flatMap_cons,←ih fun y hy=>he y (List.mem_cons_of_mem _ hy),show (i+1)*e=(aB x).length+i*e by rw[hx,Nat.succ_mul];omega,List.take_append]
   simp
   exact List.take_of_length_le (by omega)
theorem I3 {es:List VV} {e:Nat} (he:∀x∈es,(aB x).length=e) {j:Nat} {x:VV} (hx:es[j]? = some x):((es.flatMap aB).drop (j*e)).take e=aB x:=by
 obtain⟨aV,Vp⟩:=List.getElem?_eq_some_iff.1 hx
 rw[sM he,List.drop_eq_getElem_cons aV,Vp,List.flatMap_cons,List.take_append,←he x (List.mem_of_getElem? hx)]
 simp
theorem uQ {es new:List VV} {e:Nat} (he:∀x∈es,(aB x).length=e) (hn:∀x∈new,(aB x).length=e) (o:Nat):cK (es.flatMap aB) (o*e) (new.flatMap aB)=(cK es o new).flatMap aB:=by
 unfold cK
 rw[sN he,iZ hn,show o*e+new.length*e=(o+new.length)*e by rw[Nat.add_mul],sM he]
 simp
theorem HH {es:List VV} {j:Nat} {x:VV} (hj:j<es.length):cK es j [x]=es.set j x:=by
 unfold cK
 rw[List.set_eq_take_append_cons_drop,if_pos hj]
 simp
theorem QT {cs new:List VV} {o:Nat} (h:o+new.length≤cs.length):(cK cs o new).length=cs.length:=by
 unfold cK
 simp
 omega
theorem HG {cs new:List VV} {o:Nat} {x:VV} (h:x∈cK cs o new):x∈cs∨x∈new:=by
 unfold cK at h
 rw[List.mem_append,List.mem_append] at h
 rcases h with(h | h) | h
 ·exact .inl (List.mem_of_mem_take h)
 ·exact .inr h
 ·exact .inl (List.mem_of_mem_drop h)
theorem lX {cs:List VV} (h:cs.all bQ=true):aB (elemOf cs)=cs:=by
 unfold elemOf
 split
 ·rename_i x
  simp only[List.all_cons,List.all_nil,Bool.and_true] at h
  cases x<;>first | rfl | cases h
 ·rfl
theorem bS {H:aA} {b g:Nat} {es:List VV} {e:Nat} {w:Bool}:aK H b g=some (es,e,w)↔H[b]? = some (.row g es e w):=by
 unfold aK
 constructor
 ·intro h
  split at h
  ·rename_i hb
   split at h
   ·rename_i hg;subst hg;cases h;exact hb
   ·cases h
  ·cases h
 ·intro h
  rw[h]
  simp
end
structure SR (V:View) (lo dN:Nat):Prop where
 row:∀b g es e w,V.H[b]? = some (.row g es e w)→∃r p,V.P[V.m b]? = some (.row r e p)∧(∀x∈es,(aB x).length=e)∧VL V (es.flatMap aB) r
 wr:∀b g es e,V.H[b]? = some (.row g es e true)→¬V.F (V.m b)∧(lo≤b→dN≤V.m b)
 inj:∀a b g es e w g' lL e' w',V.H[a]? = some (.row g es e w)→V.H[b]? = some (.row g' lL e' w')→V.m a=V.m b→a=b
 fr:∀b,V.F b→b<V.P.length
 Q4:dN≤V.P.length
 IK:V.base≤V.P.length
structure Du (lo:Nat) (V V':View):Prop extends Up V V' where
 cL:∀q,q<V.P.length→(∀b g es e,V.H[b]? = some (.row g es e true)→lo≤b→V.m b≠q)→V'.P[q]? = V.P[q]?
 BM:∀q,V'.F q→V.F q∨V.P.length≤q∨∃b g es e w,V.H[b]? = some (.row g es e w)∧V.m b=q
section
variable {V V' QH:View} {lo:Nat}
theorem Du.refl (lo:Nat) (V:View):Du lo V V :=
 { Up.refl V with cL:=fun _ _ _=>rfl,BM:=fun _ h => .inl h }
theorem Du.trans (h:Du lo V V') (h':Du lo V' QH):Du lo V QH :=
 { Up.trans h.toUp h'.toUp with
  cL:=fun q hq hn=>by
   rw[h'.cL q (Nat.lt_of_lt_of_le hq h.Dj) ?_,h.cL q hq hn]
   intro b g es e hb hl hm
   obtain⟨g1,Bi,w1,h1,h2,h3⟩:=h.AT b g es e true hb (by rw[hm];exact hq)
   have:=h3 rfl
   subst this
   exact hn b g1 Bi e h1 hl (h2.symm.trans hm)
  BM:=fun q hq=>by
   rcases h'.BM q hq with h1 | h1 | ⟨b,g,es,e,w,h1,h2⟩
   ·exact h.BM q h1
   ·exact .inr (.inl (Nat.le_trans h.Dj h1))
   ·rcases Nat.lt_or_ge q V.P.length with hl | hl
    ·obtain⟨g1,Bi,w1,h3,h4,_⟩:=h.AT b g es e w h1 (by rw[h2];exact hl)
     exact .inr (.inr ⟨b,g1,Bi,e,w1,h3,h4.symm.trans h2⟩)
    ·exact .inr (.inl hl) }
end
end Go.PM
namespace Go.PM
def WC (m:Nat→Nat) (b v:Nat):Nat→Nat:=fun k=>if k=b then v else m k
theorem kA {m:Nat→Nat} {b v:Nat}:WC m b v b=v:=by simp[WC]
theorem lH {m:Nat→Nat} {b v k:Nat} (h:k≠b):WC m b v k=m k:=by simp[WC,h]
section
variable {V:View} {lo dN:Nat}
theorem SR.mlt (hS:SR V lo dN) {b g e:Nat} {es:List VV} {w:Bool} (hb:V.H[b]? = some (.row g es e w)):V.m b<V.P.length:=by
 obtain⟨r,p,h,_⟩:=hS.row b g es e w hb
 exact(List.getElem?_eq_some_iff.1 h).1
theorem AO (hS:SR V lo dN) (x:Lb):SR { V with P:=V.P++[x],F:=fun q=>V.F q∨q=V.P.length } lo dN∧Du lo V { V with P:=V.P++[x],F:=fun q=>V.F q∨q=V.P.length }:=by
 have hU:Up V { V with P:=V.P++[x],F:=fun q=>V.F q∨q=V.P.length }:=⟨fun _ h => .inl h,fun b hb=>List.getElem?_append_left (hS.fr b hb),Nat.le_refl _,fun b g es e w _ h=>⟨g,es,w,h,Nat.le_refl _,fun _=>rfl⟩,rfl,by simp,fun b g es e w hb _=>⟨g,es,w,hb,rfl,id⟩⟩
 refine⟨⟨fun b g es e w hb => ?_,fun b g es e hb=>⟨fun hF => ?_,(hS.wr b g es e hb).2⟩,hS.inj,fun b hb => ?_,by have:=hS.Q4;simp;omega,by have:=hS.IK;simp;omega⟩,{ hU with cL:=fun q hq _=>List.getElem?_append_left hq,BM:=fun q hq => ?_ }⟩
 ·obtain⟨r,p,h1,h2,h3⟩:=hS.row b g es e w hb
  exact⟨r,p,by rw[←h1];exact List.getElem?_append_left (hS.mlt hb),h2,h3.mono hU⟩
 ·rcases hF with hF | hF
  ·exact(hS.wr b g es e hb).1 hF
  ·have h1:V.m b=V.P.length:=hF
   have:=hS.mlt hb
   omega
 ·rcases hb with hb | hb
  ·have:=hS.fr b hb
   simp;omega
  ·subst hb;simp
 ·rcases hq with hq | hq
  ·exact .inl hq
  ·exact .inr (.inl (by omega))
theorem qG (hS:SR V lo dN) {es:List VV} {r:List Value} {e:Nat} (p:Bool) (he:∀x∈es,(aB x).length=e) (hl:VL V (es.flatMap aB) r) :
  SR { V with m:=WC V.m V.H.length V.P.length,H:=V.H++[.row 0 es e true],P:=V.P++[.row r e p] } lo dN∧Du lo V { V with m:=WC V.m V.H.length V.P.length,H:=V.H++[.row 0 es e true],P:=V.P++[.row r e p] }:=by
 have AT:∀b g lL e' w,(V.H++[cI.row 0 es e true])[b]? = some (.row g lL e' w)→(b=V.H.length∧g=0∧lL=es∧e'=e∧w=true)∨(b≠V.H.length∧V.H[b]? = some (.row g lL e' w)):=by
  intro b g lL e' w hb
  rcases Nat.lt_trichotomy b V.H.length with h | h | h
  ·rw[List.getElem?_append_left h] at hb
   exact .inr ⟨by omega,hb⟩
  ·subst h
   rw[List.getElem?_append_right (Nat.le_refl _)] at hb
   simp at hb
   obtain⟨h1,h2,h3,h4⟩:=hb
   exact .inl ⟨rfl,h1.symm,h2.symm,h3.symm,h4⟩
  ·rw[List.getElem?_eq_none (by simp;omega)] at hb
   cases hb
 have hU:Up V { V with m:=WC V.m V.H.length V.P.length,H:=V.H++[.row 0 es e true],P:=V.P++[.row r e p] } :=
  ⟨fun _ h=>h,fun b hb=>List.getElem?_append_left (hS.fr b hb),by simp,fun b g' lL e' w' aV hb=>by
   rcases AT b g' lL e' w' hb with⟨h,_⟩ | ⟨h,hb⟩
   ·omega
   ·exact⟨g',lL,w',hb,Nat.le_refl _,fun _=>lH h⟩,rfl,by simp,fun b g lL e' w hb hm=>by
   rcases AT b g lL e' w hb with⟨rfl,_⟩ | ⟨h,hb⟩
   ·simp only[kA] at hm
    omega
   ·exact⟨g,lL,w,hb,lH h,id⟩⟩
 refine⟨⟨fun b g lL e' w hb => ?_,fun b g lL e' hb => ?_,fun a b g Bi e1 w1 g' X5 e2 w2 ha hb hm => ?_,fun b hb=>by have:=hS.fr b hb;simp;omega,by have:=hS.Q4;simp;omega,by have:=hS.IK;simp;omega⟩,
  { hU with cL:=fun q hq _=>List.getElem?_append_left hq,BM:=fun q hq => .inl hq }⟩
 ·rcases AT b g lL e' w hb with⟨rfl,rfl,rfl,rfl,rfl⟩ | ⟨h,hb⟩
  ·exact⟨r,p,by simp only[kA];simp,he,hl.mono hU⟩
  ·obtain⟨r1,p1,h1,h2,h3⟩:=hS.row b g lL e' w hb
   refine⟨r1,p1,?_,h2,h3.mono hU⟩
   simp only[lH h]
   rw[List.getElem?_append_left (hS.mlt hb)]
   exact h1
 ·rcases AT b g lL e' true hb with⟨rfl,_⟩ | ⟨h,hb⟩
  ·simp only[kA]
   exact⟨fun hF=>by have:=hS.fr _ hF;omega,fun _=>hS.Q4⟩
  ·simp only[lH h]
   exact hS.wr b g lL e' hb
 ·rcases AT a g Bi e1 w1 ha with⟨rfl,_⟩ | ⟨h,ha⟩
  ·rcases AT b g' X5 e2 w2 hb with⟨rfl,_⟩ | ⟨h',hb⟩
   ·rfl
   ·simp only[kA,lH h'] at hm
    have:=hS.mlt hb
    omega
  ·rcases AT b g' X5 e2 w2 hb with⟨rfl,_⟩ | ⟨h',hb⟩
   ·simp only[kA,lH h] at hm
    have:=hS.mlt ha
    omega
   ·simp only[lH h,lH h'] at hm
    exact hS.inj a b _ _ _ _ _ _ _ _ ha hb hm
theorem fE {H:aA} {b:Nat} {x:cI} (hb:b<H.length) {a:Nat} {y:cI} (h:(H.set b x)[a]? = some y):(a=b∧y=x)∨(a≠b∧H[a]? = some y):=by
 by_cases he:a=b
 ·subst he
  rw[List.getElem?_set_self hb] at h
  cases h
  exact .inl ⟨rfl,rfl⟩
 ·rw[List.getElem?_set_ne (Ne.symm he)] at h
  exact .inr ⟨he,h⟩
theorem Cu (hS:SR V lo dN) {b g e:Nat} {es lL:List VV} {r':List Value} (hb:V.H[b]? = some (.row g es e true)) (eX:lo≤b) (he:∀x∈lL,(aB x).length=e) (hl:VL V (lL.flatMap aB) r') {r:List Value} {p:Bool} (hp:V.P[V.m b]? = some (.row r e p)) :
  SR { V with H:=V.H.set b (.row g lL e true),P:=V.P.set (V.m b) (.row r' e p) } lo dN∧Du lo V { V with H:=V.H.set b (.row g lL e true),P:=V.P.set (V.m b) (.row r' e p) }:=by
 have tG:=(List.getElem?_eq_some_iff.1 hb).1
 have KS:=hS.mlt hb
 have hU:Up V { V with H:=V.H.set b (.row g lL e true),P:=V.P.set (V.m b) (.row r' e p) } :=
  ⟨fun _ h=>h,fun q hq=>List.getElem?_set_ne (fun h=>(hS.wr b g es e hb).1 (by rw[h];exact hq)),by simp,fun a g' Bi e1 w1 aV ha=>by
   rcases fE tG ha with⟨rfl,h⟩ | ⟨_,h⟩
   ·cases h
    exact⟨g,es,true,hb,Nat.le_refl _,fun _=>rfl⟩
   ·exact⟨g',Bi,w1,h,Nat.le_refl _,fun _=>rfl⟩,rfl,by simp,fun a g1 Bi e1 w1 ha _=>by
   rcases fE tG ha with⟨rfl,h⟩ | ⟨eW,h⟩
   ·cases h
    exact⟨g,es,true,hb,rfl,fun _=>rfl⟩
   ·exact⟨g1,Bi,w1,h,rfl,id⟩⟩
 refine⟨⟨fun a g1 Bi e1 w1 ha => ?_,fun a g1 Bi e1 ha => ?_,fun a c g1 Bi e1 w1 g2 X5 e2 w2 ha hc hm => ?_,fun q hq=>by have:=hS.fr q hq;simp;omega,by have:=hS.Q4;simp;omega,by have:=hS.IK;simp;omega⟩,
  { hU with cL:=fun q hq hn=>List.getElem?_set_ne (hn b g es e hb eX),BM:=fun q hq => .inl hq }⟩
 ·rcases fE tG ha with⟨rfl,h⟩ | ⟨eW,h⟩
  ·cases h
   exact⟨r',p,List.getElem?_set_self KS,he,hl.mono hU⟩
  ·obtain⟨r1,p1,h1,h2,h3⟩:=hS.row a g1 Bi e1 w1 h
   exact⟨r1,p1,by rw[←h1];exact List.getElem?_set_ne (fun hm=>eW (hS.inj _ _ _ _ _ _ _ _ _ _ h hb hm.symm)),h2,h3.mono hU⟩
 ·rcases fE tG ha with⟨rfl,h⟩ | ⟨eW,h⟩
  ·cases h
   exact hS.wr _ _ _ _ hb
  ·exact hS.wr _ _ _ _ h
 ·rcases fE tG ha with⟨rfl,h⟩ | ⟨eW,h⟩<;>rcases fE tG hc with⟨rfl,h'⟩ | ⟨VG,h'⟩
  ·rfl
  ·exact hS.inj _ _ _ _ _ _ _ _ _ _ hb h' hm
  ·exact hS.inj _ _ _ _ _ _ _ _ _ _ h hb hm
  ·exact hS.inj _ _ _ _ _ _ _ _ _ _ h h' hm
theorem SN (hS:SR V lo dN) {b g e:Nat} {es lL:List VV} {r':List Value} (hb:V.H[b]? = some (.row g es e true)) (eX:lo≤b) (he:∀x∈lL,(aB x).length=e) (hl:VL V (lL.flatMap aB) r') {P1:aE} (hP:P1.length=V.P.length) (hk:∀q,q≠V.m b→P1[q]? = V.P[q]?) (p:Bool) :
  SR { V with m:=WC V.m b V.P.length,H:=V.H.set b (.row (g+1) lL e true),P:=P1++[.row r' e p] } lo dN∧Du lo V { V with m:=WC V.m b V.P.length,H:=V.H.set b (.row (g+1) lL e true),P:=P1++[.row r' e p] }:=by
 have tG:=(List.getElem?_eq_some_iff.1 hb).1
 have KS:=hS.mlt hb
 have uS:∀q,q<V.P.length→q≠V.m b→(P1++[Lb.row r' e p])[q]? = V.P[q]? := fun q hq hn=>by rw[List.getElem?_append_left (by omega)];exact hk q hn
 have hU:Up V { V with m:=WC V.m b V.P.length,H:=V.H.set b (.row (g+1) lL e true),P:=P1++[.row r' e p] } :=
  ⟨fun _ h=>h,fun q hq=>uS q (hS.fr q hq) (fun h=>(hS.wr b g es e hb).1 (by rw[←h];exact hq)),by simp,fun a g' Bi e1 w1 aV ha=>by
   rcases fE tG ha with⟨rfl,h⟩ | ⟨eW,h⟩
   ·cases h
    exact⟨g,es,true,hb,by omega,fun h=>by omega⟩
   ·exact⟨g',Bi,w1,h,Nat.le_refl _,fun _=>lH eW⟩,rfl,by simp;omega,fun a g1 Bi e1 w1 ha hm=>by
   rcases fE tG ha with⟨rfl,h⟩ | ⟨eW,h⟩
   ·simp only[kA] at hm
    omega
   ·exact⟨g1,Bi,w1,h,lH eW,id⟩⟩
 refine⟨⟨fun a g1 Bi e1 w1 ha => ?_,fun a g1 Bi e1 ha => ?_,fun a c g1 Bi e1 w1 g2 X5 e2 w2 ha hc hm => ?_,fun q hq=>by have:=hS.fr q hq;simp;omega,by have:=hS.Q4;simp;omega,by have:=hS.IK;simp;omega⟩,
  { hU with cL:=fun q hq hn=>uS q hq (Ne.symm (hn b g es e hb eX)),BM:=fun q hq => .inl hq }⟩
 ·rcases fE tG ha with⟨rfl,h⟩ | ⟨eW,h⟩
  ·cases h
   refine⟨r',p,?_,he,hl.mono hU⟩
   simp only[kA]
   rw[←hP]
   simp
  ·obtain⟨r1,p1,h1,h2,h3⟩:=hS.row a g1 Bi e1 w1 h
   refine⟨r1,p1,?_,h2,h3.mono hU⟩
   simp only[lH eW]
   rw[uS _ (hS.mlt h) (fun hm=>eW (hS.inj _ _ _ _ _ _ _ _ _ _ h hb hm))]
   exact h1
 ·rcases fE tG ha with⟨rfl,h⟩ | ⟨eW,h⟩
  ·cases h
   simp only[kA]
   exact⟨fun hF=>by have:=hS.fr _ hF;omega,fun _=>hS.Q4⟩
  ·simp only[lH eW]
   exact hS.wr _ _ _ _ h
 ·rcases fE tG ha with⟨rfl,h⟩ | ⟨eW,h⟩<;>rcases fE tG hc with⟨rfl,h'⟩ | ⟨VG,h'⟩
  ·rfl
  ·simp only[kA,lH VG] at hm
   have:=hS.mlt h'
   omega
  ·simp only[kA,lH eW] at hm
   have:=hS.mlt h
   omega
  ·simp only[lH eW,lH VG] at hm
   exact hS.inj _ _ _ _ _ _ _ _ _ _ h h' hm
def View.freeze (V:View) (b:Nat):View :=
 match V.H[b]? with
 | some (.row _ _ _ _)=>{ V with H:=A2 V.H b,F:=fun q=>V.F q∨q=V.m b }
 | _=>V
theorem Pg (V:View) (b:Nat):(V.freeze b).H=A2 V.H b:=by
 unfold View.freeze A2
 cases h:V.H[b]? with
 | none=>rfl
 | some x=>cases x<;>rfl
theorem YY (V:View) (b:Nat):(V.freeze b).P=V.P:=by
 unfold View.freeze
 split<;>rfl
theorem P4 (V:View) (b:Nat):(V.freeze b).m=V.m:=by
 unfold View.freeze
 split<;>rfl
theorem ND (hS:SR V lo dN) (b:Nat):SR (V.freeze b) lo dN∧Du lo V (V.freeze b)∧(∀g es e w,V.H[b]? = some (.row g es e w)→(V.freeze b).F (V.m b)):=by
 unfold View.freeze
 split
 case h_2 eW=>exact⟨hS,Du.refl _ _,fun g es e w h=>absurd h (eW _ _ _ _)⟩
 rename_i g es e w hb
 have tG:=(List.getElem?_eq_some_iff.1 hb).1
 have hf:A2 V.H b=V.H.set b (.row g es e false):=by unfold A2;rw[hb]
 rw[hf]
 have hU:Up V { V with H:=V.H.set b (.row g es e false),F:=fun q=>V.F q∨q=V.m b } :=
  ⟨fun _ h => .inl h,fun _ _=>rfl,by simp,fun a g' Bi e1 w1 aV ha=>by
   rcases fE tG ha with⟨rfl,h⟩ | ⟨_,h⟩
   ·cases h
    exact⟨g,es,w,hb,Nat.le_refl _,fun _=>rfl⟩
   ·exact⟨g',Bi,w1,h,Nat.le_refl _,fun _=>rfl⟩,rfl,Nat.le_refl _,fun a g1 Bi e1 w1 ha hm=>by
   rcases fE tG ha with⟨rfl,h⟩ | ⟨eW,h⟩
   ·cases h
    exact⟨g,es,w,hb,rfl,fun h=>by cases h⟩
   ·exact⟨g1,Bi,w1,h,rfl,id⟩⟩
 refine⟨⟨fun a g1 Bi e1 w1 ha => ?_,fun a g1 Bi e1 ha => ?_,fun a c g1 Bi e1 w1 g2 X5 e2 w2 ha hc hm => ?_,fun q hq => ?_,hS.Q4,hS.IK⟩,
  { hU with cL:=fun q hq hn=>rfl,BM:=fun q hq => ?_ },fun _ _ _ _ _ => .inr rfl⟩
 ·rcases fE tG ha with⟨rfl,h⟩ | ⟨eW,h⟩
  ·cases h
   obtain⟨r1,p1,h1,h2,h3⟩:=hS.row _ _ _ _ _ hb
   exact⟨r1,p1,h1,h2,h3.mono hU⟩
  ·obtain⟨r1,p1,h1,h2,h3⟩:=hS.row _ _ _ _ _ h
   exact⟨r1,p1,h1,h2,h3.mono hU⟩
 ·rcases fE tG ha with⟨rfl,h⟩ | ⟨eW,h⟩
  ·cases h
  ·refine⟨fun hF => ?_,(hS.wr _ _ _ _ h).2⟩
   rcases hF with hF | hF
   ·exact(hS.wr _ _ _ _ h).1 hF
   ·exact eW (hS.inj _ _ _ _ _ _ _ _ _ _ h hb hF)
 ·rcases fE tG ha with⟨rfl,h⟩ | ⟨eW,h⟩<;>rcases fE tG hc with⟨rfl,h'⟩ | ⟨VG,h'⟩
  ·rfl
  ·exact hS.inj _ _ _ _ _ _ _ _ _ _ hb h' hm
  ·exact hS.inj _ _ _ _ _ _ _ _ _ _ h hb hm
  ·exact hS.inj _ _ _ _ _ _ _ _ _ _ h h' hm
 ·rcases hq with hq | hq
  ·exact hS.fr q hq
  ·subst hq;exact hS.mlt hb
 ·rcases hq with hq | hq
  ·exact .inl hq
  ·exact .inr (.inr ⟨b,g,es,e,w,hb,hq.symm⟩)
end
end Go.PM
namespace Go.PM
section
variable {V:View} {lo dN:Nat} {ρ:cM} {iX:Env}
def ER (V:View) (ρ:cM) (iX:Env):Prop:=∀t,VR V (ρ t) (iX t)
theorem ER.mono {V':View} (u:Up V V') (h:ER V ρ iX):ER V' ρ iX:=fun t=>(h t).mono u
theorem ER.ev (h:ER V ρ iX) (x:Operand):VR V (dK ρ x) (ev iX x):=by
 cases x with
 | tmp t=>exact h t
 | const v=>exact VR.inj v
 | global g=>exact .any _
 | func f=>exact .sY f [] [] .nil
theorem ER.put {d:Option Nat} {x:VV} {v:Value} (h:ER V ρ iX) (hx:VR V x v):ER V (Ic ρ d x) (put iX d v):=by
 cases d with
 | none=>exact h
 |
  some d =>
  intro t
  simp only[Ic,PM.put]
  split
  ·exact hx
  ·exact h t
theorem ER.evs (h:ER V ρ iX) (xs:List Operand):VL V (xs.map (dK ρ)) (xs.map (PM.ev iX)):=VL.map fun x _=>h.ev x
def fQ (lo dN:Nat) (V:View) (r:Option (Value×aE)) (v:VV) (H':aA):Prop :=
 ∃pv V',r=some (pv,V'.P)∧V'.H=H'∧SR V' lo dN∧Du lo V V'∧VR V' v pv
theorem fQ.pure (hS:SR V lo dN) {r:Option Value} {v:VV} {pv:Value} (h:r=some pv) (hv:VR V v pv):fQ lo dN V (r.map (·,V.P)) v V.H :=
 ⟨pv,V,by rw[h];rfl,rfl,hS,Du.refl _ _,hv⟩
theorem fQ.of {V':View} {pv:Value} {v:VV} (h:SR V' lo dN∧Du lo V V') (hv:VR V' v pv):fQ lo dN V (some (pv,V'.P)) v V'.H:=⟨pv,V',rfl,rfl,h.1,h.2,hv⟩
theorem fQ.same (hS:SR V lo dN) {v:VV} {pv:Value} (hv:VR V v pv):fQ lo dN V (some (pv,V.P)) v V.H :=
 ⟨pv,V,rfl,rfl,hS,Du.refl _ _,hv⟩
theorem bX {α β:Type} {o:Option α} {f:α→β} {b:β} (h:o.map f=some b):∃a,o=some a∧f a=b:=by
 cases o with
 | none=>cases h
 | some a=>cases h;exact⟨a,rfl,rfl⟩
theorem qB {x:VV} {v u:Value} (h:VR V x u) (hx:x = .sc v):u=v∧jS v=true:=by
 subst hx
 cases h with
 | sc v h=>exact⟨rfl,h⟩
theorem WO {op:BinOp} {a b c:Value} (h:cU op a b=some c):jS c=true:=by
 unfold cU at h
 split at h
 ·split at h<;>cases h;rfl
 ·split at h<;>cases h;rfl
 ·split at h
  ·split at h<;>first | (cases h;rfl) | (split at h<;>cases h<;>rfl) | cases h
  ·cases h
 ·split at h<;>first | (cases h;rfl) | (split at h<;>cases h<;>rfl) | cases h
 ·cases h
theorem aaM {op:UnOp} {a c:Value} (h:Yj op a=some c):jS c=true:=by
 unfold Yj at h
 split at h<;>cases h<;>rfl
theorem YA {n:Bool} {a b c:Value} (h:Lm n a b=some c):jS c=true:=by
 unfold Lm at h
 split at h<;>cases h;rfl
theorem WK {k:IntKind} {a c:Value} (h:R7 k a=some c):jS c=true:=by
 unfold R7 at h
 split at h<;>cases h;rfl
theorem YN {a c:Value} (h:U1 a=some c):jS c=true:=by
 unfold U1 at h
 split at h<;>cases h;rfl
theorem V9 {a c:Value} (h:Ae a=some c):jS c=true:=by
 unfold Ae at h
 split at h<;>cases h;rfl
theorem UU {a b c:Value} (h:E2 a b=some c):jS c=true:=by
 unfold E2 at h
 split at h
 ·split at h<;>cases h;rfl
 ·cases h
theorem Zb {a b c:Value} (h:QD a b=some c):jS c=true:=by
 unfold QD at h
 split at h<;>cases h;rfl
theorem Xc {a b c:Value} (h:PK a b=some c):jS c=true:=by
 unfold PK at h
 split at h<;>cases h;rfl
theorem C2 (hS:SR V lo dN) {f:Value→Option Value} (hf:∀a c,f a=some c→jS c=true) {x v:VV} {u:Value} (hx:VR V x u) (h:JR f x=some v):fQ lo dN V ((f u).map (·,V.P)) v V.H:=by
 unfold JR at h
 split at h
 ·obtain⟨h1,_⟩:=qB hx rfl
  subst h1
  obtain⟨c,hc,rfl⟩:=bX h
  exact fQ.pure hS hc (.sc _ (hf _ _ hc))
 ·cases h
theorem zL (hS:SR V lo dN) {f:Value→Value→Option Value} (hf:∀a b c,f a b=some c→jS c=true) {x y v:VV} {u w:Value} (hx:VR V x u) (hy:VR V y w) (h:GY f x y=some v):fQ lo dN V ((f u w).map (·,V.P)) v V.H:=by
 unfold GY at h
 split at h
 ·obtain⟨h1,_⟩:=qB hx rfl
  obtain⟨h2,_⟩:=qB hy rfl
  subst h1 h2
  obtain⟨c,hc,rfl⟩:=bX h
  exact fQ.pure hS hc (.sc _ (hf _ _ _ hc))
 ·cases h
theorem R0 {α:Type} (l:List α) {o n a k:Nat} (h:a+k≤n):(((l.drop o).take n).drop a).take k=(l.drop (o+a)).take k:=by
 rw[List.drop_take,List.take_take,List.drop_drop,Nat.min_eq_left (by omega)]
theorem QU {x v:VV} {agg:Bool} {size off b o e:Nat} {r:List Value} {p:Bool} (hb:V.P[b]? = some (.row r e p)) (ho:o+(aB x).length≤r.length) (hl:VL V (aB x) ((r.drop o).take (aB x).length)) (h:dW agg size x off=some v) :
  ∃u,mT agg size (.pointer (some ⟨b,o+off,none⟩)) V.P=some u∧VR V v u:=by
 unfold dW at h
 cases agg with
 |
  true =>
  simp only[if_true] at h
  split at h
  ·rename_i hs
   cases h
   refine⟨.agg ((r.drop (o+off)).take size).toArray,?_,.agg _ _ ?_⟩
   ·simp only[mT,if_true,zU hb (show o+off+size≤r.length by omega)]
    rfl
   ·have:=(hl.drop off).take size
    rw[R0 _ hs] at this
    exact this
  ·cases h
 |
  false =>
  simp only[Bool.false_eq_true,if_false] at h
  obtain⟨u,hu,hv⟩:=hl.get h
  have aeN:=(List.getElem?_eq_some_iff.1 h).1
  rw[List.getElem?_take,if_pos aeN,List.getElem?_drop] at hu
  refine⟨u,?_,hv⟩
  have aV:=(List.getElem?_eq_some_iff.1 hu).1
  simp only[mT,Bool.false_eq_true,if_false,zU hb (show o+off+1≤r.length by omega)]
  rw[List.drop_eq_getElem_cons aV]
  simp only[List.take_succ_cons,List.take_zero]
  rw[List.getElem?_eq_getElem aV] at hu
  injection hu with hu
  rw[hu]
theorem JF (hS:SR V lo dN) {b g e j:Nat} {es:List VV} {w:Bool} {x:VV} (hb:V.H[b]? = some (.row g es e w)) (hx:es[j]? = some x) :
  ∃r p,V.P[V.m b]? = some (.row r e p)∧(aB x).length=e∧j*e+(aB x).length≤r.length∧VL V (aB x) ((r.drop (j*e)).take (aB x).length):=by
 obtain⟨r,p,h1,h2,h3⟩:=hS.row b g es e w hb
 have hxe:=h2 x (List.mem_of_getElem? hx)
 have hj:=(List.getElem?_eq_some_iff.1 hx).1
 have hlen:=h3.length
 rw[iZ h2] at hlen
 have hm:(j+1)*e≤es.length*e:=Nat.mul_le_mul_right _ hj
 rw[Nat.succ_mul] at hm
 refine⟨r,p,h1,hxe,by omega,?_⟩
 have:=(h3.drop (j*e)).take e
 rw[I3 h2 hx] at this
 rw[hxe]
 exact this
theorem Jj (hS:SR V lo dN) {p v:VV} {u:Value} {agg:Bool} {size:Nat} (hp:VR V p u) (h:dG agg size p V.H=some v):∃w,mT agg size u V.P=some w∧VR V v w:=by
 unfold dG at h
 split at h
 ·cases hp with
  | cO x off b o r e p hF hb ho hl=>exact QU hb ho hl h
 ·split at h
  ·rename_i es e w hr
   rw[bS] at hr
   split at h
   ·rename_i x hx
    cases hp with
    |
     ptr b g j off a aV hg ha hq =>
     have:=ha _ _ _ hr
     subst this
     obtain⟨r,p,h1,h2,h3,h4⟩:=JF hS hr hx
     exact QU h1 h3 h4 h
   ·cases h
  ·cases h
 ·cases h
theorem QV (hS:SR V lo dN) {x i v:VV} {u k:Value} {size:Nat} (hx:VR V x u) (hi:VR V i k) (h:bC size x i V.H=some v):∃w,Nv size u k=some w∧VR V v w:=by
 unfold bC at h
 split at h
 ·rename_i es tk ik i
  obtain⟨rfl,_⟩:=qB hi rfl
  split at h
  ·rename_i h0
   split at h
   ·rename_i y hy
    split at h
    ·rename_i A3
     cases h
     have aV:=(List.getElem?_eq_some_iff.1 hy).1
     cases hx with
     | lS=>simp at aV
     |
      tree es k b o c r e p hF hb ho hc he hk hl =>
      have hye:=he y (List.mem_of_getElem? hy)
      have K3:e=size:=by omega
      subst K3
      have hm:(i.toNat+1)*e≤es.length*e:=Nat.mul_le_mul_right _ aV
      rw[Nat.succ_mul] at hm
      refine⟨_,QI h0 (by omega),?_⟩
      have h1:=(hl.drop (i.toNat*e)).take e
      rw[I3 he hy,R0 _ (by omega)] at h1
      exact .cO y 0 b (o+i.toNat*e) r e p hF hb (by omega) (by rw[hye];exact h1)
    ·cases h
   ·cases h
  ·cases h
 ·rename_i b g o n c ik i
  obtain⟨rfl,_⟩:=qB hi rfl
  split at h
  ·rename_i es e w hr
   rw[bS] at hr
   split at h
   ·rename_i hc
    obtain⟨rfl,h0,h1⟩:=hc
    cases h
    cases hx with
    |
     ref b g o n c a n' c' aV hg ha hq =>
     obtain⟨rfl,rfl,rfl⟩:=ha _ _ _ hr
     refine⟨_,QI h0 h1,.ptr b g (o+i.toNat) 0 _ aV hg (fun lL e' w' FT => ?_) fun a0 h=>by cases h;exact hq ⟨V.m b,o*e,none⟩ rfl⟩
     rw[hr] at FT
     cases FT
     rw[Nat.add_mul,Nat.add_zero]
   ·cases h
  ·cases h
 ·cases h
theorem zT {l:Option Operand} {lv:Option Value} (hE:ER V ρ iX) (h:FH (l.map (dK ρ))=some lv):l.map (ev iX)=lv:=by
 cases l with
 | none=>cases h;rfl
 |
  some x =>
  simp only[Option.map_some,FH] at h
  split at h
  ·rename_i hv;cases hv
  ·rename_i v hv
   cases h
   injection hv with hv
   obtain⟨h1,_⟩:=qB (hE.ev x) hv
   rw[Option.map_some,h1]
  ·cases h
theorem Gk {v:Option Value} {d:Option Nat} {t x:Nat} (hd:∀y,d=some y→y≤t) (h:dV v d t=some x):x≤t:=by
 unfold dV at h
 split at h
 ·exact hd _ h
 ·split at h
  ·cases h;omega
  ·cases h
 ·cases h
theorem MW {v:Option Value} {d d':Option Nat} {t t' x:Nat} (ht:t≤t') (hd:v=none→d=d') (h:dV v d t=some x):dV v d' t'=some x:=by
 unfold dV at h ⊢
 cases v with
 | none=>rw[←hd rfl];exact h
 |
  some v =>
  cases v with
  |
   int k i =>
   simp only at h ⊢
   split at h
   ·rename_i h1;rw[if_pos (by omega)];exact h
   ·cases h
  | _=>simp only at h ⊢;exact h
theorem MD (hS:SR V lo dN) (size:Nat):fQ lo dN V (some (.slice (some ⟨V.P.length,0,none⟩) 0 0,V.P++[.row [] size false])) (.tree [] (.cl size)) V.H:=by
 exact(fQ.of (AO hS (.row [] size false)) (.tree [] (.cl size) V.P.length 0 0 [] size false (.inr rfl) (by simp) (by simp) (by simp) (fun x hx=>by cases hx) ⟨rfl,rfl,rfl⟩ (by simp;exact .nil)) :)
theorem US (hS:SR V lo dN) (hE:ER V ρ iX) {x v:VV} {u:Value} {size:Nat} {l h m:Option Operand} (hx:VR V x u) (hv:Ee size x (l.map (dK ρ)) (h.map (dK ρ)) (m.map (dK ρ)) V.H=some v) :
  fQ lo dN V (BN size u (l.map (ev iX)) (h.map (ev iX)) (m.map (ev iX)) V.P) v V.H:=by
 unfold Ee at hv
 split at hv
 case h_2=>cases hv
 rename_i lv hhv mv hl hh hm
 rw[zT hE hl,zT hE hh,zT hE hm]
 split at hv
 ·rename_i y ys tk
  split at hv
  case isFalse=>cases hv
  rename_i A3
  split at hv
  ·cases hv
  rename_i m0 Xx
  split at hv
  ·cases hv
  rename_i h0 hh0
  split at hv
  ·cases hv
  rename_i l0 zF
  cases hx with
  |
   tree es k b o c r e p hF hb ho hc he hk hl =>
   have K3:e=size:=by rw[←he y List.mem_cons_self];exact A3
   subst K3
   have hlen:(y::ys).length=ys.length+1:=rfl
   rw[hlen] at ho hc
   have b1:m0≤ys.length+1:=Gk (fun z hz=>by injection hz with hz;omega) Xx
   have b2:h0≤m0:=by
    refine Gk (fun z hz => ?_) hh0
    split at hz
    ·cases hz
    ·rename_i hmn
     injection hz with hz
     have:mv=none:=by cases mv<;>simp_all
     subst this
     simp[dV] at Xx
     omega
   have b3:l0≤h0:=Gk (fun z hz=>by injection hz with hz;omega) zF
   have e1:dV mv (some c) c=some (if mv.isSome then m0 else c):=by
    cases mv with
    | none=>rfl
    | some q=>exact MW hc (fun hq=>by cases hq) Xx
   have e2:dV hhv (if mv.isSome then none else some (ys.length+1)) (if mv.isSome then m0 else c)=some h0:=by
    cases mv with
    |
     none =>
     simp only[Option.isSome_none,Bool.false_eq_true,if_false] at hh0 ⊢
     exact MW (by omega) (fun _=>rfl) hh0
    | some q=>exact hh0
   unfold BN
   simp only[hb,if_true]
   rw[e1]
   simp only
   rw[hlen,e2]
   simp only
   rw[zF]
   simp only
   by_cases mC:mv.isSome=true∧m0=l0
   ·rw[if_pos mC] at hv
    cases hv
    rw[if_pos ⟨mC.1,by rw[if_pos mC.1];exact mC.2⟩]
    exact MD hS e
   ·rw[if_neg mC] at hv
    cases hv
    rw[if_neg (fun hh=>mC ⟨hh.1,by have:=hh.2;rw[if_pos hh.1] at this;exact this⟩)]
    have aV:(((y::ys).drop l0).take (h0-l0)).length=h0-l0:=by simp;omega
    have IF:l0*e+(h0-l0)*e=h0*e:=by rw[←Nat.add_mul];congr 1;omega
    have X7:h0*e≤(ys.length+1)*e:=Nat.mul_le_mul_right _ (by omega)
    have Of:h0-l0≤(if mv.isSome then m0 else c)-l0:=by split<;>omega
    have:=VR.tree (V:=V) (((y::ys).drop l0).take (h0-l0)) .op b (o+l0*e) ((if mv.isSome then m0 else c)-l0) r e p hF hb (by rw[aV];omega) (by rw[aV];exact Of) (fun z hz=>he z (List.mem_of_mem_drop (List.mem_of_mem_take hz))) trivial (by
     rw[aV]
     have h1:=(hl.drop (l0*e)).take ((h0-l0)*e)
     rw[R0 _ (by rw[hlen];omega),sM he,sN (fun z hz=>he z (List.mem_of_mem_drop hz))] at h1
     exact h1)
    rw[aV] at this
    exact fQ.same hS this
 ·rename_i b g o n c
  split at hv
  case h_2=>cases hv
  rename_i es e w hr
  rw[bS] at hr
  split at hv
  case isFalse=>cases hv
  rename_i A3
  subst A3
  split at hv
  ·cases hv
  rename_i m0 Xx
  split at hv
  ·cases hv
  rename_i h0 hh0
  split at hv
  ·cases hv
  rename_i l0 zF
  cases hx with
  |
   ref b g o n c a n' c' aV hg ha hq =>
   obtain⟨rfl,rfl,rfl⟩:=ha _ _ _ hr
   obtain⟨r,p,h1,_⟩:=hS.row b g es e w hr
   unfold BN
   simp only[h1,if_true]
   rw[Xx]
   simp only
   rw[hh0]
   simp only
   rw[zF]
   simp only
   by_cases mC:mv.isSome=true∧m0=l0
   ·rw[if_pos mC] at hv
    cases hv
    rw[if_pos mC]
    exact MD hS e
   ·rw[if_neg mC] at hv
    cases hv
    rw[if_neg mC]
    refine fQ.same hS (.ref b g (o+l0) _ _ _ _ _ aV hg (fun lL e' w' FT => ?_) fun a0 h=>by cases h;exact hq ⟨V.m b,o*e,none⟩ rfl)
    rw[hr] at FT
    cases FT
    exact⟨by rw[Nat.add_mul],rfl,rfl⟩
 ·cases hv
theorem An {es:List VV} (h:(es.all fun x=>(aB x).all bQ)=true):(es.flatMap aB).all bQ=true:=by
 rw[List.all_eq_true] at h ⊢
 intro x hx
 obtain⟨y,hy,yT⟩:=List.mem_flatMap.1 hx
 exact List.all_eq_true.1 (h y hy) x yT
theorem vC (hS:SR V lo dN) {y:VV} {u:Value} {size:Nat} {new:List VV} (hy:VR V y u) (h:dD size y V.H=some new) :
  qT u=some new.length∧(∀x∈new,(aB x).length=size)∧(new.flatMap aB).all bQ=true∧∀n,n≤new.length→∃pn,hC V.P size n u=some pn∧VL V ((new.take n).flatMap aB) pn:=by
 unfold dD at h
 split at h
 ·rename_i es tk
  split at h
  case isFalse=>cases h
  rename_i kB
  cases h
  have W3:∀x∈new,(aB x).length=size∧(aB x).all bQ=true:=fun x hx=>by
   have:=List.all_eq_true.1 kB x hx
   simpa using this
  refine⟨?_,fun x hx=>(W3 x hx).1,An (List.all_eq_true.2 fun x hx=>(W3 x hx).2),fun n hn => ?_⟩
  ·cases hy<;>rfl
  ·cases hy with
   |
    lS k hk =>
    have:n=0:=by simpa using hn
    subst this
    exact⟨[],rfl,by simp;exact .nil⟩
   |
    tree es k b o c r e p hF hb ho hc he hk hl =>
    cases K3:new with
    |
     nil =>
     rw[K3] at hn
     have:n=0:=by simpa using hn
     subst this
     refine⟨[],?_,by simp;exact .nil⟩
     simp only[hC,Nat.zero_mul]
     rw[zU hb (by omega)]
     simp
    |
     cons x xs =>
     have Ov:e=size:=by rw[←he x (by rw[K3];exact List.mem_cons_self)];exact(W3 x (by rw[K3];exact List.mem_cons_self)).1
     subst Ov
     have hm:n*e≤new.length*e:=Nat.mul_le_mul_right _ hn
     refine⟨_,by simp only[hC];exact zU hb (by omega),?_⟩
     rw[←K3,←sN he]
     have h1:=hl.take (n*e)
     rw[List.take_take,Nat.min_eq_left hm] at h1
     exact h1
 ·rename_i b g o n c
  split at h
  case h_2=>cases h
  rename_i es e w hr
  rw[bS] at hr
  split at h
  case isFalse=>cases h
  rename_i hc
  obtain⟨rfl,hlen,kB⟩:=hc
  cases h
  obtain⟨r,p,h1,h2,h3⟩:=hS.row b g es e w hr
  have hn2:((es.drop o).take n).length=n:=by simp;omega
  have FF:=h3.length
  rw[iZ h2] at FF
  cases hy with
  |
   ref b g o n c a n' c' aV hg ha hq =>
   obtain⟨rfl,rfl,rfl⟩:=ha _ _ _ hr
   have W7:∀x∈(es.drop o).take n',(aB x).length=e:=fun x hx=>h2 x (List.mem_of_mem_drop (List.mem_of_mem_take hx))
   refine⟨by rw[hn2];rfl,W7,An kB,fun k hk => ?_⟩
   rw[hn2] at hk
   have hm:(o+k)*e≤es.length*e:=Nat.mul_le_mul_right _ (by omega)
   rw[Nat.add_mul] at hm
   refine⟨_,by simp only[hC];exact zU h1 (by omega),?_⟩
   rw[List.take_take,Nat.min_eq_left hk]
   have h4:=(h3.drop (o*e)).take (k*e)
   rw[sM h2,sN (fun x hx=>h2 x (List.mem_of_mem_drop hx))] at h4
   exact h4
 ·rename_i s
  split at h
  case isFalse=>cases h
  rename_i hs
  subst hs
  cases h
  obtain⟨rfl,_⟩:=qB hy rfl
  have hlen:(s.data.toList.map fun b=>VV.sc (.int .u8 (b.toNat:Int))).length=s.size:=by simp
  refine⟨by rw[hlen];rfl,fun x hx => ?_,?_,fun n hn => ?_⟩
  ·obtain⟨b,_,rfl⟩:=List.mem_map.1 hx
   rfl
  ·refine An (List.all_eq_true.2 fun x hx => ?_)
   obtain⟨b,_,rfl⟩:=List.mem_map.1 hx
   rfl
  ·refine⟨(s.data.toList.take n).map fun b=>Value.int .u8 (b.toNat:Int),by simp only[hC,if_true],?_⟩
   rw[←List.map_take,List.flatMap_map]
   have:((s.data.toList.take n).flatMap fun a=>aB (VV.sc (.int .u8 (a.toNat:Int))))=(s.data.toList.take n).map fun a=>VV.sc (.int .u8 (a.toNat:Int)):=by
    generalize s.data.toList.take n=l
    induction l with
    | nil=>rfl
    | cons a l ih=>rw[List.flatMap_cons,ih];rfl
   rw[this]
   exact VL.map fun b _ => .sc _ rfl
 ·cases h
end
end Go.PM
namespace Go.PM
section
variable {V:View} {lo dN:Nat} {ρ:cM} {iX:Env}
theorem IV (hS:SR V lo dN) {es:List VV} {r:List Value} {e n c:Nat} {p:Bool}:VR { V with m:=WC V.m V.H.length V.P.length,H:=V.H++[.row 0 es e true],P:=V.P++[.row r e p] } (.ref V.H.length 0 0 n c) (.slice (some ⟨V.P.length,0,none⟩) n c):=by
 refine .ref _ _ _ _ _ _ _ _ (by simp) (fun g' es e w _=>Nat.zero_le _) (fun lL e' w' h=>⟨?_,rfl,rfl⟩) fun a0 ha => ?_
 ·simp only[kA,Nat.zero_mul]
 ·cases ha
  refine⟨hS.IK,by simp,fun b' g' lL e' w' hb eW hm => ?_⟩
  have xH:(V.H++[cI.row 0 es e true])[b']? = some (.row g' lL e' w'):=hb
  have aV:b'<V.H.length:=by
   have:=(List.getElem?_eq_some_iff.1 xH).1
   simp at this
   omega
  rw[List.getElem?_append_left aV] at xH
  have h2:=hS.mlt xH
  simp only[lH (show b'≠V.H.length by omega)] at hm
  omega
theorem Tt (hS:SR V lo dN) {es:List VV} {r:List Value} {e:Nat} {p:Bool}:VR { V with m:=WC V.m V.H.length V.P.length,H:=V.H++[.row 0 es e true],P:=V.P++[.row r e p] } (.ptr V.H.length 0 0 0) (.pointer (some ⟨V.P.length,0,none⟩)):=by
 refine .ptr _ _ _ _ _ (by simp) (fun g' es e w _=>Nat.zero_le _) (fun lL e' w' h => ?_) fun a0 ha => ?_
 ·simp only[kA,Nat.zero_mul]
 ·cases ha
  refine⟨hS.IK,by simp,fun b' g' lL e' w' hb eW hm => ?_⟩
  have xH:(V.H++[cI.row 0 es e true])[b']? = some (.row g' lL e' w'):=hb
  have aV:b'<V.H.length:=by
   have:=(List.getElem?_eq_some_iff.1 xH).1
   simp at this
   omega
  rw[List.getElem?_append_left aV] at xH
  have h2:=hS.mlt xH
  simp only[lH (show b'≠V.H.length by omega)] at hm
  omega
theorem Fb (hS:SR V lo dN) {x v:VV} {u:Value} {size bytes:Nat} {nw:List VV} {pn:List Value} {H':aA} (hx:VR V x u) (hn:∀x∈nw,(aB x).length=size) (Bt:(nw.flatMap aB).all bQ=true) (hl:VL V (nw.flatMap aB) pn) (h:eJ lo size bytes x nw V.H=some (v,H')) :
  fQ lo dN V (dO dN size bytes u nw.length pn V.P) v H':=by
 unfold eJ at h
 split at h
 case isFalse=>cases h
 rename_i hbs
 have KS:pn.length=nw.length*size:=by rw[hl.length,iZ hn]
 unfold dO
 rw[if_pos ⟨hbs.1,hbs.2,hl.fP Bt,KS⟩]
 split at h
 ·cases hx with
  | tree es k b o c r e p hF hb ho hc he hk hl=>exact hk.elim
  |
   lS =>
   simp only[and_self,if_true]
   split at h
   ·rename_i h0
    cases h
    rw[if_pos h0]
    exact fQ.same hS (.lS _ (.inr rfl))
   ·rename_i h0
    split at h
    case isFalse=>cases h
    rename_i h1
    cases h
    rw[if_neg h0,if_pos h1]
    exact(fQ.of (qG hS (es:=nw) (r:=pn) (e:=size) true hn hl) (IV hS) :)
 ·rename_i es e
  split at h
  case isFalse=>cases h
  rename_i K3
  subst K3
  cases hx with
  | lS k hk=>rcases hk with hk | hk<;>cases hk
  |
   tree es k b o c r e' p hF hb ho hc he hk BO =>
   obtain⟨h1,h2,h3⟩:=hk
   subst h1 h2 h3
   simp only[hb]
   rw[if_pos ⟨trivial,ho⟩]
   split at h
   ·rename_i h0
    cases h
    rw[if_pos (by omega),if_pos h0]
    exact fQ.same hS (.tree es _ b o _ r e false hF hb ho hc he ⟨rfl,rfl,rfl⟩ BO)
   ·rename_i h0
    split at h
    case isFalse=>cases h
    rename_i A3
    cases h
    rw[if_neg (by omega),if_pos A3]
    simp only[Bool.false_eq_true,if_false]
    have kB:∀x∈es++nw,(aB x).length=e:=fun x hx=>by
     rcases List.mem_append.1 hx with h | h
     ·exact he x h
     ·exact hn x h
    exact(fQ.of (qG hS (es:=es++nw) (r:=(r.drop o).take (es.length*e)++pn) (e:=e) true kB (by rw[List.flatMap_append];exact BO.append hl)) (IV hS) :)
 ·rename_i b g o n c
  split at h
  case h_2=>cases h
  rename_i es e hr
  rw[bS] at hr
  split at h
  case isFalse=>cases h
  rename_i hc
  obtain⟨rfl,eX,hon⟩:=hc
  obtain⟨r,p,h1,h2,h3⟩:=hS.row b g es e true hr
  have FF:=h3.length
  rw[iZ h2] at FF
  have DR:=(hS.wr b g es e hr).2 eX
  cases hx with
  |
   ref b g o n c a n' c' aV hg ha hq =>
   obtain⟨rfl,rfl,rfl⟩:=ha _ _ _ hr
   have hm:(o+n')*e≤es.length*e:=Nat.mul_le_mul_right _ hon
   rw[Nat.add_mul] at hm
   simp only[h1]
   rw[if_pos ⟨trivial,by omega⟩]
   split at h
   ·rename_i Tn
    rw[if_pos Tn]
    split at h
    ·rename_i h0
     cases h
     rw[if_pos h0]
     exact fQ.same hS (.ref _ _ _ _ _ _ _ _ aV hg ha hq)
    ·rename_i h0
     split at h
     case isFalse=>cases h
     rename_i nC
     cases h
     rw[if_neg h0]
     have X7:(o+n'+nw.length)*e≤es.length*e:=Nat.mul_le_mul_right _ nC
     rw[Nat.add_mul,Nat.add_mul] at X7
     have kB:∀x∈cK es (o+n') nw,(aB x).length=e:=fun x hx=>by
      rcases HG hx with h | h
      ·exact h2 x h
      ·exact hn x h
     have DS:VL V ((cK es (o+n') nw).flatMap aB) (gU r (o*e+n'*e) pn):=by
      rw[←uQ h2 hn,Nat.add_mul]
      exact h3.gU hl _
     obtain⟨g1,g2⟩:=Cu hS hr eX kB DS h1
     refine⟨.slice (some ⟨V.m b,o*e,none⟩) (n'+nw.length) c',{ V with H:=V.H.set b (.row g (cK es (o+n') nw) e true),P:=V.P.set (V.m b) (.row (gU r (o*e+n'*e) pn) e p) },?_,rfl,g1,g2,?_⟩
     ·unfold aE.write
      simp only[h1]
      rw[if_pos ⟨DR,by omega,hl.fP Bt⟩]
      rfl
     ·refine .ref _ _ _ _ _ _ _ _ (by simpa using aV) (fun g' lL e' w' FT => ?_) (fun lL e' w' FT => ?_) fun a0 h=>by cases h;exact g2.toUp.hq (hq _ rfl)
      ·rcases fE aV FT with⟨_,h⟩ | ⟨h,_⟩
       ·cases h;exact Nat.le_refl _
       ·exact absurd rfl h
      ·rcases fE aV FT with⟨_,h⟩ | ⟨h,_⟩
       ·cases h;exact⟨rfl,rfl,rfl⟩
       ·exact absurd rfl h
   ·rename_i Tn
    split at h
    case isFalse=>cases h
    rename_i A3
    cases h
    rw[if_neg Tn,if_pos A3]
    have kB:∀x∈(es.drop o).take n'++nw,(aB x).length=e:=fun x hx=>by
     rcases List.mem_append.1 hx with h | h
     ·exact h2 x (List.mem_of_mem_drop (List.mem_of_mem_take h))
     ·exact hn x h
    have DS:VL V (((es.drop o).take n'++nw).flatMap aB) ((r.drop (o*e)).take (n'*e)++pn):=by
     rw[List.flatMap_append]
     refine VL.append ?_ hl
     have h4:=(h3.drop (o*e)).take (n'*e)
     rw[sM h2,sN (fun x hx=>h2 x (List.mem_of_mem_drop hx))] at h4
     exact h4
    have fin:∀P1:aE,P1.length=V.P.length→(∀q,q≠V.m b→P1[q]? = V.P[q]?) →
      fQ lo dN V (some (.slice (some ⟨V.P.length,0,none⟩) (n'+nw.length) (n'+nw.length),P1++[.row ((r.drop (o*e)).take (n'*e)++pn) e true])) (.ref b (g+1) 0 (n'+nw.length) (n'+nw.length)) (V.H.set b (.row (g+1) ((es.drop o).take n'++nw) e true)):=by
     intro P1 hP hk
     refine(fQ.of (SN hS hr eX kB DS hP hk true) ?_ :)
     refine .ref _ _ _ _ _ _ _ _ (by simpa using aV) (fun g' lL e' w' FT => ?_) (fun lL e' w' FT => ?_) fun a0 h => ?_
     ·rcases fE aV FT with⟨_,h⟩ | ⟨h,_⟩
      ·cases h;exact Nat.le_refl _
      ·exact absurd rfl h
     ·rcases fE aV FT with⟨_,h⟩ | ⟨h,_⟩
      ·cases h;exact⟨by simp only[kA,Nat.zero_mul],rfl,rfl⟩
      ·exact absurd rfl h
     ·cases h
      refine⟨hS.IK,by simp[hP],fun b' g' lL e' w' hb eW hm => ?_⟩
      rcases fE aV hb with⟨h,_⟩ | ⟨_,h⟩
      ·exact eW h
      ·simp only[lH eW] at hm
       have:=hS.mlt h
       omega
    cases p with
    |
     true =>
     simp only[if_true,DR]
     exact fin (V.P.set (V.m b) .dead) (by simp) fun q hq=>List.getElem?_set_ne (Ne.symm hq)
    |
     false =>
     simp only[Bool.false_eq_true,if_false]
     exact fin V.P rfl fun _ _=>rfl
 ·cases h
theorem OB (hS:SR V lo dN) {p v:VV} {u w:Value} {size:Nat} {H':aA} (hp:VR V p u) (hv:VR V v w) (h:cJ lo size p v V.H=some H'):fQ lo dN V (Eo dN size u w V.P) oQ H':=by
 unfold cJ at h
 split at h
 case h_2=>cases h
 rename_i b g j o
 split at h
 case h_2=>cases h
 rename_i es e hr
 rw[bS] at hr
 split at h
 case h_2=>cases h
 rename_i x hx
 split at h
 case isFalse=>cases h
 rename_i hc
 obtain⟨A3,eX,Bt⟩:=hc
 obtain⟨r,q,h1,h2,h3⟩:=hS.row b g es e true hr
 have FF:=h3.length
 rw[iZ h2] at FF
 have DR:=(hS.wr b g es e hr).2 eX
 have hj:=(List.getElem?_eq_some_iff.1 hx).1
 have hxe:=h2 x (List.mem_of_getElem? hx)
 have hm:(j+1)*e≤es.length*e:=Nat.mul_le_mul_right _ hj
 rw[Nat.succ_mul] at hm
 have mC:=hv.cells (SQ Bt)
 have hwl:(aJ w).length=size:=by rw[mC.length,A3]
 cases hp with
 |
  ptr b g j off a aV hg ha hq =>
  have:=ha _ _ _ hr
  subst this
  have fin:∀y:VV,(aB y).length=e→o+size≤e→aB y=cK (aB x) o (aB v)→H'=V.H.set b (.row g (es.set j y) e true)→fQ lo dN V (Eo dN size (.pointer (some ⟨V.m b,j*e+o,none⟩)) w V.P) oQ H':=by
   intro y hy ho hye hH
   subst hH
   have kB:∀z∈es.set j y,(aB z).length=e:=fun z hz=>by
    rcases List.mem_or_eq_of_mem_set hz with h | h
    ·exact h2 z h
    ·subst h;exact hy
   have DS:VL V ((es.set j y).flatMap aB) (gU r (j*e+o) (aJ w)):=by
    have e1:(es.set j y).flatMap aB=cK (es.flatMap aB) (j*e+o) (aB v):=by
     rw[←HH hj,←uQ h2 (new:=[y]) (fun z hz=>by rw[List.mem_singleton] at hz;subst hz;exact hy)]
     simp only[List.flatMap_cons,List.flatMap_nil,List.append_nil]
     rw[hye]
     have hx2:=I3 h2 hx
     unfold cK
     have t1:(es.flatMap aB).take (j*e+o)=(es.flatMap aB).take (j*e)++(aB x).take o:=by
      rw[List.take_add,←hx2,List.take_take,Nat.min_eq_left (by omega)]
     have t2:(es.flatMap aB).drop (j*e+o+(aB v).length)=(aB x).drop (o+(aB v).length)++(es.flatMap aB).drop (j*e+e):=by
      have t0:(es.flatMap aB).drop (j*e+e)=((es.flatMap aB).drop (j*e+(o+(aB v).length))).drop (e-(o+(aB v).length)):=by
       rw[List.drop_drop]
       congr 1
       omega
      rw[←hx2,List.drop_take,List.drop_drop,t0,List.take_append_drop,Nat.add_assoc]
     rw[t1,t2]
     have t3:(List.take o (aB x)++aB v++List.drop (o+(aB v).length) (aB x)).length=e:=by
      simp;omega
     rw[t3]
     simp only[List.append_assoc]
    rw[e1]
    exact h3.gU mC _
   obtain⟨g1,g2⟩:=Cu hS hr eX kB DS h1
   refine⟨undef,{ V with H:=V.H.set b (.row g (es.set j y) e true),P:=V.P.set (V.m b) (.row (gU r (j*e+o) (aJ w)) e q) },?_,rfl,g1,g2,.dY [] [] .nil⟩
   unfold Eo
   simp only[hwl,if_true]
   unfold aE.write
   simp only[h1]
   rw[if_pos ⟨DR,by omega,mC.fP Bt⟩]
   rfl
  split at h
  ·rename_i ho
   obtain⟨rfl,rfl⟩:=ho
   cases h
   refine fin v A3 (by omega) ?_ rfl
   unfold cK
   rw[Nat.zero_add,List.take_zero,List.nil_append,List.drop_of_length_le (by omega),List.append_nil]
  ·split at h
   case isFalse=>cases h
   rename_i ho
   cases h
   have QJ:(cK (aB x) o (aB v)).length=e:=by rw[QT (by omega)];exact hxe
   exact fin (.agg (cK (aB x) o (aB v))) QJ (by omega) rfl rfl
theorem Cz {z:List Value} (hz:(z.map iH).all bQ=true):(aB (elemOf (z.map iH))).length=z.length:=by
 rw[lX hz,List.length_map]
theorem AE {z:List Value} (hz:(z.map iH).all bQ=true):∀n,VL V ((List.replicate n (elemOf (z.map iH))).flatMap aB) (cE n z):=by
 intro n
 have Bt:z.all fP=true:=(VL.zero (V:=V) z).fP hz
 have W4:cE n z=(List.replicate n ()).flatMap fun _=>z:=by
  rcases Nat.eq_zero_or_pos z.length with h0 | iU
  ·have:z=[]:=List.length_eq_zero_iff.1 h0
   subst this
   simp[cE]
  ·exact QQ (enc:=fun(_:Unit)=>z) (cF:=z.length) (x:=()) ⟨fun _=>rfl,fun _=>Bt,iU⟩
 rw[W4]
 clear W4
 induction n with
 | zero=>exact .nil
 |
  succ n ih =>
  rw[List.replicate_succ,List.replicate_succ,List.flatMap_cons,List.flatMap_cons,lX hz]
  exact(VL.zero z).append ih
theorem So (hS:SR V lo dN) {z:List Value} {bytes:Nat} {l c v:VV} {u w:Value} {H':aA} (hz:(z.map iH).all bQ=true) (hl:VR V l u) (hc:VR V c w) (h:AA z bytes l c V.H=some (v,H')):fQ lo dN V (Tx z bytes u w V.P) v H':=by
 unfold AA at h
 split at h
 case h_2=>cases h
 obtain⟨rfl,_⟩:=qB hl rfl
 obtain⟨rfl,_⟩:=qB hc rfl
 split at h
 case isFalse=>cases h
 rename_i P0
 cases h
 unfold Tx
 simp only[if_pos P0]
 exact(fQ.of (qG hS (e:=z.length) false (fun x hx=>by rw[List.eq_of_mem_replicate hx];exact Cz hz) (AE hz _)) (IV hS) :)
theorem V3 (hS:SR V lo dN) {z:List Value} (hz:(z.map iH).all bQ=true):fQ lo dN V (some (.pointer (some ⟨V.P.length,0,none⟩),V.P++[.row z z.length false])) (.ptr V.H.length 0 0 0) (V.H++[.row 0 [elemOf (z.map iH)] z.length true]):=by
 exact(fQ.of (qG hS (es:=[elemOf (z.map iH)]) (r:=z) (e:=z.length) false (fun x hx=>by rw[List.mem_singleton] at hx;subst hx;exact Cz hz) (by simp only[List.flatMap_cons,List.flatMap_nil,List.append_nil,lX hz];exact VL.zero z)) (Tt hS) :)
theorem Vm (hS:SR V lo dN) {x v:VV} {u:Value} {H':aA} {bf:Bool} (hx:VR V x u) (hs:(aB x).all bQ=true) (h:(if bf=true then some (VV.cO x 0,V.H) else some (VV.ptr V.H.length 0 0 0,V.H++[cI.row 0 [x] (aB x).length true]))=some (v,H')) :
  fQ lo dN V (if (aJ u).all fP then some (.pointer (some ⟨V.P.length,0,none⟩),V.P++[.row (aJ u) (aJ u).length false]) else none) v H':=by
 have hc:=hx.cells (SQ hs)
 rw[if_pos (hc.fP hs)]
 split at h
 ·cases h
  have g:=AO hS (.row (aJ u) (aJ u).length false)
  refine(fQ.of g ?_ :)
  have hm:=hc.mono g.2.toUp
  refine .cO x 0 V.P.length 0 (aJ u) (aJ u).length false (.inr rfl) (by simp) (by rw[hc.length];omega) ?_
  rw[List.drop_zero,List.take_of_length_le (by rw[hc.length];exact Nat.le_refl _)]
  exact hm
 ·cases h
  rw[hc.length]
  exact(fQ.of (qG hS (es:=[x]) (r:=aJ u) (e:=(aB x).length) false (fun y hy=>by rw[List.mem_singleton] at hy;subst hy;rfl) (by simpa using hc)) (Tt hS) :)
theorem take_set {α:Type} {l:List α} {i:Nat} {x:α} (h:i<l.length):l.set i x=l.take i++x::l.drop (i+1):=by
 rw[List.set_eq_take_append_cons_drop,if_pos h]
inductive RH (V:View):List (Nat×VV)→List (Nat×Value)→Prop
 | nil:RH V [] []
 | cons {i:Nat} {x:VV} {v:Value} {xs:List (Nat×VV)} {vs:List (Nat×Value)} (h:VR V x v) (hs:RH V xs vs):RH V ((i,x)::xs) ((i,v)::vs)
theorem DQ {e n:Nat}:∀ {parts:List (Nat×VV)} {zE:List (Nat×Value)} {es lL:List VV} {r:List Value},es.length=n→(∀x∈es,(aB x).length=e)→VL V (es.flatMap aB) r →
  RH V parts zE→uU e es parts=some lL→lL.length=n∧(∀x∈lL,(aB x).length=e)∧∃r',uI ((List.range n).map fun i=>(i*e,e)) r zE=some r'∧VL V (lL.flatMap aB) r'
 |
  [],_,es,lL,r,hn,he,hl,.nil,h=>by
  cases h
  exact⟨hn,he,r,rfl,hl⟩
 |
  (i,v)::parts,(_,w)::zE,es,lL,r,hn,he,hl,.cons hv hps,h=>by
  unfold uU at h
  split at h
  case isFalse=>cases h
  rename_i hc
  obtain⟨hi,hve,Bt⟩:=hc
  have mC:=hv.cells (SQ Bt)
  have hwl:(aJ w).length=e:=by rw[mC.length,hve]
  have FF:=hl.length
  rw[iZ he] at FF
  have hm:(i+1)*e≤es.length*e:=Nat.mul_le_mul_right _ hi
  rw[Nat.succ_mul] at hm
  have kB:∀x∈es.set i v,(aB x).length=e:=fun x hx=>by
   rcases List.mem_or_eq_of_mem_set hx with h | h
   ·exact he x h
   ·subst h;exact hve
  have DS:VL V ((es.set i v).flatMap aB) (r.take (i*e)++aJ w++r.drop (i*e+e)):=by
   have h1:=hl.gU mC (i*e)
   have h2:=uQ he (new:=[v]) (fun z hz=>by rw[List.mem_singleton] at hz;subst hz;exact hve) i
   simp only[List.flatMap_cons,List.flatMap_nil,List.append_nil] at h2
   rw[h2,HH hi] at h1
   unfold gU at h1
   rw[hwl] at h1
   exact h1
  obtain⟨g1,g2,r',g3,g4⟩:=DQ (n:=n) (by rw[List.length_set];exact hn) kB DS hps h
  refine⟨g1,g2,r',?_,g4⟩
  unfold uI
  have hr:((List.range n).map fun i=>(i*e,e))[i]? = some (i*e,e):=by simp[List.getElem?_range (show i<n by omega)]
  simp only[hr]
  rw[if_pos ⟨hwl,by omega⟩]
  exact g3
theorem F3 (hE:ER V ρ iX):∀parts:List (Nat×Operand),RH V (parts.map fun(i,x)=>(i,dK ρ x)) (parts.map fun(i,x)=>(i,ev iX x))
 | [] => .nil
 | (i,x)::parts => .cons (hE.ev x) (F3 hE parts)
theorem ET {e:Nat}:∀ {parts:List (Nat×VV)} {es lL:List VV},(es.all fun x=>(aB x).all bQ)=true→uU e es parts=some lL→(lL.all fun x=>(aB x).all bQ)=true
 | [],es,lL,h,hf=>by cases hf;exact h
 |
  (i,v)::parts,es,lL,h,hf=>by
  unfold uU at hf
  split at hf
  case isFalse=>cases hf
  rename_i hc
  refine ET ?_ hf
  rw[List.all_eq_true] at h ⊢
  intro x hx
  rcases List.mem_or_eq_of_mem_set hx with h1 | h1
  ·exact h x h1
  ·subst h1;exact hc.2.2
theorem Vt (hS:SR V lo dN) {lr:Bool} {z:List Value} {n:Nat} {parts:List (Nat×VV)} {zE:List (Nat×Value)} {v:VV} {H':aA} (hp:RH V parts zE) (h:mV lr z n parts V.H=some (v,H')):fQ lo dN V (abI z n zE V.P) v H':=by
 unfold mV at h
 split at h
 case h_2=>cases h
 rename_i es K3
 split at h
 case isFalse=>cases h
 rename_i hz
 obtain⟨g1,g2,r',g3,g4⟩:=DQ (V:=V) (n:=n) (by simp) (fun x hx=>by rw[List.eq_of_mem_replicate hx];exact Cz hz) (AE hz n) hp K3
 have Bt:=ET (by
  rw[List.all_eq_true]
  intro x hx
  rw[List.eq_of_mem_replicate hx,lX hz]
  exact hz) K3
 unfold abI
 simp only[g3]
 rw[if_pos (g4.fP (An Bt))]
 split at h
 ·cases h
  exact(fQ.of (qG hS (e:=z.length) false g2 g4) (IV hS) :)
 ·cases h
  have k:=AO hS (.row r' z.length false)
  refine(fQ.of k ?_ :)
  have hm:=g4.mono k.2.toUp
  have FF:=g4.length
  rw[iZ g2] at FF
  subst g1
  refine .tree es _ V.P.length 0 es.length r' z.length false (.inr rfl) (by simp) (by omega) (Nat.le_refl _) g2 ⟨rfl,rfl,rfl⟩ ?_
  rw[List.drop_zero,List.take_of_length_le (by omega)]
  exact hm
theorem MR (hS:SR V lo dN) {b g e o:Nat} {es nw:List VV} {pn:List Value} (hr:V.H[b]? = some (.row g es e true)) (eX:lo≤b) (nC:o+nw.length≤es.length) (hn:∀x∈nw,(aB x).length=e) (Bt:(nw.flatMap aB).all bQ=true) (hl:VL V (nw.flatMap aB) pn) :
  ∃V',V.P.write dN (V.m b) (o*e) pn=some V'.P∧V'.H=V.H.set b (.row g (cK es o nw) e true)∧SR V' lo dN∧Du lo V V':=by
 obtain⟨r,q,h1,h2,h3⟩:=hS.row b g es e true hr
 have FF:=h3.length
 rw[iZ h2] at FF
 have DR:=(hS.wr b g es e hr).2 eX
 have KS:=hl.length
 rw[iZ hn] at KS
 have hm:(o+nw.length)*e≤es.length*e:=Nat.mul_le_mul_right _ nC
 rw[Nat.add_mul] at hm
 have kB:∀x∈cK es o nw,(aB x).length=e:=fun x hx=>by
  rcases HG hx with h | h
  ·exact h2 x h
  ·exact hn x h
 have DS:VL V ((cK es o nw).flatMap aB) (gU r (o*e) pn):=by
  rw[←uQ h2 hn]
  exact h3.gU hl _
 obtain⟨g1,g2⟩:=Cu hS hr eX kB DS h1
 refine⟨{ V with H:=V.H.set b (.row g (cK es o nw) e true),P:=V.P.set (V.m b) (.row (gU r (o*e) pn) e q) },?_,rfl,g1,g2⟩
 unfold aE.write
 simp only[h1]
 rw[if_pos ⟨DR,by omega,hl.fP Bt⟩]
theorem RU (hS:SR V lo dN) {x y v:VV} {u w:Value} {size:Nat} {H':aA} (hx:VR V x u) (hy:VR V y w) (h:MN lo size x y V.H=some (v,H')):fQ lo dN V (copyV dN size u w V.P) v H':=by
 unfold MN at h
 split at h
 ·rename_i new hs
  obtain⟨h1,_⟩:=vC hS hy hs
  cases h
  cases hx with
  | tree es k b o c r e p hF hb ho hc he hk hl=>exact hk.elim
  |
   lS =>
   unfold copyV
   simp only[h1]
   exact fQ.same hS (.sc _ rfl)
 ·rename_i b g o d c new hs
  obtain⟨h1,h2,h3,h4⟩:=vC hS hy hs
  split at h
  case h_2=>cases h
  rename_i es e hr
  rw[bS] at hr
  split at h
  case isFalse=>cases h
  rename_i hc
  obtain⟨rfl,eX,nC⟩:=hc
  cases h
  cases hx with
  |
   ref b g o n c a n' c' aV hg ha hq =>
   obtain⟨rfl,rfl,rfl⟩:=ha _ _ _ hr
   have ZP:(new.take n').length=Nat.min new.length n':=by rw[List.length_take];exact Nat.min_comm _ _
   obtain⟨pn,h5,h6⟩:=h4 (Nat.min new.length n') (Nat.min_le_left _ _)
   have ht:new.take (Nat.min new.length n')=new.take n':=by
    rw[←ZP,List.length_take,←List.take_take,List.take_length]
   rw[ht] at h6
   have J2:∀x∈new.take n',(aB x).length=e:=fun x hx=>h2 x (List.mem_of_mem_take hx)
   have Bt:((new.take n').flatMap aB).all bQ=true:=by
    rw[List.all_eq_true] at h3 ⊢
    intro x hx
    obtain⟨y,hy,yT⟩:=List.mem_flatMap.1 hx
    exact h3 x (List.mem_flatMap.2 ⟨y,List.mem_of_mem_take hy,yT⟩)
   obtain⟨V',k1,k2,k3,k4⟩:=MR hS hr eX nC J2 Bt h6
   refine⟨.int .i64 (Nat.min new.length n'),V',?_,k2,k3,k4,?_⟩
   ·unfold copyV
    simp only[h1,h5,k1]
    rfl
   ·rw[ZP]
    exact .sc _ rfl
 ·cases h
theorem PU (hS:SR V lo dN) {x:VV} {u:Value} {z:List Value} {H':aA} (hx:VR V x u) (h:Nt lo z x V.H=some H'):fQ lo dN V (Nx dN z u V.P) oQ H':=by
 unfold Nt at h
 split at h
 case h_2=>cases h
 rename_i b g o n c
 split at h
 case h_2=>cases h
 rename_i es e hr
 rw[bS] at hr
 cases hx with
 |
  ref b g o n c a n' c' aV hg ha hq =>
  obtain⟨rfl,rfl,rfl⟩:=ha _ _ _ hr
  unfold Nx
  simp only
  split at h
  ·rename_i h0
   cases h
   rw[if_pos h0]
   exact fQ.same hS (.dY [] [] .nil)
  ·rename_i h0
   rw[if_neg h0]
   split at h
   case isFalse=>cases h
   rename_i hc
   obtain⟨rfl,eX,nC,hz⟩:=hc
   cases h
   have J2:∀x∈List.replicate n' (elemOf (z.map iH)),(aB x).length=z.length:=fun x hx=>by rw[List.eq_of_mem_replicate hx];exact Cz hz
   obtain⟨V',k1,k2,k3,k4⟩:=MR hS hr eX (nw:=List.replicate n' (elemOf (z.map iH))) (by simpa using nC) J2 (An (by
    rw[List.all_eq_true]
    intro x hx
    rw[List.eq_of_mem_replicate hx,lX hz]
    exact hz)) (AE hz n')
   refine⟨undef,V',?_,k2,k3,k4,.dY [] [] .nil⟩
   rw[k1]
   rfl
end
end Go.PM
namespace Go.PM
section
variable {V:View} {lo dN:Nat} {ρ:cM} {iX:Env}
theorem OA {x v:VV} {u:Value} {neg:Bool} (hx:VR V x u) (h:Ec neg x V.H=some v):∃w,XC neg u=some w∧VR V v w:=by
 unfold Ec at h
 split at h
 ·cases h
  cases hx with
  | tree es k b o c r e p hF hb ho hc he hk hl=>exact hk.elim
  | lS=>exact⟨_,rfl,.sc _ rfl⟩
 ·cases h
  cases hx with
  | lS k hk=>rcases hk with hk | hk<;>cases hk
  | tree=>exact⟨_,rfl,.sc _ rfl⟩
 ·cases h
  cases hx with
  | tree=>exact⟨_,rfl,.sc _ rfl⟩
 ·obtain⟨⟨es,e,w⟩,hr,rfl⟩:=bX h
  rw[bS] at hr
  cases hx with
  |
   ref b g o n c a n' c' aV hg ha hq =>
   obtain⟨rfl,rfl,rfl⟩:=ha _ _ _ hr
   exact⟨_,rfl,.sc _ rfl⟩
 ·cases h
theorem Vj {x v:VV} {u:Value} (hx:VR V x u) (h:nS x V.H=some v):∃w,aeT u=some w∧VR V v w:=by
 unfold nS at h
 split at h
 ·cases h
  cases hx<;>exact⟨_,rfl,.sc _ rfl⟩
 ·obtain⟨⟨es,e,w⟩,hr,rfl⟩:=bX h
  rw[bS] at hr
  cases hx with
  |
   ref b g o n c a n' c' aV hg ha hq =>
   obtain⟨rfl,rfl,rfl⟩:=ha _ _ _ hr
   exact⟨_,rfl,.sc _ rfl⟩
 ·cases h
theorem Qx {x v:VV} {u:Value} {off:Nat} (hx:VR V x u) (h:Gw off x V.H=some v):∃w,YH off u=some w∧VR V v w:=by
 unfold Gw at h
 split at h
 ·cases h
  cases hx with
  | cO x off b o r e p hF hb ho hl=>exact⟨_,rfl,by rw[Nat.add_assoc];exact .cO _ _ b o r e p hF hb ho hl⟩
 ·obtain⟨⟨es,e,w⟩,hr,rfl⟩:=bX h
  rw[bS] at hr
  cases hx with
  |
   ptr b g j off a aV hg ha hq =>
   have:=ha _ _ _ hr
   subst this
   refine⟨_,rfl,.ptr _ _ _ _ _ aV hg (fun lL e' w' FT => ?_) fun a0 h=>by cases h;have:=hq _ rfl;exact this⟩
   rw[hr] at FT
   cases FT
   rw[Nat.add_assoc]
 ·cases h
theorem Uz {x v:VV} {u:Value} (hx:VR V x u) (h:Vh x V.H=some v):∃w,akI u=some w∧VR V v w:=by
 unfold Vh at h
 split at h
 ·cases h
  cases hx with
  | cO x off b o r e p hF hb ho hl=>exact⟨_,rfl,.cO _ _ b o r e p hF hb ho hl⟩
 ·obtain⟨⟨es,e,w⟩,hr,rfl⟩:=bX h
  rw[bS] at hr
  cases hx with
  |
   ptr b g j off a aV hg ha hq =>
   have:=ha _ _ _ hr
   subst this
   exact⟨_,rfl,.ptr _ _ _ _ _ aV hg ha hq⟩
 ·cases h
theorem Sr {c a b v:VV} {u x y:Value} (hc:VR V c u) (ha:VR V a x) (hb:VR V b y) (h:P9 c a b=some v):∃t,u = .bool t∧VR V v (if t then x else y):=by
 unfold P9 at h
 split at h
 ·rename_i t
  cases h
  obtain⟨rfl,_⟩:=qB hc rfl
  refine⟨t,rfl,?_⟩
  cases t
  ·exact hb
  ·exact ha
 ·cases h
theorem Wl {x v:VV} {u:Value} {i:Nat} (hx:VR V x u) (h:YR i x=some v):∃w,aeZ i u=some w∧VR V v w:=by
 unfold YR at h
 split at h
 ·cases hx with
  |
   dY cs ps hl =>
   obtain⟨w,hw,hv⟩:=hl.get h
   exact⟨w,by simpa[aeZ] using hw,hv⟩
 ·cases h
theorem UL {x v:VV} {u:Value} {agg:Bool} {off size:Nat} (hx:VR V x u) (h:Z3 agg off size x=some v):∃w,abZ agg off size u=some w∧VR V v w:=by
 unfold Z3 at h
 split at h
 ·rename_i cs
  cases hx with
  |
   agg cs ps hl =>
   split at h
   ·rename_i ha
    split at h
    ·rename_i hs
     cases h
     refine⟨.agg ((ps.drop off).take size).toArray,?_,.agg _ _ ((hl.drop off).take size)⟩
     unfold abZ
     simp only[ha,if_true]
     rw[if_pos (by simpa[hl.length] using hs)]
     congr 2
     apply Array.ext'
     simp[List.extract_eq_take_drop]
    ·cases h
   ·rename_i ha
    obtain⟨w,hw,hv⟩:=hl.get h
    refine⟨w,?_,hv⟩
    unfold abZ
    simp only[ha]
    simpa using hw
 ·cases h
theorem K1 {ks:List CK}:∀ {xs ys:List VV} {us ws:List Value} {t:Bool},VL V xs us→VL V ys ws→oX ks xs ys=some t→nU ks us ws=some t:=by
 induction ks with
 |
  nil =>
  intro xs ys us ws t h1 h2 h
  cases h1 with
  |
   nil=>cases h2 with
   | nil=>exact h
   | cons=>simp[oX] at h
  | cons=>simp[oX] at h
 |
  cons k ks ih =>
  intro xs ys us ws t h1 h2 h
  cases h1 with
  | nil=>simp[oX] at h
  |
   cons x u xs us hx Ov=>cases h2 with
   | nil=>cases x<;>simp[oX] at h
   |
    cons y w ys ws hy hys =>
    cases hx with
    |
     sc _ _=>cases hy with
     |
      sc _ _ =>
      simp only[oX] at h
      simp only[nU]
      split at h
      ·rename_i h1
       rw[h1]
       exact ih Ov hys h
      ·rename_i h1
       rw[h1]
       exact h
      ·cases h
     | _=>simp[oX] at h
    | _=>simp[oX] at h
theorem JZ {places:List (Nat×Nat)}:∀ {parts:List (Nat×VV)} {zE:List (Nat×Value)} {cs zG:List VV} {r:List Value},VL V cs r→RH V parts zE→xI places cs parts=some zG →
  ∃r',uI places r zE=some r'∧VL V zG r'
 | [],_,cs,zG,r,hl,.nil,h=>by cases h;exact⟨r,rfl,hl⟩
 |
  (i,v)::parts,(_,w)::zE,cs,zG,r,hl,.cons hv hps,h=>by
  unfold xI at h
  unfold uI
  split at h
  ·cases h
  ·rename_i off size KS
   simp only[KS]
   split at h
   case isFalse=>cases h
   rename_i hc
   have mC:=hv.cells (fun e=>by subst e;cases hc.2.2)
   rw[if_pos ⟨by rw[mC.length];exact hc.1,by rw[hl.length];exact hc.2.1⟩]
   exact JZ (((hl.take off).append mC).append (hl.drop _)) hps h
theorem Hj:∀ {es:List VV} {r:List Value} {bs:List UInt8},VL V (es.flatMap aB) r→Ge es=some bs→sS r=some bs
 | [],_,bs,.nil,h=>h
 |
  x::es,r,bs,hl,h=>by
  unfold Ge at h
  split at h
  ·rename_i e;cases e
  ·rename_i n r' e
   cases e
   obtain⟨t,ht,rfl⟩:=bX h
   rw[List.flatMap_cons] at hl
   cases hl with
   |
    cons _ u _ us hu hus =>
    obtain⟨rfl,_⟩:=qB hu rfl
    unfold sS
    rw[Hj hus ht]
    rfl
  ·cases h
theorem lift {r:Option VV} {v:VV} {H':aA} {s:Option (Value×aE)} (h:r.map (·,V.H)=some (v,H')) (k:r=some v→fQ lo dN V s v V.H):fQ lo dN V s v H':=by
 obtain⟨a,ha,he⟩:=bX h
 cases he
 exact k ha
theorem VE (hS:SR V lo dN) (hE:ER V ρ iX) {fl:Fl} {o:mB} {v:VV} {H':aA} {q:Bool} (h:vop fl lo o ρ V.H=some (v,H')):fQ lo dN V (iL dN q o iX V.P) v H':=by
 cases o<;>simp only[vop] at h
 case mv x=>cases h;rw[abK];exact fQ.same hS (hE.ev x)
 case pick c a b =>
  refine lift h fun h => ?_
  obtain⟨t,ht,hv⟩:=Sr (hE.ev c) (hE.ev a) (hE.ev b) h
  rw[U0,ht]
  exact fQ.same hS hv
 case bin op x y=>rw[XL];exact lift h fun h=>zL (f:=cU op) hS (fun _ _ _=>WO) (hE.ev x) (hE.ev y) h
 case eqb neg x y=>rw[Yg];exact lift h fun h=>zL (f:=Lm neg) hS (fun _ _ _=>YA) (hE.ev x) (hE.ev y) h
 case isnil neg x =>
  rw[SG]
  refine lift h fun h => ?_
  obtain⟨w,h1,h2⟩:=OA (hE.ev x) h
  exact fQ.pure hS h1 h2
 case eqagg neg ks x y =>
  rw[R5]
  refine lift h fun h => ?_
  unfold Rf at h
  split at h
  case h_2=>cases h
  rename_i a b hx hy
  obtain⟨t,ht,rfl⟩:=bX h
  have h1:=hE.ev x
  have h2:=hE.ev y
  rw[hx] at h1
  rw[hy] at h2
  generalize ev iX x=u at h1 ⊢
  generalize ev iX y=w at h2 ⊢
  cases h1 with
  |
   agg cs ps h1=>cases h2 with
   |
    agg zG ps' h2 =>
    refine fQ.pure hS (pv := .bool (t != neg)) ?_ (.sc _ rfl)
    unfold XJ
    simp only
    rw[K1 h1 h2 ht]
    rfl
 case un op x=>rw[abT];exact lift h fun h=>C2 (f:=Yj op) hS (fun _ _=>aaM) (hE.ev x) h
 case cvt k x=>rw[X9];exact lift h fun h=>C2 (f:=R7 k) hS (fun _ _=>WK) (hE.ev x) h
 case cvs x =>
  have e:iL dN q (.cvs x) iX V.P=(U1 (ev iX x)).map (·,V.P):=cW rfl
  rw[e];exact lift h fun h=>C2 (f:=U1) hS (fun _ _=>YN) (hE.ev x) h
 case ext x i =>
  rw[Xm]
  refine lift h fun h => ?_
  obtain⟨w,h1,h2⟩:=Wl (hE.ev x) h
  exact fQ.pure hS h1 h2
 case fld agg off size x =>
  rw[XD]
  refine lift h fun h => ?_
  obtain⟨w,h1,h2⟩:=UL (hE.ev x) h
  exact fQ.pure hS h1 h2
 case build zero places parts =>
  obtain⟨cs,IN,he⟩:=bX h
  cases he
  obtain⟨r,h1,h2⟩:=JZ (VL.zero zero) (F3 hE parts) IN
  rw[SI,h1]
  exact fQ.same hS (.agg _ _ h2)
 case chk x =>
  rw[Zh]
  refine lift h fun h => ?_
  obtain⟨w,h1,h2⟩:=Uz (hE.ev x) h
  exact fQ.pure hS h1 h2
 case faddr off x =>
  rw[Sq]
  refine lift h fun h => ?_
  obtain⟨w,h1,h2⟩:=Qx (hE.ev x) h
  exact fQ.pure hS h1 h2
 case iaddr size x i =>
  rw[SV]
  refine lift h fun h => ?_
  obtain⟨w,h1,h2⟩:=QV hS (hE.ev x) (hE.ev i) h
  exact fQ.pure hS h1 h2
 case sidx x i =>
  have e:iL dN q (.sidx x i) iX V.P=(E2 (ev iX x) (ev iX i)).map (·,V.P):=cW rfl
  rw[e];exact lift h fun h=>zL (f:=E2) hS (fun _ _ _=>UU) (hE.ev x) (hE.ev i) h
 case ssub x l h' =>
  refine lift h fun h => ?_
  unfold tN at h
  split at h
  case h_2=>cases h
  rename_i s lv hv hx h1 h2
  split at h
  case h_2=>cases h
  rename_i a b Gz
  cases h
  obtain⟨e1,_⟩:=qB (hE.ev x) hx
  have e:iL dN q (.ssub x l h') iX V.P=some (.string (s.extract a b),V.P):=by
   rw[cW rfl]
   simp only[gJ,e1]
   rw[zT hE h1,zT hE h2,Gz]
   rfl
  rw[e]
  exact fQ.same hS (.sc _ rfl)
 case mkfn f eY =>
  cases h
  rw[Uw]
  exact fQ.same hS (.sY _ _ _ (hE.evs eY))
 case len x =>
  rw[Xr]
  refine lift h fun h => ?_
  obtain⟨w,h1,h2⟩:=Vj (hE.ev x) h
  exact fQ.pure hS h1 h2
 case slen x =>
  have e:iL dN q (.slen x) iX V.P=(Ae (ev iX x)).map (·,V.P):=cW rfl
  rw[e];exact lift h fun h=>C2 (f:=Ae) hS (fun _ _=>V9) (hE.ev x) h
 case min x y=>rw[XB];exact lift h fun h=>zL (f:=QD) hS (fun _ _ _=>Zb) (hE.ev x) (hE.ev y) h
 case max x y=>rw[YB];exact lift h fun h=>zL (f:=PK) hS (fun _ _ _=>Xc) (hE.ev x) (hE.ev y) h
 case load agg size p =>
  rw[UF]
  refine lift h fun h => ?_
  obtain⟨w,h1,h2⟩:=Jj hS (hE.ev p) h
  exact fQ.pure hS h1 h2
 case sub size x l hh m =>
  rw[WL]
  exact lift h fun h=>US hS hE (hE.ev x) h
 case b2s x =>
  split at h
  ·cases h
  rename_i y eW
  split at h
  case h_2=>cases h
  rename_i es K3
  obtain⟨bs,hbs,he⟩:=bX h
  cases he
  obtain⟨h1,h2,h3,h4⟩:=vC hS (hE.ev x) K3
  obtain⟨pn,h5,h6⟩:=h4 es.length (Nat.le_refl _)
  rw[List.take_length] at h6
  have hb:=Hj h6 hbs
  have hx:=hE.ev x
  have e:iL dN q (.b2s x) iX V.P=some (.string ⟨bs.toArray⟩,V.P):=by
   apply oB
   simp only[pop]
   generalize ev iX x=u at *
   cases u<;>first | (exfalso;simp[qT] at h1;done) | skip
   case string s =>
    generalize dK ρ x=y at *
    cases hx with
    | any=>simp[dD] at K3
    | sc _ _=>exact absurd rfl (eW _)
   case slice a n c =>
    injection h1 with h1
    subst h1
    cases a with
    |
     none =>
     simp only[hC] at h5
     split at h5
     ·cases h5
      cases hb
      rfl
     ·cases h5
    |
     some a =>
     obtain⟨b,o,sp⟩:=a
     cases sp with
     | some s=>simp[hC] at h5
     |
      none =>
      simp only[hC,Nat.mul_one] at h5
      simp only[h5,hb]
      rfl
  rw[e]
  exact fQ.same hS (.sc _ rfl)
 case new zero =>
  split at h
  case isFalse=>cases h
  rename_i hz
  cases h
  rw[Zd]
  exact V3 hS hz
 case box x =>
  split at h
  case isFalse=>cases h
  rename_i hs
  rw[Zg]
  exact Vm hS (hE.ev x) hs h
 case make zero bytes l c =>
  split at h
  case isFalse=>cases h
  rename_i hz
  rw[UO]
  exact So hS hz (hE.ev l) (hE.ev c) h
 case lit zero n parts =>
  rw[YT]
  exact Vt hS (F3 hE parts) h
 case store size p x =>
  obtain⟨a,ha,he⟩:=bX h
  cases he
  rw[SO]
  exact OB hS (hE.ev p) (hE.ev x) ha
 case app size bytes x y =>
  split at h
  case h_2=>cases h
  rename_i new hn
  obtain⟨h1,h2,h3,h4⟩:=vC hS (hE.ev y) hn
  obtain⟨pn,h5,h6⟩:=h4 new.length (Nat.le_refl _)
  rw[List.take_length] at h6
  rw[Y5]
  unfold ahF
  simp only[h1,h5]
  exact Fb hS (hE.ev x) h2 h3 h6 h
 case appz zero bytes x n =>
  split at h
  case h_2=>cases h
  rename_i k hk
  split at h
  case isFalse=>cases h
  rename_i hc
  obtain⟨e1,_⟩:=qB (hE.ev n) hk
  have J2:∀x∈List.replicate k.toNat (elemOf (zero.map iH)),(aB x).length=zero.length:=fun x hx=>by rw[List.eq_of_mem_replicate hx];exact Cz hc.2.2
  have:=Fb hS (hE.ev x) J2 (An (by
    rw[List.all_eq_true]
    intro x hx
    rw[List.eq_of_mem_replicate hx,lX hc.2.2]
    exact hc.2.2)) (AE hc.2.2 _) h
  rw[List.length_replicate] at this
  rw[Wb]
  unfold Xp
  rw[e1]
  simp only[if_pos (show 0≤k∧k*(bytes:Int)≤140737488355328 from⟨hc.1,hc.2.1⟩)]
  exact this
 case copy size x y =>
  rw[VJ]
  exact RU hS (hE.ev x) (hE.ev y) h
 case clear zero x =>
  obtain⟨a,ha,he⟩:=bX h
  cases he
  rw[Si]
  exact PU hS (hE.ev x) ha
 all_goals cases h
end
end Go.PM
namespace Go.PM
def bare (F:Nat→Prop) (P:aE):View:=⟨fun _=>0,F,[],P,0⟩
theorem zK {es:List VV}:aL es=true↔∀x∈es,aO x=true:=by
 induction es with
 | nil=>simp[aL]
 | cons x xs ih=>simp[aL,ih]
theorem Cf {x:VV} (h:aO x=true):aL (aB x)=true:=by
 unfold aB
 split
 ·simpa[aO] using h
 ·simp[aL,h]
theorem I2 {es:List VV} (h:aL es=true):aL (es.flatMap aB)=true:=by
 rw[zK] at h ⊢
 intro x hx
 obtain⟨y,hy,yT⟩:=List.mem_flatMap.1 hx
 exact zK.1 (Cf (h y hy)) x yT
theorem F4 {es:List VV} {k:TK} (h:aO (.tree es k)=true):k = .op∧aL es=true∧uni es=true:=by
 simp only[aO,Bool.and_eq_true,decide_eq_true_eq] at h
 exact⟨h.1.1,h.1.2,h.2⟩
theorem Hp {x:VV} (h:aO x=true):x ≠ .any:=by
 rintro rfl
 cases h
theorem ZX {es:List VV} (h:uni es=true):∃e,∀x∈es,(aB x).length=e:=by
 cases es with
 | nil=>exact⟨0,fun x hx=>by cases hx⟩
 |
  cons x xs =>
  refine⟨(aB x).length,fun y hy => ?_⟩
  rcases List.mem_cons.1 hy with rfl | hy
  ·rfl
  ·have:=List.all_eq_true.1 h y hy
   simpa using this
section
variable {V V':View}
theorem VR.pure {x:VV} {v:Value} (hF:∀b,V.F b→V'.F b∧V'.P[b]? = V.P[b]?) (h:VR V x v):aO x=true→VR V' x v:=by
 induction h using VR.rec (motive_2:=fun xs vs _=>aL xs=true→VL V' xs vs) with
 | any=>intro hp;cases hp
 | sc _ h=>intro _;exact .sc _ h
 | agg cs ps _ ih=>intro hp;exact .agg _ _ (ih hp)
 | dY cs ps _ ih=>intro hp;exact .dY _ _ (ih hp)
 | lS k hk=>intro _;exact .lS k hk
 | tree es k b o c r e p Sl hb ho hc he hk _ ih=>intro hp;exact .tree es k b o c r e p (hF _ Sl).1 (by rw[(hF _ Sl).2];exact hb) ho hc he hk (ih (I2 (F4 hp).2.1))
 | cO x off b o r e p Sl hb ho _ ih=>intro hp;exact .cO x off b o r e p (hF _ Sl).1 (by rw[(hF _ Sl).2];exact hb) ho (ih (Cf hp))
 | ref=>intro hp;cases hp
 | ptr=>intro hp;cases hp
 | sY f eY ps _ ih=>intro hp;exact .sY _ _ _ (ih hp)
 | nil=>exact .nil
 |
  cons x v xs vs _ _ ih Sk =>
  rename_i hp
  simp only[aL,Bool.and_eq_true] at hp
  exact .cons _ _ _ _ (ih hp.1) (Sk hp.2)
theorem VL.pure {xs:List VV} {vs:List Value} (hF:∀b,V.F b→V'.F b∧V'.P[b]? = V.P[b]?) (h:VL V xs vs) (hp:aL xs=true):VL V' xs vs:=by
 induction xs generalizing vs with
 | nil=>cases h;exact .nil
 |
  cons x xs ih=>cases h with
  |
   cons _ v _ vs h hs =>
   simp only[aL,Bool.and_eq_true] at hp
   exact .cons _ _ _ _ (h.pure hF hp.1) (ih hs hp.2)
theorem VL.flatten {es:List VV} {ps:List Value} (h:VL V es ps) (hp:aL es=true):VL V (es.flatMap aB) (ps.flatMap aJ):=by
 induction es generalizing ps with
 | nil=>cases h;exact .nil
 |
  cons x xs ih =>
  cases h with
  |
   cons _ v _ vs h hs =>
   simp only[aL,Bool.and_eq_true] at hp
   rw[List.flatMap_cons,List.flatMap_cons]
   exact(h.cells (Hp hp.1)).append (ih hs hp.2)
theorem Nn {P P':aE} (h:P <+: P'):∀b,(bare (· < P.length) P).F b→(bare (· < P'.length) P').F b∧(bare (· < P'.length) P').P[b]? = (bare (· < P.length) P).P[b]? := by
 intro b hb
 obtain⟨L,rfl⟩:=h
 have xH:b<P.length:=hb
 exact⟨by show b<(P++L).length;simp;omega,List.getElem?_append_left xH⟩
mutual
theorem real (x:VV) (hp:aO x=true) (P:aE):∃P' pv,P <+: P'∧VR (bare (· < P'.length) P') x pv:=by
 cases x with
 | any=>cases hp
 | sc v=>exact⟨P,v,List.prefix_refl _,.sc v hp⟩
 |
  agg cs =>
  obtain⟨P',ps,h1,h2⟩:=My cs hp P
  exact⟨P',_,h1,.agg _ _ h2⟩
 |
  dY cs =>
  obtain⟨P',ps,h1,h2⟩:=My cs hp P
  exact⟨P',_,h1,.dY _ _ h2⟩
 |
  tree es k =>
  obtain⟨rfl,h1,h2⟩:=F4 hp
  obtain⟨P',ps,h3,h4⟩:=My es h1 P
  obtain⟨e,he⟩:=ZX h2
  have h5:=h4.flatten h1
  have hl:=h5.length
  rw[iZ he] at hl
  have zA:P' <+: P'++[Lb.row (ps.flatMap aJ) e false]:=List.prefix_append _ _
  refine⟨_,.slice (some ⟨P'.length,0,none⟩) es.length es.length,h3.trans zA,?_⟩
  refine .tree es .op P'.length 0 es.length (ps.flatMap aJ) e false (show P'.length<(P'++[Lb.row (ps.flatMap aJ) e false]).length by simp) (by show (P'++[Lb.row (ps.flatMap aJ) e false])[P'.length]? = _;simp) (by omega) (Nat.le_refl _) he trivial ?_
  rw[List.drop_zero,List.take_of_length_le (by omega)]
  exact VL.pure (Nn zA) h5 (I2 h1)
 |
  cO x off =>
  obtain⟨P',pv,h3,h4⟩:=real x hp P
  have h5:=h4.cells (Hp hp)
  have zA:P' <+: P'++[Lb.row (aJ pv) (aJ pv).length false]:=List.prefix_append _ _
  refine⟨_,.pointer (some ⟨P'.length,0+off,none⟩),h3.trans zA,?_⟩
  refine .cO x off P'.length 0 (aJ pv) (aJ pv).length false (show P'.length<(P'++[Lb.row (aJ pv) (aJ pv).length false]).length by simp) (by show (P'++[Lb.row (aJ pv) (aJ pv).length false])[P'.length]? = _;simp) (by rw[h5.length];omega) ?_
  rw[List.drop_zero,List.take_of_length_le (by rw[h5.length];exact Nat.le_refl _)]
  exact VL.pure (Nn zA) h5 (Cf hp)
 | ref=>cases hp
 | ptr=>cases hp
 |
  sY f eY =>
  obtain⟨P',ps,h1,h2⟩:=My eY hp P
  exact⟨P',_,h1,.sY _ _ _ h2⟩
theorem My (xs:List VV) (hp:aL xs=true) (P:aE):∃P' ps,P <+: P'∧VL (bare (· < P'.length) P') xs ps:=by
 cases xs with
 | nil=>exact⟨P,[],List.prefix_refl _,.nil⟩
 |
  cons x xs =>
  simp only[aL,Bool.and_eq_true] at hp
  obtain⟨P1,pv,h1,h2⟩:=real x hp.1 P
  obtain⟨P2,ps,h3,h4⟩:=My xs hp.2 P1
  exact⟨P2,pv::ps,h1.trans h3,.cons _ _ _ _ (h2.pure (Nn h3) hp.1) h4⟩
end
theorem I1 {es:List VV}:qI es=true↔∀x∈es,gH x=true:=by
 induction es with
 | nil=>simp[qI]
 | cons x xs ih=>simp[qI,ih]
theorem CB {es:List VV} {k:TK} (h:gH (.tree es k)=true):k = .op∧qI es=true∧uni es=true∧es.all yW=true:=by
 simp only[gH,Bool.and_eq_true,decide_eq_true_eq] at h
 exact⟨h.1.1.1,h.1.1.2,h.1.2,h.2⟩
theorem Rt {x:VV} (h:gH x=true):qI (aB x)=true:=by
 unfold aB
 split
 ·simpa[gH] using h
 ·simp[qI,h]
theorem Mk {es:List VV} (h:qI es=true):qI (es.flatMap aB)=true:=by
 rw[I1] at h ⊢
 intro x hx
 obtain⟨y,hy,yT⟩:=List.mem_flatMap.1 hx
 exact I1.1 (Rt (h y hy)) x yT
mutual
theorem QK (x:VV) (h:gH x=true):aO x=true:=by
 cases x with
 | sc v=>exact h
 | agg cs=>exact De cs h
 | dY cs=>exact De cs h
 |
  tree es k =>
  obtain⟨h1,h2,h3,_⟩:=CB h
  simp[aO,h1,De es h2,h3]
 | any=>cases h
 | cO=>cases h
 | ref=>cases h
 | ptr=>cases h
 | sY=>cases h
theorem De (xs:List VV) (h:qI xs=true):aL xs=true:=by
 cases xs with
 | nil=>rfl
 |
  cons x xs =>
  simp only[qI,Bool.and_eq_true] at h
  simp[aL,QK x h.1,De xs h.2]
end
theorem O2 {e:Nat}:∀ {es lL:List VV},(∀x∈es,(aB x).length=e)→(∀x∈lL,(aB x).length=e)→es.all yW=true→lL.all yW=true→es.length=lL.length→es.flatMap aB=lL.flatMap aB→es=lL
 | [],[],_,_,_,_,_,_=>rfl
 |
  x::es,y::lL,h1,h2,h3,h4,hl,h=>by
  rw[List.flatMap_cons,List.flatMap_cons] at h
  have hx:=h1 x List.mem_cons_self
  have hy:=h2 y List.mem_cons_self
  obtain⟨e1,e2⟩:=List.append_inj h (by omega)
  simp only[List.all_cons,Bool.and_eq_true] at h3 h4
  have yT:x=y:=by
   have g1:=h3.1
   have g2:=h4.1
   unfold aB at e1
   split at e1<;>split at e1
   ·rw[e1]
   ·rename_i cs _ _
    subst e1
    cases g1
   ·rename_i cs
    subst e1
    cases g2
   ·injection e1
  rw[yT,O2 (fun z hz=>h1 z (List.mem_cons_of_mem _ hz)) (fun z hz=>h2 z (List.mem_cons_of_mem _ hz)) h3.2 h4.2 (by simpa using hl) e2]
theorem VR.uniq {x y:VV} {v:Value} (h:VR V x v) (h':VR V y v) (hx:gH x=true) (hy:gH y=true):x=y:=by
 induction h using VR.rec (motive_2:=fun xs vs _=>∀ys,VL V ys vs→qI xs=true→qI ys=true→xs=ys) generalizing y with
 | any=>cases hx
 |
  sc _ h=>cases h' with
  | sc _ _=>rfl
  | any=>cases hy
  | agg=>cases h
  | dY=>cases h
  | lS=>cases h
  | tree=>cases h
  | cO=>cases hy
  | ref=>cases hy
  | ptr=>cases hy
  | sY=>cases hy
 |
  agg cs ps h ih=>generalize hw:Value.agg ps.toArray=w at h';cases h' with
  | sc _ h'=>subst hw;cases h'
  | any=>cases hy
  |
   agg zG ps' h' =>
   injection hw with hw
   have:ps=ps':=by simpa using hw
   subst this
   rw[ih _ h' hx hy]
  | dY=>cases hw
  | lS=>cases hw
  | tree=>cases hw
  | cO=>cases hy
  | ref=>cases hy
  | ptr=>cases hy
  | sY=>cases hy
 |
  dY cs ps h ih=>generalize hw:Value.tuple ps.toArray=w at h';cases h' with
  | sc _ h'=>subst hw;cases h'
  | any=>cases hy
  |
   dY zG ps' h' =>
   injection hw with hw
   have:ps=ps':=by simpa using hw
   subst this
   rw[ih _ h' hx hy]
  | agg=>cases hw
  | lS=>cases hw
  | tree=>cases hw
  | cO=>cases hy
  | ref=>cases hy
  | ptr=>cases hy
  | sY=>cases hy
 |
  lS k hk =>
  obtain⟨rfl,_⟩:=CB hx
  generalize hw:Value.slice none 0 0=w at h'
  cases h' with
  | sc _ h'=>subst hw;cases h'
  | any=>cases hy
  | lS k' hk'=>obtain⟨rfl,_⟩:=CB hy;rfl
  | agg=>cases hw
  | dY=>cases hw
  | tree=>cases hw
  | cO=>cases hy
  | ref=>cases hy
  | ptr=>cases hy
  | sY=>cases hy
 |
  tree es k b o c r e p hF hb ho hc he hk hl ih =>
  obtain⟨rfl,hx1,hx2,hx3⟩:=CB hx
  generalize hw:Value.slice (some ⟨b,o,none⟩) es.length c=w at h'
  cases h' with
  | sc _ h'=>subst hw;cases h'
  | any=>cases hy
  | lS=>cases hw
  | agg=>cases hw
  | dY=>cases hw
  |
   tree lL k' b' o' c' r' e' p' hF' xH Zp hc' he' hk' BO =>
   obtain⟨rfl,hy1,hy2,hy3⟩:=CB hy
   injection hw with h1 h2 h3
   injection h1 with h1
   injection h1 with h1 h4
   subst h1 h3 h4
   rw[hb] at xH
   injection xH with xH
   injection xH with g1 g2 g3
   subst g1 g2 g3
   rw[←h2] at BO
   rw[O2 he he' hx3 hy3 h2 (ih _ BO (Mk hx1) (Mk hy1))]
  | cO=>cases hy
  | ref=>cases hy
  | ptr=>cases hy
  | sY=>cases hy
 | cO=>cases hx
 | ref=>cases hx
 | ptr=>cases hx
 | sY=>cases hx
 | nil=>rename_i h' _ _;cases h';rfl
 |
  cons x v xs vs _ _ ih Sk =>
  rename_i ys h' hx hy
  cases h' with
  |
   cons y _ ys _ h' hs' =>
   simp only[qI,Bool.and_eq_true] at hx hy
   rw[ih h' hx.1 hy.1,Sk _ hs' hx.2 hy.2]
end
end Go.PM
namespace Go.PM
section
variable {V:View} {lo dN:Nat}
theorem mY {α β:Type} {f:α→Option β} {x:α} {xs:List α} {r:List β} (h:(x::xs).mapM f=some r):∃y ys,f x=some y∧xs.mapM f=some ys∧r=y::ys:=by
 rw[List.mapM_cons] at h
 cases hx:f x with
 | none=>rw[hx] at h;cases h
 |
  some y =>
  rw[hx] at h
  cases hs:xs.mapM f with
  | none=>rw[hs] at h;cases h
  | some ys=>rw[hs] at h;cases h;exact⟨y,ys,rfl,rfl,rfl⟩
theorem xB {α β:Type} {f:α→Option β}:∀ {xs:List α} {r:List β},xs.mapM f=some r→r.length=xs.length
 | [],r,h=>by cases h;rfl
 |
  x::xs,r,h=>by
  obtain⟨y,ys,_,h2,rfl⟩:=mY h
  simp[xB h2]
theorem TH {d:Nat} {H:aA} {x x':VV} (h:fz d H x=some x'):(∃cs zG,x = .agg cs∧x' = .agg zG∧zG.length=cs.length)∨(aB x=[x]∧aB x'=[x']):=by
 cases d with
 | zero=>cases h
 |
  succ d =>
  unfold fz at h
  split at h
  ·cases h
   cases x with
   | agg cs=>exact .inl ⟨cs,cs,rfl,rfl,rfl⟩
   | _=>exact .inr ⟨rfl,rfl⟩
  ·split at h
   ·obtain⟨zG,h1,rfl⟩:=bX h
    exact .inl ⟨_,_,rfl,rfl,xB h1⟩
   ·obtain⟨zG,h1,rfl⟩:=bX h;exact .inr ⟨rfl,rfl⟩
   ·obtain⟨zG,h1,rfl⟩:=bX h;exact .inr ⟨rfl,rfl⟩
   ·obtain⟨zG,h1,rfl⟩:=bX h;exact .inr ⟨rfl,rfl⟩
   ·split at h
    ·split at h
     ·obtain⟨zG,h1,rfl⟩:=bX h;exact .inr ⟨rfl,rfl⟩
     ·cases h
    ·cases h
   ·split at h
    ·split at h
     ·obtain⟨zG,h1,rfl⟩:=bX h;exact .inr ⟨rfl,rfl⟩
     ·cases h
    ·cases h
   ·obtain⟨zG,h1,rfl⟩:=bX h;exact .inr ⟨rfl,rfl⟩
   ·cases h
theorem NL {d:Nat} {H:aA} {x x':VV} (h:fz d H x=some x'):(aB x').length=(aB x).length:=by
 rcases TH h with⟨cs,zG,rfl,rfl,h'⟩ | ⟨h1,h2⟩
 ·exact h'
 ·rw[h1,h2];rfl
def Lx (V:View) (G:Nat→Prop) (ids:List Nat):Prop:=∀i∈ids,∀g es e w,V.H[i]? = some (.row g es e w)→G (V.m i)
theorem KF (hS:SR V lo dN) {G:Nat→Prop} (hG:∀q,V.F q→G q):∀(d:Nat) (v v':VV) (pv:Value),VR V v pv→fz d V.H v=some v'→Lx V G (gY d V.H v)→VR (bare G V.P) v' pv:=by
 have hFG:∀b,V.F b→(bare G V.P).F b∧(bare G V.P).P[b]? = V.P[b]? := fun b hb=>⟨hG b hb,rfl⟩
 intro d
 induction d with
 | zero=>intro v v' pv _ h;cases h
 |
  succ d ih =>
  have ihL:∀(xs GU:List VV) (ps:List Value),VL V xs ps→xs.mapM (fz d V.H)=some GU→Lx V G (xs.flatMap (gY d V.H))→VL (bare G V.P) GU ps:=by
   intro xs
   induction xs with
   | nil=>intro GU ps hl h _;cases h;cases hl;exact .nil
   |
    cons x xs ihx =>
    intro GU ps hl h hi
    obtain⟨y,ys,h1,h2,rfl⟩:=mY h
    cases hl with
    |
     cons _ v _ vs hx Ov =>
     exact .cons _ _ _ _ (ih x y v hx h1 fun i oV=>hi i (by rw[List.flatMap_cons];exact List.mem_append_left _ oV)) (ihx ys vs Ov h2 fun i oV=>hi i (by rw[List.flatMap_cons];exact List.mem_append_right _ oV))
  have ihC:∀(x x':VV) (ps:List Value),VL V (aB x) ps→fz d V.H x=some x'→Lx V G (gY d V.H x)→VL (bare G V.P) (aB x') ps:=by
   intro x x' ps hl h hi
   rcases TH h with⟨cs,zG,rfl,rfl,mC⟩ | ⟨h1,h2⟩
   ·have:=ih _ _ (.agg ps.toArray) (.agg _ _ hl) h hi
    generalize hw:Value.agg ps.toArray=w at this
    cases this with
    |
     agg _ ps' BO =>
     injection hw with hw
     have:ps=ps':=by simpa using hw
     subst this
     exact BO
   ·rw[h1] at hl
    rw[h2]
    cases hl with
    |
     cons _ v _ vs hx Ov =>
     cases Ov
     exact .cons _ _ _ _ (ih _ _ _ hx h hi) .nil
  have ihF:∀(xs GU:List VV) (ps:List Value),VL V (xs.flatMap aB) ps→xs.mapM (fz d V.H)=some GU→Lx V G (xs.flatMap (gY d V.H))→VL (bare G V.P) (GU.flatMap aB) ps:=by
   intro xs
   induction xs with
   | nil=>intro GU ps hl h _;cases h;cases hl;exact .nil
   |
    cons x xs ihx =>
    intro GU ps hl h hi
    obtain⟨y,ys,h1,h2,rfl⟩:=mY h
    rw[List.flatMap_cons] at hl ⊢
    have hlen:=hl.length
    have a1:=hl.take (aB x).length
    have a2:=hl.drop (aB x).length
    rw[List.take_left] at a1
    rw[List.drop_left] at a2
    rw[←List.take_append_drop (aB x).length ps]
    exact(ihC x y _ a1 h1 fun i oV=>hi i (by rw[List.flatMap_cons];exact List.mem_append_left _ oV)).append (ihx ys _ a2 h2 fun i oV=>hi i (by rw[List.flatMap_cons];exact List.mem_append_right _ oV))
  have ajZ:∀(xs GU:List VV) (e:Nat),xs.mapM (fz d V.H)=some GU→(∀x∈xs,(aB x).length=e)→∀x∈GU,(aB x).length=e:=by
   intro xs
   induction xs with
   | nil=>intro GU e h _ x hx;cases h;cases hx
   |
    cons x xs ihx =>
    intro GU e h he z hz
    obtain⟨y,ys,h1,h2,rfl⟩:=mY h
    rcases List.mem_cons.1 hz with rfl | hz
    ·rw[NL h1];exact he x List.mem_cons_self
    ·exact ihx ys e h2 (fun w hw=>he w (List.mem_cons_of_mem _ hw)) z hz
  intro v v' pv hv h hi
  unfold fz at h
  unfold gY at hi
  split at h
  ·rename_i hp
   cases h
   exact hv.pure hFG hp
  ·rename_i hp
   rw[if_neg hp] at hi
   split at h
   ·obtain⟨zG,h1,rfl⟩:=bX h
    cases hv with
    | agg cs ps hl=>exact .agg _ _ (ihL _ _ _ hl h1 hi)
   ·obtain⟨zG,h1,rfl⟩:=bX h
    cases hv with
    | dY cs ps hl=>exact .dY _ _ (ihL _ _ _ hl h1 hi)
   ·obtain⟨zG,h1,rfl⟩:=bX h
    cases hv with
    | lS k hk=>cases h1;exact .lS _ (.inl rfl)
    |
     tree es k b o c r e p hF hb ho hc he hk hl =>
     have hlen:=xB h1
     have:=VR.tree (V:=bare G V.P) zG .op b o c r e p (hG b hF) hb (by rw[hlen];exact ho) (by rw[hlen];exact hc) (ajZ _ _ _ h1 he) trivial (by rw[hlen];exact ihF _ _ _ hl h1 hi)
     rw[hlen] at this
     exact this
   ·obtain⟨x',h1,rfl⟩:=bX h
    cases hv with
    |
     cO x off b o r e p hF hb ho hl =>
     have hlen:=NL h1
     exact .cO x' _ b o r e p (hG b hF) hb (by rw[hlen];exact ho) (by rw[hlen];exact ihC _ _ _ hl h1 hi)
   ·rename_i b g o n c
    split at h
    case h_2=>cases h
    rename_i es e w hr
    simp only[hr] at hi
    rw[bS] at hr
    split at h
    case isFalse=>cases h
    rename_i asS
    obtain⟨hon,BX⟩:=asS
    obtain⟨lL,h1,rfl⟩:=bX h
    obtain⟨r,p,k1,k2,k3⟩:=hS.row b g es e w hr
    have FF:=k3.length
    rw[iZ k2] at FF
    cases hv with
    |
     ref b g o n c a n' c' aV hg ha hq =>
     obtain⟨rfl,rfl,rfl⟩:=ha _ _ _ hr
     have W7:∀x∈(es.drop o).take n',(aB x).length=e:=fun x hx=>k2 x (List.mem_of_mem_drop (List.mem_of_mem_take hx))
     have hn2:((es.drop o).take n').length=n':=by simp;omega
     have hlen:=xB h1
     rw[hn2] at hlen
     have hm:(o+n')*e≤es.length*e:=Nat.mul_le_mul_right _ hon
     rw[Nat.add_mul] at hm
     have hl:VL V (((es.drop o).take n').flatMap aB) ((r.drop (o*e)).take (n'*e)):=by
      have h4:=(k3.drop (o*e)).take (n'*e)
      rw[sM k2,sN (fun x hx=>k2 x (List.mem_of_mem_drop hx))] at h4
      exact h4
     have hGb:G (V.m b):=hi b List.mem_cons_self _ _ _ _ hr
     have:=VR.tree (V:=bare G V.P) lL .op (V.m b) (o*e) c' r e p hGb k1 (by rw[hlen];omega) (by rw[hlen];exact BX) (ajZ _ _ _ h1 W7) trivial (by rw[hlen];exact ihF _ _ _ hl h1 fun i oV=>hi i (List.mem_cons_of_mem _ oV))
     rw[hlen] at this
     exact this
   ·rename_i b g j o
    split at h
    case h_2=>cases h
    rename_i es e w hr
    simp only[hr] at hi
    rw[bS] at hr
    split at h
    case h_2=>cases h
    rename_i x hx
    simp only[hx] at hi
    obtain⟨x',h1,rfl⟩:=bX h
    obtain⟨r,p,k1,k2,k3,k4⟩:=JF hS hr hx
    cases hv with
    |
     ptr b g j off a aV hg ha hq =>
     have:=ha _ _ _ hr
     subst this
     have hlen:=NL h1
     exact .cO x' o (V.m b) (j*e) r e p (hi b List.mem_cons_self _ _ _ _ hr) k1 (by rw[hlen];exact k3) (by rw[hlen];exact ihC _ _ _ k4 h1 fun i oV=>hi i (List.mem_cons_of_mem _ oV))
   ·obtain⟨zG,h1,rfl⟩:=bX h
    cases hv with
    | sY f eY ps hl=>exact .sY _ _ _ (ihL _ _ _ hl h1 hi)
   ·cases h
theorem Db (hS:SR V lo dN) {G:Nat→Prop} (hG:∀q,V.F q→G q) {d:Nat}:∀ {xs GU:List VV} {ps:List Value},VL V xs ps→xs.mapM (fz d V.H)=some GU→Lx V G (xs.flatMap (gY d V.H))→VL (bare G V.P) GU ps
 | [],GU,ps,hl,h,_=>by cases h;cases hl;exact .nil
 |
  x::xs,GU,ps,hl,h,hi=>by
  obtain⟨y,ys,h1,h2,rfl⟩:=mY h
  cases hl with
  |
   cons _ v _ vs hx Ov =>
   exact .cons _ _ _ _ (KF hS hG d x y v hx h1 fun i oV=>hi i (by rw[List.flatMap_cons];exact List.mem_append_left _ oV)) (Db hS hG Ov h2 fun i oV=>hi i (by rw[List.flatMap_cons];exact List.mem_append_right _ oV))
def View.cG (V:View) (ids:List Nat):View:=ids.foldl View.freeze V
theorem uG:∀(ids:List Nat) {V:View},SR V lo dN→SR (V.cG ids) lo dN∧Du lo V (V.cG ids)∧(V.cG ids).H=PM.cG V.H ids∧(V.cG ids).P=V.P∧(V.cG ids).m=V.m∧Lx V (V.cG ids).F ids
 | [],V,hS=>⟨hS,Du.refl _ _,rfl,rfl,rfl,fun i hi=>by cases hi⟩
 |
  i::ids,V,hS=>by
  obtain⟨h1,h2,h3⟩:=ND hS i
  obtain⟨g1,g2,g3,g4,g5,g6⟩:=uG ids h1
  refine⟨g1,h2.trans g2,?_,g4.trans (YY V i),g5.trans (P4 V i),?_⟩
  ·show ((V.freeze i).cG ids).H=_
   rw[g3,Pg]
   rfl
  ·intro k hk g es e w hr
   show ((V.freeze i).cG ids).F (V.m k)
   rcases List.mem_cons.1 hk with rfl | hk
   ·exact g2.F _ (h3 _ _ _ _ hr)
   ·have FT:∃g es e w,(V.freeze i).H[k]? = some (.row g es e w):=by
     rw[Pg]
     unfold A2
     split
     ·rename_i g' lL e' w' hi
      by_cases hki:k=i
      ·subst hki
       exact⟨g',lL,e',false,List.getElem?_set_self (List.getElem?_eq_some_iff.1 hi).1⟩
      ·exact⟨g,es,e,w,by rw[List.getElem?_set_ne (Ne.symm hki)];exact hr⟩
     ·exact⟨g,es,e,w,hr⟩
    obtain⟨g',lL,e',w',FT⟩:=FT
    have:=g6 k hk _ _ _ _ FT
    rw[P4] at this
    exact this
end
end Go.PM