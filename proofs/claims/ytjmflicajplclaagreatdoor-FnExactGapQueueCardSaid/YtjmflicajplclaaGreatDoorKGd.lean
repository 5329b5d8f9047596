/- Texts of a claim, in one: part 4. -/
import Derived.Test.YtjmflicajplclaaGreatDoorKGc
set_option linter.unusedSimpArgs false
set_option linter.unusedVariables false
namespace Go.PM
inductive TK where
 | op
 | cl (e:Nat)
 | nil
 deriving DecidableEq
inductive VV where
 | any
 | sc (v:Value)
 | agg (cs:List VV)
 | eY (vs:List VV)
 | tree (es:List VV) (k:TK)
 | cV (x:VV) (off:Nat)
 | ref (b g o n c:Nat)
 | ptr (b g j off:Nat)
 | tY (f:Nat) (fN:List VV)
 deriving Inhabited
inductive bT where
 | dead
 | row (g:Nat) (es:List VV) (e:Nat) (w:Bool)
 deriving Inhabited
abbrev aA:=List bT
abbrev dG:=Nat→VV
def pB:VV := .eY []
def kE:Value→Bool
 | .bool _ | .int _ _ | .string _ | .pointer none | .nilFunc | .nilIface=>true
 | _=>false
def iY:Value→VV
 | .slice none 0 0 => .tree [] .nil
 | v=>if kE v then .sc v else .any
def inj:Value→VV
 | .agg cs => .agg (cs.toList.map iY)
 | .tuple vs=>if vs.isEmpty then .eY [] else .any
 | v=>iY v
def dX (ρ:dG):Operand→VV
 | .tmp t=>ρ t
 | .const v=>inj v
 | .global _ => .any
 | .func f => .tY f []
def Jk (ρ:dG):Option Nat→VV→dG
 | none,_=>ρ
 | some d,v=>fun k=>if k=d then v else ρ k
def aB:VV→List VV
 | .agg cs=>cs
 | v=>[v]
def elemOf:List VV→VV
 | [x]=>x
 | cs => .agg cs
def bP:VV→Bool
 | .any | .agg _ | .eY _=>false
 | _=>true
def uni:List VV→Bool
 | []=>true
 | x::xs=>xs.all fun y=>(aB y).length == (aB x).length
mutual
def aN:VV→Bool
 | .any=>false
 | .sc v=>kE v
 | .agg cs=>aL cs
 | .eY vs=>aL vs
 | .tree es k=>decide (k = .op)&&aL es&&uni es
 | .cV x _=>aN x
 | .ref .. => false
 | .ptr .. => false
 | .tY _ fN=>aL fN
def aL:List VV→Bool
 | []=>true
 | x::xs=>aN x&&aL xs
end
def zZ:VV→Bool
 | .agg [_]=>false
 | _=>true
mutual
def gZ:VV→Bool
 | .any=>false
 | .sc v=>kE v
 | .agg cs=>qZ cs
 | .eY vs=>qZ vs
 | .tree es k=>decide (k = .op)&&qZ es&&uni es&&es.all zZ
 | .cV _ _=>false
 | .ref .. => false
 | .ptr .. => false
 | .tY _ _=>false
def qZ:List VV→Bool
 | []=>true
 | x::xs=>gZ x&&qZ xs
end
mutual
def J3:VV→Bool
 | .sc v=>kE v
 | .agg cs=>RW cs
 | .eY vs=>RW vs
 | _=>false
def RW:List VV→Bool
 | []=>true
 | x::xs=>J3 x&&RW xs
end
mutual
def below (k:Nat):VV→Bool
 | .any=>true
 | .sc _=>true
 | .agg cs=>lD k cs
 | .eY vs=>lD k vs
 | .tree es _=>lD k es
 | .cV x _=>below k x
 | .ref b _ _ _ _=>decide (b<k)
 | .ptr b _ _ _=>decide (b<k)
 | .tY _ fN=>lD k fN
def lD (k:Nat):List VV→Bool
 | []=>true
 | x::xs=>below k x&&lD k xs
end
def Ip (k:Nat) (v:VV):VV:=if below k v then v else .any
def aH (H:aA) (b g:Nat):Option (List VV×Nat×Bool) :=
 match H[b]? with
 | some (.row g' es e w)=>if g'=g then some (es,e,w) else none
 | _=>none
def pN:List CK→List VV→List VV→Option Bool
 | [],[],[]=>some true
 |
  k::ks,.sc x::xs,.sc y::ys=>match tL k x y with
  | some true=>pN ks xs ys
  | some false=>some false
  | none=>none
 | _,_,_=>none
def cR (cs:List VV) (o:Nat) (new:List VV):List VV:=cs.take o++new++cs.drop (o+new.length)
def isAny:VV→Bool
 | .any=>true
 | _=>false
def wP (places:List (Nat×Nat)) (cells:List VV):List (Nat×VV)→Option (List VV)
 | []=>some cells
 |
  (i,v)::rest =>
  match places[i]? with
  | none=>none
  |
   some (off,size) =>
   if (aB v).length=size∧off+size≤cells.length∧isAny v=false then
    wP places (cells.take off++aB v++cells.drop (off+size)) rest
   else none
def vV (e:Nat) (es:List VV):List (Nat×VV)→Option (List VV)
 | []=>some es
 | (i,v)::rest=>if i<es.length∧(aB v).length=e∧(aB v).all bP then vV e (es.set i v) rest else none
def E2:Option VV→Option (Option Value)
 | none=>some none
 | some (.sc v)=>some (some v)
 | some _=>none
def dA (agg:Bool) (size:Nat) (x:VV) (o:Nat):Option VV :=
 if agg then (if o+size≤(aB x).length then some (.agg (((aB x).drop o).take size)) else none) else (aB x)[o]?
structure Fl where
 bf:Bool
 lr:Bool
def cI (agg:Bool) (size:Nat) (p:VV) (H:aA):Option VV :=
 match p with
 | .cV x o=>dA agg size x o
 |
  .ptr b g j o=>match aH H b g with
  |
   some (es,_,_)=>match es[j]? with
   | some x=>dA agg size x o
   | none=>none
  | none=>none
 | _=>none
def bH (size:Nat) (x i:VV) (H:aA):Option VV :=
 match x,i with
 |
  .tree es _,.sc (.int _ i)=>if 0≤i then match es[i.toNat]? with
  | some x=>if (aB x).length=size then some (.cV x 0) else none
  | none=>none
  else none
 |
  .ref b g o n _,.sc (.int _ i)=>match aH H b g with
  | some (_,e,_)=>if e=size∧0≤i∧i<n then some (.ptr b g (o+i.toNat) 0) else none
  | none=>none
 | _,_=>none
def Ej (size:Nat) (x:VV) (l h m:Option VV) (H:aA):Option VV :=
 match E2 l,E2 h,E2 m with
 |
  some lv,some hv,some mv =>
  match x with
  |
   .tree (y::ys) _ =>
   if (aB y).length=size then
    match eH mv (some (ys.length+1)) (ys.length+1) with
    | none=>none
    |
     some m=>match eH hv (if mv.isSome then none else some (ys.length+1)) m with
     | none=>none
     |
      some h=>match eH lv (some 0) h with
      | none=>none
      | some l=>if mv.isSome∧m=l then some (.tree [] (.cl size)) else some (.tree (((y::ys).drop l).take (h-l)) .op)
   else none
  |
   .ref b g o n c =>
   match aH H b g with
   |
    some (_,e,_) =>
    if e=size then
     match eH mv (some c) c with
     | none=>none
     |
      some m=>match eH hv (if mv.isSome then none else some n) m with
      | none=>none
      |
       some h=>match eH lv (some 0) h with
       | none=>none
       | some l=>if mv.isSome∧m=l then some (.tree [] (.cl size)) else some (.ref b g (o+l) (h-l) (m-l))
    else none
   | none=>none
  | _=>none
 | _,_,_=>none
def Hy:List VV→Option (List UInt8)
 | []=>some []
 | .sc (.int .u8 n)::r=>(Hy r).map (UInt8.ofNat n.toNat :: ·)
 | _=>none
def cW (size:Nat) (y:VV) (H:aA):Option (List VV) :=
 match y with
 | .tree es _=>if es.all fun x=>(aB x).length == size&&(aB x).all bP then some es else none
 |
  .ref b g o n _=>match aH H b g with
  | some (es,e,_)=>if e=size∧o+n≤es.length∧(((es.drop o).take n).all fun x=>(aB x).all bP) then some ((es.drop o).take n) else none
  | none=>none
 | .sc (.string s)=>if size=1 then some (s.data.toList.map fun b => .sc (.int .u8 b.toNat)) else none
 | _=>none
def eO (lo size bytes:Nat) (x:VV) (new:List VV) (H:aA):Option (VV×aA) :=
 if 1≤bytes∧1≤size then
  match x with
  | .tree [] .nil=>if new.length=0 then some (x,H) else if new.length*bytes≤140737488355328 then some (.ref H.length 0 0 new.length new.length,H++[.row 0 new size true]) else none
  | .tree es (.cl e)=>if e=size then (if new.length=0 then some (x,H) else if (es.length+new.length)*bytes≤140737488355328 then some (.ref H.length 0 0 (es.length+new.length) (es.length+new.length),H++[.row 0 (es++new) size true]) else none) else none
  |
   .ref b g o n c=>match aH H b g with
   |
    some (es,e,true) =>
    if e=size∧lo≤b∧o+n≤es.length then
     if n+new.length≤c then
      if new.length=0 then some (x,H)
      else if o+n+new.length≤es.length then some (.ref b g o (n+new.length) c,H.set b (.row g (cR es (o+n) new) e true))
      else none
     else if (n+new.length)*bytes≤140737488355328 then some (.ref b (g+1) 0 (n+new.length) (n+new.length),H.set b (.row (g+1) ((es.drop o).take n++new) e true))
     else none
    else none
   | _=>none
  | _=>none
 else none
def bX (lo size:Nat) (p v:VV) (H:aA):Option aA :=
 match p with
 |
  .ptr b g j o=>match aH H b g with
  |
   some (es,e,true)=>match es[j]? with
   |
    some x =>
    if (aB v).length=size∧lo≤b∧(aB v).all bP then
     if o=0∧size=e then some (H.set b (.row g (es.set j v) e true))
     else if 2≤e∧o+size≤e then some (H.set b (.row g (es.set j (.agg (cR (aB x) o (aB v)))) e true))
     else none
    else none
   | none=>none
  | _=>none
 | _=>none
def AB (zero:List Value) (bytes:Nat) (l c:VV) (H:aA):Option (VV×aA) :=
 match l,c with
 | .sc (.int .i64 l),.sc (.int .i64 c)=>if 0≤l∧l≤c∧c*bytes≤281474976710656∧c≤9223372036854775807 then
  some (.ref H.length 0 0 l.toNat c.toNat,H++[.row 0 (List.replicate c.toNat (elemOf (zero.map iY))) zero.length true]) else none
 | _,_=>none
def mF (lr:Bool) (zero:List Value) (n:Nat) (parts:List (Nat×VV)) (H:aA):Option (VV×aA) :=
 match vV zero.length (List.replicate n (elemOf (zero.map iY))) parts with
 | some es=>if (zero.map iY).all bP then (if n=0∨lr=true then some (.ref H.length 0 0 n n,H++[.row 0 es zero.length true]) else some (.tree es (.cl zero.length),H)) else none
 | none=>none
def IJ (lo size:Nat) (x y:VV) (H:aA):Option (VV×aA) :=
 match x,cW size y H with
 | .tree [] .nil,some _=>some (.sc (.int .i64 0),H)
 |
  .ref b g o d _,some new=>match aH H b g with
  | some (es,e,true)=>if e=size∧lo≤b∧o+(new.take d).length≤es.length then some (.sc (.int .i64 (new.take d).length),H.set b (.row g (cR es o (new.take d)) e true)) else none
  | _=>none
 | _,_=>none
def OK (lo:Nat) (zero:List Value) (x:VV) (H:aA):Option aA :=
 match x with
 |
  .ref b g o n _=>match aH H b g with
  | some (es,e,true)=>if n=0 then some H else if e=zero.length∧lo≤b∧o+n≤es.length∧(zero.map iY).all bP then some (H.set b (.row g (cR es o (List.replicate n (elemOf (zero.map iY)))) e true)) else none
  | _=>none
 | _=>none
def ET (neg:Bool) (x:VV) (H:aA):Option VV :=
 match x with
 | .tree [] .nil=>some (.sc (.bool (true != neg)))
 | .tree [] (.cl _)=>some (.sc (.bool (false != neg)))
 | .tree (_::_) _=>some (.sc (.bool (false != neg)))
 | .ref b g _ _ _=>(aH H b g).map fun _ => .sc (.bool (false != neg))
 | _=>none
def oC (x:VV) (H:aA):Option VV :=
 match x with
 | .tree es _=>some (.sc (.int .i64 es.length))
 | .ref b g _ n _=>(aH H b g).map fun _ => .sc (.int .i64 n)
 | _=>none
def Hn (off:Nat) (x:VV) (H:aA):Option VV :=
 match x with
 | .cV x o=>some (.cV x (o+off))
 | .ptr b g j o=>(aH H b g).map fun _ => .ptr b g j (o+off)
 | _=>none
def WL (x:VV) (H:aA):Option VV :=
 match x with
 | .cV x o=>some (.cV x o)
 | .ptr b g j o=>(aH H b g).map fun _ => .ptr b g j o
 | _=>none
def uL (x:VV) (l h:Option VV):Option VV :=
 match x,E2 l,E2 h with
 |
  .sc (.string s),some lv,some hv=>match zE lv hv s.size with
  | some (l,h)=>some (.sc (.string (s.extract l h)))
  | none=>none
 | _,_,_=>none
def afK (agg:Bool) (off size:Nat) (x:VV):Option VV :=
 match x with
 | .agg cs=>if agg then (if off+size≤cs.length then some (.agg ((cs.drop off).take size)) else none) else cs[off]?
 | _=>none
def KZ (f:Value→Option Value) (x:VV):Option VV :=
 match x with
 | .sc a=>(f a).map .sc
 | _=>none
def HL (f:Value→Value→Option Value) (x y:VV):Option VV :=
 match x,y with
 | .sc a,.sc b=>(f a b).map .sc
 | _,_=>none
def R0 (c a b:VV):Option VV :=
 match c with
 | .sc (.bool t)=>some (if t then a else b)
 | _=>none
def YT (i:Nat) (x:VV):Option VV :=
 match x with
 | .eY vs=>vs[i]?
 | _=>none
def Tu (neg:Bool) (ks:List CK) (x y:VV):Option VV :=
 match x,y with
 | .agg a,.agg b=>(pN ks a b).map fun t => .sc (.bool (t != neg))
 | _,_=>none
def XI:Value→Option Value
 | .string s=>some (.string s)
 | _=>none
def AU:Value→Option Value
 | .string s=>some (.int .i64 s.size)
 | _=>none
def F5:Value→Value→Option Value
 | .string s,.int _ i=>if 0≤i∧i<s.size then some (.int .u8 ((s.data.toList.getD i.toNat 0).toNat:Int)) else none
 | _,_=>none
def vop (fl:Fl) (lo:Nat) (o:mV) (ρ:dG) (H:aA):Option (VV×aA) :=
 match o with
 | .mv x=>some (dX ρ x,H)
 | .pick c a b=>(R0 (dX ρ c) (dX ρ a) (dX ρ b)).map (·,H)
 | .bin op x y=>(HL (dB op) (dX ρ x) (dX ρ y)).map (·,H)
 | .eqb neg x y=>(HL (MO neg) (dX ρ x) (dX ρ y)).map (·,H)
 | .isnil neg x=>(ET neg (dX ρ x) H).map (·,H)
 | .eqagg neg ks x y=>(Tu neg ks (dX ρ x) (dX ρ y)).map (·,H)
 | .un op x=>(KZ (YY op) (dX ρ x)).map (·,H)
 | .cvt k x=>(KZ (S3 k) (dX ρ x)).map (·,H)
 | .cvs x=>(KZ XI (dX ρ x)).map (·,H)
 | .ext x i=>(YT i (dX ρ x)).map (·,H)
 | .fld agg off size x=>(afK agg off size (dX ρ x)).map (·,H)
 | .build zero places parts=>(wP places (zero.map iY) (parts.map fun(i,x)=>(i,dX ρ x))).map fun cs=>(.agg cs,H)
 | .chk x=>(WL (dX ρ x) H).map (·,H)
 | .faddr off x=>(Hn off (dX ρ x) H).map (·,H)
 | .iaddr size x i=>(bH size (dX ρ x) (dX ρ i) H).map (·,H)
 | .sidx x i=>(HL F5 (dX ρ x) (dX ρ i)).map (·,H)
 | .ssub x l h=>(uL (dX ρ x) (l.map (dX ρ)) (h.map (dX ρ))).map (·,H)
 | .mkfn f fN=>some (.tY f (fN.map (dX ρ)),H)
 | .len x=>(oC (dX ρ x) H).map (·,H)
 | .slen x=>(KZ AU (dX ρ x)).map (·,H)
 | .min x y=>(HL Ri (dX ρ x) (dX ρ y)).map (·,H)
 | .max x y=>(HL Qh (dX ρ x) (dX ρ y)).map (·,H)
 | .load agg size p=>(cI agg size (dX ρ p) H).map (·,H)
 | .sub size x l h m=>(Ej size (dX ρ x) (l.map (dX ρ)) (h.map (dX ρ)) (m.map (dX ρ)) H).map (·,H)
 |
  .b2s x=>match dX ρ x with
  | .sc _=>none
  |
   y=>match cW 1 y H with
   | some es=>(Hy es).map fun bs=>(.sc (.string ⟨bs.toArray⟩),H)
   | none=>none
 | .new zero=>if (zero.map iY).all bP then some (.ptr H.length 0 0 0,H++[.row 0 [elemOf (zero.map iY)] zero.length true]) else none
 | .box x=>if (aB (dX ρ x)).all bP then (if fl.bf then some (.cV (dX ρ x) 0,H) else some (.ptr H.length 0 0 0,H++[.row 0 [dX ρ x] (aB (dX ρ x)).length true])) else none
 | .make zero bytes l c=>if (zero.map iY).all bP then AB zero bytes (dX ρ l) (dX ρ c) H else none
 | .lit zero n parts=>mF fl.lr zero n (parts.map fun(i,x)=>(i,dX ρ x)) H
 | .store size p v=>(bX lo size (dX ρ p) (dX ρ v) H).map fun H'=>(pB,H')
 |
  .app size bytes x y=>match cW size (dX ρ y) H with
  | some new=>eO lo size bytes (dX ρ x) new H
  | none=>none
 |
  .appz zero bytes x n=>match dX ρ n with
  | .sc (.int .i64 n)=>if 0≤n∧n*bytes≤140737488355328∧(zero.map iY).all bP then eO lo zero.length bytes (dX ρ x) (List.replicate n.toNat (elemOf (zero.map iY))) H else none
  | _=>none
 | .copy size x y=>IJ lo size (dX ρ x) (dX ρ y) H
 | .clear zero x=>(OK lo zero (dX ρ x) H).map fun H'=>(pB,H')
 | _=>none
inductive VBx where
 | no
 | row (i:Nat) (w:Bool)
 | Bl (i:Nat)
 | tree
 | bad
def Ad (H:aA):VV→VBx
 | .tree [] .nil => .no
 | .tree _ _ => .tree
 | .cV _ _ => .tree
 |
  .ref b g _ _ _=>match aH H b g with
  | some (_,_,w) => .row b w
  | none => .Bl b
 |
  .ptr b g _ _=>match aH H b g with
  | some (_,_,w) => .row b w
  | none => .Bl b
 | .any => .bad
 | _ => .no
def yZ (H:aA) (x y:VV):Bool :=
 match Ad H x,Ad H y with
 | .bad,_=>false
 | _,.bad=>false
 | .no,_=>true
 | _,.no=>true
 | .row i _,.row j _=>i != j
 | .row i _,.Bl j=>i != j
 | .Bl i,.row j _=>i != j
 | .Bl _,.Bl _=>false
 | .Bl _,.tree=>false
 | .tree,.Bl _=>false
 | .row _ w,.tree=>w
 | .tree,.row _ w=>w
 | .tree,.tree=>false
def rM (ρ:dG) (H:aA) (c:Operand×Operand):Bool:=yZ H (dX ρ c.1) (dX ρ c.2)
def BN (g:Option (Nat×Bool)) (ρ:dG):Option Bool :=
 match g with
 | none=>some true
 |
  some (t,want)=>match ρ t with
  | .sc (.bool b)=>some (b == want)
  | .eY _=>some false
  | _=>none
def fz:Nat→aA→VV→Option VV
 | 0,_,_=>none
 |
  d+1,H,v =>
  if aN v then some v else
  match v with
  | .agg cs=>(cs.mapM (fz d H)).map .agg
  | .eY vs=>(vs.mapM (fz d H)).map .eY
  | .tree es _=>(es.mapM (fz d H)).map (.tree · .op)
  | .cV x o=>(fz d H x).map (.cV · o)
  |
   .ref b g o n c=>match aH H b g with
   | some (es,_,_)=>if o+n≤es.length∧n≤c then (((es.drop o).take n).mapM (fz d H)).map (.tree · .op) else none
   | none=>none
  |
   .ptr b g j o=>match aH H b g with
   |
    some (es,_,_)=>match es[j]? with
    | some x=>(fz d H x).map (.cV · o)
    | none=>none
   | none=>none
  | .tY f fN=>(fN.mapM (fz d H)).map (.tY f ·)
  | _=>none
def gP:Nat→aA→VV→List Nat
 | 0,_,_=>[]
 |
  d+1,H,v =>
  if aN v then [] else
  match v with
  | .agg cs=>cs.flatMap (gP d H)
  | .eY vs=>vs.flatMap (gP d H)
  | .tree es _=>es.flatMap (gP d H)
  | .cV x _=>gP d H x
  |
   .ref b g o n _=>match aH H b g with
   | some (es,_,_)=>b::((es.drop o).take n).flatMap (gP d H)
   | none=>[]
  |
   .ptr b g j _=>match aH H b g with
   |
    some (es,_,_)=>match es[j]? with
    | some x=>b::gP d H x
    | none=>[]
   | none=>[]
  | .tY _ fN=>fN.flatMap (gP d H)
  | _=>[]
def BG (H:aA) (b:Nat):aA :=
 match H[b]? with
 | some (.row g es e _)=>H.set b (.row g es e false)
 | _=>H
def cY (H:aA) (ids:List Nat):aA:=ids.foldl BG H
def depth:Nat:=8
end Go.PM
namespace Go.PM
structure View where
 m:Nat→Nat
 F:Nat→Prop
 H:aA
 P:aE
 base:Nat
def kindOk (k:TK) (n c e:Nat) (p:Bool):Prop :=
 match k with
 | .op=>True
 | .cl e'=>e'=e∧c=n∧p=false
 | .nil=>False
mutual
inductive VR (V:View):VV→Value→Prop
 | any (v:Value):VR V .any v
 | sc (v:Value) (h:kE v=true):VR V (.sc v) v
 | agg (cs:List VV) (ps:List Value) (h:VL V cs ps):VR V (.agg cs) (.agg ps.toArray)
 | eY (cs:List VV) (ps:List Value) (h:VL V cs ps):VR V (.eY cs) (.tuple ps.toArray)
 | nR (k:TK) (hk:k = .op∨k = .nil):VR V (.tree [] k) (.slice none 0 0)
 | tree (es:List VV) (k:TK) (b o c:Nat) (r:List Value) (e:Nat) (p:Bool) (hF:V.F b) (hb:V.P[b]? = some (.row r e p)) (ho:o+es.length*e≤r.length)
  (hc:es.length≤c) (he:∀x∈es,(aB x).length=e) (hk:kindOk k es.length c e p) (hl:VL V (es.flatMap aB) ((r.drop o).take (es.length*e))) :
  VR V (.tree es k) (.slice (some ⟨b,o,none⟩) es.length c)
 | cV (x:VV) (off b o:Nat) (r:List Value) (e:Nat) (p:Bool) (hF:V.F b) (hb:V.P[b]? = some (.row r e p)) (ho:o+(aB x).length≤r.length)
  (hl:VL V (aB x) ((r.drop o).take (aB x).length)):VR V (.cV x off) (.pointer (some ⟨b,o+off,none⟩))
 | ref (b g o n c:Nat) (a:Option Addr) (n' c':Nat) (bA:b<V.H.length) (hg:∀g' es e w,V.H[b]? = some (.row g' es e w)→g≤g')
  (h:∀es e w,V.H[b]? = some (.row g es e w)→a=some ⟨V.m b,o*e,none⟩∧n'=n∧c'=c)
  (hq:∀a0,a=some a0→V.base≤a0.block∧a0.block<V.P.length∧∀b' g' es e w,V.H[b']? = some (.row g' es e w)→b'≠b→V.m b'≠a0.block):VR V (.ref b g o n c) (.slice a n' c')
 | ptr (b g j off:Nat) (a:Option Addr) (bA:b<V.H.length) (hg:∀g' es e w,V.H[b]? = some (.row g' es e w)→g≤g')
  (h:∀es e w,V.H[b]? = some (.row g es e w)→a=some ⟨V.m b,j*e+off,none⟩)
  (hq:∀a0,a=some a0→V.base≤a0.block∧a0.block<V.P.length∧∀b' g' es e w,V.H[b']? = some (.row g' es e w)→b'≠b→V.m b'≠a0.block):VR V (.ptr b g j off) (.pointer a)
 | tY (f:Nat) (fN:List VV) (ps:List Value) (h:VL V fN ps):VR V (.tY f fN) (.func (.func f) #[] ps.toArray)
inductive VL (V:View):List VV→List Value→Prop
 | nil:VL V [] []
 | cons (x:VV) (v:Value) (xs:List VV) (vs:List Value) (h:VR V x v) (hs:VL V xs vs):VL V (x::xs) (v::vs)
end
structure Up (V V':View):Prop where
 F:∀b,V.F b→V'.F b
 P:∀b,V.F b→V'.P[b]? = V.P[b]?
 len:V.H.length≤V'.H.length
 row:∀b g' lQ e w',b<V.H.length→V'.H[b]? = some (.row g' lQ e w')→∃g es w,V.H[b]? = some (.row g es e w)∧g≤g'∧(g'=g→V'.m b=V.m b)
 JU:V'.base=V.base
 D8:V.P.length≤V'.P.length
 Bl:∀b g es e w,V'.H[b]? = some (.row g es e w)→V'.m b<V.P.length→∃g0 es0 w0,V.H[b]? = some (.row g0 es0 e w0)∧V'.m b=V.m b∧(w=true→w0=true)
section
variable {V V' RZ:View}
theorem Up.refl (V:View):Up V V:=⟨fun _ h=>h,fun _ _=>rfl,Nat.le_refl _,fun b g es e w _ h=>⟨g,es,w,h,Nat.le_refl _,fun _=>rfl⟩,rfl,Nat.le_refl _,fun b g es e w h _=>⟨g,es,w,h,rfl,id⟩⟩
theorem Up.trans (h:Up V V') (h':Up V' RZ):Up V RZ :=
 ⟨fun b hb=>h'.F b (h.F b hb),fun b hb=>(h'.P b (h.F b hb)).trans (h.P b hb),Nat.le_trans h.len h'.len,fun b g es e w hb hr=>by
  obtain⟨g1,BX,w1,h1,h2,h3⟩:=h'.row b g es e w (Nat.lt_of_lt_of_le hb h.len) hr
  obtain⟨g2,Zc,w2,h4,h5,h6⟩:=h.row b g1 BX e w1 hb h1
  exact⟨g2,Zc,w2,h4,Nat.le_trans h5 h2,fun hg=>(h3 (by omega)).trans (h6 (by omega))⟩,h'.JU.trans h.JU,Nat.le_trans h.D8 h'.D8,fun b g es e w hb hm=>by
   obtain⟨g1,BX,w1,h1,h2,h3⟩:=h'.Bl b g es e w hb (Nat.lt_of_lt_of_le hm h.D8)
   obtain⟨g2,Zc,w2,h4,h5,h6⟩:=h.Bl b g1 BX e w1 h1 (by rw[←h2];exact hm)
   exact⟨g2,Zc,w2,h4,h2.trans h5,fun hw=>h6 (h3 hw)⟩⟩
theorem Up.hq (u:Up V V') {b q:Nat} (h:V.base≤q∧q<V.P.length∧∀b' g' es e w,V.H[b']? = some (.row g' es e w)→b'≠b→V.m b'≠q):V'.base≤q∧q<V'.P.length∧∀b' g' es e w,V'.H[b']? = some (.row g' es e w)→b'≠b→V'.m b'≠q:=by
 refine⟨by rw[u.JU];exact h.1,Nat.lt_of_lt_of_le h.2.1 u.D8,fun b' g' es e w hb fC hm => ?_⟩
 obtain⟨g0,es0,w0,h1,h2,_⟩:=u.Bl b' g' es e w hb (by rw[hm];exact h.2.1)
 exact h.2.2 b' _ _ _ _ h1 fC (h2.symm.trans hm)
theorem VR.mono (u:Up V V') {x:VV} {v:Value} (h:VR V x v):VR V' x v:=by
 induction h using VR.rec (motive_2:=fun xs vs _=>VL V' xs vs) with
 | any=>exact .any _
 | sc _ h=>exact .sc _ h
 | agg cs ps _ ih=>exact .agg _ _ ih
 | eY cs ps _ ih=>exact .eY _ _ ih
 | nR k hk=>exact .nR k hk
 | tree es k b o c r e p hF hb ho hc he hk _ ih=>exact .tree es k b o c r e p (u.F _ hF) (by rw[u.P _ hF];exact hb) ho hc he hk ih
 | cV x off b o r e p hF hb ho _ ih=>exact .cV x off b o r e p (u.F _ hF) (by rw[u.P _ hF];exact hb) ho ih
 |
  ref b g o n c a n' c' bA hg h hq =>
  refine .ref b g o n c a n' c' (Nat.lt_of_lt_of_le bA u.len) (fun g' es e w hr => ?_) (fun es e w hr => ?_) fun a0 ha=>u.hq (hq a0 ha)
  ·obtain⟨g1,BX,w1,h1,h2,_⟩:=u.row b g' es e w bA hr
   exact Nat.le_trans (hg _ _ _ _ h1) h2
  ·obtain⟨g1,BX,w1,h1,h2,h3⟩:=u.row b g es e w bA hr
   have h4:=hg _ _ _ _ h1
   have h5:g=g1:=by omega
   subst h5
   rw[h3 rfl]
   exact h _ _ _ h1
 |
  ptr b g j off a bA hg h hq =>
  refine .ptr b g j off a (Nat.lt_of_lt_of_le bA u.len) (fun g' es e w hr => ?_) (fun es e w hr => ?_) fun a0 ha=>u.hq (hq a0 ha)
  ·obtain⟨g1,BX,w1,h1,h2,_⟩:=u.row b g' es e w bA hr
   exact Nat.le_trans (hg _ _ _ _ h1) h2
  ·obtain⟨g1,BX,w1,h1,h2,h3⟩:=u.row b g es e w bA hr
   have h4:=hg _ _ _ _ h1
   have h5:g=g1:=by omega
   subst h5
   rw[h3 rfl]
   exact h _ _ _ h1
 | tY f fN ps _ ih=>exact .tY _ _ _ ih
 | nil=>exact .nil
 | cons x v xs vs _ _ ih T8=>exact .cons _ _ _ _ ih T8
theorem VL.mono (u:Up V V') {xs:List VV} {vs:List Value} (h:VL V xs vs):VL V' xs vs:=by
 induction xs generalizing vs with
 | nil=>cases h;exact .nil
 |
  cons x xs ih=>cases h with
  | cons _ v _ vs h hs=>exact .cons _ _ _ _ (h.mono u) (ih hs)
end
section
variable {V:View} {xs ys:List VV} {vs ws:List Value}
theorem VL.length:∀ {xs:List VV} {vs:List Value},VL V xs vs→vs.length=xs.length
 | _,_,.nil=>rfl
 | _,_,.cons _ _ _ _ _ hs=>by simp[hs.length]
theorem VL.append:∀ {xs:List VV} {vs:List Value},VL V xs vs→VL V ys ws→VL V (xs++ys) (vs++ws)
 | _,_,.nil,h'=>h'
 | _,_,.cons _ _ _ _ h hs,h' => .cons _ _ _ _ h (hs.append h')
theorem VL.take (n:Nat):∀ {xs:List VV} {vs:List Value} ,VL V xs vs→VL V (xs.take n) (vs.take n):=by
 induction n with
 | zero=>intro xs vs _;simp;exact .nil
 |
  succ n ih=>intro xs vs h;cases h with
  | nil=>simp;exact .nil
  | cons x v xs vs h hs=>exact .cons _ _ _ _ h (ih hs)
theorem VL.drop (n:Nat):∀ {xs:List VV} {vs:List Value} ,VL V xs vs→VL V (xs.drop n) (vs.drop n):=by
 induction n with
 | zero=>intro xs vs h;simpa using h
 |
  succ n ih=>intro xs vs h;cases h with
  | nil=>simp;exact .nil
  | cons x v xs vs h hs=>exact ih hs
theorem VL.get (h:VL V xs vs) {i:Nat} {x:VV} (hx:xs[i]? = some x):∃v,vs[i]? = some v∧VR V x v:=by
 induction i generalizing xs vs with
 |
  zero=>cases h with
  | nil=>cases hx
  | cons y v xs vs h hs=>simp at hx;subst hx;exact⟨v,rfl,h⟩
 |
  succ i ih=>cases h with
  | nil=>cases hx
  | cons y v xs vs h hs=>exact ih hs (by simpa using hx)
theorem VL.map {α:Type} {f:α→VV} {g:α→Value}:∀ {l:List α},(∀x∈l,VR V (f x) (g x))→VL V (l.map f) (l.map g)
 | [],_ => .nil
 | x::l,h => .cons _ _ _ _ (h x (by simp)) (VL.map fun y hy=>h y (by simp[hy]))
theorem VL.replicate {x:VV} {v:Value} (h:VR V x v):∀n,VL V (List.replicate n x) (List.replicate n v)
 | 0 => .nil
 | n+1 => .cons _ _ _ _ h (VL.replicate h n)
theorem VL.iH {cs new:List VV} {ps pn:List Value} (h:VL V cs ps) (hn:VL V new pn) (o:Nat):VL V (cR cs o new) (iH ps o pn):=by
 unfold cR PM.iH
 rw[←hn.length]
 exact((h.take o).append hn).append (h.drop _)
theorem VR.iY (v:Value):VR V (iY v) v:=by
 unfold PM.iY
 split
 ·exact .nR _ (.inr rfl)
 ·split
  ·rename_i h;exact .sc _ h
  ·exact .any _
theorem VR.inj (v:Value):VR V (inj v) v:=by
 unfold PM.inj
 split
 ·rename_i cs
  have:(Value.agg cs) = .agg cs.toList.toArray:=by simp
  rw[this]
  refine .agg _ _ ?_
  have:=VL.map (V:=V) (f:=PM.iY) (g:=id) (l:=cs.toList) fun x _=>VR.iY x
  simpa using this
 ·rename_i vs
  split
  ·rename_i h
   have:vs=[].toArray:=by simpa using h
   rw[this]
   exact .eY _ _ .nil
  ·exact .any _
 ·exact VR.iY _
theorem VL.zero (z:List Value):VL V (z.map PM.iY) z:=by
 have:=VL.map (V:=V) (f:=PM.iY) (g:=id) (l:=z) fun x _=>VR.iY x
 simpa using this
theorem VR.cells {x:VV} {v:Value} (h:VR V x v) (hx:x ≠ .any):VL V (aB x) (aM v):=by
 cases h with
 | any=>exact absurd rfl hx
 |
  sc v h =>
  have:aM v=[v]:=by cases v<;>first | rfl | cases h
  rw[this]
  exact .cons _ _ _ _ (.sc v h) .nil
 | agg cs ps h=>simpa[aB,aM] using h
 | eY cs ps h=>exact .cons _ _ _ _ (.eY _ _ h) .nil
 | nR k hk=>exact .cons _ _ _ _ (.nR k hk) .nil
 | tree es k b o c r e p hF hb ho hc he hk hl=>exact .cons _ _ _ _ (.tree es k b o c r e p hF hb ho hc he hk hl) .nil
 | cV x off b o r e p hF hb ho hl=>exact .cons _ _ _ _ (.cV x off b o r e p hF hb ho hl) .nil
 | ref b g o n c a n' c' bA hg h hq=>exact .cons _ _ _ _ (.ref b g o n c a n' c' bA hg h hq) .nil
 | ptr b g j off a bA hg h hq=>exact .cons _ _ _ _ (.ptr b g j off a bA hg h hq) .nil
 | tY f fN ps h=>exact .cons _ _ _ _ (.tY _ _ _ h) .nil
theorem VR.fO {x:VV} {v:Value} (h:VR V x v) (hx:bP x=true):fO v=true:=by
 cases h with
 | sc v h=>cases v<;>first | rfl | cases h
 | any=>cases hx
 | agg=>cases hx
 | eY=>cases hx
 | _=>rfl
theorem VL.fO:∀ {xs:List VV} {vs:List Value},VL V xs vs→xs.all bP=true→vs.all PM.fO=true
 | _,_,.nil,_=>rfl
 |
  _,_,.cons _ _ _ _ h hs,hx=>by
  rw[List.all_cons,Bool.and_eq_true] at hx ⊢
  exact⟨h.fO hx.1,hs.fO hx.2⟩
theorem TW {x:VV} (h:(aB x).all bP=true):x ≠ .any:=by
 rintro rfl
 cases h
theorem jR {es:List VV} {e:Nat} (he:∀x∈es,(aB x).length=e):(es.flatMap aB).length=es.length*e:=by
 induction es with
 | nil=>simp
 |
  cons x xs ih =>
  rw[List.flatMap_cons,List.length_append,ih fun y hy=>he y (List.mem_cons_of_mem _ hy),he x List.mem_cons_self,List.length_cons,Nat.succ_mul]
  omega
theorem tG {es:List VV} {e:Nat} (he:∀x∈es,(aB x).length=e) (i:Nat):(es.flatMap aB).drop (i*e)=(es.drop i).flatMap aB:=by
 induction i generalizing es with
 | zero=>simp
 |
  succ i ih =>
  cases es with
  | nil=>simp
  |
   cons x xs =>
   have hx:=he x List.mem_cons_self
   rw[List.flatMap_cons,List.drop_succ_cons,←ih fun y hy=>he y (List.mem_cons_of_mem _ hy),show (i+1)*e=(aB x).length+i*e by rw[hx,Nat.succ_mul];omega,List.drop_append]
   simp
theorem sZ {es:List VV} {e:Nat} (he:∀x∈es,(aB x).length=e) (i:Nat):(es.flatMap aB).take (i*e)=(es.take i).flatMap aB:=by
 induction i generalizing es with
 | zero=>simp
 |
  succ i ih =>
  cases es with
  | nil=>simp
  |
   cons x xs =>
   have hx:=he x List.mem_cons_self
   rw[List.flatMap_cons,List.take_succ_cons,List.flatMap_cons,←ih fun y hy=>he y (List.mem_cons_of_mem _ hy),show (i+1)*e=(aB x).length+i*e by rw[hx,Nat.succ_mul];omega,List.take_append]
   simp
   exact List.take_of_length_le (by omega)
theorem KA {es:List VV} {e:Nat} (he:∀x∈es,(aB x).length=e) {j:Nat} {x:VV} (hx:es[j]? = some x):((es.flatMap aB).drop (j*e)).take e=aB x:=by
 obtain⟨bA,Pa⟩:=List.getElem?_eq_some_iff.1 hx
 rw[tG he,List.drop_eq_getElem_cons bA,Pa,List.flatMap_cons,List.take_append,←he x (List.mem_of_getElem? hx)]
 simp
theorem vS {es new:List VV} {e:Nat} (he:∀x∈es,(aB x).length=e) (hn:∀x∈new,(aB x).length=e) (o:Nat):cR (es.flatMap aB) (o*e) (new.flatMap aB)=(cR es o new).flatMap aB:=by
 unfold cR
 rw[sZ he,jR hn,show o*e+new.length*e=(o+new.length)*e by rw[Nat.add_mul],tG he]
 simp
theorem IV {es:List VV} {j:Nat} {x:VV} (hj:j<es.length):cR es j [x]=es.set j x:=by
 unfold cR
 rw[List.set_eq_take_append_cons_drop,if_pos hj]
 simp
theorem P3 {cs new:List VV} {o:Nat} (h:o+new.length≤cs.length):(cR cs o new).length=cs.length:=by
 unfold cR
 simp
 omega
theorem Iq {cs new:List VV} {o:Nat} {x:VV} (h:x∈cR cs o new):x∈cs∨x∈new:=by
 unfold cR at h
 rw[List.mem_append,List.mem_append] at h
 rcases h with(h | h) | h
 ·exact .inl (List.mem_of_mem_take h)
 ·exact .inr h
 ·exact .inl (List.mem_of_mem_drop h)
theorem mT {cs:List VV} (h:cs.all bP=true):aB (elemOf cs)=cs:=by
 unfold elemOf
 split
 ·rename_i x
  simp only[List.all_cons,List.all_nil,Bool.and_true] at h
  cases x<;>first | rfl | cases h
 ·rfl
theorem cL {H:aA} {b g:Nat} {es:List VV} {e:Nat} {w:Bool}:aH H b g=some (es,e,w)↔H[b]? = some (.row g es e w):=by
 unfold aH
 constructor
 ·intro h
  split at h
  ·rename_i hb
   split at h
   ·rename_i hg;subst hg;cases h;exact hb
   ·cases h
  ·cases h
 ·intro h
  rw[h]
  simp
end
structure SR (V:View) (lo dW:Nat):Prop where
 row:∀b g es e w,V.H[b]? = some (.row g es e w)→∃r p,V.P[V.m b]? = some (.row r e p)∧(∀x∈es,(aB x).length=e)∧VL V (es.flatMap aB) r
 wr:∀b g es e,V.H[b]? = some (.row g es e true)→¬V.F (V.m b)∧(lo≤b→dW≤V.m b)
 inj:∀a b g es e w g' lQ e' w',V.H[a]? = some (.row g es e w)→V.H[b]? = some (.row g' lQ e' w')→V.m a=V.m b→a=b
 fr:∀b,V.F b→b<V.P.length
 SH:dW≤V.P.length
 JU:V.base≤V.P.length
structure Ek (lo:Nat) (V V':View):Prop extends Up V V' where
 cB:∀q,q<V.P.length→(∀b g es e,V.H[b]? = some (.row g es e true)→lo≤b→V.m b≠q)→V'.P[q]? = V.P[q]?
 Cn:∀q,V'.F q→V.F q∨V.P.length≤q∨∃b g es e w,V.H[b]? = some (.row g es e w)∧V.m b=q
section
variable {V V' RZ:View} {lo:Nat}
theorem Ek.refl (lo:Nat) (V:View):Ek lo V V :=
 { Up.refl V with cB:=fun _ _ _=>rfl,Cn:=fun _ h => .inl h }
theorem Ek.trans (h:Ek lo V V') (h':Ek lo V' RZ):Ek lo V RZ :=
 { Up.trans h.toUp h'.toUp with
  cB:=fun q hq hn=>by
   rw[h'.cB q (Nat.lt_of_lt_of_le hq h.D8) ?_,h.cB q hq hn]
   intro b g es e hb hl hm
   obtain⟨g1,BX,w1,h1,h2,h3⟩:=h.Bl b g es e true hb (by rw[hm];exact hq)
   have:=h3 rfl
   subst this
   exact hn b g1 BX e h1 hl (h2.symm.trans hm)
  Cn:=fun q hq=>by
   rcases h'.Cn q hq with h1 | h1 | ⟨b,g,es,e,w,h1,h2⟩
   ·exact h.Cn q h1
   ·exact .inr (.inl (Nat.le_trans h.D8 h1))
   ·rcases Nat.lt_or_ge q V.P.length with hl | hl
    ·obtain⟨g1,BX,w1,h3,h4,_⟩:=h.Bl b g es e w h1 (by rw[h2];exact hl)
     exact .inr (.inr ⟨b,g1,BX,e,w1,h3,h4.symm.trans h2⟩)
    ·exact .inr (.inl hl) }
end
end Go.PM
namespace Go.PM
def Yx (m:Nat→Nat) (b v:Nat):Nat→Nat:=fun k=>if k=b then v else m k
theorem lE {m:Nat→Nat} {b v:Nat}:Yx m b v b=v:=by simp[Yx]
theorem lZ {m:Nat→Nat} {b v k:Nat} (h:k≠b):Yx m b v k=m k:=by simp[Yx,h]
section
variable {V:View} {lo dW:Nat}
theorem SR.mlt (hS:SR V lo dW) {b g e:Nat} {es:List VV} {w:Bool} (hb:V.H[b]? = some (.row g es e w)):V.m b<V.P.length:=by
 obtain⟨r,p,h,_⟩:=hS.row b g es e w hb
 exact(List.getElem?_eq_some_iff.1 h).1
theorem Bv (hS:SR V lo dW) (x:MJ):SR { V with P:=V.P++[x],F:=fun q=>V.F q∨q=V.P.length } lo dW∧Ek lo V { V with P:=V.P++[x],F:=fun q=>V.F q∨q=V.P.length }:=by
 have hU:Up V { V with P:=V.P++[x],F:=fun q=>V.F q∨q=V.P.length }:=⟨fun _ h => .inl h,fun b hb=>List.getElem?_append_left (hS.fr b hb),Nat.le_refl _,fun b g es e w _ h=>⟨g,es,w,h,Nat.le_refl _,fun _=>rfl⟩,rfl,by simp,fun b g es e w hb _=>⟨g,es,w,hb,rfl,id⟩⟩
 refine⟨⟨fun b g es e w hb => ?_,fun b g es e hb=>⟨fun hF => ?_,(hS.wr b g es e hb).2⟩,hS.inj,fun b hb => ?_,by have:=hS.SH;simp;omega,by have:=hS.JU;simp;omega⟩,{ hU with cB:=fun q hq _=>List.getElem?_append_left hq,Cn:=fun q hq => ?_ }⟩
 ·obtain⟨r,p,h1,h2,h3⟩:=hS.row b g es e w hb
  exact⟨r,p,by rw[←h1];exact List.getElem?_append_left (hS.mlt hb),h2,h3.mono hU⟩
 ·rcases hF with hF | hF
  ·exact(hS.wr b g es e hb).1 hF
  ·have h1:V.m b=V.P.length:=hF
   have:=hS.mlt hb
   omega
 ·rcases hb with hb | hb
  ·have:=hS.fr b hb
   simp;omega
  ·subst hb;simp
 ·rcases hq with hq | hq
  ·exact .inl hq
  ·exact .inr (.inl (by omega))
theorem qW (hS:SR V lo dW) {es:List VV} {r:List Value} {e:Nat} (p:Bool) (he:∀x∈es,(aB x).length=e) (hl:VL V (es.flatMap aB) r) :
  SR { V with m:=Yx V.m V.H.length V.P.length,H:=V.H++[.row 0 es e true],P:=V.P++[.row r e p] } lo dW∧Ek lo V { V with m:=Yx V.m V.H.length V.P.length,H:=V.H++[.row 0 es e true],P:=V.P++[.row r e p] }:=by
 have Bl:∀b g lQ e' w,(V.H++[bT.row 0 es e true])[b]? = some (.row g lQ e' w)→(b=V.H.length∧g=0∧lQ=es∧e'=e∧w=true)∨(b≠V.H.length∧V.H[b]? = some (.row g lQ e' w)):=by
  intro b g lQ e' w hb
  rcases Nat.lt_trichotomy b V.H.length with h | h | h
  ·rw[List.getElem?_append_left h] at hb
   exact .inr ⟨by omega,hb⟩
  ·subst h
   rw[List.getElem?_append_right (Nat.le_refl _)] at hb
   simp at hb
   obtain⟨h1,h2,h3,h4⟩:=hb
   exact .inl ⟨rfl,h1.symm,h2.symm,h3.symm,h4⟩
  ·rw[List.getElem?_eq_none (by simp;omega)] at hb
   cases hb
 have hU:Up V { V with m:=Yx V.m V.H.length V.P.length,H:=V.H++[.row 0 es e true],P:=V.P++[.row r e p] } :=
  ⟨fun _ h=>h,fun b hb=>List.getElem?_append_left (hS.fr b hb),by simp,fun b g' lQ e' w' bA hb=>by
   rcases Bl b g' lQ e' w' hb with⟨h,_⟩ | ⟨h,hb⟩
   ·omega
   ·exact⟨g',lQ,w',hb,Nat.le_refl _,fun _=>lZ h⟩,rfl,by simp,fun b g lQ e' w hb hm=>by
   rcases Bl b g lQ e' w hb with⟨rfl,_⟩ | ⟨h,hb⟩
   ·simp only[lE] at hm
    omega
   ·exact⟨g,lQ,w,hb,lZ h,id⟩⟩
 refine⟨⟨fun b g lQ e' w hb => ?_,fun b g lQ e' hb => ?_,fun a b g BX e1 w1 g' Zc e2 w2 ha hb hm => ?_,fun b hb=>by have:=hS.fr b hb;simp;omega,by have:=hS.SH;simp;omega,by have:=hS.JU;simp;omega⟩,
  { hU with cB:=fun q hq _=>List.getElem?_append_left hq,Cn:=fun q hq => .inl hq }⟩
 ·rcases Bl b g lQ e' w hb with⟨rfl,rfl,rfl,rfl,rfl⟩ | ⟨h,hb⟩
  ·exact⟨r,p,by simp only[lE];simp,he,hl.mono hU⟩
  ·obtain⟨r1,p1,h1,h2,h3⟩:=hS.row b g lQ e' w hb
   refine⟨r1,p1,?_,h2,h3.mono hU⟩
   simp only[lZ h]
   rw[List.getElem?_append_left (hS.mlt hb)]
   exact h1
 ·rcases Bl b g lQ e' true hb with⟨rfl,_⟩ | ⟨h,hb⟩
  ·simp only[lE]
   exact⟨fun hF=>by have:=hS.fr _ hF;omega,fun _=>hS.SH⟩
  ·simp only[lZ h]
   exact hS.wr b g lQ e' hb
 ·rcases Bl a g BX e1 w1 ha with⟨rfl,_⟩ | ⟨h,ha⟩
  ·rcases Bl b g' Zc e2 w2 hb with⟨rfl,_⟩ | ⟨h',hb⟩
   ·rfl
   ·simp only[lE,lZ h'] at hm
    have:=hS.mlt hb
    omega
  ·rcases Bl b g' Zc e2 w2 hb with⟨rfl,_⟩ | ⟨h',hb⟩
   ·simp only[lE,lZ h] at hm
    have:=hS.mlt ha
    omega
   ·simp only[lZ h,lZ h'] at hm
    exact hS.inj a b _ _ _ _ _ _ _ _ ha hb hm
theorem fS {H:aA} {b:Nat} {x:bT} (hb:b<H.length) {a:Nat} {y:bT} (h:(H.set b x)[a]? = some y):(a=b∧y=x)∨(a≠b∧H[a]? = some y):=by
 by_cases he:a=b
 ·subst he
  rw[List.getElem?_set_self hb] at h
  cases h
  exact .inl ⟨rfl,rfl⟩
 ·rw[List.getElem?_set_ne (Ne.symm he)] at h
  exact .inr ⟨he,h⟩
theorem CT (hS:SR V lo dW) {b g e:Nat} {es lQ:List VV} {r':List Value} (hb:V.H[b]? = some (.row g es e true)) (eQ:lo≤b) (he:∀x∈lQ,(aB x).length=e) (hl:VL V (lQ.flatMap aB) r') {r:List Value} {p:Bool} (hp:V.P[V.m b]? = some (.row r e p)) :
  SR { V with H:=V.H.set b (.row g lQ e true),P:=V.P.set (V.m b) (.row r' e p) } lo dW∧Ek lo V { V with H:=V.H.set b (.row g lQ e true),P:=V.P.set (V.m b) (.row r' e p) }:=by
 have sS:=(List.getElem?_eq_some_iff.1 hb).1
 have Mm:=hS.mlt hb
 have hU:Up V { V with H:=V.H.set b (.row g lQ e true),P:=V.P.set (V.m b) (.row r' e p) } :=
  ⟨fun _ h=>h,fun q hq=>List.getElem?_set_ne (fun h=>(hS.wr b g es e hb).1 (by rw[h];exact hq)),by simp,fun a g' BX e1 w1 bA ha=>by
   rcases fS sS ha with⟨rfl,h⟩ | ⟨_,h⟩
   ·cases h
    exact⟨g,es,true,hb,Nat.le_refl _,fun _=>rfl⟩
   ·exact⟨g',BX,w1,h,Nat.le_refl _,fun _=>rfl⟩,rfl,by simp,fun a g1 BX e1 w1 ha _=>by
   rcases fS sS ha with⟨rfl,h⟩ | ⟨fC,h⟩
   ·cases h
    exact⟨g,es,true,hb,rfl,fun _=>rfl⟩
   ·exact⟨g1,BX,w1,h,rfl,id⟩⟩
 refine⟨⟨fun a g1 BX e1 w1 ha => ?_,fun a g1 BX e1 ha => ?_,fun a c g1 BX e1 w1 g2 Zc e2 w2 ha hc hm => ?_,fun q hq=>by have:=hS.fr q hq;simp;omega,by have:=hS.SH;simp;omega,by have:=hS.JU;simp;omega⟩,
  { hU with cB:=fun q hq hn=>List.getElem?_set_ne (hn b g es e hb eQ),Cn:=fun q hq => .inl hq }⟩
 ·rcases fS sS ha with⟨rfl,h⟩ | ⟨fC,h⟩
  ·cases h
   exact⟨r',p,List.getElem?_set_self Mm,he,hl.mono hU⟩
  ·obtain⟨r1,p1,h1,h2,h3⟩:=hS.row a g1 BX e1 w1 h
   exact⟨r1,p1,by rw[←h1];exact List.getElem?_set_ne (fun hm=>fC (hS.inj _ _ _ _ _ _ _ _ _ _ h hb hm.symm)),h2,h3.mono hU⟩
 ·rcases fS sS ha with⟨rfl,h⟩ | ⟨fC,h⟩
  ·cases h
   exact hS.wr _ _ _ _ hb
  ·exact hS.wr _ _ _ _ h
 ·rcases fS sS ha with⟨rfl,h⟩ | ⟨fC,h⟩<;>rcases fS sS hc with⟨rfl,h'⟩ | ⟨Xk,h'⟩
  ·rfl
  ·exact hS.inj _ _ _ _ _ _ _ _ _ _ hb h' hm
  ·exact hS.inj _ _ _ _ _ _ _ _ _ _ h hb hm
  ·exact hS.inj _ _ _ _ _ _ _ _ _ _ h h' hm
theorem TD (hS:SR V lo dW) {b g e:Nat} {es lQ:List VV} {r':List Value} (hb:V.H[b]? = some (.row g es e true)) (eQ:lo≤b) (he:∀x∈lQ,(aB x).length=e) (hl:VL V (lQ.flatMap aB) r') {P1:aE} (hP:P1.length=V.P.length) (hk:∀q,q≠V.m b→P1[q]? = V.P[q]?) (p:Bool) :
  SR { V with m:=Yx V.m b V.P.length,H:=V.H.set b (.row (g+1) lQ e true),P:=P1++[.row r' e p] } lo dW∧Ek lo V { V with m:=Yx V.m b V.P.length,H:=V.H.set b (.row (g+1) lQ e true),P:=P1++[.row r' e p] }:=by
 have sS:=(List.getElem?_eq_some_iff.1 hb).1
 have Mm:=hS.mlt hb
 have uH:∀q,q<V.P.length→q≠V.m b→(P1++[MJ.row r' e p])[q]? = V.P[q]? := fun q hq hn=>by rw[List.getElem?_append_left (by omega)];exact hk q hn
 have hU:Up V { V with m:=Yx V.m b V.P.length,H:=V.H.set b (.row (g+1) lQ e true),P:=P1++[.row r' e p] } :=
  ⟨fun _ h=>h,fun q hq=>uH q (hS.fr q hq) (fun h=>(hS.wr b g es e hb).1 (by rw[←h];exact hq)),by simp,fun a g' BX e1 w1 bA ha=>by
   rcases fS sS ha with⟨rfl,h⟩ | ⟨fC,h⟩
   ·cases h
    exact⟨g,es,true,hb,by omega,fun h=>by omega⟩
   ·exact⟨g',BX,w1,h,Nat.le_refl _,fun _=>lZ fC⟩,rfl,by simp;omega,fun a g1 BX e1 w1 ha hm=>by
   rcases fS sS ha with⟨rfl,h⟩ | ⟨fC,h⟩
   ·simp only[lE] at hm
    omega
   ·exact⟨g1,BX,w1,h,lZ fC,id⟩⟩
 refine⟨⟨fun a g1 BX e1 w1 ha => ?_,fun a g1 BX e1 ha => ?_,fun a c g1 BX e1 w1 g2 Zc e2 w2 ha hc hm => ?_,fun q hq=>by have:=hS.fr q hq;simp;omega,by have:=hS.SH;simp;omega,by have:=hS.JU;simp;omega⟩,
  { hU with cB:=fun q hq hn=>uH q hq (Ne.symm (hn b g es e hb eQ)),Cn:=fun q hq => .inl hq }⟩
 ·rcases fS sS ha with⟨rfl,h⟩ | ⟨fC,h⟩
  ·cases h
   refine⟨r',p,?_,he,hl.mono hU⟩
   simp only[lE]
   rw[←hP]
   simp
  ·obtain⟨r1,p1,h1,h2,h3⟩:=hS.row a g1 BX e1 w1 h
   refine⟨r1,p1,?_,h2,h3.mono hU⟩
   simp only[lZ fC]
   rw[uH _ (hS.mlt h) (fun hm=>fC (hS.inj _ _ _ _ _ _ _ _ _ _ h hb hm))]
   exact h1
 ·rcases fS sS ha with⟨rfl,h⟩ | ⟨fC,h⟩
  ·cases h
   simp only[lE]
   exact⟨fun hF=>by have:=hS.fr _ hF;omega,fun _=>hS.SH⟩
  ·simp only[lZ fC]
   exact hS.wr _ _ _ _ h
 ·rcases fS sS ha with⟨rfl,h⟩ | ⟨fC,h⟩<;>rcases fS sS hc with⟨rfl,h'⟩ | ⟨Xk,h'⟩
  ·rfl
  ·simp only[lE,lZ Xk] at hm
   have:=hS.mlt h'
   omega
  ·simp only[lE,lZ fC] at hm
   have:=hS.mlt h
   omega
  ·simp only[lZ fC,lZ Xk] at hm
   exact hS.inj _ _ _ _ _ _ _ _ _ _ h h' hm
def View.freeze (V:View) (b:Nat):View :=
 match V.H[b]? with
 | some (.row _ _ _ _)=>{ V with H:=BG V.H b,F:=fun q=>V.F q∨q=V.m b }
 | _=>V
theorem QV (V:View) (b:Nat):(V.freeze b).H=BG V.H b:=by
 unfold View.freeze BG
 cases h:V.H[b]? with
 | none=>rfl
 | some x=>cases x<;>rfl
theorem aaF (V:View) (b:Nat):(V.freeze b).P=V.P:=by
 unfold View.freeze
 split<;>rfl
theorem QB (V:View) (b:Nat):(V.freeze b).m=V.m:=by
 unfold View.freeze
 split<;>rfl
theorem PD (hS:SR V lo dW) (b:Nat):SR (V.freeze b) lo dW∧Ek lo V (V.freeze b)∧(∀g es e w,V.H[b]? = some (.row g es e w)→(V.freeze b).F (V.m b)):=by
 unfold View.freeze
 split
 case h_2 fC=>exact⟨hS,Ek.refl _ _,fun g es e w h=>absurd h (fC _ _ _ _)⟩
 rename_i g es e w hb
 have sS:=(List.getElem?_eq_some_iff.1 hb).1
 have hf:BG V.H b=V.H.set b (.row g es e false):=by unfold BG;rw[hb]
 rw[hf]
 have hU:Up V { V with H:=V.H.set b (.row g es e false),F:=fun q=>V.F q∨q=V.m b } :=
  ⟨fun _ h => .inl h,fun _ _=>rfl,by simp,fun a g' BX e1 w1 bA ha=>by
   rcases fS sS ha with⟨rfl,h⟩ | ⟨_,h⟩
   ·cases h
    exact⟨g,es,w,hb,Nat.le_refl _,fun _=>rfl⟩
   ·exact⟨g',BX,w1,h,Nat.le_refl _,fun _=>rfl⟩,rfl,Nat.le_refl _,fun a g1 BX e1 w1 ha hm=>by
   rcases fS sS ha with⟨rfl,h⟩ | ⟨fC,h⟩
   ·cases h
    exact⟨g,es,w,hb,rfl,fun h=>by cases h⟩
   ·exact⟨g1,BX,w1,h,rfl,id⟩⟩
 refine⟨⟨fun a g1 BX e1 w1 ha => ?_,fun a g1 BX e1 ha => ?_,fun a c g1 BX e1 w1 g2 Zc e2 w2 ha hc hm => ?_,fun q hq => ?_,hS.SH,hS.JU⟩,
  { hU with cB:=fun q hq hn=>rfl,Cn:=fun q hq => ?_ },fun _ _ _ _ _ => .inr rfl⟩
 ·rcases fS sS ha with⟨rfl,h⟩ | ⟨fC,h⟩
  ·cases h
   obtain⟨r1,p1,h1,h2,h3⟩:=hS.row _ _ _ _ _ hb
   exact⟨r1,p1,h1,h2,h3.mono hU⟩
  ·obtain⟨r1,p1,h1,h2,h3⟩:=hS.row _ _ _ _ _ h
   exact⟨r1,p1,h1,h2,h3.mono hU⟩
 ·rcases fS sS ha with⟨rfl,h⟩ | ⟨fC,h⟩
  ·cases h
  ·refine⟨fun hF => ?_,(hS.wr _ _ _ _ h).2⟩
   rcases hF with hF | hF
   ·exact(hS.wr _ _ _ _ h).1 hF
   ·exact fC (hS.inj _ _ _ _ _ _ _ _ _ _ h hb hF)
 ·rcases fS sS ha with⟨rfl,h⟩ | ⟨fC,h⟩<;>rcases fS sS hc with⟨rfl,h'⟩ | ⟨Xk,h'⟩
  ·rfl
  ·exact hS.inj _ _ _ _ _ _ _ _ _ _ hb h' hm
  ·exact hS.inj _ _ _ _ _ _ _ _ _ _ h hb hm
  ·exact hS.inj _ _ _ _ _ _ _ _ _ _ h h' hm
 ·rcases hq with hq | hq
  ·exact hS.fr q hq
  ·subst hq;exact hS.mlt hb
 ·rcases hq with hq | hq
  ·exact .inl hq
  ·exact .inr (.inr ⟨b,g,es,e,w,hb,hq.symm⟩)
end
end Go.PM
namespace Go.PM
section
variable {V:View} {lo dW:Nat} {ρ:dG} {jS:Env}
def ER (V:View) (ρ:dG) (jS:Env):Prop:=∀t,VR V (ρ t) (jS t)
theorem ER.mono {V':View} (u:Up V V') (h:ER V ρ jS):ER V' ρ jS:=fun t=>(h t).mono u
theorem ER.ev (h:ER V ρ jS) (x:Operand):VR V (dX ρ x) (ev jS x):=by
 cases x with
 | tmp t=>exact h t
 | const v=>exact VR.inj v
 | global g=>exact .any _
 | func f=>exact .tY f [] [] .nil
theorem ER.put {d:Option Nat} {x:VV} {v:Value} (h:ER V ρ jS) (hx:VR V x v):ER V (Jk ρ d x) (put jS d v):=by
 cases d with
 | none=>exact h
 |
  some d =>
  intro t
  simp only[Jk,PM.put]
  split
  ·exact hx
  ·exact h t
theorem ER.evs (h:ER V ρ jS) (xs:List Operand):VL V (xs.map (dX ρ)) (xs.map (PM.ev jS)):=VL.map fun x _=>h.ev x
def gH (lo dW:Nat) (V:View) (r:Option (Value×aE)) (v:VV) (H':aA):Prop :=
 ∃pv V',r=some (pv,V'.P)∧V'.H=H'∧SR V' lo dW∧Ek lo V V'∧VR V' v pv
theorem gH.pure (hS:SR V lo dW) {r:Option Value} {v:VV} {pv:Value} (h:r=some pv) (hv:VR V v pv):gH lo dW V (r.map (·,V.P)) v V.H :=
 ⟨pv,V,by rw[h];rfl,rfl,hS,Ek.refl _ _,hv⟩
theorem gH.of {V':View} {pv:Value} {v:VV} (h:SR V' lo dW∧Ek lo V V') (hv:VR V' v pv):gH lo dW V (some (pv,V'.P)) v V'.H:=⟨pv,V',rfl,rfl,h.1,h.2,hv⟩
theorem gH.same (hS:SR V lo dW) {v:VV} {pv:Value} (hv:VR V v pv):gH lo dW V (some (pv,V.P)) v V.H :=
 ⟨pv,V,rfl,rfl,hS,Ek.refl _ _,hv⟩
theorem cK {α β:Type} {o:Option α} {f:α→β} {b:β} (h:o.map f=some b):∃a,o=some a∧f a=b:=by
 cases o with
 | none=>cases h
 | some a=>cases h;exact⟨a,rfl,rfl⟩
theorem qQ {x:VV} {v u:Value} (h:VR V x u) (hx:x = .sc v):u=v∧kE v=true:=by
 subst hx
 cases h with
 | sc v h=>exact⟨rfl,h⟩
theorem ZX {op:BinOp} {a b c:Value} (h:dB op a b=some c):kE c=true:=by
 unfold dB at h
 split at h
 ·split at h<;>cases h;rfl
 ·split at h<;>cases h;rfl
 ·split at h
  ·split at h<;>first | (cases h;rfl) | (split at h<;>cases h<;>rfl) | cases h
  ·cases h
 ·split at h<;>first | (cases h;rfl) | (split at h<;>cases h<;>rfl) | cases h
 ·cases h
theorem aeX {op:UnOp} {a c:Value} (h:YY op a=some c):kE c=true:=by
 unfold YY at h
 split at h<;>cases h<;>rfl
theorem abG {n:Bool} {a b c:Value} (h:MO n a b=some c):kE c=true:=by
 unfold MO at h
 split at h<;>cases h;rfl
theorem YN {k:IntKind} {a c:Value} (h:S3 k a=some c):kE c=true:=by
 unfold S3 at h
 split at h<;>cases h;rfl
theorem Y3 {a c:Value} (h:XI a=some c):kE c=true:=by
 unfold XI at h
 split at h<;>cases h;rfl
theorem X5 {a c:Value} (h:AU a=some c):kE c=true:=by
 unfold AU at h
 split at h<;>cases h;rfl
theorem Yd {a b c:Value} (h:F5 a b=some c):kE c=true:=by
 unfold F5 at h
 split at h
 ·split at h<;>cases h;rfl
 ·cases h
theorem ZP {a b c:Value} (h:Ri a b=some c):kE c=true:=by
 unfold Ri at h
 split at h<;>cases h;rfl
theorem abW {a b c:Value} (h:Qh a b=some c):kE c=true:=by
 unfold Qh at h
 split at h<;>cases h;rfl
theorem DI (hS:SR V lo dW) {f:Value→Option Value} (hf:∀a c,f a=some c→kE c=true) {x v:VV} {u:Value} (hx:VR V x u) (h:KZ f x=some v):gH lo dW V ((f u).map (·,V.P)) v V.H:=by
 unfold KZ at h
 split at h
 ·obtain⟨h1,_⟩:=qQ hx rfl
  subst h1
  obtain⟨c,hc,rfl⟩:=cK h
  exact gH.pure hS hc (.sc _ (hf _ _ hc))
 ·cases h
theorem Ao (hS:SR V lo dW) {f:Value→Value→Option Value} (hf:∀a b c,f a b=some c→kE c=true) {x y v:VV} {u w:Value} (hx:VR V x u) (hy:VR V y w) (h:HL f x y=some v):gH lo dW V ((f u w).map (·,V.P)) v V.H:=by
 unfold HL at h
 split at h
 ·obtain⟨h1,_⟩:=qQ hx rfl
  obtain⟨h2,_⟩:=qQ hy rfl
  subst h1 h2
  obtain⟨c,hc,rfl⟩:=cK h
  exact gH.pure hS hc (.sc _ (hf _ _ _ hc))
 ·cases h
theorem UF {α:Type} (l:List α) {o n a k:Nat} (h:a+k≤n):(((l.drop o).take n).drop a).take k=(l.drop (o+a)).take k:=by
 rw[List.drop_take,List.take_take,List.drop_drop,Nat.min_eq_left (by omega)]
theorem Sp {x v:VV} {agg:Bool} {size off b o e:Nat} {r:List Value} {p:Bool} (hb:V.P[b]? = some (.row r e p)) (ho:o+(aB x).length≤r.length) (hl:VL V (aB x) ((r.drop o).take (aB x).length)) (h:dA agg size x off=some v) :
  ∃u,nK agg size (.pointer (some ⟨b,o+off,none⟩)) V.P=some u∧VR V v u:=by
 unfold dA at h
 cases agg with
 |
  true =>
  simp only[if_true] at h
  split at h
  ·rename_i hs
   cases h
   refine⟨.agg ((r.drop (o+off)).take size).toArray,?_,.agg _ _ ?_⟩
   ·simp only[nK,if_true,AG hb (show o+off+size≤r.length by omega)]
    rfl
   ·have:=(hl.drop off).take size
    rw[UF _ hs] at this
    exact this
  ·cases h
 |
  false =>
  simp only[Bool.false_eq_true,if_false] at h
  obtain⟨u,hu,hv⟩:=hl.get h
  have ajG:=(List.getElem?_eq_some_iff.1 h).1
  rw[List.getElem?_take,if_pos ajG,List.getElem?_drop] at hu
  refine⟨u,?_,hv⟩
  have bA:=(List.getElem?_eq_some_iff.1 hu).1
  simp only[nK,Bool.false_eq_true,if_false,AG hb (show o+off+1≤r.length by omega)]
  rw[List.drop_eq_getElem_cons bA]
  simp only[List.take_succ_cons,List.take_zero]
  rw[List.getElem?_eq_getElem bA] at hu
  injection hu with hu
  rw[hu]
theorem Lp (hS:SR V lo dW) {b g e j:Nat} {es:List VV} {w:Bool} {x:VV} (hb:V.H[b]? = some (.row g es e w)) (hx:es[j]? = some x) :
  ∃r p,V.P[V.m b]? = some (.row r e p)∧(aB x).length=e∧j*e+(aB x).length≤r.length∧VL V (aB x) ((r.drop (j*e)).take (aB x).length):=by
 obtain⟨r,p,h1,h2,h3⟩:=hS.row b g es e w hb
 have hxe:=h2 x (List.mem_of_getElem? hx)
 have hj:=(List.getElem?_eq_some_iff.1 hx).1
 have hlen:=h3.length
 rw[jR h2] at hlen
 have hm:(j+1)*e≤es.length*e:=Nat.mul_le_mul_right _ hj
 rw[Nat.succ_mul] at hm
 refine⟨r,p,h1,hxe,by omega,?_⟩
 have:=(h3.drop (j*e)).take e
 rw[KA h2 hx] at this
 rw[hxe]
 exact this
theorem Lz (hS:SR V lo dW) {p v:VV} {u:Value} {agg:Bool} {size:Nat} (hp:VR V p u) (h:cI agg size p V.H=some v):∃w,nK agg size u V.P=some w∧VR V v w:=by
 unfold cI at h
 split at h
 ·cases hp with
  | cV x off b o r e p hF hb ho hl=>exact Sp hb ho hl h
 ·split at h
  ·rename_i es e w hr
   rw[cL] at hr
   split at h
   ·rename_i x hx
    cases hp with
    |
     ptr b g j off a bA hg ha hq =>
     have:=ha _ _ _ hr
     subst this
     obtain⟨r,p,h1,h2,h3,h4⟩:=Lp hS hr hx
     exact Sp h1 h3 h4 h
   ·cases h
  ·cases h
 ·cases h
theorem Qf (hS:SR V lo dW) {x i v:VV} {u k:Value} {size:Nat} (hx:VR V x u) (hi:VR V i k) (h:bH size x i V.H=some v):∃w,PA size u k=some w∧VR V v w:=by
 unfold bH at h
 split at h
 ·rename_i es tk ik i
  obtain⟨rfl,_⟩:=qQ hi rfl
  split at h
  ·rename_i h0
   split at h
   ·rename_i y hy
    split at h
    ·rename_i Ck
     cases h
     have bA:=(List.getElem?_eq_some_iff.1 hy).1
     cases hx with
     | nR=>simp at bA
     |
      tree es k b o c r e p hF hb ho hc he hk hl =>
      have hye:=he y (List.mem_of_getElem? hy)
      have MH:e=size:=by omega
      subst MH
      have hm:(i.toNat+1)*e≤es.length*e:=Nat.mul_le_mul_right _ bA
      rw[Nat.succ_mul] at hm
      refine⟨_,RI h0 (by omega),?_⟩
      have h1:=(hl.drop (i.toNat*e)).take e
      rw[KA he hy,UF _ (by omega)] at h1
      exact .cV y 0 b (o+i.toNat*e) r e p hF hb (by omega) (by rw[hye];exact h1)
    ·cases h
   ·cases h
  ·cases h
 ·rename_i b g o n c ik i
  obtain⟨rfl,_⟩:=qQ hi rfl
  split at h
  ·rename_i es e w hr
   rw[cL] at hr
   split at h
   ·rename_i hc
    obtain⟨rfl,h0,h1⟩:=hc
    cases h
    cases hx with
    |
     ref b g o n c a n' c' bA hg ha hq =>
     obtain⟨rfl,rfl,rfl⟩:=ha _ _ _ hr
     refine⟨_,RI h0 h1,.ptr b g (o+i.toNat) 0 _ bA hg (fun lQ e' w' EP => ?_) fun a0 h=>by cases h;exact hq ⟨V.m b,o*e,none⟩ rfl⟩
     rw[hr] at EP
     cases EP
     rw[Nat.add_mul,Nat.add_zero]
   ·cases h
  ·cases h
 ·cases h
theorem AY {l:Option Operand} {lv:Option Value} (hE:ER V ρ jS) (h:E2 (l.map (dX ρ))=some lv):l.map (ev jS)=lv:=by
 cases l with
 | none=>cases h;rfl
 |
  some x =>
  simp only[Option.map_some,E2] at h
  split at h
  ·rename_i hv;cases hv
  ·rename_i v hv
   cases h
   injection hv with hv
   obtain⟨h1,_⟩:=qQ (hE.ev x) hv
   rw[Option.map_some,h1]
  ·cases h
theorem Hm {v:Option Value} {d:Option Nat} {t x:Nat} (hd:∀y,d=some y→y≤t) (h:eH v d t=some x):x≤t:=by
 unfold eH at h
 split at h
 ·exact hd _ h
 ·split at h
  ·cases h;omega
  ·cases h
 ·cases h
theorem Nk {v:Option Value} {d d':Option Nat} {t t' x:Nat} (ht:t≤t') (hd:v=none→d=d') (h:eH v d t=some x):eH v d' t'=some x:=by
 unfold eH at h ⊢
 cases v with
 | none=>rw[←hd rfl];exact h
 |
  some v =>
  cases v with
  |
   int k i =>
   simp only at h ⊢
   split at h
   ·rename_i h1;rw[if_pos (by omega)];exact h
   ·cases h
  | _=>simp only at h ⊢;exact h
theorem No (hS:SR V lo dW) (size:Nat):gH lo dW V (some (.slice (some ⟨V.P.length,0,none⟩) 0 0,V.P++[.row [] size false])) (.tree [] (.cl size)) V.H:=by
 exact(gH.of (Bv hS (.row [] size false)) (.tree [] (.cl size) V.P.length 0 0 [] size false (.inr rfl) (by simp) (by simp) (by simp) (fun x hx=>by cases hx) ⟨rfl,rfl,rfl⟩ (by simp;exact .nil)) :)
theorem XO (hS:SR V lo dW) (hE:ER V ρ jS) {x v:VV} {u:Value} {size:Nat} {l h m:Option Operand} (hx:VR V x u) (hv:Ej size x (l.map (dX ρ)) (h.map (dX ρ)) (m.map (dX ρ)) V.H=some v) :
  gH lo dW V (Cf size u (l.map (ev jS)) (h.map (ev jS)) (m.map (ev jS)) V.P) v V.H:=by
 unfold Ej at hv
 split at hv
 case h_2=>cases hv
 rename_i lv hhv mv hl hh hm
 rw[AY hE hl,AY hE hh,AY hE hm]
 split at hv
 ·rename_i y ys tk
  split at hv
  case isFalse=>cases hv
  rename_i Ck
  split at hv
  ·cases hv
  rename_i m0 hm0
  split at hv
  ·cases hv
  rename_i h0 hh0
  split at hv
  ·cases hv
  rename_i l0 Af
  cases hx with
  |
   tree es k b o c r e p hF hb ho hc he hk hl =>
   have MH:e=size:=by rw[←he y List.mem_cons_self];exact Ck
   subst MH
   have hlen:(y::ys).length=ys.length+1:=rfl
   rw[hlen] at ho hc
   have b1:m0≤ys.length+1:=Hm (fun z hz=>by injection hz with hz;omega) hm0
   have b2:h0≤m0:=by
    refine Hm (fun z hz => ?_) hh0
    split at hz
    ·cases hz
    ·rename_i hmn
     injection hz with hz
     have:mv=none:=by cases mv<;>simp_all
     subst this
     simp[eH] at hm0
     omega
   have b3:l0≤h0:=Hm (fun z hz=>by injection hz with hz;omega) Af
   have e1:eH mv (some c) c=some (if mv.isSome then m0 else c):=by
    cases mv with
    | none=>rfl
    | some q=>exact Nk hc (fun hq=>by cases hq) hm0
   have e2:eH hhv (if mv.isSome then none else some (ys.length+1)) (if mv.isSome then m0 else c)=some h0:=by
    cases mv with
    |
     none =>
     simp only[Option.isSome_none,Bool.false_eq_true,if_false] at hh0 ⊢
     exact Nk (by omega) (fun _=>rfl) hh0
    | some q=>exact hh0
   unfold Cf
   simp only[hb,if_true]
   rw[e1]
   simp only
   rw[hlen,e2]
   simp only
   rw[Af]
   simp only
   by_cases mX:mv.isSome=true∧m0=l0
   ·rw[if_pos mX] at hv
    cases hv
    rw[if_pos ⟨mX.1,by rw[if_pos mX.1];exact mX.2⟩]
    exact No hS e
   ·rw[if_neg mX] at hv
    cases hv
    rw[if_neg (fun hh=>mX ⟨hh.1,by have:=hh.2;rw[if_pos hh.1] at this;exact this⟩)]
    have bA:(((y::ys).drop l0).take (h0-l0)).length=h0-l0:=by simp;omega
    have OI:l0*e+(h0-l0)*e=h0*e:=by rw[←Nat.add_mul];congr 1;omega
    have hm2:h0*e≤(ys.length+1)*e:=Nat.mul_le_mul_right _ (by omega)
    have PU:h0-l0≤(if mv.isSome then m0 else c)-l0:=by split<;>omega
    have:=VR.tree (V:=V) (((y::ys).drop l0).take (h0-l0)) .op b (o+l0*e) ((if mv.isSome then m0 else c)-l0) r e p hF hb (by rw[bA];omega) (by rw[bA];exact PU) (fun z hz=>he z (List.mem_of_mem_drop (List.mem_of_mem_take hz))) trivial (by
     rw[bA]
     have h1:=(hl.drop (l0*e)).take ((h0-l0)*e)
     rw[UF _ (by rw[hlen];omega),tG he,sZ (fun z hz=>he z (List.mem_of_mem_drop hz))] at h1
     exact h1)
    rw[bA] at this
    exact gH.same hS this
 ·rename_i b g o n c
  split at hv
  case h_2=>cases hv
  rename_i es e w hr
  rw[cL] at hr
  split at hv
  case isFalse=>cases hv
  rename_i Ck
  subst Ck
  split at hv
  ·cases hv
  rename_i m0 hm0
  split at hv
  ·cases hv
  rename_i h0 hh0
  split at hv
  ·cases hv
  rename_i l0 Af
  cases hx with
  |
   ref b g o n c a n' c' bA hg ha hq =>
   obtain⟨rfl,rfl,rfl⟩:=ha _ _ _ hr
   obtain⟨r,p,h1,_⟩:=hS.row b g es e w hr
   unfold Cf
   simp only[h1,if_true]
   rw[hm0]
   simp only
   rw[hh0]
   simp only
   rw[Af]
   simp only
   by_cases mX:mv.isSome=true∧m0=l0
   ·rw[if_pos mX] at hv
    cases hv
    rw[if_pos mX]
    exact No hS e
   ·rw[if_neg mX] at hv
    cases hv
    rw[if_neg mX]
    refine gH.same hS (.ref b g (o+l0) _ _ _ _ _ bA hg (fun lQ e' w' EP => ?_) fun a0 h=>by cases h;exact hq ⟨V.m b,o*e,none⟩ rfl)
    rw[hr] at EP
    cases EP
    exact⟨by rw[Nat.add_mul],rfl,rfl⟩
 ·cases hv
theorem An {es:List VV} (h:(es.all fun x=>(aB x).all bP)=true):(es.flatMap aB).all bP=true:=by
 rw[List.all_eq_true] at h ⊢
 intro x hx
 obtain⟨y,hy,Ag⟩:=List.mem_flatMap.1 hx
 exact List.all_eq_true.1 (h y hy) x Ag
theorem vR (hS:SR V lo dW) {y:VV} {u:Value} {size:Nat} {new:List VV} (hy:VR V y u) (h:cW size y V.H=some new) :
  rJ u=some new.length∧(∀x∈new,(aB x).length=size)∧(new.flatMap aB).all bP=true∧∀n,n≤new.length→∃pn,iQ V.P size n u=some pn∧VL V ((new.take n).flatMap aB) pn:=by
 unfold cW at h
 split at h
 ·rename_i es tk
  split at h
  case isFalse=>cases h
  rename_i lF
  cases h
  have Z1:∀x∈new,(aB x).length=size∧(aB x).all bP=true:=fun x hx=>by
   have:=List.all_eq_true.1 lF x hx
   simpa using this
  refine⟨?_,fun x hx=>(Z1 x hx).1,An (List.all_eq_true.2 fun x hx=>(Z1 x hx).2),fun n hn => ?_⟩
  ·cases hy<;>rfl
  ·cases hy with
   |
    nR k hk =>
    have:n=0:=by simpa using hn
    subst this
    exact⟨[],rfl,by simp;exact .nil⟩
   |
    tree es k b o c r e p hF hb ho hc he hk hl =>
    cases MH:new with
    |
     nil =>
     rw[MH] at hn
     have:n=0:=by simpa using hn
     subst this
     refine⟨[],?_,by simp;exact .nil⟩
     simp only[iQ,Nat.zero_mul]
     rw[AG hb (by omega)]
     simp
    |
     cons x xs =>
     have Ml:e=size:=by rw[←he x (by rw[MH];exact List.mem_cons_self)];exact(Z1 x (by rw[MH];exact List.mem_cons_self)).1
     subst Ml
     have hm:n*e≤new.length*e:=Nat.mul_le_mul_right _ hn
     refine⟨_,by simp only[iQ];exact AG hb (by omega),?_⟩
     rw[←MH,←sZ he]
     have h1:=hl.take (n*e)
     rw[List.take_take,Nat.min_eq_left hm] at h1
     exact h1
 ·rename_i b g o n c
  split at h
  case h_2=>cases h
  rename_i es e w hr
  rw[cL] at hr
  split at h
  case isFalse=>cases h
  rename_i hc
  obtain⟨rfl,hlen,lF⟩:=hc
  cases h
  obtain⟨r,p,h1,h2,h3⟩:=hS.row b g es e w hr
  have hn2:((es.drop o).take n).length=n:=by simp;omega
  have Cp:=h3.length
  rw[jR h2] at Cp
  cases hy with
  |
   ref b g o n c a n' c' bA hg ha hq =>
   obtain⟨rfl,rfl,rfl⟩:=ha _ _ _ hr
   have Zx:∀x∈(es.drop o).take n',(aB x).length=e:=fun x hx=>h2 x (List.mem_of_mem_drop (List.mem_of_mem_take hx))
   refine⟨by rw[hn2];rfl,Zx,An lF,fun k hk => ?_⟩
   rw[hn2] at hk
   have hm:(o+k)*e≤es.length*e:=Nat.mul_le_mul_right _ (by omega)
   rw[Nat.add_mul] at hm
   refine⟨_,by simp only[iQ];exact AG h1 (by omega),?_⟩
   rw[List.take_take,Nat.min_eq_left hk]
   have h4:=(h3.drop (o*e)).take (k*e)
   rw[tG h2,sZ (fun x hx=>h2 x (List.mem_of_mem_drop hx))] at h4
   exact h4
 ·rename_i s
  split at h
  case isFalse=>cases h
  rename_i hs
  subst hs
  cases h
  obtain⟨rfl,_⟩:=qQ hy rfl
  have hlen:(s.data.toList.map fun b=>VV.sc (.int .u8 (b.toNat:Int))).length=s.size:=by simp
  refine⟨by rw[hlen];rfl,fun x hx => ?_,?_,fun n hn => ?_⟩
  ·obtain⟨b,_,rfl⟩:=List.mem_map.1 hx
   rfl
  ·refine An (List.all_eq_true.2 fun x hx => ?_)
   obtain⟨b,_,rfl⟩:=List.mem_map.1 hx
   rfl
  ·refine⟨(s.data.toList.take n).map fun b=>Value.int .u8 (b.toNat:Int),by simp only[iQ,if_true],?_⟩
   rw[←List.map_take,List.flatMap_map]
   have:((s.data.toList.take n).flatMap fun a=>aB (VV.sc (.int .u8 (a.toNat:Int))))=(s.data.toList.take n).map fun a=>VV.sc (.int .u8 (a.toNat:Int)):=by
    generalize s.data.toList.take n=l
    induction l with
    | nil=>rfl
    | cons a l ih=>rw[List.flatMap_cons,ih];rfl
   rw[this]
   exact VL.map fun b _ => .sc _ rfl
 ·cases h
end
end Go.PM
namespace Go.PM
section
variable {V:View} {lo dW:Nat} {ρ:dG} {jS:Env}
theorem JK (hS:SR V lo dW) {es:List VV} {r:List Value} {e n c:Nat} {p:Bool}:VR { V with m:=Yx V.m V.H.length V.P.length,H:=V.H++[.row 0 es e true],P:=V.P++[.row r e p] } (.ref V.H.length 0 0 n c) (.slice (some ⟨V.P.length,0,none⟩) n c):=by
 refine .ref _ _ _ _ _ _ _ _ (by simp) (fun g' es e w _=>Nat.zero_le _) (fun lQ e' w' h=>⟨?_,rfl,rfl⟩) fun a0 ha => ?_
 ·simp only[lE,Nat.zero_mul]
 ·cases ha
  refine⟨hS.JU,by simp,fun b' g' lQ e' w' hb fC hm => ?_⟩
  have vJ:(V.H++[bT.row 0 es e true])[b']? = some (.row g' lQ e' w'):=hb
  have bA:b'<V.H.length:=by
   have:=(List.getElem?_eq_some_iff.1 vJ).1
   simp at this
   omega
  rw[List.getElem?_append_left bA] at vJ
  have h2:=hS.mlt vJ
  simp only[lZ (show b'≠V.H.length by omega)] at hm
  omega
theorem Vp (hS:SR V lo dW) {es:List VV} {r:List Value} {e:Nat} {p:Bool}:VR { V with m:=Yx V.m V.H.length V.P.length,H:=V.H++[.row 0 es e true],P:=V.P++[.row r e p] } (.ptr V.H.length 0 0 0) (.pointer (some ⟨V.P.length,0,none⟩)):=by
 refine .ptr _ _ _ _ _ (by simp) (fun g' es e w _=>Nat.zero_le _) (fun lQ e' w' h => ?_) fun a0 ha => ?_
 ·simp only[lE,Nat.zero_mul]
 ·cases ha
  refine⟨hS.JU,by simp,fun b' g' lQ e' w' hb fC hm => ?_⟩
  have vJ:(V.H++[bT.row 0 es e true])[b']? = some (.row g' lQ e' w'):=hb
  have bA:b'<V.H.length:=by
   have:=(List.getElem?_eq_some_iff.1 vJ).1
   simp at this
   omega
  rw[List.getElem?_append_left bA] at vJ
  have h2:=hS.mlt vJ
  simp only[lZ (show b'≠V.H.length by omega)] at hm
  omega
theorem FI (hS:SR V lo dW) {x v:VV} {u:Value} {size bytes:Nat} {nw:List VV} {pn:List Value} {H':aA} (hx:VR V x u) (hn:∀x∈nw,(aB x).length=size) (uN:(nw.flatMap aB).all bP=true) (hl:VL V (nw.flatMap aB) pn) (h:eO lo size bytes x nw V.H=some (v,H')) :
  gH lo dW V (eJ dW size bytes u nw.length pn V.P) v H':=by
 unfold eO at h
 split at h
 case isFalse=>cases h
 rename_i hbs
 have Mm:pn.length=nw.length*size:=by rw[hl.length,jR hn]
 unfold eJ
 rw[if_pos ⟨hbs.1,hbs.2,hl.fO uN,Mm⟩]
 split at h
 ·cases hx with
  | tree es k b o c r e p hF hb ho hc he hk hl=>exact hk.elim
  |
   nR =>
   simp only[and_self,if_true]
   split at h
   ·rename_i h0
    cases h
    rw[if_pos h0]
    exact gH.same hS (.nR _ (.inr rfl))
   ·rename_i h0
    split at h
    case isFalse=>cases h
    rename_i h1
    cases h
    rw[if_neg h0,if_pos h1]
    exact(gH.of (qW hS (es:=nw) (r:=pn) (e:=size) true hn hl) (JK hS) :)
 ·rename_i es e
  split at h
  case isFalse=>cases h
  rename_i MH
  subst MH
  cases hx with
  | nR k hk=>rcases hk with hk | hk<;>cases hk
  |
   tree es k b o c r e' p hF hb ho hc he hk Bf =>
   obtain⟨h1,h2,h3⟩:=hk
   subst h1 h2 h3
   simp only[hb]
   rw[if_pos ⟨trivial,ho⟩]
   split at h
   ·rename_i h0
    cases h
    rw[if_pos (by omega),if_pos h0]
    exact gH.same hS (.tree es _ b o _ r e false hF hb ho hc he ⟨rfl,rfl,rfl⟩ Bf)
   ·rename_i h0
    split at h
    case isFalse=>cases h
    rename_i Ck
    cases h
    rw[if_neg (by omega),if_pos Ck]
    simp only[Bool.false_eq_true,if_false]
    have lF:∀x∈es++nw,(aB x).length=e:=fun x hx=>by
     rcases List.mem_append.1 hx with h | h
     ·exact he x h
     ·exact hn x h
    exact(gH.of (qW hS (es:=es++nw) (r:=(r.drop o).take (es.length*e)++pn) (e:=e) true lF (by rw[List.flatMap_append];exact Bf.append hl)) (JK hS) :)
 ·rename_i b g o n c
  split at h
  case h_2=>cases h
  rename_i es e hr
  rw[cL] at hr
  split at h
  case isFalse=>cases h
  rename_i hc
  obtain⟨rfl,eQ,hon⟩:=hc
  obtain⟨r,p,h1,h2,h3⟩:=hS.row b g es e true hr
  have Cp:=h3.length
  rw[jR h2] at Cp
  have EE:=(hS.wr b g es e hr).2 eQ
  cases hx with
  |
   ref b g o n c a n' c' bA hg ha hq =>
   obtain⟨rfl,rfl,rfl⟩:=ha _ _ _ hr
   have hm:(o+n')*e≤es.length*e:=Nat.mul_le_mul_right _ hon
   rw[Nat.add_mul] at hm
   simp only[h1]
   rw[if_pos ⟨trivial,by omega⟩]
   split at h
   ·rename_i YA
    rw[if_pos YA]
    split at h
    ·rename_i h0
     cases h
     rw[if_pos h0]
     exact gH.same hS (.ref _ _ _ _ _ _ _ _ bA hg ha hq)
    ·rename_i h0
     split at h
     case isFalse=>cases h
     rename_i qK
     cases h
     rw[if_neg h0]
     have hm2:(o+n'+nw.length)*e≤es.length*e:=Nat.mul_le_mul_right _ qK
     rw[Nat.add_mul,Nat.add_mul] at hm2
     have lF:∀x∈cR es (o+n') nw,(aB x).length=e:=fun x hx=>by
      rcases Iq hx with h | h
      ·exact h2 x h
      ·exact hn x h
     have EM:VL V ((cR es (o+n') nw).flatMap aB) (iH r (o*e+n'*e) pn):=by
      rw[←vS h2 hn,Nat.add_mul]
      exact h3.iH hl _
     obtain⟨g1,g2⟩:=CT hS hr eQ lF EM h1
     refine⟨.slice (some ⟨V.m b,o*e,none⟩) (n'+nw.length) c',{ V with H:=V.H.set b (.row g (cR es (o+n') nw) e true),P:=V.P.set (V.m b) (.row (iH r (o*e+n'*e) pn) e p) },?_,rfl,g1,g2,?_⟩
     ·unfold aE.write
      simp only[h1]
      rw[if_pos ⟨EE,by omega,hl.fO uN⟩]
      rfl
     ·refine .ref _ _ _ _ _ _ _ _ (by simpa using bA) (fun g' lQ e' w' EP => ?_) (fun lQ e' w' EP => ?_) fun a0 h=>by cases h;exact g2.toUp.hq (hq _ rfl)
      ·rcases fS bA EP with⟨_,h⟩ | ⟨h,_⟩
       ·cases h;exact Nat.le_refl _
       ·exact absurd rfl h
      ·rcases fS bA EP with⟨_,h⟩ | ⟨h,_⟩
       ·cases h;exact⟨rfl,rfl,rfl⟩
       ·exact absurd rfl h
   ·rename_i YA
    split at h
    case isFalse=>cases h
    rename_i Ck
    cases h
    rw[if_neg YA,if_pos Ck]
    have lF:∀x∈(es.drop o).take n'++nw,(aB x).length=e:=fun x hx=>by
     rcases List.mem_append.1 hx with h | h
     ·exact h2 x (List.mem_of_mem_drop (List.mem_of_mem_take h))
     ·exact hn x h
    have EM:VL V (((es.drop o).take n'++nw).flatMap aB) ((r.drop (o*e)).take (n'*e)++pn):=by
     rw[List.flatMap_append]
     refine VL.append ?_ hl
     have h4:=(h3.drop (o*e)).take (n'*e)
     rw[tG h2,sZ (fun x hx=>h2 x (List.mem_of_mem_drop hx))] at h4
     exact h4
    have fin:∀P1:aE,P1.length=V.P.length→(∀q,q≠V.m b→P1[q]? = V.P[q]?) →
      gH lo dW V (some (.slice (some ⟨V.P.length,0,none⟩) (n'+nw.length) (n'+nw.length),P1++[.row ((r.drop (o*e)).take (n'*e)++pn) e true])) (.ref b (g+1) 0 (n'+nw.length) (n'+nw.length)) (V.H.set b (.row (g+1) ((es.drop o).take n'++nw) e true)):=by
     intro P1 hP hk
     refine(gH.of (TD hS hr eQ lF EM hP hk true) ?_ :)
     refine .ref _ _ _ _ _ _ _ _ (by simpa using bA) (fun g' lQ e' w' EP => ?_) (fun lQ e' w' EP => ?_) fun a0 h => ?_
     ·rcases fS bA EP with⟨_,h⟩ | ⟨h,_⟩
      ·cases h;exact Nat.le_refl _
      ·exact absurd rfl h
     ·rcases fS bA EP with⟨_,h⟩ | ⟨h,_⟩
      ·cases h;exact⟨by simp only[lE,Nat.zero_mul],rfl,rfl⟩
      ·exact absurd rfl h
     ·cases h
      refine⟨hS.JU,by simp[hP],fun b' g' lQ e' w' hb fC hm => ?_⟩
      rcases fS bA hb with⟨h,_⟩ | ⟨_,h⟩
      ·exact fC h
      ·simp only[lZ fC] at hm
       have:=hS.mlt h
       omega
    cases p with
    |
     true =>
     simp only[if_true,EE]
     exact fin (V.P.set (V.m b) .dead) (by simp) fun q hq=>List.getElem?_set_ne (Ne.symm hq)
    |
     false =>
     simp only[Bool.false_eq_true,if_false]
     exact fin V.P rfl fun _ _=>rfl
 ·cases h
theorem Sx (hS:SR V lo dW) {p v:VV} {u w:Value} {size:Nat} {H':aA} (hp:VR V p u) (hv:VR V v w) (h:bX lo size p v V.H=some H'):gH lo dW V (E3 dW size u w V.P) pB H':=by
 unfold bX at h
 split at h
 case h_2=>cases h
 rename_i b g j o
 split at h
 case h_2=>cases h
 rename_i es e hr
 rw[cL] at hr
 split at h
 case h_2=>cases h
 rename_i x hx
 split at h
 case isFalse=>cases h
 rename_i hc
 obtain⟨Ck,eQ,uN⟩:=hc
 obtain⟨r,q,h1,h2,h3⟩:=hS.row b g es e true hr
 have Cp:=h3.length
 rw[jR h2] at Cp
 have EE:=(hS.wr b g es e hr).2 eQ
 have hj:=(List.getElem?_eq_some_iff.1 hx).1
 have hxe:=h2 x (List.mem_of_getElem? hx)
 have hm:(j+1)*e≤es.length*e:=Nat.mul_le_mul_right _ hj
 rw[Nat.succ_mul] at hm
 have mX:=hv.cells (TW uN)
 have hwl:(aM w).length=size:=by rw[mX.length,Ck]
 cases hp with
 |
  ptr b g j off a bA hg ha hq =>
  have:=ha _ _ _ hr
  subst this
  have fin:∀y:VV,(aB y).length=e→o+size≤e→aB y=cR (aB x) o (aB v)→H'=V.H.set b (.row g (es.set j y) e true)→gH lo dW V (E3 dW size (.pointer (some ⟨V.m b,j*e+o,none⟩)) w V.P) pB H':=by
   intro y hy ho hye hH
   subst hH
   have lF:∀z∈es.set j y,(aB z).length=e:=fun z hz=>by
    rcases List.mem_or_eq_of_mem_set hz with h | h
    ·exact h2 z h
    ·subst h;exact hy
   have EM:VL V ((es.set j y).flatMap aB) (iH r (j*e+o) (aM w)):=by
    have e1:(es.set j y).flatMap aB=cR (es.flatMap aB) (j*e+o) (aB v):=by
     rw[←IV hj,←vS h2 (new:=[y]) (fun z hz=>by rw[List.mem_singleton] at hz;subst hz;exact hy)]
     simp only[List.flatMap_cons,List.flatMap_nil,List.append_nil]
     rw[hye]
     have hx2:=KA h2 hx
     unfold cR
     have t1:(es.flatMap aB).take (j*e+o)=(es.flatMap aB).take (j*e)++(aB x).take o:=by
      rw[List.take_add,←hx2,List.take_take,Nat.min_eq_left (by omega)]
     have t2:(es.flatMap aB).drop (j*e+o+(aB v).length)=(aB x).drop (o+(aB v).length)++(es.flatMap aB).drop (j*e+e):=by
      have t0:(es.flatMap aB).drop (j*e+e)=((es.flatMap aB).drop (j*e+(o+(aB v).length))).drop (e-(o+(aB v).length)):=by
       rw[List.drop_drop]
       congr 1
       omega
      rw[←hx2,List.drop_take,List.drop_drop,t0,List.take_append_drop,Nat.add_assoc]
     rw[t1,t2]
     have t3:(List.take o (aB x)++aB v++List.drop (o+(aB v).length) (aB x)).length=e:=by
      simp;omega
     rw[t3]
     simp only[List.append_assoc]
    rw[e1]
    exact h3.iH mX _
   obtain⟨g1,g2⟩:=CT hS hr eQ lF EM h1
   refine⟨undef,{ V with H:=V.H.set b (.row g (es.set j y) e true),P:=V.P.set (V.m b) (.row (iH r (j*e+o) (aM w)) e q) },?_,rfl,g1,g2,.eY [] [] .nil⟩
   unfold E3
   simp only[hwl,if_true]
   unfold aE.write
   simp only[h1]
   rw[if_pos ⟨EE,by omega,mX.fO uN⟩]
   rfl
  split at h
  ·rename_i ho
   obtain⟨rfl,rfl⟩:=ho
   cases h
   refine fin v Ck (by omega) ?_ rfl
   unfold cR
   rw[Nat.zero_add,List.take_zero,List.nil_append,List.drop_of_length_le (by omega),List.append_nil]
  ·split at h
   case isFalse=>cases h
   rename_i ho
   cases h
   have Rn:(cR (aB x) o (aB v)).length=e:=by rw[P3 (by omega)];exact hxe
   exact fin (.agg (cR (aB x) o (aB v))) Rn (by omega) rfl rfl
theorem CD {z:List Value} (hz:(z.map iY).all bP=true):(aB (elemOf (z.map iY))).length=z.length:=by
 rw[mT hz,List.length_map]
theorem BB {z:List Value} (hz:(z.map iY).all bP=true):∀n,VL V ((List.replicate n (elemOf (z.map iY))).flatMap aB) (cU n z):=by
 intro n
 have uN:z.all fO=true:=(VL.zero (V:=V) z).fO hz
 have abN:cU n z=(List.replicate n ()).flatMap fun _=>z:=by
  rcases Nat.eq_zero_or_pos z.length with h0 | kH
  ·have:z=[]:=List.length_eq_zero_iff.1 h0
   subst this
   simp[cU]
  ·exact QG (enc:=fun(_:Unit)=>z) (fJ:=z.length) (x:=()) ⟨fun _=>rfl,fun _=>uN,kH⟩
 rw[abN]
 clear abN
 induction n with
 | zero=>exact .nil
 |
  succ n ih =>
  rw[List.replicate_succ,List.replicate_succ,List.flatMap_cons,List.flatMap_cons,mT hz]
  exact(VL.zero z).append ih
theorem Ue (hS:SR V lo dW) {z:List Value} {bytes:Nat} {l c v:VV} {u w:Value} {H':aA} (hz:(z.map iY).all bP=true) (hl:VR V l u) (hc:VR V c w) (h:AB z bytes l c V.H=some (v,H')):gH lo dW V (Vy z bytes u w V.P) v H':=by
 unfold AB at h
 split at h
 case h_2=>cases h
 obtain⟨rfl,_⟩:=qQ hl rfl
 obtain⟨rfl,_⟩:=qQ hc rfl
 split at h
 case isFalse=>cases h
 rename_i QQ
 cases h
 unfold Vy
 simp only[if_pos QQ]
 exact(gH.of (qW hS (e:=z.length) false (fun x hx=>by rw[List.eq_of_mem_replicate hx];exact CD hz) (BB hz _)) (JK hS) :)
theorem Xl (hS:SR V lo dW) {z:List Value} (hz:(z.map iY).all bP=true):gH lo dW V (some (.pointer (some ⟨V.P.length,0,none⟩),V.P++[.row z z.length false])) (.ptr V.H.length 0 0 0) (V.H++[.row 0 [elemOf (z.map iY)] z.length true]):=by
 exact(gH.of (qW hS (es:=[elemOf (z.map iY)]) (r:=z) (e:=z.length) false (fun x hx=>by rw[List.mem_singleton] at hx;subst hx;exact CD hz) (by simp only[List.flatMap_cons,List.flatMap_nil,List.append_nil,mT hz];exact VL.zero z)) (Vp hS) :)
theorem XD (hS:SR V lo dW) {x v:VV} {u:Value} {H':aA} {bf:Bool} (hx:VR V x u) (hs:(aB x).all bP=true) (h:(if bf=true then some (VV.cV x 0,V.H) else some (VV.ptr V.H.length 0 0 0,V.H++[bT.row 0 [x] (aB x).length true]))=some (v,H')) :
  gH lo dW V (if (aM u).all fO then some (.pointer (some ⟨V.P.length,0,none⟩),V.P++[.row (aM u) (aM u).length false]) else none) v H':=by
 have hc:=hx.cells (TW hs)
 rw[if_pos (hc.fO hs)]
 split at h
 ·cases h
  have g:=Bv hS (.row (aM u) (aM u).length false)
  refine(gH.of g ?_ :)
  have hm:=hc.mono g.2.toUp
  refine .cV x 0 V.P.length 0 (aM u) (aM u).length false (.inr rfl) (by simp) (by rw[hc.length];omega) ?_
  rw[List.drop_zero,List.take_of_length_le (by rw[hc.length];exact Nat.le_refl _)]
  exact hm
 ·cases h
  rw[hc.length]
  exact(gH.of (qW hS (es:=[x]) (r:=aM u) (e:=(aB x).length) false (fun y hy=>by rw[List.mem_singleton] at hy;subst hy;rfl) (by simpa using hc)) (Vp hS) :)
theorem take_set {α:Type} {l:List α} {i:Nat} {x:α} (h:i<l.length):l.set i x=l.take i++x::l.drop (i+1):=by
 rw[List.set_eq_take_append_cons_drop,if_pos h]
inductive SP (V:View):List (Nat×VV)→List (Nat×Value)→Prop
 | nil:SP V [] []
 | cons {i:Nat} {x:VV} {v:Value} {xs:List (Nat×VV)} {vs:List (Nat×Value)} (h:VR V x v) (hs:SP V xs vs):SP V ((i,x)::xs) ((i,v)::vs)
theorem Em {e n:Nat}:∀ {parts:List (Nat×VV)} {Ac:List (Nat×Value)} {es lQ:List VV} {r:List Value},es.length=n→(∀x∈es,(aB x).length=e)→VL V (es.flatMap aB) r →
  SP V parts Ac→vV e es parts=some lQ→lQ.length=n∧(∀x∈lQ,(aB x).length=e)∧∃r',vH ((List.range n).map fun i=>(i*e,e)) r Ac=some r'∧VL V (lQ.flatMap aB) r'
 |
  [],_,es,lQ,r,hn,he,hl,.nil,h=>by
  cases h
  exact⟨hn,he,r,rfl,hl⟩
 |
  (i,v)::parts,(_,w)::Ac,es,lQ,r,hn,he,hl,.cons hv hps,h=>by
  unfold vV at h
  split at h
  case isFalse=>cases h
  rename_i hc
  obtain⟨hi,hve,uN⟩:=hc
  have mX:=hv.cells (TW uN)
  have hwl:(aM w).length=e:=by rw[mX.length,hve]
  have Cp:=hl.length
  rw[jR he] at Cp
  have hm:(i+1)*e≤es.length*e:=Nat.mul_le_mul_right _ hi
  rw[Nat.succ_mul] at hm
  have lF:∀x∈es.set i v,(aB x).length=e:=fun x hx=>by
   rcases List.mem_or_eq_of_mem_set hx with h | h
   ·exact he x h
   ·subst h;exact hve
  have EM:VL V ((es.set i v).flatMap aB) (r.take (i*e)++aM w++r.drop (i*e+e)):=by
   have h1:=hl.iH mX (i*e)
   have h2:=vS he (new:=[v]) (fun z hz=>by rw[List.mem_singleton] at hz;subst hz;exact hve) i
   simp only[List.flatMap_cons,List.flatMap_nil,List.append_nil] at h2
   rw[h2,IV hi] at h1
   unfold iH at h1
   rw[hwl] at h1
   exact h1
  obtain⟨g1,g2,r',g3,g4⟩:=Em (n:=n) (by rw[List.length_set];exact hn) lF EM hps h
  refine⟨g1,g2,r',?_,g4⟩
  unfold vH
  have hr:((List.range n).map fun i=>(i*e,e))[i]? = some (i*e,e):=by simp[List.getElem?_range (show i<n by omega)]
  simp only[hr]
  rw[if_pos ⟨hwl,by omega⟩]
  exact g3
theorem Hb (hE:ER V ρ jS):∀parts:List (Nat×Operand),SP V (parts.map fun(i,x)=>(i,dX ρ x)) (parts.map fun(i,x)=>(i,ev jS x))
 | [] => .nil
 | (i,x)::parts => .cons (hE.ev x) (Hb hE parts)
theorem FL {e:Nat}:∀ {parts:List (Nat×VV)} {es lQ:List VV},(es.all fun x=>(aB x).all bP)=true→vV e es parts=some lQ→(lQ.all fun x=>(aB x).all bP)=true
 | [],es,lQ,h,hf=>by cases hf;exact h
 |
  (i,v)::parts,es,lQ,h,hf=>by
  unfold vV at hf
  split at hf
  case isFalse=>cases hf
  rename_i hc
  refine FL ?_ hf
  rw[List.all_eq_true] at h ⊢
  intro x hx
  rcases List.mem_or_eq_of_mem_set hx with h1 | h1
  ·exact h x h1
  ·subst h1;exact hc.2.2
theorem Ya (hS:SR V lo dW) {lr:Bool} {z:List Value} {n:Nat} {parts:List (Nat×VV)} {Ac:List (Nat×Value)} {v:VV} {H':aA} (hp:SP V parts Ac) (h:mF lr z n parts V.H=some (v,H')):gH lo dW V (adU z n Ac V.P) v H':=by
 unfold mF at h
 split at h
 case h_2=>cases h
 rename_i es MH
 split at h
 case isFalse=>cases h
 rename_i hz
 obtain⟨g1,g2,r',g3,g4⟩:=Em (V:=V) (n:=n) (by simp) (fun x hx=>by rw[List.eq_of_mem_replicate hx];exact CD hz) (BB hz n) hp MH
 have uN:=FL (by
  rw[List.all_eq_true]
  intro x hx
  rw[List.eq_of_mem_replicate hx,mT hz]
  exact hz) MH
 unfold adU
 simp only[g3]
 rw[if_pos (g4.fO (An uN))]
 split at h
 ·cases h
  exact(gH.of (qW hS (e:=z.length) false g2 g4) (JK hS) :)
 ·cases h
  have k:=Bv hS (.row r' z.length false)
  refine(gH.of k ?_ :)
  have hm:=g4.mono k.2.toUp
  have Cp:=g4.length
  rw[jR g2] at Cp
  subst g1
  refine .tree es _ V.P.length 0 es.length r' z.length false (.inr rfl) (by simp) (by omega) (Nat.le_refl _) g2 ⟨rfl,rfl,rfl⟩ ?_
  rw[List.drop_zero,List.take_of_length_le (by omega)]
  exact hm
theorem M7 (hS:SR V lo dW) {b g e o:Nat} {es nw:List VV} {pn:List Value} (hr:V.H[b]? = some (.row g es e true)) (eQ:lo≤b) (qK:o+nw.length≤es.length) (hn:∀x∈nw,(aB x).length=e) (uN:(nw.flatMap aB).all bP=true) (hl:VL V (nw.flatMap aB) pn) :
  ∃V',V.P.write dW (V.m b) (o*e) pn=some V'.P∧V'.H=V.H.set b (.row g (cR es o nw) e true)∧SR V' lo dW∧Ek lo V V':=by
 obtain⟨r,q,h1,h2,h3⟩:=hS.row b g es e true hr
 have Cp:=h3.length
 rw[jR h2] at Cp
 have EE:=(hS.wr b g es e hr).2 eQ
 have Mm:=hl.length
 rw[jR hn] at Mm
 have hm:(o+nw.length)*e≤es.length*e:=Nat.mul_le_mul_right _ qK
 rw[Nat.add_mul] at hm
 have lF:∀x∈cR es o nw,(aB x).length=e:=fun x hx=>by
  rcases Iq hx with h | h
  ·exact h2 x h
  ·exact hn x h
 have EM:VL V ((cR es o nw).flatMap aB) (iH r (o*e) pn):=by
  rw[←vS h2 hn]
  exact h3.iH hl _
 obtain⟨g1,g2⟩:=CT hS hr eQ lF EM h1
 refine⟨{ V with H:=V.H.set b (.row g (cR es o nw) e true),P:=V.P.set (V.m b) (.row (iH r (o*e) pn) e q) },?_,rfl,g1,g2⟩
 unfold aE.write
 simp only[h1]
 rw[if_pos ⟨EE,by omega,hl.fO uN⟩]
theorem TY (hS:SR V lo dW) {x y v:VV} {u w:Value} {size:Nat} {H':aA} (hx:VR V x u) (hy:VR V y w) (h:IJ lo size x y V.H=some (v,H')):gH lo dW V (copyV dW size u w V.P) v H':=by
 unfold IJ at h
 split at h
 ·rename_i new hs
  obtain⟨h1,_⟩:=vR hS hy hs
  cases h
  cases hx with
  | tree es k b o c r e p hF hb ho hc he hk hl=>exact hk.elim
  |
   nR =>
   unfold copyV
   simp only[h1]
   exact gH.same hS (.sc _ rfl)
 ·rename_i b g o d c new hs
  obtain⟨h1,h2,h3,h4⟩:=vR hS hy hs
  split at h
  case h_2=>cases h
  rename_i es e hr
  rw[cL] at hr
  split at h
  case isFalse=>cases h
  rename_i hc
  obtain⟨rfl,eQ,qK⟩:=hc
  cases h
  cases hx with
  |
   ref b g o n c a n' c' bA hg ha hq =>
   obtain⟨rfl,rfl,rfl⟩:=ha _ _ _ hr
   have agG:(new.take n').length=Nat.min new.length n':=by rw[List.length_take];exact Nat.min_comm _ _
   obtain⟨pn,h5,h6⟩:=h4 (Nat.min new.length n') (Nat.min_le_left _ _)
   have ht:new.take (Nat.min new.length n')=new.take n':=by
    rw[←agG,List.length_take,←List.take_take,List.take_length]
   rw[ht] at h6
   have LH:∀x∈new.take n',(aB x).length=e:=fun x hx=>h2 x (List.mem_of_mem_take hx)
   have uN:((new.take n').flatMap aB).all bP=true:=by
    rw[List.all_eq_true] at h3 ⊢
    intro x hx
    obtain⟨y,hy,Ag⟩:=List.mem_flatMap.1 hx
    exact h3 x (List.mem_flatMap.2 ⟨y,List.mem_of_mem_take hy,Ag⟩)
   obtain⟨V',k1,k2,k3,k4⟩:=M7 hS hr eQ qK LH uN h6
   refine⟨.int .i64 (Nat.min new.length n'),V',?_,k2,k3,k4,?_⟩
   ·unfold copyV
    simp only[h1,h5,k1]
    rfl
   ·rw[agG]
    exact .sc _ rfl
 ·cases h
theorem QD (hS:SR V lo dW) {x:VV} {u:Value} {z:List Value} {H':aA} (hx:VR V x u) (h:OK lo z x V.H=some H'):gH lo dW V (OL dW z u V.P) pB H':=by
 unfold OK at h
 split at h
 case h_2=>cases h
 rename_i b g o n c
 split at h
 case h_2=>cases h
 rename_i es e hr
 rw[cL] at hr
 cases hx with
 |
  ref b g o n c a n' c' bA hg ha hq =>
  obtain⟨rfl,rfl,rfl⟩:=ha _ _ _ hr
  unfold OL
  simp only
  split at h
  ·rename_i h0
   cases h
   rw[if_pos h0]
   exact gH.same hS (.eY [] [] .nil)
  ·rename_i h0
   rw[if_neg h0]
   split at h
   case isFalse=>cases h
   rename_i hc
   obtain⟨rfl,eQ,qK,hz⟩:=hc
   cases h
   have LH:∀x∈List.replicate n' (elemOf (z.map iY)),(aB x).length=z.length:=fun x hx=>by rw[List.eq_of_mem_replicate hx];exact CD hz
   obtain⟨V',k1,k2,k3,k4⟩:=M7 hS hr eQ (nw:=List.replicate n' (elemOf (z.map iY))) (by simpa using qK) LH (An (by
    rw[List.all_eq_true]
    intro x hx
    rw[List.eq_of_mem_replicate hx,mT hz]
    exact hz)) (BB hz n')
   refine⟨undef,V',?_,k2,k3,k4,.eY [] [] .nil⟩
   rw[k1]
   rfl
end
end Go.PM
namespace Go.PM
section
variable {V:View} {lo dW:Nat} {ρ:dG} {jS:Env}
theorem QN {x v:VV} {u:Value} {neg:Bool} (hx:VR V x u) (h:ET neg x V.H=some v):∃w,Zf neg u=some w∧VR V v w:=by
 unfold ET at h
 split at h
 ·cases h
  cases hx with
  | tree es k b o c r e p hF hb ho hc he hk hl=>exact hk.elim
  | nR=>exact⟨_,rfl,.sc _ rfl⟩
 ·cases h
  cases hx with
  | nR k hk=>rcases hk with hk | hk<;>cases hk
  | tree=>exact⟨_,rfl,.sc _ rfl⟩
 ·cases h
  cases hx with
  | tree=>exact⟨_,rfl,.sc _ rfl⟩
 ·obtain⟨⟨es,e,w⟩,hr,rfl⟩:=cK h
  rw[cL] at hr
  cases hx with
  |
   ref b g o n c a n' c' bA hg ha hq =>
   obtain⟨rfl,rfl,rfl⟩:=ha _ _ _ hr
   exact⟨_,rfl,.sc _ rfl⟩
 ·cases h
theorem Yg {x v:VV} {u:Value} (hx:VR V x u) (h:oC x V.H=some v):∃w,akO u=some w∧VR V v w:=by
 unfold oC at h
 split at h
 ·cases h
  cases hx<;>exact⟨_,rfl,.sc _ rfl⟩
 ·obtain⟨⟨es,e,w⟩,hr,rfl⟩:=cK h
  rw[cL] at hr
  cases hx with
  |
   ref b g o n c a n' c' bA hg ha hq =>
   obtain⟨rfl,rfl,rfl⟩:=ha _ _ _ hr
   exact⟨_,rfl,.sc _ rfl⟩
 ·cases h
theorem Qk {x v:VV} {u:Value} {off:Nat} (hx:VR V x u) (h:Hn off x V.H=some v):∃w,abV off u=some w∧VR V v w:=by
 unfold Hn at h
 split at h
 ·cases h
  cases hx with
  | cV x off b o r e p hF hb ho hl=>exact⟨_,rfl,by rw[Nat.add_assoc];exact .cV _ _ b o r e p hF hb ho hl⟩
 ·obtain⟨⟨es,e,w⟩,hr,rfl⟩:=cK h
  rw[cL] at hr
  cases hx with
  |
   ptr b g j off a bA hg ha hq =>
   have:=ha _ _ _ hr
   subst this
   refine⟨_,rfl,.ptr _ _ _ _ _ bA hg (fun lQ e' w' EP => ?_) fun a0 h=>by cases h;have:=hq _ rfl;exact this⟩
   rw[hr] at EP
   cases EP
   rw[Nat.add_assoc]
 ·cases h
theorem WI {x v:VV} {u:Value} (hx:VR V x u) (h:WL x V.H=some v):∃w,apD u=some w∧VR V v w:=by
 unfold WL at h
 split at h
 ·cases h
  cases hx with
  | cV x off b o r e p hF hb ho hl=>exact⟨_,rfl,.cV _ _ b o r e p hF hb ho hl⟩
 ·obtain⟨⟨es,e,w⟩,hr,rfl⟩:=cK h
  rw[cL] at hr
  cases hx with
  |
   ptr b g j off a bA hg ha hq =>
   have:=ha _ _ _ hr
   subst this
   exact⟨_,rfl,.ptr _ _ _ _ _ bA hg ha hq⟩
 ·cases h
theorem T2 {c a b v:VV} {u x y:Value} (hc:VR V c u) (ha:VR V a x) (hb:VR V b y) (h:R0 c a b=some v):∃t,u = .bool t∧VR V v (if t then x else y):=by
 unfold R0 at h
 split at h
 ·rename_i t
  cases h
  obtain⟨rfl,_⟩:=qQ hc rfl
  refine⟨t,rfl,?_⟩
  cases t
  ·exact hb
  ·exact ha
 ·cases h
theorem Xo {x v:VV} {u:Value} {i:Nat} (hx:VR V x u) (h:YT i x=some v):∃w,ajK i u=some w∧VR V v w:=by
 unfold YT at h
 split at h
 ·cases hx with
  |
   eY cs ps hl =>
   obtain⟨w,hw,hv⟩:=hl.get h
   exact⟨w,by simpa[ajK] using hw,hv⟩
 ·cases h
theorem Xe {x v:VV} {u:Value} {agg:Bool} {off size:Nat} (hx:VR V x u) (h:afK agg off size x=some v):∃w,agB agg off size u=some w∧VR V v w:=by
 unfold afK at h
 split at h
 ·rename_i cs
  cases hx with
  |
   agg cs ps hl =>
   split at h
   ·rename_i ha
    split at h
    ·rename_i hs
     cases h
     refine⟨.agg ((ps.drop off).take size).toArray,?_,.agg _ _ ((hl.drop off).take size)⟩
     unfold agB
     simp only[ha,if_true]
     rw[if_pos (by simpa[hl.length] using hs)]
     congr 2
     apply Array.ext'
     simp[List.extract_eq_take_drop]
    ·cases h
   ·rename_i ha
    obtain⟨w,hw,hv⟩:=hl.get h
    refine⟨w,?_,hv⟩
    unfold agB
    simp only[ha]
    simpa using hw
 ·cases h
theorem M0 {ks:List CK}:∀ {xs ys:List VV} {us ws:List Value} {t:Bool},VL V xs us→VL V ys ws→pN ks xs ys=some t→oX ks us ws=some t:=by
 induction ks with
 |
  nil =>
  intro xs ys us ws t h1 h2 h
  cases h1 with
  |
   nil=>cases h2 with
   | nil=>exact h
   | cons=>simp[pN] at h
  | cons=>simp[pN] at h
 |
  cons k ks ih =>
  intro xs ys us ws t h1 h2 h
  cases h1 with
  | nil=>simp[pN] at h
  |
   cons x u xs us hx Ml=>cases h2 with
   | nil=>cases x<;>simp[pN] at h
   |
    cons y w ys ws hy hys =>
    cases hx with
    |
     sc _ _=>cases hy with
     |
      sc _ _ =>
      simp only[pN] at h
      simp only[oX]
      split at h
      ·rename_i h1
       rw[h1]
       exact ih Ml hys h
      ·rename_i h1
       rw[h1]
       exact h
      ·cases h
     | _=>simp[pN] at h
    | _=>simp[pN] at h
theorem Mj {places:List (Nat×Nat)}:∀ {parts:List (Nat×VV)} {Ac:List (Nat×Value)} {cs Ae:List VV} {r:List Value},VL V cs r→SP V parts Ac→wP places cs parts=some Ae →
  ∃r',vH places r Ac=some r'∧VL V Ae r'
 | [],_,cs,Ae,r,hl,.nil,h=>by cases h;exact⟨r,rfl,hl⟩
 |
  (i,v)::parts,(_,w)::Ac,cs,Ae,r,hl,.cons hv hps,h=>by
  unfold wP at h
  unfold vH
  split at h
  ·cases h
  ·rename_i off size Mm
   simp only[Mm]
   split at h
   case isFalse=>cases h
   rename_i hc
   have mX:=hv.cells (fun e=>by subst e;cases hc.2.2)
   rw[if_pos ⟨by rw[mX.length];exact hc.1,by rw[hl.length];exact hc.2.1⟩]
   exact Mj (((hl.take off).append mX).append (hl.drop _)) hps h
theorem Im:∀ {es:List VV} {r:List Value} {bs:List UInt8},VL V (es.flatMap aB) r→Hy es=some bs→tA r=some bs
 | [],_,bs,.nil,h=>h
 |
  x::es,r,bs,hl,h=>by
  unfold Hy at h
  split at h
  ·rename_i e;cases e
  ·rename_i n r' e
   cases e
   obtain⟨t,ht,rfl⟩:=cK h
   rw[List.flatMap_cons] at hl
   cases hl with
   |
    cons _ u _ us hu hus =>
    obtain⟨rfl,_⟩:=qQ hu rfl
    unfold tA
    rw[Im hus ht]
    rfl
  ·cases h
theorem lift {r:Option VV} {v:VV} {H':aA} {s:Option (Value×aE)} (h:r.map (·,V.H)=some (v,H')) (k:r=some v→gH lo dW V s v V.H):gH lo dW V s v H':=by
 obtain⟨a,ha,he⟩:=cK h
 cases he
 exact k ha
theorem X3 (hS:SR V lo dW) (hE:ER V ρ jS) {fl:Fl} {o:mV} {v:VV} {H':aA} {q:Bool} (h:vop fl lo o ρ V.H=some (v,H')):gH lo dW V (jJ dW q o jS V.P) v H':=by
 cases o<;>simp only[vop] at h
 case mv x=>cases h;rw[ahB];exact gH.same hS (hE.ev x)
 case pick c a b =>
  refine lift h fun h => ?_
  obtain⟨t,ht,hv⟩:=T2 (hE.ev c) (hE.ev a) (hE.ev b) h
  rw[XF,ht]
  exact gH.same hS hv
 case bin op x y=>rw[acY];exact lift h fun h=>Ao (f:=dB op) hS (fun _ _ _=>ZX) (hE.ev x) (hE.ev y) h
 case eqb neg x y=>rw[acI];exact lift h fun h=>Ao (f:=MO neg) hS (fun _ _ _=>abG) (hE.ev x) (hE.ev y) h
 case isnil neg x =>
  rw[Ts]
  refine lift h fun h => ?_
  obtain⟨w,h1,h2⟩:=QN (hE.ev x) h
  exact gH.pure hS h1 h2
 case eqagg neg ks x y =>
  rw[SV]
  refine lift h fun h => ?_
  unfold Tu at h
  split at h
  case h_2=>cases h
  rename_i a b hx hy
  obtain⟨t,ht,rfl⟩:=cK h
  have h1:=hE.ev x
  have h2:=hE.ev y
  rw[hx] at h1
  rw[hy] at h2
  generalize ev jS x=u at h1 ⊢
  generalize ev jS y=w at h2 ⊢
  cases h1 with
  |
   agg cs ps h1=>cases h2 with
   |
    agg Ae ps' h2 =>
    refine gH.pure hS (pv := .bool (t != neg)) ?_ (.sc _ rfl)
    unfold aaJ
    simp only
    rw[M0 h1 h2 ht]
    rfl
 case un op x=>rw[afE];exact lift h fun h=>DI (f:=YY op) hS (fun _ _=>aeX) (hE.ev x) h
 case cvt k x=>rw[YJ];exact lift h fun h=>DI (f:=S3 k) hS (fun _ _=>YN) (hE.ev x) h
 case cvs x =>
  have e:jJ dW q (.cvs x) jS V.P=(XI (ev jS x)).map (·,V.P):=dJ rfl
  rw[e];exact lift h fun h=>DI (f:=XI) hS (fun _ _=>Y3) (hE.ev x) h
 case ext x i =>
  rw[acE]
  refine lift h fun h => ?_
  obtain⟨w,h1,h2⟩:=Xo (hE.ev x) h
  exact gH.pure hS h1 h2
 case fld agg off size x =>
  rw[abA]
  refine lift h fun h => ?_
  obtain⟨w,h1,h2⟩:=Xe (hE.ev x) h
  exact gH.pure hS h1 h2
 case build zero places parts =>
  obtain⟨cs,NW,he⟩:=cK h
  cases he
  obtain⟨r,h1,h2⟩:=Mj (VL.zero zero) (Hb hE parts) NW
  rw[Tk,h1]
  exact gH.same hS (.agg _ _ h2)
 case chk x =>
  rw[abC]
  refine lift h fun h => ?_
  obtain⟨w,h1,h2⟩:=WI (hE.ev x) h
  exact gH.pure hS h1 h2
 case faddr off x =>
  rw[Uv]
  refine lift h fun h => ?_
  obtain⟨w,h1,h2⟩:=Qk (hE.ev x) h
  exact gH.pure hS h1 h2
 case iaddr size x i =>
  rw[Ux]
  refine lift h fun h => ?_
  obtain⟨w,h1,h2⟩:=Qf hS (hE.ev x) (hE.ev i) h
  exact gH.pure hS h1 h2
 case sidx x i =>
  have e:jJ dW q (.sidx x i) jS V.P=(F5 (ev jS x) (ev jS i)).map (·,V.P):=dJ rfl
  rw[e];exact lift h fun h=>Ao (f:=F5) hS (fun _ _ _=>Yd) (hE.ev x) (hE.ev i) h
 case ssub x l h' =>
  refine lift h fun h => ?_
  unfold uL at h
  split at h
  case h_2=>cases h
  rename_i s lv hv hx h1 h2
  split at h
  case h_2=>cases h
  rename_i a b HC
  cases h
  obtain⟨e1,_⟩:=qQ (hE.ev x) hx
  have e:jJ dW q (.ssub x l h') jS V.P=some (.string (s.extract a b),V.P):=by
   rw[dJ rfl]
   simp only[iC,e1]
   rw[AY hE h1,AY hE h2,HC]
   rfl
  rw[e]
  exact gH.same hS (.sc _ rfl)
 case mkfn f fN =>
  cases h
  rw[XW]
  exact gH.same hS (.tY _ _ _ (hE.evs fN))
 case len x =>
  rw[Zi]
  refine lift h fun h => ?_
  obtain⟨w,h1,h2⟩:=Yg (hE.ev x) h
  exact gH.pure hS h1 h2
 case slen x =>
  have e:jJ dW q (.slen x) jS V.P=(AU (ev jS x)).map (·,V.P):=dJ rfl
  rw[e];exact lift h fun h=>DI (f:=AU) hS (fun _ _=>X5) (hE.ev x) h
 case min x y=>rw[YO];exact lift h fun h=>Ao (f:=Ri) hS (fun _ _ _=>ZP) (hE.ev x) (hE.ev y) h
 case max x y=>rw[Zt];exact lift h fun h=>Ao (f:=Qh) hS (fun _ _ _=>abW) (hE.ev x) (hE.ev y) h
 case load agg size p =>
  rw[Yj]
  refine lift h fun h => ?_
  obtain⟨w,h1,h2⟩:=Lz hS (hE.ev p) h
  exact gH.pure hS h1 h2
 case sub size x l hh m =>
  rw[abQ]
  exact lift h fun h=>XO hS hE (hE.ev x) h
 case b2s x =>
  split at h
  ·cases h
  rename_i y fC
  split at h
  case h_2=>cases h
  rename_i es MH
  obtain⟨bs,hbs,he⟩:=cK h
  cases he
  obtain⟨h1,h2,h3,h4⟩:=vR hS (hE.ev x) MH
  obtain⟨pn,h5,h6⟩:=h4 es.length (Nat.le_refl _)
  rw[List.take_length] at h6
  have hb:=Im h6 hbs
  have hx:=hE.ev x
  have e:jJ dW q (.b2s x) jS V.P=some (.string ⟨bs.toArray⟩,V.P):=by
   apply oK
   simp only[pop]
   generalize ev jS x=u at *
   cases u<;>first | (exfalso;simp[rJ] at h1;done) | skip
   case string s =>
    generalize dX ρ x=y at *
    cases hx with
    | any=>simp[cW] at MH
    | sc _ _=>exact absurd rfl (fC _)
   case slice a n c =>
    injection h1 with h1
    subst h1
    cases a with
    |
     none =>
     simp only[iQ] at h5
     split at h5
     ·cases h5
      cases hb
      rfl
     ·cases h5
    |
     some a =>
     obtain⟨b,o,sp⟩:=a
     cases sp with
     | some s=>simp[iQ] at h5
     |
      none =>
      simp only[iQ,Nat.mul_one] at h5
      simp only[h5,hb]
      rfl
  rw[e]
  exact gH.same hS (.sc _ rfl)
 case new zero =>
  split at h
  case isFalse=>cases h
  rename_i hz
  cases h
  rw[abJ]
  exact Xl hS hz
 case box x =>
  split at h
  case isFalse=>cases h
  rename_i hs
  rw[ZI]
  exact XD hS (hE.ev x) hs h
 case make zero bytes l c =>
  split at h
  case isFalse=>cases h
  rename_i hz
  rw[XQ]
  exact Ue hS hz (hE.ev l) (hE.ev c) h
 case lit zero n parts =>
  rw[YX]
  exact Ya hS (Hb hE parts) h
 case store size p x =>
  obtain⟨a,ha,he⟩:=cK h
  cases he
  rw[SU]
  exact Sx hS (hE.ev p) (hE.ev x) ha
 case app size bytes x y =>
  split at h
  case h_2=>cases h
  rename_i new hn
  obtain⟨h1,h2,h3,h4⟩:=vR hS (hE.ev y) hn
  obtain⟨pn,h5,h6⟩:=h4 new.length (Nat.le_refl _)
  rw[List.take_length] at h6
  rw[YU]
  unfold alA
  simp only[h1,h5]
  exact FI hS (hE.ev x) h2 h3 h6 h
 case appz zero bytes x n =>
  split at h
  case h_2=>cases h
  rename_i k hk
  split at h
  case isFalse=>cases h
  rename_i hc
  obtain⟨e1,_⟩:=qQ (hE.ev n) hk
  have LH:∀x∈List.replicate k.toNat (elemOf (zero.map iY)),(aB x).length=zero.length:=fun x hx=>by rw[List.eq_of_mem_replicate hx];exact CD hc.2.2
  have:=FI hS (hE.ev x) LH (An (by
    rw[List.all_eq_true]
    intro x hx
    rw[List.eq_of_mem_replicate hx,mT hc.2.2]
    exact hc.2.2)) (BB hc.2.2 _) h
  rw[List.length_replicate] at this
  rw[WE]
  unfold acS
  rw[e1]
  simp only[if_pos (show 0≤k∧k*(bytes:Int)≤140737488355328 from⟨hc.1,hc.2.1⟩)]
  exact this
 case copy size x y =>
  rw[Xm]
  exact TY hS (hE.ev x) (hE.ev y) h
 case clear zero x =>
  obtain⟨a,ha,he⟩:=cK h
  cases he
  rw[Tn]
  exact QD hS (hE.ev x) ha
 all_goals cases h
end
end Go.PM
namespace Go.PM
def bare (F:Nat→Prop) (P:aE):View:=⟨fun _=>0,F,[],P,0⟩
theorem Ai {es:List VV}:aL es=true↔∀x∈es,aN x=true:=by
 induction es with
 | nil=>simp[aL]
 | cons x xs ih=>simp[aL,ih]
theorem CB {x:VV} (h:aN x=true):aL (aB x)=true:=by
 unfold aB
 split
 ·simpa[aN] using h
 ·simp[aL,h]
theorem Lo {es:List VV} (h:aL es=true):aL (es.flatMap aB)=true:=by
 rw[Ai] at h ⊢
 intro x hx
 obtain⟨y,hy,Ag⟩:=List.mem_flatMap.1 hx
 exact Ai.1 (CB (h y hy)) x Ag
theorem Ic {es:List VV} {k:TK} (h:aN (.tree es k)=true):k = .op∧aL es=true∧uni es=true:=by
 simp only[aN,Bool.and_eq_true,decide_eq_true_eq] at h
 exact⟨h.1.1,h.1.2,h.2⟩
theorem IL {x:VV} (h:aN x=true):x ≠ .any:=by
 rintro rfl
 cases h
theorem adS {es:List VV} (h:uni es=true):∃e,∀x∈es,(aB x).length=e:=by
 cases es with
 | nil=>exact⟨0,fun x hx=>by cases hx⟩
 |
  cons x xs =>
  refine⟨(aB x).length,fun y hy => ?_⟩
  rcases List.mem_cons.1 hy with rfl | hy
  ·rfl
  ·have:=List.all_eq_true.1 h y hy
   simpa using this
section
variable {V V':View}
theorem VR.pure {x:VV} {v:Value} (hF:∀b,V.F b→V'.F b∧V'.P[b]? = V.P[b]?) (h:VR V x v):aN x=true→VR V' x v:=by
 induction h using VR.rec (motive_2:=fun xs vs _=>aL xs=true→VL V' xs vs) with
 | any=>intro hp;cases hp
 | sc _ h=>intro _;exact .sc _ h
 | agg cs ps _ ih=>intro hp;exact .agg _ _ (ih hp)
 | eY cs ps _ ih=>intro hp;exact .eY _ _ (ih hp)
 | nR k hk=>intro _;exact .nR k hk
 | tree es k b o c r e p To hb ho hc he hk _ ih=>intro hp;exact .tree es k b o c r e p (hF _ To).1 (by rw[(hF _ To).2];exact hb) ho hc he hk (ih (Lo (Ic hp).2.1))
 | cV x off b o r e p To hb ho _ ih=>intro hp;exact .cV x off b o r e p (hF _ To).1 (by rw[(hF _ To).2];exact hb) ho (ih (CB hp))
 | ref=>intro hp;cases hp
 | ptr=>intro hp;cases hp
 | tY f fN ps _ ih=>intro hp;exact .tY _ _ _ (ih hp)
 | nil=>exact .nil
 |
  cons x v xs vs _ _ ih T8 =>
  rename_i hp
  simp only[aL,Bool.and_eq_true] at hp
  exact .cons _ _ _ _ (ih hp.1) (T8 hp.2)
theorem VL.pure {xs:List VV} {vs:List Value} (hF:∀b,V.F b→V'.F b∧V'.P[b]? = V.P[b]?) (h:VL V xs vs) (hp:aL xs=true):VL V' xs vs:=by
 induction xs generalizing vs with
 | nil=>cases h;exact .nil
 |
  cons x xs ih=>cases h with
  |
   cons _ v _ vs h hs =>
   simp only[aL,Bool.and_eq_true] at hp
   exact .cons _ _ _ _ (h.pure hF hp.1) (ih hs hp.2)
theorem VL.flatten {es:List VV} {ps:List Value} (h:VL V es ps) (hp:aL es=true):VL V (es.flatMap aB) (ps.flatMap aM):=by
 induction es generalizing ps with
 | nil=>cases h;exact .nil
 |
  cons x xs ih =>
  cases h with
  |
   cons _ v _ vs h hs =>
   simp only[aL,Bool.and_eq_true] at hp
   rw[List.flatMap_cons,List.flatMap_cons]
   exact(h.cells (IL hp.1)).append (ih hs hp.2)
theorem OB {P P':aE} (h:P <+: P'):∀b,(bare (· < P.length) P).F b→(bare (· < P'.length) P').F b∧(bare (· < P'.length) P').P[b]? = (bare (· < P.length) P).P[b]? := by
 intro b hb
 obtain⟨L,rfl⟩:=h
 have vJ:b<P.length:=hb
 exact⟨by show b<(P++L).length;simp;omega,List.getElem?_append_left vJ⟩
mutual
theorem real (x:VV) (hp:aN x=true) (P:aE):∃P' pv,P <+: P'∧VR (bare (· < P'.length) P') x pv:=by
 cases x with
 | any=>cases hp
 | sc v=>exact⟨P,v,List.prefix_refl _,.sc v hp⟩
 |
  agg cs =>
  obtain⟨P',ps,h1,h2⟩:=Oy cs hp P
  exact⟨P',_,h1,.agg _ _ h2⟩
 |
  eY cs =>
  obtain⟨P',ps,h1,h2⟩:=Oy cs hp P
  exact⟨P',_,h1,.eY _ _ h2⟩
 |
  tree es k =>
  obtain⟨rfl,h1,h2⟩:=Ic hp
  obtain⟨P',ps,h3,h4⟩:=Oy es h1 P
  obtain⟨e,he⟩:=adS h2
  have h5:=h4.flatten h1
  have hl:=h5.length
  rw[jR he] at hl
  have yM:P' <+: P'++[MJ.row (ps.flatMap aM) e false]:=List.prefix_append _ _
  refine⟨_,.slice (some ⟨P'.length,0,none⟩) es.length es.length,h3.trans yM,?_⟩
  refine .tree es .op P'.length 0 es.length (ps.flatMap aM) e false (show P'.length<(P'++[MJ.row (ps.flatMap aM) e false]).length by simp) (by show (P'++[MJ.row (ps.flatMap aM) e false])[P'.length]? = _;simp) (by omega) (Nat.le_refl _) he trivial ?_
  rw[List.drop_zero,List.take_of_length_le (by omega)]
  exact VL.pure (OB yM) h5 (Lo h1)
 |
  cV x off =>
  obtain⟨P',pv,h3,h4⟩:=real x hp P
  have h5:=h4.cells (IL hp)
  have yM:P' <+: P'++[MJ.row (aM pv) (aM pv).length false]:=List.prefix_append _ _
  refine⟨_,.pointer (some ⟨P'.length,0+off,none⟩),h3.trans yM,?_⟩
  refine .cV x off P'.length 0 (aM pv) (aM pv).length false (show P'.length<(P'++[MJ.row (aM pv) (aM pv).length false]).length by simp) (by show (P'++[MJ.row (aM pv) (aM pv).length false])[P'.length]? = _;simp) (by rw[h5.length];omega) ?_
  rw[List.drop_zero,List.take_of_length_le (by rw[h5.length];exact Nat.le_refl _)]
  exact VL.pure (OB yM) h5 (CB hp)
 | ref=>cases hp
 | ptr=>cases hp
 |
  tY f fN =>
  obtain⟨P',ps,h1,h2⟩:=Oy fN hp P
  exact⟨P',_,h1,.tY _ _ _ h2⟩
theorem Oy (xs:List VV) (hp:aL xs=true) (P:aE):∃P' ps,P <+: P'∧VL (bare (· < P'.length) P') xs ps:=by
 cases xs with
 | nil=>exact⟨P,[],List.prefix_refl _,.nil⟩
 |
  cons x xs =>
  simp only[aL,Bool.and_eq_true] at hp
  obtain⟨P1,pv,h1,h2⟩:=real x hp.1 P
  obtain⟨P2,ps,h3,h4⟩:=Oy xs hp.2 P1
  exact⟨P2,pv::ps,h1.trans h3,.cons _ _ _ _ (h2.pure (OB h3) hp.1) h4⟩
end
theorem LD {es:List VV}:qZ es=true↔∀x∈es,gZ x=true:=by
 induction es with
 | nil=>simp[qZ]
 | cons x xs ih=>simp[qZ,ih]
theorem De {es:List VV} {k:TK} (h:gZ (.tree es k)=true):k = .op∧qZ es=true∧uni es=true∧es.all zZ=true:=by
 simp only[gZ,Bool.and_eq_true,decide_eq_true_eq] at h
 exact⟨h.1.1.1,h.1.1.2,h.1.2,h.2⟩
theorem Uu {x:VV} (h:gZ x=true):qZ (aB x)=true:=by
 unfold aB
 split
 ·simpa[gZ] using h
 ·simp[qZ,h]
theorem NL {es:List VV} (h:qZ es=true):qZ (es.flatMap aB)=true:=by
 rw[LD] at h ⊢
 intro x hx
 obtain⟨y,hy,Ag⟩:=List.mem_flatMap.1 hx
 exact LD.1 (Uu (h y hy)) x Ag
mutual
theorem P6 (x:VV) (h:gZ x=true):aN x=true:=by
 cases x with
 | sc v=>exact h
 | agg cs=>exact D3 cs h
 | eY cs=>exact D3 cs h
 |
  tree es k =>
  obtain⟨h1,h2,h3,_⟩:=De h
  simp[aN,h1,D3 es h2,h3]
 | any=>cases h
 | cV=>cases h
 | ref=>cases h
 | ptr=>cases h
 | tY=>cases h
theorem D3 (xs:List VV) (h:qZ xs=true):aL xs=true:=by
 cases xs with
 | nil=>rfl
 |
  cons x xs =>
  simp only[qZ,Bool.and_eq_true] at h
  simp[aL,P6 x h.1,D3 xs h.2]
end
theorem QE {e:Nat}:∀ {es lQ:List VV},(∀x∈es,(aB x).length=e)→(∀x∈lQ,(aB x).length=e)→es.all zZ=true→lQ.all zZ=true→es.length=lQ.length→es.flatMap aB=lQ.flatMap aB→es=lQ
 | [],[],_,_,_,_,_,_=>rfl
 |
  x::es,y::lQ,h1,h2,h3,h4,hl,h=>by
  rw[List.flatMap_cons,List.flatMap_cons] at h
  have hx:=h1 x List.mem_cons_self
  have hy:=h2 y List.mem_cons_self
  obtain⟨e1,e2⟩:=List.append_inj h (by omega)
  simp only[List.all_cons,Bool.and_eq_true] at h3 h4
  have Ag:x=y:=by
   have g1:=h3.1
   have g2:=h4.1
   unfold aB at e1
   split at e1<;>split at e1
   ·rw[e1]
   ·rename_i cs _ _
    subst e1
    cases g1
   ·rename_i cs
    subst e1
    cases g2
   ·injection e1
  rw[Ag,QE (fun z hz=>h1 z (List.mem_cons_of_mem _ hz)) (fun z hz=>h2 z (List.mem_cons_of_mem _ hz)) h3.2 h4.2 (by simpa using hl) e2]
theorem VR.uniq {x y:VV} {v:Value} (h:VR V x v) (h':VR V y v) (hx:gZ x=true) (hy:gZ y=true):x=y:=by
 induction h using VR.rec (motive_2:=fun xs vs _=>∀ys,VL V ys vs→qZ xs=true→qZ ys=true→xs=ys) generalizing y with
 | any=>cases hx
 |
  sc _ h=>cases h' with
  | sc _ _=>rfl
  | any=>cases hy
  | agg=>cases h
  | eY=>cases h
  | nR=>cases h
  | tree=>cases h
  | cV=>cases hy
  | ref=>cases hy
  | ptr=>cases hy
  | tY=>cases hy
 |
  agg cs ps h ih=>generalize hw:Value.agg ps.toArray=w at h';cases h' with
  | sc _ h'=>subst hw;cases h'
  | any=>cases hy
  |
   agg Ae ps' h' =>
   injection hw with hw
   have:ps=ps':=by simpa using hw
   subst this
   rw[ih _ h' hx hy]
  | eY=>cases hw
  | nR=>cases hw
  | tree=>cases hw
  | cV=>cases hy
  | ref=>cases hy
  | ptr=>cases hy
  | tY=>cases hy
 |
  eY cs ps h ih=>generalize hw:Value.tuple ps.toArray=w at h';cases h' with
  | sc _ h'=>subst hw;cases h'
  | any=>cases hy
  |
   eY Ae ps' h' =>
   injection hw with hw
   have:ps=ps':=by simpa using hw
   subst this
   rw[ih _ h' hx hy]
  | agg=>cases hw
  | nR=>cases hw
  | tree=>cases hw
  | cV=>cases hy
  | ref=>cases hy
  | ptr=>cases hy
  | tY=>cases hy
 |
  nR k hk =>
  obtain⟨rfl,_⟩:=De hx
  generalize hw:Value.slice none 0 0=w at h'
  cases h' with
  | sc _ h'=>subst hw;cases h'
  | any=>cases hy
  | nR k' hk'=>obtain⟨rfl,_⟩:=De hy;rfl
  | agg=>cases hw
  | eY=>cases hw
  | tree=>cases hw
  | cV=>cases hy
  | ref=>cases hy
  | ptr=>cases hy
  | tY=>cases hy
 |
  tree es k b o c r e p hF hb ho hc he hk hl ih =>
  obtain⟨rfl,hx1,hx2,hx3⟩:=De hx
  generalize hw:Value.slice (some ⟨b,o,none⟩) es.length c=w at h'
  cases h' with
  | sc _ h'=>subst hw;cases h'
  | any=>cases hy
  | nR=>cases hw
  | agg=>cases hw
  | eY=>cases hw
  |
   tree lQ k' b' o' c' r' e' p' hF' vJ ho' YV he' hk' Bf =>
   obtain⟨rfl,hy1,hy2,hy3⟩:=De hy
   injection hw with h1 h2 h3
   injection h1 with h1
   injection h1 with h1 h4
   subst h1 h3 h4
   rw[hb] at vJ
   injection vJ with vJ
   injection vJ with g1 g2 g3
   subst g1 g2 g3
   rw[←h2] at Bf
   rw[QE he he' hx3 hy3 h2 (ih _ Bf (NL hx1) (NL hy1))]
  | cV=>cases hy
  | ref=>cases hy
  | ptr=>cases hy
  | tY=>cases hy
 | cV=>cases hx
 | ref=>cases hx
 | ptr=>cases hx
 | tY=>cases hx
 | nil=>rename_i h' _ _;cases h';rfl
 |
  cons x v xs vs _ _ ih T8 =>
  rename_i ys h' hx hy
  cases h' with
  |
   cons y _ ys _ h' hs' =>
   simp only[qZ,Bool.and_eq_true] at hx hy
   rw[ih h' hx.1 hy.1,T8 _ hs' hx.2 hy.2]
end
end Go.PM
namespace Go.PM
section
variable {V:View} {lo dW:Nat}
theorem kY {α β:Type} {f:α→Option β} {x:α} {xs:List α} {r:List β} (h:(x::xs).mapM f=some r):∃y ys,f x=some y∧xs.mapM f=some ys∧r=y::ys:=by
 rw[List.mapM_cons] at h
 cases hx:f x with
 | none=>rw[hx] at h;cases h
 |
  some y =>
  rw[hx] at h
  cases hs:xs.mapM f with
  | none=>rw[hs] at h;cases h
  | some ys=>rw[hs] at h;cases h;exact⟨y,ys,rfl,rfl,rfl⟩
theorem pM {α β:Type} {f:α→Option β}:∀ {xs:List α} {r:List β},xs.mapM f=some r→r.length=xs.length
 | [],r,h=>by cases h;rfl
 |
  x::xs,r,h=>by
  obtain⟨y,ys,_,h2,rfl⟩:=kY h
  simp[pM h2]
theorem U5 {d:Nat} {H:aA} {x x':VV} (h:fz d H x=some x'):(∃cs Ae,x = .agg cs∧x' = .agg Ae∧Ae.length=cs.length)∨(aB x=[x]∧aB x'=[x']):=by
 cases d with
 | zero=>cases h
 |
  succ d =>
  unfold fz at h
  split at h
  ·cases h
   cases x with
   | agg cs=>exact .inl ⟨cs,cs,rfl,rfl,rfl⟩
   | _=>exact .inr ⟨rfl,rfl⟩
  ·split at h
   ·obtain⟨Ae,h1,rfl⟩:=cK h
    exact .inl ⟨_,_,rfl,rfl,pM h1⟩
   ·obtain⟨Ae,h1,rfl⟩:=cK h;exact .inr ⟨rfl,rfl⟩
   ·obtain⟨Ae,h1,rfl⟩:=cK h;exact .inr ⟨rfl,rfl⟩
   ·obtain⟨Ae,h1,rfl⟩:=cK h;exact .inr ⟨rfl,rfl⟩
   ·split at h
    ·split at h
     ·obtain⟨Ae,h1,rfl⟩:=cK h;exact .inr ⟨rfl,rfl⟩
     ·cases h
    ·cases h
   ·split at h
    ·split at h
     ·obtain⟨Ae,h1,rfl⟩:=cK h;exact .inr ⟨rfl,rfl⟩
     ·cases h
    ·cases h
   ·obtain⟨Ae,h1,rfl⟩:=cK h;exact .inr ⟨rfl,rfl⟩
   ·cases h
theorem OG {d:Nat} {H:aA} {x x':VV} (h:fz d H x=some x'):(aB x').length=(aB x).length:=by
 rcases U5 h with⟨cs,Ae,rfl,rfl,h'⟩ | ⟨h1,h2⟩
 ·exact h'
 ·rw[h1,h2];rfl
def Oi (V:View) (G:Nat→Prop) (ids:List Nat):Prop:=∀i∈ids,∀g es e w,V.H[i]? = some (.row g es e w)→G (V.m i)
theorem Kx (hS:SR V lo dW) {G:Nat→Prop} (hG:∀q,V.F q→G q):∀(d:Nat) (v v':VV) (pv:Value),VR V v pv→fz d V.H v=some v'→Oi V G (gP d V.H v)→VR (bare G V.P) v' pv:=by
 have hFG:∀b,V.F b→(bare G V.P).F b∧(bare G V.P).P[b]? = V.P[b]? := fun b hb=>⟨hG b hb,rfl⟩
 intro d
 induction d with
 | zero=>intro v v' pv _ h;cases h
 |
  succ d ih =>
  have ihL:∀(xs Ho:List VV) (ps:List Value),VL V xs ps→xs.mapM (fz d V.H)=some Ho→Oi V G (xs.flatMap (gP d V.H))→VL (bare G V.P) Ho ps:=by
   intro xs
   induction xs with
   | nil=>intro Ho ps hl h _;cases h;cases hl;exact .nil
   |
    cons x xs ihx =>
    intro Ho ps hl h hi
    obtain⟨y,ys,h1,h2,rfl⟩:=kY h
    cases hl with
    |
     cons _ v _ vs hx Ml =>
     exact .cons _ _ _ _ (ih x y v hx h1 fun i oJ=>hi i (by rw[List.flatMap_cons];exact List.mem_append_left _ oJ)) (ihx ys vs Ml h2 fun i oJ=>hi i (by rw[List.flatMap_cons];exact List.mem_append_right _ oJ))
  have ihC:∀(x x':VV) (ps:List Value),VL V (aB x) ps→fz d V.H x=some x'→Oi V G (gP d V.H x)→VL (bare G V.P) (aB x') ps:=by
   intro x x' ps hl h hi
   rcases U5 h with⟨cs,Ae,rfl,rfl,mX⟩ | ⟨h1,h2⟩
   ·have:=ih _ _ (.agg ps.toArray) (.agg _ _ hl) h hi
    generalize hw:Value.agg ps.toArray=w at this
    cases this with
    |
     agg _ ps' Bf =>
     injection hw with hw
     have:ps=ps':=by simpa using hw
     subst this
     exact Bf
   ·rw[h1] at hl
    rw[h2]
    cases hl with
    |
     cons _ v _ vs hx Ml =>
     cases Ml
     exact .cons _ _ _ _ (ih _ _ _ hx h hi) .nil
  have ihF:∀(xs Ho:List VV) (ps:List Value),VL V (xs.flatMap aB) ps→xs.mapM (fz d V.H)=some Ho→Oi V G (xs.flatMap (gP d V.H))→VL (bare G V.P) (Ho.flatMap aB) ps:=by
   intro xs
   induction xs with
   | nil=>intro Ho ps hl h _;cases h;cases hl;exact .nil
   |
    cons x xs ihx =>
    intro Ho ps hl h hi
    obtain⟨y,ys,h1,h2,rfl⟩:=kY h
    rw[List.flatMap_cons] at hl ⊢
    have hlen:=hl.length
    have a1:=hl.take (aB x).length
    have a2:=hl.drop (aB x).length
    rw[List.take_left] at a1
    rw[List.drop_left] at a2
    rw[←List.take_append_drop (aB x).length ps]
    exact(ihC x y _ a1 h1 fun i oJ=>hi i (by rw[List.flatMap_cons];exact List.mem_append_left _ oJ)).append (ihx ys _ a2 h2 fun i oJ=>hi i (by rw[List.flatMap_cons];exact List.mem_append_right _ oJ))
  have apM:∀(xs Ho:List VV) (e:Nat),xs.mapM (fz d V.H)=some Ho→(∀x∈xs,(aB x).length=e)→∀x∈Ho,(aB x).length=e:=by
   intro xs
   induction xs with
   | nil=>intro Ho e h _ x hx;cases h;cases hx
   |
    cons x xs ihx =>
    intro Ho e h he z hz
    obtain⟨y,ys,h1,h2,rfl⟩:=kY h
    rcases List.mem_cons.1 hz with rfl | hz
    ·rw[OG h1];exact he x List.mem_cons_self
    ·exact ihx ys e h2 (fun w hw=>he w (List.mem_cons_of_mem _ hw)) z hz
  intro v v' pv hv h hi
  unfold fz at h
  unfold gP at hi
  split at h
  ·rename_i hp
   cases h
   exact hv.pure hFG hp
  ·rename_i hp
   rw[if_neg hp] at hi
   split at h
   ·obtain⟨Ae,h1,rfl⟩:=cK h
    cases hv with
    | agg cs ps hl=>exact .agg _ _ (ihL _ _ _ hl h1 hi)
   ·obtain⟨Ae,h1,rfl⟩:=cK h
    cases hv with
    | eY cs ps hl=>exact .eY _ _ (ihL _ _ _ hl h1 hi)
   ·obtain⟨Ae,h1,rfl⟩:=cK h
    cases hv with
    | nR k hk=>cases h1;exact .nR _ (.inl rfl)
    |
     tree es k b o c r e p hF hb ho hc he hk hl =>
     have hlen:=pM h1
     have:=VR.tree (V:=bare G V.P) Ae .op b o c r e p (hG b hF) hb (by rw[hlen];exact ho) (by rw[hlen];exact hc) (apM _ _ _ h1 he) trivial (by rw[hlen];exact ihF _ _ _ hl h1 hi)
     rw[hlen] at this
     exact this
   ·obtain⟨x',h1,rfl⟩:=cK h
    cases hv with
    |
     cV x off b o r e p hF hb ho hl =>
     have hlen:=OG h1
     exact .cV x' _ b o r e p (hG b hF) hb (by rw[hlen];exact ho) (by rw[hlen];exact ihC _ _ _ hl h1 hi)
   ·rename_i b g o n c
    split at h
    case h_2=>cases h
    rename_i es e w hr
    simp only[hr] at hi
    rw[cL] at hr
    split at h
    case isFalse=>cases h
    rename_i awA
    obtain⟨hon,Dq⟩:=awA
    obtain⟨lQ,h1,rfl⟩:=cK h
    obtain⟨r,p,k1,k2,k3⟩:=hS.row b g es e w hr
    have Cp:=k3.length
    rw[jR k2] at Cp
    cases hv with
    |
     ref b g o n c a n' c' bA hg ha hq =>
     obtain⟨rfl,rfl,rfl⟩:=ha _ _ _ hr
     have Zx:∀x∈(es.drop o).take n',(aB x).length=e:=fun x hx=>k2 x (List.mem_of_mem_drop (List.mem_of_mem_take hx))
     have hn2:((es.drop o).take n').length=n':=by simp;omega
     have hlen:=pM h1
     rw[hn2] at hlen
     have hm:(o+n')*e≤es.length*e:=Nat.mul_le_mul_right _ hon
     rw[Nat.add_mul] at hm
     have hl:VL V (((es.drop o).take n').flatMap aB) ((r.drop (o*e)).take (n'*e)):=by
      have h4:=(k3.drop (o*e)).take (n'*e)
      rw[tG k2,sZ (fun x hx=>k2 x (List.mem_of_mem_drop hx))] at h4
      exact h4
     have hGb:G (V.m b):=hi b List.mem_cons_self _ _ _ _ hr
     have:=VR.tree (V:=bare G V.P) lQ .op (V.m b) (o*e) c' r e p hGb k1 (by rw[hlen];omega) (by rw[hlen];exact Dq) (apM _ _ _ h1 Zx) trivial (by rw[hlen];exact ihF _ _ _ hl h1 fun i oJ=>hi i (List.mem_cons_of_mem _ oJ))
     rw[hlen] at this
     exact this
   ·rename_i b g j o
    split at h
    case h_2=>cases h
    rename_i es e w hr
    simp only[hr] at hi
    rw[cL] at hr
    split at h
    case h_2=>cases h
    rename_i x hx
    simp only[hx] at hi
    obtain⟨x',h1,rfl⟩:=cK h
    obtain⟨r,p,k1,k2,k3,k4⟩:=Lp hS hr hx
    cases hv with
    |
     ptr b g j off a bA hg ha hq =>
     have:=ha _ _ _ hr
     subst this
     have hlen:=OG h1
     exact .cV x' o (V.m b) (j*e) r e p (hi b List.mem_cons_self _ _ _ _ hr) k1 (by rw[hlen];exact k3) (by rw[hlen];exact ihC _ _ _ k4 h1 fun i oJ=>hi i (List.mem_cons_of_mem _ oJ))
   ·obtain⟨Ae,h1,rfl⟩:=cK h
    cases hv with
    | tY f fN ps hl=>exact .tY _ _ _ (ihL _ _ _ hl h1 hi)
   ·cases h
theorem DD (hS:SR V lo dW) {G:Nat→Prop} (hG:∀q,V.F q→G q) {d:Nat}:∀ {xs Ho:List VV} {ps:List Value},VL V xs ps→xs.mapM (fz d V.H)=some Ho→Oi V G (xs.flatMap (gP d V.H))→VL (bare G V.P) Ho ps
 | [],Ho,ps,hl,h,_=>by cases h;cases hl;exact .nil
 |
  x::xs,Ho,ps,hl,h,hi=>by
  obtain⟨y,ys,h1,h2,rfl⟩:=kY h
  cases hl with
  |
   cons _ v _ vs hx Ml =>
   exact .cons _ _ _ _ (Kx hS hG d x y v hx h1 fun i oJ=>hi i (by rw[List.flatMap_cons];exact List.mem_append_left _ oJ)) (DD hS hG Ml h2 fun i oJ=>hi i (by rw[List.flatMap_cons];exact List.mem_append_right _ oJ))
def View.cY (V:View) (ids:List Nat):View:=ids.foldl View.freeze V
theorem vA:∀(ids:List Nat) {V:View},SR V lo dW→SR (V.cY ids) lo dW∧Ek lo V (V.cY ids)∧(V.cY ids).H=PM.cY V.H ids∧(V.cY ids).P=V.P∧(V.cY ids).m=V.m∧Oi V (V.cY ids).F ids
 | [],V,hS=>⟨hS,Ek.refl _ _,rfl,rfl,rfl,fun i hi=>by cases hi⟩
 |
  i::ids,V,hS=>by
  obtain⟨h1,h2,h3⟩:=PD hS i
  obtain⟨g1,g2,g3,g4,g5,g6⟩:=vA ids h1
  refine⟨g1,h2.trans g2,?_,g4.trans (aaF V i),g5.trans (QB V i),?_⟩
  ·show ((V.freeze i).cY ids).H=_
   rw[g3,QV]
   rfl
  ·intro k hk g es e w hr
   show ((V.freeze i).cY ids).F (V.m k)
   rcases List.mem_cons.1 hk with rfl | hk
   ·exact g2.F _ (h3 _ _ _ _ hr)
   ·have EP:∃g es e w,(V.freeze i).H[k]? = some (.row g es e w):=by
     rw[QV]
     unfold BG
     split
     ·rename_i g' lQ e' w' hi
      by_cases hki:k=i
      ·subst hki
       exact⟨g',lQ,e',false,List.getElem?_set_self (List.getElem?_eq_some_iff.1 hi).1⟩
      ·exact⟨g,es,e,w,by rw[List.getElem?_set_ne (Ne.symm hki)];exact hr⟩
     ·exact⟨g,es,e,w,hr⟩
    obtain⟨g',lQ,e',w',EP⟩:=EP
    have:=g6 k hk _ _ _ _ EP
    rw[QB] at this
    exact this
end
end Go.PM