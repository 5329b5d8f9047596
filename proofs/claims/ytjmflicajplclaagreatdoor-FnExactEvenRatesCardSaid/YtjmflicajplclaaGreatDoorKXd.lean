/- Texts of a claim, in one: part 4. -/
import Derived.Test.YtjmflicajplclaaGreatDoorKXc
set_option linter.unusedSimpArgs false
set_option linter.unusedVariables false
namespace Go.PM
inductive TK where
 | op
 | cl (e:Nat)
 | nil
 deriving DecidableEq
inductive VV where
 | any
 | sc (v:Value)
 | agg (cs:List VV)
 | fN (vs:List VV)
 | tree (es:List VV) (k:TK)
 | dB (x:VV) (off:Nat)
 | ref (b g o n c:Nat)
 | ptr (b g j off:Nat)
 | vM (f:Nat) (gF:List VV)
 deriving Inhabited
inductive cA where
 | dead
 | row (g:Nat) (es:List VV) (e:Nat) (w:Bool)
 deriving Inhabited
abbrev aA:=List cA
abbrev dH:=Nat→VV
def qU:VV := .fN []
def lQ:Value→Bool
 | .bool _ | .int _ _ | .string _ | .pointer none | .nilFunc | .nilIface=>true
 | _=>false
def jX:Value→VV
 | .slice none 0 0 => .tree [] .nil
 | v=>if lQ v then .sc v else .any
def inj:Value→VV
 | .agg cs => .agg (cs.toList.map jX)
 | .tuple vs=>if vs.isEmpty then .fN [] else .any
 | v=>jX v
def eQ (ρ:dH):Operand→VV
 | .tmp t=>ρ t
 | .const v=>inj v
 | .global _ => .any
 | .func f => .vM f []
def J7 (ρ:dH):Option Nat→VV→dH
 | none,_=>ρ
 | some d,v=>fun k=>if k=d then v else ρ k
def aB:VV→List VV
 | .agg cs=>cs
 | v=>[v]
def elemOf:List VV→VV
 | [x]=>x
 | cs => .agg cs
def cC:VV→Bool
 | .any | .agg _ | .fN _=>false
 | _=>true
def uni:List VV→Bool
 | []=>true
 | x::xs=>xs.all fun y=>(aB y).length == (aB x).length
mutual
def bA:VV→Bool
 | .any=>false
 | .sc v=>lQ v
 | .agg cs=>aM cs
 | .fN vs=>aM vs
 | .tree es k=>decide (k = .op)&&aM es&&uni es
 | .dB x _=>bA x
 | .ref .. => false
 | .ptr .. => false
 | .vM _ gF=>aM gF
def aM:List VV→Bool
 | []=>true
 | x::xs=>bA x&&aM xs
end
def AP:VV→Bool
 | .agg [_]=>false
 | _=>true
mutual
def iU:VV→Bool
 | .any=>false
 | .sc v=>lQ v
 | .agg cs=>sK cs
 | .fN vs=>sK vs
 | .tree es k=>decide (k = .op)&&sK es&&uni es&&es.all AP
 | .dB _ _=>false
 | .ref .. => false
 | .ptr .. => false
 | .vM _ _=>false
def sK:List VV→Bool
 | []=>true
 | x::xs=>iU x&&sK xs
end
mutual
def KJ:VV→Bool
 | .sc v=>lQ v
 | .agg cs=>Ru cs
 | .fN vs=>Ru vs
 | _=>false
def Ru:List VV→Bool
 | []=>true
 | x::xs=>KJ x&&Ru xs
end
mutual
def below (k:Nat):VV→Bool
 | .any=>true
 | .sc _=>true
 | .agg cs=>mH k cs
 | .fN vs=>mH k vs
 | .tree es _=>mH k es
 | .dB x _=>below k x
 | .ref b _ _ _ _=>decide (b<k)
 | .ptr b _ _ _=>decide (b<k)
 | .vM _ gF=>mH k gF
def mH (k:Nat):List VV→Bool
 | []=>true
 | x::xs=>below k x&&mH k xs
end
def Jn (k:Nat) (v:VV):VV:=if below k v then v else .any
def aH (H:aA) (b g:Nat):Option (List VV×Nat×Bool) :=
 match H[b]? with
 | some (.row g' es e w)=>if g'=g then some (es,e,w) else none
 | _=>none
def rE:List CK→List VV→List VV→Option Bool
 | [],[],[]=>some true
 |
  k::ks,.sc x::xs,.sc y::ys=>match uY k x y with
  | some true=>rE ks xs ys
  | some false=>some false
  | none=>none
 | _,_,_=>none
def dG (cs:List VV) (o:Nat) (new:List VV):List VV:=cs.take o++new++cs.drop (o+new.length)
def isAny:VV→Bool
 | .any=>true
 | _=>false
def zP (places:List (Nat×Nat)) (cells:List VV):List (Nat×VV)→Option (List VV)
 | []=>some cells
 |
  (i,v)::rest =>
  match places[i]? with
  | none=>none
  |
   some (off,size) =>
   if (aB v).length=size∧off+size≤cells.length∧isAny v=false then
    zP places (cells.take off++aB v++cells.drop (off+size)) rest
   else none
def vH (e:Nat) (es:List VV):List (Nat×VV)→Option (List VV)
 | []=>some es
 | (i,v)::rest=>if i<es.length∧(aB v).length=e∧(aB v).all cC then vH e (es.set i v) rest else none
def Hz:Option VV→Option (Option Value)
 | none=>some none
 | some (.sc v)=>some (some v)
 | some _=>none
def dK (agg:Bool) (size:Nat) (x:VV) (o:Nat):Option VV :=
 if agg then (if o+size≤(aB x).length then some (.agg (((aB x).drop o).take size)) else none) else (aB x)[o]?
structure Fl where
 bf:Bool
 lr:Bool
def cN (agg:Bool) (size:Nat) (p:VV) (H:aA):Option VV :=
 match p with
 | .dB x o=>dK agg size x o
 |
  .ptr b g j o=>match aH H b g with
  |
   some (es,_,_)=>match es[j]? with
   | some x=>dK agg size x o
   | none=>none
  | none=>none
 | _=>none
def bP (size:Nat) (x i:VV) (H:aA):Option VV :=
 match x,i with
 |
  .tree es _,.sc (.int _ i)=>if 0≤i then match es[i.toNat]? with
  | some x=>if (aB x).length=size then some (.dB x 0) else none
  | none=>none
  else none
 |
  .ref b g o n _,.sc (.int _ i)=>match aH H b g with
  | some (_,e,_)=>if e=size∧0≤i∧i<n then some (.ptr b g (o+i.toNat) 0) else none
  | none=>none
 | _,_=>none
def Gb (size:Nat) (x:VV) (l h m:Option VV) (H:aA):Option VV :=
 match Hz l,Hz h,Hz m with
 |
  some lv,some hv,some mv =>
  match x with
  |
   .tree (y::ys) _ =>
   if (aB y).length=size then
    match fD mv (some (ys.length+1)) (ys.length+1) with
    | none=>none
    |
     some m=>match fD hv (if mv.isSome then none else some (ys.length+1)) m with
     | none=>none
     |
      some h=>match fD lv (some 0) h with
      | none=>none
      | some l=>if mv.isSome∧m=l then some (.tree [] (.cl size)) else some (.tree (((y::ys).drop l).take (h-l)) .op)
   else none
  |
   .ref b g o n c =>
   match aH H b g with
   |
    some (_,e,_) =>
    if e=size then
     match fD mv (some c) c with
     | none=>none
     |
      some m=>match fD hv (if mv.isSome then none else some n) m with
      | none=>none
      |
       some h=>match fD lv (some 0) h with
       | none=>none
       | some l=>if mv.isSome∧m=l then some (.tree [] (.cl size)) else some (.ref b g (o+l) (h-l) (m-l))
    else none
   | none=>none
  | _=>none
 | _,_,_=>none
def IQ:List VV→Option (List UInt8)
 | []=>some []
 | .sc (.int .u8 n)::r=>(IQ r).map (UInt8.ofNat n.toNat :: ·)
 | _=>none
def dF (size:Nat) (y:VV) (H:aA):Option (List VV) :=
 match y with
 | .tree es _=>if es.all fun x=>(aB x).length == size&&(aB x).all cC then some es else none
 |
  .ref b g o n _=>match aH H b g with
  | some (es,e,_)=>if e=size∧o+n≤es.length∧(((es.drop o).take n).all fun x=>(aB x).all cC) then some ((es.drop o).take n) else none
  | none=>none
 | .sc (.string s)=>if size=1 then some (s.data.toList.map fun b => .sc (.int .u8 b.toNat)) else none
 | _=>none
def eE (lo size bytes:Nat) (x:VV) (new:List VV) (H:aA):Option (VV×aA) :=
 if 1≤bytes∧1≤size then
  match x with
  | .tree [] .nil=>if new.length=0 then some (x,H) else if new.length*bytes≤140737488355328 then some (.ref H.length 0 0 new.length new.length,H++[.row 0 new size true]) else none
  | .tree es (.cl e)=>if e=size then (if new.length=0 then some (x,H) else if (es.length+new.length)*bytes≤140737488355328 then some (.ref H.length 0 0 (es.length+new.length) (es.length+new.length),H++[.row 0 (es++new) size true]) else none) else none
  |
   .ref b g o n c=>match aH H b g with
   |
    some (es,e,true) =>
    if e=size∧lo≤b∧o+n≤es.length then
     if n+new.length≤c then
      if new.length=0 then some (x,H)
      else if o+n+new.length≤es.length then some (.ref b g o (n+new.length) c,H.set b (.row g (dG es (o+n) new) e true))
      else none
     else if (n+new.length)*bytes≤140737488355328 then some (.ref b (g+1) 0 (n+new.length) (n+new.length),H.set b (.row (g+1) ((es.drop o).take n++new) e true))
     else none
    else none
   | _=>none
  | _=>none
 else none
def cD (lo size:Nat) (p v:VV) (H:aA):Option aA :=
 match p with
 |
  .ptr b g j o=>match aH H b g with
  |
   some (es,e,true)=>match es[j]? with
   |
    some x =>
    if (aB v).length=size∧lo≤b∧(aB v).all cC then
     if o=0∧size=e then some (H.set b (.row g (es.set j v) e true))
     else if 2≤e∧o+size≤e then some (H.set b (.row g (es.set j (.agg (dG (aB x) o (aB v)))) e true))
     else none
    else none
   | none=>none
  | _=>none
 | _=>none
def Bn (zero:List Value) (bytes:Nat) (l c:VV) (H:aA):Option (VV×aA) :=
 match l,c with
 | .sc (.int .i64 l),.sc (.int .i64 c)=>if 0≤l∧l≤c∧c*bytes≤281474976710656∧c≤9223372036854775807 then
  some (.ref H.length 0 0 l.toNat c.toNat,H++[.row 0 (List.replicate c.toNat (elemOf (zero.map jX))) zero.length true]) else none
 | _,_=>none
def jY (lr:Bool) (zero:List Value) (n:Nat) (parts:List (Nat×VV)) (H:aA):Option (VV×aA) :=
 match vH zero.length (List.replicate n (elemOf (zero.map jX))) parts with
 | some es=>if (zero.map jX).all cC then (if n=0∨lr=true then some (.ref H.length 0 0 n n,H++[.row 0 es zero.length true]) else some (.tree es (.cl zero.length),H)) else none
 | none=>none
def NO (lo size:Nat) (x y:VV) (H:aA):Option (VV×aA) :=
 match x,dF size y H with
 | .tree [] .nil,some _=>some (.sc (.int .i64 0),H)
 |
  .ref b g o d _,some new=>match aH H b g with
  | some (es,e,true)=>if e=size∧lo≤b∧o+(new.take d).length≤es.length then some (.sc (.int .i64 (new.take d).length),H.set b (.row g (dG es o (new.take d)) e true)) else none
  | _=>none
 | _,_=>none
def PU (lo:Nat) (zero:List Value) (x:VV) (H:aA):Option aA :=
 match x with
 |
  .ref b g o n _=>match aH H b g with
  | some (es,e,true)=>if n=0 then some H else if e=zero.length∧lo≤b∧o+n≤es.length∧(zero.map jX).all cC then some (H.set b (.row g (dG es o (List.replicate n (elemOf (zero.map jX)))) e true)) else none
  | _=>none
 | _=>none
def Fx (neg:Bool) (x:VV) (H:aA):Option VV :=
 match x with
 | .tree [] .nil=>some (.sc (.bool (true != neg)))
 | .tree [] (.cl _)=>some (.sc (.bool (false != neg)))
 | .tree (_::_) _=>some (.sc (.bool (false != neg)))
 | .ref b g _ _ _=>(aH H b g).map fun _ => .sc (.bool (false != neg))
 | _=>none
def qB (x:VV) (H:aA):Option VV :=
 match x with
 | .tree es _=>some (.sc (.int .i64 es.length))
 | .ref b g _ n _=>(aH H b g).map fun _ => .sc (.int .i64 n)
 | _=>none
def HF (off:Nat) (x:VV) (H:aA):Option VV :=
 match x with
 | .dB x o=>some (.dB x (o+off))
 | .ptr b g j o=>(aH H b g).map fun _ => .ptr b g j (o+off)
 | _=>none
def W4 (x:VV) (H:aA):Option VV :=
 match x with
 | .dB x o=>some (.dB x o)
 | .ptr b g j o=>(aH H b g).map fun _ => .ptr b g j o
 | _=>none
def wD (x:VV) (l h:Option VV):Option VV :=
 match x,Hz l,Hz h with
 |
  .sc (.string s),some lv,some hv=>match Af lv hv s.size with
  | some (l,h)=>some (.sc (.string (s.extract l h)))
  | none=>none
 | _,_,_=>none
def aeB (agg:Bool) (off size:Nat) (x:VV):Option VV :=
 match x with
 | .agg cs=>if agg then (if off+size≤cs.length then some (.agg ((cs.drop off).take size)) else none) else cs[off]?
 | _=>none
def Mw (f:Value→Option Value) (x:VV):Option VV :=
 match x with
 | .sc a=>(f a).map .sc
 | _=>none
def IL (f:Value→Value→Option Value) (x y:VV):Option VV :=
 match x,y with
 | .sc a,.sc b=>(f a b).map .sc
 | _,_=>none
def Qz (c a b:VV):Option VV :=
 match c with
 | .sc (.bool t)=>some (if t then a else b)
 | _=>none
def acK (i:Nat) (x:VV):Option VV :=
 match x with
 | .fN vs=>vs[i]?
 | _=>none
def Tu (neg:Bool) (ks:List CK) (x y:VV):Option VV :=
 match x,y with
 | .agg a,.agg b=>(rE ks a b).map fun t => .sc (.bool (t != neg))
 | _,_=>none
def WA:Value→Option Value
 | .string s=>some (.string s)
 | _=>none
def BK:Value→Option Value
 | .string s=>some (.int .i64 s.size)
 | _=>none
def Gy:Value→Value→Option Value
 | .string s,.int _ i=>if 0≤i∧i<s.size then some (.int .u8 ((s.data.toList.getD i.toNat 0).toNat:Int)) else none
 | _,_=>none
def vop (fl:Fl) (lo:Nat) (o:oJ) (ρ:dH) (H:aA):Option (VV×aA) :=
 match o with
 | .mv x=>some (eQ ρ x,H)
 | .pick c a b=>(Qz (eQ ρ c) (eQ ρ a) (eQ ρ b)).map (·,H)
 | .bin op x y=>(IL (dU op) (eQ ρ x) (eQ ρ y)).map (·,H)
 | .eqb neg x y=>(IL (Nh neg) (eQ ρ x) (eQ ρ y)).map (·,H)
 | .isnil neg x=>(Fx neg (eQ ρ x) H).map (·,H)
 | .eqagg neg ks x y=>(Tu neg ks (eQ ρ x) (eQ ρ y)).map (·,H)
 | .un op x=>(Mw (pun op) (eQ ρ x)).map (·,H)
 | .cvt k x=>(Mw (Uz k) (eQ ρ x)).map (·,H)
 | .cvs x=>(Mw WA (eQ ρ x)).map (·,H)
 | .ext x i=>(acK i (eQ ρ x)).map (·,H)
 | .fld agg off size x=>(aeB agg off size (eQ ρ x)).map (·,H)
 | .build zero places parts=>(zP places (zero.map jX) (parts.map fun(i,x)=>(i,eQ ρ x))).map fun cs=>(.agg cs,H)
 | .chk x=>(W4 (eQ ρ x) H).map (·,H)
 | .faddr off x=>(HF off (eQ ρ x) H).map (·,H)
 | .iaddr size x i=>(bP size (eQ ρ x) (eQ ρ i) H).map (·,H)
 | .sidx x i=>(IL Gy (eQ ρ x) (eQ ρ i)).map (·,H)
 | .ssub x l h=>(wD (eQ ρ x) (l.map (eQ ρ)) (h.map (eQ ρ))).map (·,H)
 | .mkfn f gF=>some (.vM f (gF.map (eQ ρ)),H)
 | .len x=>(qB (eQ ρ x) H).map (·,H)
 | .slen x=>(Mw BK (eQ ρ x)).map (·,H)
 | .min x y=>(IL Q8 (eQ ρ x) (eQ ρ y)).map (·,H)
 | .max x y=>(IL QG (eQ ρ x) (eQ ρ y)).map (·,H)
 | .load agg size p=>(cN agg size (eQ ρ p) H).map (·,H)
 | .sub size x l h m=>(Gb size (eQ ρ x) (l.map (eQ ρ)) (h.map (eQ ρ)) (m.map (eQ ρ)) H).map (·,H)
 |
  .b2s x=>match eQ ρ x with
  | .sc _=>none
  |
   y=>match dF 1 y H with
   | some es=>(IQ es).map fun bs=>(.sc (.string ⟨bs.toArray⟩),H)
   | none=>none
 | .new zero=>if (zero.map jX).all cC then some (.ptr H.length 0 0 0,H++[.row 0 [elemOf (zero.map jX)] zero.length true]) else none
 | .box x=>if (aB (eQ ρ x)).all cC then (if fl.bf then some (.dB (eQ ρ x) 0,H) else some (.ptr H.length 0 0 0,H++[.row 0 [eQ ρ x] (aB (eQ ρ x)).length true])) else none
 | .make zero bytes l c=>if (zero.map jX).all cC then Bn zero bytes (eQ ρ l) (eQ ρ c) H else none
 | .lit zero n parts=>jY fl.lr zero n (parts.map fun(i,x)=>(i,eQ ρ x)) H
 | .store size p v=>(cD lo size (eQ ρ p) (eQ ρ v) H).map fun H'=>(qU,H')
 |
  .app size bytes x y=>match dF size (eQ ρ y) H with
  | some new=>eE lo size bytes (eQ ρ x) new H
  | none=>none
 |
  .appz zero bytes x n=>match eQ ρ n with
  | .sc (.int .i64 n)=>if 0≤n∧n*bytes≤140737488355328∧(zero.map jX).all cC then eE lo zero.length bytes (eQ ρ x) (List.replicate n.toNat (elemOf (zero.map jX))) H else none
  | _=>none
 | .copy size x y=>NO lo size (eQ ρ x) (eQ ρ y) H
 | .clear zero x=>(PU lo zero (eQ ρ x) H).map fun H'=>(qU,H')
 | _=>none
inductive VBx where
 | no
 | row (i:Nat) (w:Bool)
 | B8 (i:Nat)
 | tree
 | bad
def Ck (H:aA):VV→VBx
 | .tree [] .nil => .no
 | .tree _ _ => .tree
 | .dB _ _ => .tree
 |
  .ref b g _ _ _=>match aH H b g with
  | some (_,_,w) => .row b w
  | none => .B8 b
 |
  .ptr b g _ _=>match aH H b g with
  | some (_,_,w) => .row b w
  | none => .B8 b
 | .any => .bad
 | _ => .no
def Bh (H:aA) (x y:VV):Bool :=
 match Ck H x,Ck H y with
 | .bad,_=>false
 | _,.bad=>false
 | .no,_=>true
 | _,.no=>true
 | .row i _,.row j _=>i != j
 | .row i _,.B8 j=>i != j
 | .B8 i,.row j _=>i != j
 | .B8 _,.B8 _=>false
 | .B8 _,.tree=>false
 | .tree,.B8 _=>false
 | .row _ w,.tree=>w
 | .tree,.row _ w=>w
 | .tree,.tree=>false
def wK (ρ:dH) (H:aA) (c:Operand×Operand):Bool:=Bh H (eQ ρ c.1) (eQ ρ c.2)
def B1 (g:Option (Nat×Bool)) (ρ:dH):Option Bool :=
 match g with
 | none=>some true
 |
  some (t,want)=>match ρ t with
  | .sc (.bool b)=>some (b == want)
  | .fN _=>some false
  | _=>none
def fz:Nat→aA→VV→Option VV
 | 0,_,_=>none
 |
  d+1,H,v =>
  if bA v then some v else
  match v with
  | .agg cs=>(cs.mapM (fz d H)).map .agg
  | .fN vs=>(vs.mapM (fz d H)).map .fN
  | .tree es _=>(es.mapM (fz d H)).map (.tree · .op)
  | .dB x o=>(fz d H x).map (.dB · o)
  |
   .ref b g o n c=>match aH H b g with
   | some (es,_,_)=>if o+n≤es.length∧n≤c then (((es.drop o).take n).mapM (fz d H)).map (.tree · .op) else none
   | none=>none
  |
   .ptr b g j o=>match aH H b g with
   |
    some (es,_,_)=>match es[j]? with
    | some x=>(fz d H x).map (.dB · o)
    | none=>none
   | none=>none
  | .vM f gF=>(gF.mapM (fz d H)).map (.vM f ·)
  | _=>none
def jQ:Nat→aA→VV→List Nat
 | 0,_,_=>[]
 |
  d+1,H,v =>
  if bA v then [] else
  match v with
  | .agg cs=>cs.flatMap (jQ d H)
  | .fN vs=>vs.flatMap (jQ d H)
  | .tree es _=>es.flatMap (jQ d H)
  | .dB x _=>jQ d H x
  |
   .ref b g o n _=>match aH H b g with
   | some (es,_,_)=>b::((es.drop o).take n).flatMap (jQ d H)
   | none=>[]
  |
   .ptr b g j _=>match aH H b g with
   |
    some (es,_,_)=>match es[j]? with
    | some x=>b::jQ d H x
    | none=>[]
   | none=>[]
  | .vM _ gF=>gF.flatMap (jQ d H)
  | _=>[]
def Cc (H:aA) (b:Nat):aA :=
 match H[b]? with
 | some (.row g es e _)=>H.set b (.row g es e false)
 | _=>H
def dD (H:aA) (ids:List Nat):aA:=ids.foldl Cc H
def depth:Nat:=8
end Go.PM
namespace Go.PM
structure View where
 m:Nat→Nat
 F:Nat→Prop
 H:aA
 P:aE
 base:Nat
def kindOk (k:TK) (n c e:Nat) (p:Bool):Prop :=
 match k with
 | .op=>True
 | .cl e'=>e'=e∧c=n∧p=false
 | .nil=>False
mutual
inductive VR (V:View):VV→Value→Prop
 | any (v:Value):VR V .any v
 | sc (v:Value) (h:lQ v=true):VR V (.sc v) v
 | agg (cs:List VV) (ps:List Value) (h:VL V cs ps):VR V (.agg cs) (.agg ps.toArray)
 | fN (cs:List VV) (ps:List Value) (h:VL V cs ps):VR V (.fN cs) (.tuple ps.toArray)
 | pB (k:TK) (hk:k = .op∨k = .nil):VR V (.tree [] k) (.slice none 0 0)
 | tree (es:List VV) (k:TK) (b o c:Nat) (r:List Value) (e:Nat) (p:Bool) (hF:V.F b) (hb:V.P[b]? = some (.row r e p)) (ho:o+es.length*e≤r.length)
  (hc:es.length≤c) (he:∀x∈es,(aB x).length=e) (hk:kindOk k es.length c e p) (hl:VL V (es.flatMap aB) ((r.drop o).take (es.length*e))) :
  VR V (.tree es k) (.slice (some ⟨b,o,none⟩) es.length c)
 | dB (x:VV) (off b o:Nat) (r:List Value) (e:Nat) (p:Bool) (hF:V.F b) (hb:V.P[b]? = some (.row r e p)) (ho:o+(aB x).length≤r.length)
  (hl:VL V (aB x) ((r.drop o).take (aB x).length)):VR V (.dB x off) (.pointer (some ⟨b,o+off,none⟩))
 | ref (b g o n c:Nat) (a:Option Addr) (n' c':Nat) (bH:b<V.H.length) (hg:∀g' es e w,V.H[b]? = some (.row g' es e w)→g≤g')
  (h:∀es e w,V.H[b]? = some (.row g es e w)→a=some ⟨V.m b,o*e,none⟩∧n'=n∧c'=c)
  (hq:∀a0,a=some a0→V.base≤a0.block∧a0.block<V.P.length∧∀b' g' es e w,V.H[b']? = some (.row g' es e w)→b'≠b→V.m b'≠a0.block):VR V (.ref b g o n c) (.slice a n' c')
 | ptr (b g j off:Nat) (a:Option Addr) (bH:b<V.H.length) (hg:∀g' es e w,V.H[b]? = some (.row g' es e w)→g≤g')
  (h:∀es e w,V.H[b]? = some (.row g es e w)→a=some ⟨V.m b,j*e+off,none⟩)
  (hq:∀a0,a=some a0→V.base≤a0.block∧a0.block<V.P.length∧∀b' g' es e w,V.H[b']? = some (.row g' es e w)→b'≠b→V.m b'≠a0.block):VR V (.ptr b g j off) (.pointer a)
 | vM (f:Nat) (gF:List VV) (ps:List Value) (h:VL V gF ps):VR V (.vM f gF) (.func (.func f) #[] ps.toArray)
inductive VL (V:View):List VV→List Value→Prop
 | nil:VL V [] []
 | cons (x:VV) (v:Value) (xs:List VV) (vs:List Value) (h:VR V x v) (hs:VL V xs vs):VL V (x::xs) (v::vs)
end
structure Up (V V':View):Prop where
 F:∀b,V.F b→V'.F b
 P:∀b,V.F b→V'.P[b]? = V.P[b]?
 len:V.H.length≤V'.H.length
 row:∀b g' nE e w',b<V.H.length→V'.H[b]? = some (.row g' nE e w')→∃g es w,V.H[b]? = some (.row g es e w)∧g≤g'∧(g'=g→V'.m b=V.m b)
 Kp:V'.base=V.base
 EJ:V.P.length≤V'.P.length
 B8:∀b g es e w,V'.H[b]? = some (.row g es e w)→V'.m b<V.P.length→∃g0 es0 w0,V.H[b]? = some (.row g0 es0 e w0)∧V'.m b=V.m b∧(w=true→w0=true)
section
variable {V V' QL:View}
theorem Up.refl (V:View):Up V V:=⟨fun _ h=>h,fun _ _=>rfl,Nat.le_refl _,fun b g es e w _ h=>⟨g,es,w,h,Nat.le_refl _,fun _=>rfl⟩,rfl,Nat.le_refl _,fun b g es e w h _=>⟨g,es,w,h,rfl,id⟩⟩
theorem Up.trans (h:Up V V') (h':Up V' QL):Up V QL :=
 ⟨fun b hb=>h'.F b (h.F b hb),fun b hb=>(h'.P b (h.F b hb)).trans (h.P b hb),Nat.le_trans h.len h'.len,fun b g es e w hb hr=>by
  obtain⟨g1,Cy,w1,h1,h2,h3⟩:=h'.row b g es e w (Nat.lt_of_lt_of_le hb h.len) hr
  obtain⟨g2,Z3,w2,h4,h5,h6⟩:=h.row b g1 Cy e w1 hb h1
  exact⟨g2,Z3,w2,h4,Nat.le_trans h5 h2,fun hg=>(h3 (by omega)).trans (h6 (by omega))⟩,h'.Kp.trans h.Kp,Nat.le_trans h.EJ h'.EJ,fun b g es e w hb hm=>by
   obtain⟨g1,Cy,w1,h1,h2,h3⟩:=h'.B8 b g es e w hb (Nat.lt_of_lt_of_le hm h.EJ)
   obtain⟨g2,Z3,w2,h4,h5,h6⟩:=h.B8 b g1 Cy e w1 h1 (by rw[←h2];exact hm)
   exact⟨g2,Z3,w2,h4,h2.trans h5,fun hw=>h6 (h3 hw)⟩⟩
theorem Up.hq (u:Up V V') {b q:Nat} (h:V.base≤q∧q<V.P.length∧∀b' g' es e w,V.H[b']? = some (.row g' es e w)→b'≠b→V.m b'≠q):V'.base≤q∧q<V'.P.length∧∀b' g' es e w,V'.H[b']? = some (.row g' es e w)→b'≠b→V'.m b'≠q:=by
 refine⟨by rw[u.Kp];exact h.1,Nat.lt_of_lt_of_le h.2.1 u.EJ,fun b' g' es e w hb fQ hm => ?_⟩
 obtain⟨g0,es0,w0,h1,h2,_⟩:=u.B8 b' g' es e w hb (by rw[hm];exact h.2.1)
 exact h.2.2 b' _ _ _ _ h1 fQ (h2.symm.trans hm)
theorem VR.mono (u:Up V V') {x:VV} {v:Value} (h:VR V x v):VR V' x v:=by
 induction h using VR.rec (motive_2:=fun xs vs _=>VL V' xs vs) with
 | any=>exact .any _
 | sc _ h=>exact .sc _ h
 | agg cs ps _ ih=>exact .agg _ _ ih
 | fN cs ps _ ih=>exact .fN _ _ ih
 | pB k hk=>exact .pB k hk
 | tree es k b o c r e p hF hb ho hc he hk _ ih=>exact .tree es k b o c r e p (u.F _ hF) (by rw[u.P _ hF];exact hb) ho hc he hk ih
 | dB x off b o r e p hF hb ho _ ih=>exact .dB x off b o r e p (u.F _ hF) (by rw[u.P _ hF];exact hb) ho ih
 |
  ref b g o n c a n' c' bH hg h hq =>
  refine .ref b g o n c a n' c' (Nat.lt_of_lt_of_le bH u.len) (fun g' es e w hr => ?_) (fun es e w hr => ?_) fun a0 ha=>u.hq (hq a0 ha)
  ·obtain⟨g1,Cy,w1,h1,h2,_⟩:=u.row b g' es e w bH hr
   exact Nat.le_trans (hg _ _ _ _ h1) h2
  ·obtain⟨g1,Cy,w1,h1,h2,h3⟩:=u.row b g es e w bH hr
   have h4:=hg _ _ _ _ h1
   have h5:g=g1:=by omega
   subst h5
   rw[h3 rfl]
   exact h _ _ _ h1
 |
  ptr b g j off a bH hg h hq =>
  refine .ptr b g j off a (Nat.lt_of_lt_of_le bH u.len) (fun g' es e w hr => ?_) (fun es e w hr => ?_) fun a0 ha=>u.hq (hq a0 ha)
  ·obtain⟨g1,Cy,w1,h1,h2,_⟩:=u.row b g' es e w bH hr
   exact Nat.le_trans (hg _ _ _ _ h1) h2
  ·obtain⟨g1,Cy,w1,h1,h2,h3⟩:=u.row b g es e w bH hr
   have h4:=hg _ _ _ _ h1
   have h5:g=g1:=by omega
   subst h5
   rw[h3 rfl]
   exact h _ _ _ h1
 | vM f gF ps _ ih=>exact .vM _ _ _ ih
 | nil=>exact .nil
 | cons x v xs vs _ _ ih UC=>exact .cons _ _ _ _ ih UC
theorem VL.mono (u:Up V V') {xs:List VV} {vs:List Value} (h:VL V xs vs):VL V' xs vs:=by
 induction xs generalizing vs with
 | nil=>cases h;exact .nil
 |
  cons x xs ih=>cases h with
  | cons _ v _ vs h hs=>exact .cons _ _ _ _ (h.mono u) (ih hs)
end
section
variable {V:View} {xs ys:List VV} {vs ws:List Value}
theorem VL.length:∀ {xs:List VV} {vs:List Value},VL V xs vs→vs.length=xs.length
 | _,_,.nil=>rfl
 | _,_,.cons _ _ _ _ _ hs=>by simp[hs.length]
theorem VL.append:∀ {xs:List VV} {vs:List Value},VL V xs vs→VL V ys ws→VL V (xs++ys) (vs++ws)
 | _,_,.nil,h'=>h'
 | _,_,.cons _ _ _ _ h hs,h' => .cons _ _ _ _ h (hs.append h')
theorem VL.take (n:Nat):∀ {xs:List VV} {vs:List Value} ,VL V xs vs→VL V (xs.take n) (vs.take n):=by
 induction n with
 | zero=>intro xs vs _;simp;exact .nil
 |
  succ n ih=>intro xs vs h;cases h with
  | nil=>simp;exact .nil
  | cons x v xs vs h hs=>exact .cons _ _ _ _ h (ih hs)
theorem VL.drop (n:Nat):∀ {xs:List VV} {vs:List Value} ,VL V xs vs→VL V (xs.drop n) (vs.drop n):=by
 induction n with
 | zero=>intro xs vs h;simpa using h
 |
  succ n ih=>intro xs vs h;cases h with
  | nil=>simp;exact .nil
  | cons x v xs vs h hs=>exact ih hs
theorem VL.get (h:VL V xs vs) {i:Nat} {x:VV} (hx:xs[i]? = some x):∃v,vs[i]? = some v∧VR V x v:=by
 induction i generalizing xs vs with
 |
  zero=>cases h with
  | nil=>cases hx
  | cons y v xs vs h hs=>simp at hx;subst hx;exact⟨v,rfl,h⟩
 |
  succ i ih=>cases h with
  | nil=>cases hx
  | cons y v xs vs h hs=>exact ih hs (by simpa using hx)
theorem VL.map {α:Type} {f:α→VV} {g:α→Value}:∀ {l:List α},(∀x∈l,VR V (f x) (g x))→VL V (l.map f) (l.map g)
 | [],_ => .nil
 | x::l,h => .cons _ _ _ _ (h x (by simp)) (VL.map fun y hy=>h y (by simp[hy]))
theorem VL.replicate {x:VV} {v:Value} (h:VR V x v):∀n,VL V (List.replicate n x) (List.replicate n v)
 | 0 => .nil
 | n+1 => .cons _ _ _ _ h (VL.replicate h n)
theorem VL.jK {cs new:List VV} {ps pn:List Value} (h:VL V cs ps) (hn:VL V new pn) (o:Nat):VL V (dG cs o new) (jK ps o pn):=by
 unfold dG PM.jK
 rw[←hn.length]
 exact((h.take o).append hn).append (h.drop _)
theorem VR.jX (v:Value):VR V (jX v) v:=by
 unfold PM.jX
 split
 ·exact .pB _ (.inr rfl)
 ·split
  ·rename_i h;exact .sc _ h
  ·exact .any _
theorem VR.inj (v:Value):VR V (inj v) v:=by
 unfold PM.inj
 split
 ·rename_i cs
  have:(Value.agg cs) = .agg cs.toList.toArray:=by simp
  rw[this]
  refine .agg _ _ ?_
  have:=VL.map (V:=V) (f:=PM.jX) (g:=id) (l:=cs.toList) fun x _=>VR.jX x
  simpa using this
 ·rename_i vs
  split
  ·rename_i h
   have:vs=[].toArray:=by simpa using h
   rw[this]
   exact .fN _ _ .nil
  ·exact .any _
 ·exact VR.jX _
theorem VL.zero (z:List Value):VL V (z.map PM.jX) z:=by
 have:=VL.map (V:=V) (f:=PM.jX) (g:=id) (l:=z) fun x _=>VR.jX x
 simpa using this
theorem VR.cells {x:VV} {v:Value} (h:VR V x v) (hx:x ≠ .any):VL V (aB x) (aN v):=by
 cases h with
 | any=>exact absurd rfl hx
 |
  sc v h =>
  have:aN v=[v]:=by cases v<;>first | rfl | cases h
  rw[this]
  exact .cons _ _ _ _ (.sc v h) .nil
 | agg cs ps h=>simpa[aB,aN] using h
 | fN cs ps h=>exact .cons _ _ _ _ (.fN _ _ h) .nil
 | pB k hk=>exact .cons _ _ _ _ (.pB k hk) .nil
 | tree es k b o c r e p hF hb ho hc he hk hl=>exact .cons _ _ _ _ (.tree es k b o c r e p hF hb ho hc he hk hl) .nil
 | dB x off b o r e p hF hb ho hl=>exact .cons _ _ _ _ (.dB x off b o r e p hF hb ho hl) .nil
 | ref b g o n c a n' c' bH hg h hq=>exact .cons _ _ _ _ (.ref b g o n c a n' c' bH hg h hq) .nil
 | ptr b g j off a bH hg h hq=>exact .cons _ _ _ _ (.ptr b g j off a bH hg h hq) .nil
 | vM f gF ps h=>exact .cons _ _ _ _ (.vM _ _ _ h) .nil
theorem VR.gE {x:VV} {v:Value} (h:VR V x v) (hx:cC x=true):gE v=true:=by
 cases h with
 | sc v h=>cases v<;>first | rfl | cases h
 | any=>cases hx
 | agg=>cases hx
 | fN=>cases hx
 | _=>rfl
theorem VL.gE:∀ {xs:List VV} {vs:List Value},VL V xs vs→xs.all cC=true→vs.all PM.gE=true
 | _,_,.nil,_=>rfl
 |
  _,_,.cons _ _ _ _ h hs,hx=>by
  rw[List.all_cons,Bool.and_eq_true] at hx ⊢
  exact⟨h.gE hx.1,hs.gE hx.2⟩
theorem US {x:VV} (h:(aB x).all cC=true):x ≠ .any:=by
 rintro rfl
 cases h
theorem lF {es:List VV} {e:Nat} (he:∀x∈es,(aB x).length=e):(es.flatMap aB).length=es.length*e:=by
 induction es with
 | nil=>simp
 |
  cons x xs ih =>
  rw[List.flatMap_cons,List.length_append,ih fun y hy=>he y (List.mem_cons_of_mem _ hy),he x List.mem_cons_self,List.length_cons,Nat.succ_mul]
  omega
theorem uT {es:List VV} {e:Nat} (he:∀x∈es,(aB x).length=e) (i:Nat):(es.flatMap aB).drop (i*e)=(es.drop i).flatMap aB:=by
 induction i generalizing es with
 | zero=>simp
 |
  succ i ih =>
  cases es with
  | nil=>simp
  |
   cons x xs =>
   have hx:=he x List.mem_cons_self
   rw[List.flatMap_cons,List.drop_succ_cons,←ih fun y hy=>he y (List.mem_cons_of_mem _ hy),show (i+1)*e=(aB x).length+i*e by rw[hx,Nat.succ_mul];omega,List.drop_append]
   simp
theorem uW {es:List VV} {e:Nat} (he:∀x∈es,(aB x).length=e) (i:Nat):(es.flatMap aB).take (i*e)=(es.take i).flatMap aB:=by
 induction i generalizing es with
 | zero=>simp
 |
  succ i ih =>
  cases es with
  | nil=>simp
  |
   cons x xs =>
   have hx:=he x List.mem_cons_self
   rw[List.flatMap_cons,List.take_succ_cons,List.flatMap_cons,←ih fun y hy=>he y (List.mem_cons_of_mem _ hy),show (i+1)*e=(aB x).length+i*e by rw[hx,Nat.succ_mul];omega,List.take_append]
   simp
   exact List.take_of_length_le (by omega)
theorem MX {es:List VV} {e:Nat} (he:∀x∈es,(aB x).length=e) {j:Nat} {x:VV} (hx:es[j]? = some x):((es.flatMap aB).drop (j*e)).take e=aB x:=by
 obtain⟨bH,Gg⟩:=List.getElem?_eq_some_iff.1 hx
 rw[uT he,List.drop_eq_getElem_cons bH,Gg,List.flatMap_cons,List.take_append,←he x (List.mem_of_getElem? hx)]
 simp
theorem xQ {es new:List VV} {e:Nat} (he:∀x∈es,(aB x).length=e) (hn:∀x∈new,(aB x).length=e) (o:Nat):dG (es.flatMap aB) (o*e) (new.flatMap aB)=(dG es o new).flatMap aB:=by
 unfold dG
 rw[uW he,lF hn,show o*e+new.length*e=(o+new.length)*e by rw[Nat.add_mul],uT he]
 simp
theorem Jt {es:List VV} {j:Nat} {x:VV} (hj:j<es.length):dG es j [x]=es.set j x:=by
 unfold dG
 rw[List.set_eq_take_append_cons_drop,if_pos hj]
 simp
theorem Q6 {cs new:List VV} {o:Nat} (h:o+new.length≤cs.length):(dG cs o new).length=cs.length:=by
 unfold dG
 simp
 omega
theorem JQ {cs new:List VV} {o:Nat} {x:VV} (h:x∈dG cs o new):x∈cs∨x∈new:=by
 unfold dG at h
 rw[List.mem_append,List.mem_append] at h
 rcases h with(h | h) | h
 ·exact .inl (List.mem_of_mem_take h)
 ·exact .inr h
 ·exact .inl (List.mem_of_mem_drop h)
theorem oG {cs:List VV} (h:cs.all cC=true):aB (elemOf cs)=cs:=by
 unfold elemOf
 split
 ·rename_i x
  simp only[List.all_cons,List.all_nil,Bool.and_true] at h
  cases x<;>first | rfl | cases h
 ·rfl
theorem cW {H:aA} {b g:Nat} {es:List VV} {e:Nat} {w:Bool}:aH H b g=some (es,e,w)↔H[b]? = some (.row g es e w):=by
 unfold aH
 constructor
 ·intro h
  split at h
  ·rename_i hb
   split at h
   ·rename_i hg;subst hg;cases h;exact hb
   ·cases h
  ·cases h
 ·intro h
  rw[h]
  simp
end
structure SR (V:View) (lo eK:Nat):Prop where
 row:∀b g es e w,V.H[b]? = some (.row g es e w)→∃r p,V.P[V.m b]? = some (.row r e p)∧(∀x∈es,(aB x).length=e)∧VL V (es.flatMap aB) r
 wr:∀b g es e,V.H[b]? = some (.row g es e true)→¬V.F (V.m b)∧(lo≤b→eK≤V.m b)
 inj:∀a b g es e w g' nE e' w',V.H[a]? = some (.row g es e w)→V.H[b]? = some (.row g' nE e' w')→V.m a=V.m b→a=b
 fr:∀b,V.F b→b<V.P.length
 S9:eK≤V.P.length
 Kp:V.base≤V.P.length
structure E9 (lo:Nat) (V V':View):Prop extends Up V V' where
 cL:∀q,q<V.P.length→(∀b g es e,V.H[b]? = some (.row g es e true)→lo≤b→V.m b≠q)→V'.P[q]? = V.P[q]?
 CZ:∀q,V'.F q→V.F q∨V.P.length≤q∨∃b g es e w,V.H[b]? = some (.row g es e w)∧V.m b=q
section
variable {V V' QL:View} {lo:Nat}
theorem E9.refl (lo:Nat) (V:View):E9 lo V V :=
 { Up.refl V with cL:=fun _ _ _=>rfl,CZ:=fun _ h => .inl h }
theorem E9.trans (h:E9 lo V V') (h':E9 lo V' QL):E9 lo V QL :=
 { Up.trans h.toUp h'.toUp with
  cL:=fun q hq hn=>by
   rw[h'.cL q (Nat.lt_of_lt_of_le hq h.EJ) ?_,h.cL q hq hn]
   intro b g es e hb hl hm
   obtain⟨g1,Cy,w1,h1,h2,h3⟩:=h.B8 b g es e true hb (by rw[hm];exact hq)
   have:=h3 rfl
   subst this
   exact hn b g1 Cy e h1 hl (h2.symm.trans hm)
  CZ:=fun q hq=>by
   rcases h'.CZ q hq with h1 | h1 | ⟨b,g,es,e,w,h1,h2⟩
   ·exact h.CZ q h1
   ·exact .inr (.inl (Nat.le_trans h.EJ h1))
   ·rcases Nat.lt_or_ge q V.P.length with hl | hl
    ·obtain⟨g1,Cy,w1,h3,h4,_⟩:=h.B8 b g es e w h1 (by rw[h2];exact hl)
     exact .inr (.inr ⟨b,g1,Cy,e,w1,h3,h4.symm.trans h2⟩)
    ·exact .inr (.inl hl) }
end
end Go.PM
namespace Go.PM
def Yv (m:Nat→Nat) (b v:Nat):Nat→Nat:=fun k=>if k=b then v else m k
theorem mM {m:Nat→Nat} {b v:Nat}:Yv m b v b=v:=by simp[Yv]
theorem nT {m:Nat→Nat} {b v k:Nat} (h:k≠b):Yv m b v k=m k:=by simp[Yv,h]
section
variable {V:View} {lo eK:Nat}
theorem SR.mlt (hS:SR V lo eK) {b g e:Nat} {es:List VV} {w:Bool} (hb:V.H[b]? = some (.row g es e w)):V.m b<V.P.length:=by
 obtain⟨r,p,h,_⟩:=hS.row b g es e w hb
 exact(List.getElem?_eq_some_iff.1 h).1
theorem B9 (hS:SR V lo eK) (x:M7):SR { V with P:=V.P++[x],F:=fun q=>V.F q∨q=V.P.length } lo eK∧E9 lo V { V with P:=V.P++[x],F:=fun q=>V.F q∨q=V.P.length }:=by
 have hU:Up V { V with P:=V.P++[x],F:=fun q=>V.F q∨q=V.P.length }:=⟨fun _ h => .inl h,fun b hb=>List.getElem?_append_left (hS.fr b hb),Nat.le_refl _,fun b g es e w _ h=>⟨g,es,w,h,Nat.le_refl _,fun _=>rfl⟩,rfl,by simp,fun b g es e w hb _=>⟨g,es,w,hb,rfl,id⟩⟩
 refine⟨⟨fun b g es e w hb => ?_,fun b g es e hb=>⟨fun hF => ?_,(hS.wr b g es e hb).2⟩,hS.inj,fun b hb => ?_,by have:=hS.S9;simp;omega,by have:=hS.Kp;simp;omega⟩,{ hU with cL:=fun q hq _=>List.getElem?_append_left hq,CZ:=fun q hq => ?_ }⟩
 ·obtain⟨r,p,h1,h2,h3⟩:=hS.row b g es e w hb
  exact⟨r,p,by rw[←h1];exact List.getElem?_append_left (hS.mlt hb),h2,h3.mono hU⟩
 ·rcases hF with hF | hF
  ·exact(hS.wr b g es e hb).1 hF
  ·have h1:V.m b=V.P.length:=hF
   have:=hS.mlt hb
   omega
 ·rcases hb with hb | hb
  ·have:=hS.fr b hb
   simp;omega
  ·subst hb;simp
 ·rcases hq with hq | hq
  ·exact .inl hq
  ·exact .inr (.inl (by omega))
theorem sE (hS:SR V lo eK) {es:List VV} {r:List Value} {e:Nat} (p:Bool) (he:∀x∈es,(aB x).length=e) (hl:VL V (es.flatMap aB) r) :
  SR { V with m:=Yv V.m V.H.length V.P.length,H:=V.H++[.row 0 es e true],P:=V.P++[.row r e p] } lo eK∧E9 lo V { V with m:=Yv V.m V.H.length V.P.length,H:=V.H++[.row 0 es e true],P:=V.P++[.row r e p] }:=by
 have B8:∀b g nE e' w,(V.H++[cA.row 0 es e true])[b]? = some (.row g nE e' w)→(b=V.H.length∧g=0∧nE=es∧e'=e∧w=true)∨(b≠V.H.length∧V.H[b]? = some (.row g nE e' w)):=by
  intro b g nE e' w hb
  rcases Nat.lt_trichotomy b V.H.length with h | h | h
  ·rw[List.getElem?_append_left h] at hb
   exact .inr ⟨by omega,hb⟩
  ·subst h
   rw[List.getElem?_append_right (Nat.le_refl _)] at hb
   simp at hb
   obtain⟨h1,h2,h3,h4⟩:=hb
   exact .inl ⟨rfl,h1.symm,h2.symm,h3.symm,h4⟩
  ·rw[List.getElem?_eq_none (by simp;omega)] at hb
   cases hb
 have hU:Up V { V with m:=Yv V.m V.H.length V.P.length,H:=V.H++[.row 0 es e true],P:=V.P++[.row r e p] } :=
  ⟨fun _ h=>h,fun b hb=>List.getElem?_append_left (hS.fr b hb),by simp,fun b g' nE e' w' bH hb=>by
   rcases B8 b g' nE e' w' hb with⟨h,_⟩ | ⟨h,hb⟩
   ·omega
   ·exact⟨g',nE,w',hb,Nat.le_refl _,fun _=>nT h⟩,rfl,by simp,fun b g nE e' w hb hm=>by
   rcases B8 b g nE e' w hb with⟨rfl,_⟩ | ⟨h,hb⟩
   ·simp only[mM] at hm
    omega
   ·exact⟨g,nE,w,hb,nT h,id⟩⟩
 refine⟨⟨fun b g nE e' w hb => ?_,fun b g nE e' hb => ?_,fun a b g Cy e1 w1 g' Z3 e2 w2 ha hb hm => ?_,fun b hb=>by have:=hS.fr b hb;simp;omega,by have:=hS.S9;simp;omega,by have:=hS.Kp;simp;omega⟩,
  { hU with cL:=fun q hq _=>List.getElem?_append_left hq,CZ:=fun q hq => .inl hq }⟩
 ·rcases B8 b g nE e' w hb with⟨rfl,rfl,rfl,rfl,rfl⟩ | ⟨h,hb⟩
  ·exact⟨r,p,by simp only[mM];simp,he,hl.mono hU⟩
  ·obtain⟨r1,p1,h1,h2,h3⟩:=hS.row b g nE e' w hb
   refine⟨r1,p1,?_,h2,h3.mono hU⟩
   simp only[nT h]
   rw[List.getElem?_append_left (hS.mlt hb)]
   exact h1
 ·rcases B8 b g nE e' true hb with⟨rfl,_⟩ | ⟨h,hb⟩
  ·simp only[mM]
   exact⟨fun hF=>by have:=hS.fr _ hF;omega,fun _=>hS.S9⟩
  ·simp only[nT h]
   exact hS.wr b g nE e' hb
 ·rcases B8 a g Cy e1 w1 ha with⟨rfl,_⟩ | ⟨h,ha⟩
  ·rcases B8 b g' Z3 e2 w2 hb with⟨rfl,_⟩ | ⟨h',hb⟩
   ·rfl
   ·simp only[mM,nT h'] at hm
    have:=hS.mlt hb
    omega
  ·rcases B8 b g' Z3 e2 w2 hb with⟨rfl,_⟩ | ⟨h',hb⟩
   ·simp only[mM,nT h] at hm
    have:=hS.mlt ha
    omega
   ·simp only[nT h,nT h'] at hm
    exact hS.inj a b _ _ _ _ _ _ _ _ ha hb hm
theorem gV {H:aA} {b:Nat} {x:cA} (hb:b<H.length) {a:Nat} {y:cA} (h:(H.set b x)[a]? = some y):(a=b∧y=x)∨(a≠b∧H[a]? = some y):=by
 by_cases he:a=b
 ·subst he
  rw[List.getElem?_set_self hb] at h
  cases h
  exact .inl ⟨rfl,rfl⟩
 ·rw[List.getElem?_set_ne (Ne.symm he)] at h
  exact .inr ⟨he,h⟩
theorem DQ (hS:SR V lo eK) {b g e:Nat} {es nE:List VV} {r':List Value} (hb:V.H[b]? = some (.row g es e true)) (fG:lo≤b) (he:∀x∈nE,(aB x).length=e) (hl:VL V (nE.flatMap aB) r') {r:List Value} {p:Bool} (hp:V.P[V.m b]? = some (.row r e p)) :
  SR { V with H:=V.H.set b (.row g nE e true),P:=V.P.set (V.m b) (.row r' e p) } lo eK∧E9 lo V { V with H:=V.H.set b (.row g nE e true),P:=V.P.set (V.m b) (.row r' e p) }:=by
 have vL:=(List.getElem?_eq_some_iff.1 hb).1
 have MZ:=hS.mlt hb
 have hU:Up V { V with H:=V.H.set b (.row g nE e true),P:=V.P.set (V.m b) (.row r' e p) } :=
  ⟨fun _ h=>h,fun q hq=>List.getElem?_set_ne (fun h=>(hS.wr b g es e hb).1 (by rw[h];exact hq)),by simp,fun a g' Cy e1 w1 bH ha=>by
   rcases gV vL ha with⟨rfl,h⟩ | ⟨_,h⟩
   ·cases h
    exact⟨g,es,true,hb,Nat.le_refl _,fun _=>rfl⟩
   ·exact⟨g',Cy,w1,h,Nat.le_refl _,fun _=>rfl⟩,rfl,by simp,fun a g1 Cy e1 w1 ha _=>by
   rcases gV vL ha with⟨rfl,h⟩ | ⟨fQ,h⟩
   ·cases h
    exact⟨g,es,true,hb,rfl,fun _=>rfl⟩
   ·exact⟨g1,Cy,w1,h,rfl,id⟩⟩
 refine⟨⟨fun a g1 Cy e1 w1 ha => ?_,fun a g1 Cy e1 ha => ?_,fun a c g1 Cy e1 w1 g2 Z3 e2 w2 ha hc hm => ?_,fun q hq=>by have:=hS.fr q hq;simp;omega,by have:=hS.S9;simp;omega,by have:=hS.Kp;simp;omega⟩,
  { hU with cL:=fun q hq hn=>List.getElem?_set_ne (hn b g es e hb fG),CZ:=fun q hq => .inl hq }⟩
 ·rcases gV vL ha with⟨rfl,h⟩ | ⟨fQ,h⟩
  ·cases h
   exact⟨r',p,List.getElem?_set_self MZ,he,hl.mono hU⟩
  ·obtain⟨r1,p1,h1,h2,h3⟩:=hS.row a g1 Cy e1 w1 h
   exact⟨r1,p1,by rw[←h1];exact List.getElem?_set_ne (fun hm=>fQ (hS.inj _ _ _ _ _ _ _ _ _ _ h hb hm.symm)),h2,h3.mono hU⟩
 ·rcases gV vL ha with⟨rfl,h⟩ | ⟨fQ,h⟩
  ·cases h
   exact hS.wr _ _ _ _ hb
  ·exact hS.wr _ _ _ _ h
 ·rcases gV vL ha with⟨rfl,h⟩ | ⟨fQ,h⟩<;>rcases gV vL hc with⟨rfl,h'⟩ | ⟨Xj,h'⟩
  ·rfl
  ·exact hS.inj _ _ _ _ _ _ _ _ _ _ hb h' hm
  ·exact hS.inj _ _ _ _ _ _ _ _ _ _ h hb hm
  ·exact hS.inj _ _ _ _ _ _ _ _ _ _ h h' hm
theorem Te (hS:SR V lo eK) {b g e:Nat} {es nE:List VV} {r':List Value} (hb:V.H[b]? = some (.row g es e true)) (fG:lo≤b) (he:∀x∈nE,(aB x).length=e) (hl:VL V (nE.flatMap aB) r') {P1:aE} (hP:P1.length=V.P.length) (hk:∀q,q≠V.m b→P1[q]? = V.P[q]?) (p:Bool) :
  SR { V with m:=Yv V.m b V.P.length,H:=V.H.set b (.row (g+1) nE e true),P:=P1++[.row r' e p] } lo eK∧E9 lo V { V with m:=Yv V.m b V.P.length,H:=V.H.set b (.row (g+1) nE e true),P:=P1++[.row r' e p] }:=by
 have vL:=(List.getElem?_eq_some_iff.1 hb).1
 have MZ:=hS.mlt hb
 have sL:∀q,q<V.P.length→q≠V.m b→(P1++[M7.row r' e p])[q]? = V.P[q]? := fun q hq hn=>by rw[List.getElem?_append_left (by omega)];exact hk q hn
 have hU:Up V { V with m:=Yv V.m b V.P.length,H:=V.H.set b (.row (g+1) nE e true),P:=P1++[.row r' e p] } :=
  ⟨fun _ h=>h,fun q hq=>sL q (hS.fr q hq) (fun h=>(hS.wr b g es e hb).1 (by rw[←h];exact hq)),by simp,fun a g' Cy e1 w1 bH ha=>by
   rcases gV vL ha with⟨rfl,h⟩ | ⟨fQ,h⟩
   ·cases h
    exact⟨g,es,true,hb,by omega,fun h=>by omega⟩
   ·exact⟨g',Cy,w1,h,Nat.le_refl _,fun _=>nT fQ⟩,rfl,by simp;omega,fun a g1 Cy e1 w1 ha hm=>by
   rcases gV vL ha with⟨rfl,h⟩ | ⟨fQ,h⟩
   ·simp only[mM] at hm
    omega
   ·exact⟨g1,Cy,w1,h,nT fQ,id⟩⟩
 refine⟨⟨fun a g1 Cy e1 w1 ha => ?_,fun a g1 Cy e1 ha => ?_,fun a c g1 Cy e1 w1 g2 Z3 e2 w2 ha hc hm => ?_,fun q hq=>by have:=hS.fr q hq;simp;omega,by have:=hS.S9;simp;omega,by have:=hS.Kp;simp;omega⟩,
  { hU with cL:=fun q hq hn=>sL q hq (Ne.symm (hn b g es e hb fG)),CZ:=fun q hq => .inl hq }⟩
 ·rcases gV vL ha with⟨rfl,h⟩ | ⟨fQ,h⟩
  ·cases h
   refine⟨r',p,?_,he,hl.mono hU⟩
   simp only[mM]
   rw[←hP]
   simp
  ·obtain⟨r1,p1,h1,h2,h3⟩:=hS.row a g1 Cy e1 w1 h
   refine⟨r1,p1,?_,h2,h3.mono hU⟩
   simp only[nT fQ]
   rw[sL _ (hS.mlt h) (fun hm=>fQ (hS.inj _ _ _ _ _ _ _ _ _ _ h hb hm))]
   exact h1
 ·rcases gV vL ha with⟨rfl,h⟩ | ⟨fQ,h⟩
  ·cases h
   simp only[mM]
   exact⟨fun hF=>by have:=hS.fr _ hF;omega,fun _=>hS.S9⟩
  ·simp only[nT fQ]
   exact hS.wr _ _ _ _ h
 ·rcases gV vL ha with⟨rfl,h⟩ | ⟨fQ,h⟩<;>rcases gV vL hc with⟨rfl,h'⟩ | ⟨Xj,h'⟩
  ·rfl
  ·simp only[mM,nT Xj] at hm
   have:=hS.mlt h'
   omega
  ·simp only[mM,nT fQ] at hm
   have:=hS.mlt h
   omega
  ·simp only[nT fQ,nT Xj] at hm
   exact hS.inj _ _ _ _ _ _ _ _ _ _ h h' hm
def View.freeze (V:View) (b:Nat):View :=
 match V.H[b]? with
 | some (.row _ _ _ _)=>{ V with H:=Cc V.H b,F:=fun q=>V.F q∨q=V.m b }
 | _=>V
theorem QI (V:View) (b:Nat):(V.freeze b).H=Cc V.H b:=by
 unfold View.freeze Cc
 cases h:V.H[b]? with
 | none=>rfl
 | some x=>cases x<;>rfl
theorem abT (V:View) (b:Nat):(V.freeze b).P=V.P:=by
 unfold View.freeze
 split<;>rfl
theorem RI (V:View) (b:Nat):(V.freeze b).m=V.m:=by
 unfold View.freeze
 split<;>rfl
theorem PF (hS:SR V lo eK) (b:Nat):SR (V.freeze b) lo eK∧E9 lo V (V.freeze b)∧(∀g es e w,V.H[b]? = some (.row g es e w)→(V.freeze b).F (V.m b)):=by
 unfold View.freeze
 split
 case h_2 fQ=>exact⟨hS,E9.refl _ _,fun g es e w h=>absurd h (fQ _ _ _ _)⟩
 rename_i g es e w hb
 have vL:=(List.getElem?_eq_some_iff.1 hb).1
 have hf:Cc V.H b=V.H.set b (.row g es e false):=by unfold Cc;rw[hb]
 rw[hf]
 have hU:Up V { V with H:=V.H.set b (.row g es e false),F:=fun q=>V.F q∨q=V.m b } :=
  ⟨fun _ h => .inl h,fun _ _=>rfl,by simp,fun a g' Cy e1 w1 bH ha=>by
   rcases gV vL ha with⟨rfl,h⟩ | ⟨_,h⟩
   ·cases h
    exact⟨g,es,w,hb,Nat.le_refl _,fun _=>rfl⟩
   ·exact⟨g',Cy,w1,h,Nat.le_refl _,fun _=>rfl⟩,rfl,Nat.le_refl _,fun a g1 Cy e1 w1 ha hm=>by
   rcases gV vL ha with⟨rfl,h⟩ | ⟨fQ,h⟩
   ·cases h
    exact⟨g,es,w,hb,rfl,fun h=>by cases h⟩
   ·exact⟨g1,Cy,w1,h,rfl,id⟩⟩
 refine⟨⟨fun a g1 Cy e1 w1 ha => ?_,fun a g1 Cy e1 ha => ?_,fun a c g1 Cy e1 w1 g2 Z3 e2 w2 ha hc hm => ?_,fun q hq => ?_,hS.S9,hS.Kp⟩,
  { hU with cL:=fun q hq hn=>rfl,CZ:=fun q hq => ?_ },fun _ _ _ _ _ => .inr rfl⟩
 ·rcases gV vL ha with⟨rfl,h⟩ | ⟨fQ,h⟩
  ·cases h
   obtain⟨r1,p1,h1,h2,h3⟩:=hS.row _ _ _ _ _ hb
   exact⟨r1,p1,h1,h2,h3.mono hU⟩
  ·obtain⟨r1,p1,h1,h2,h3⟩:=hS.row _ _ _ _ _ h
   exact⟨r1,p1,h1,h2,h3.mono hU⟩
 ·rcases gV vL ha with⟨rfl,h⟩ | ⟨fQ,h⟩
  ·cases h
  ·refine⟨fun hF => ?_,(hS.wr _ _ _ _ h).2⟩
   rcases hF with hF | hF
   ·exact(hS.wr _ _ _ _ h).1 hF
   ·exact fQ (hS.inj _ _ _ _ _ _ _ _ _ _ h hb hF)
 ·rcases gV vL ha with⟨rfl,h⟩ | ⟨fQ,h⟩<;>rcases gV vL hc with⟨rfl,h'⟩ | ⟨Xj,h'⟩
  ·rfl
  ·exact hS.inj _ _ _ _ _ _ _ _ _ _ hb h' hm
  ·exact hS.inj _ _ _ _ _ _ _ _ _ _ h hb hm
  ·exact hS.inj _ _ _ _ _ _ _ _ _ _ h h' hm
 ·rcases hq with hq | hq
  ·exact hS.fr q hq
  ·subst hq;exact hS.mlt hb
 ·rcases hq with hq | hq
  ·exact .inl hq
  ·exact .inr (.inr ⟨b,g,es,e,w,hb,hq.symm⟩)
end
end Go.PM
namespace Go.PM
section
variable {V:View} {lo eK:Nat} {ρ:dH} {lD:Env}
def ER (V:View) (ρ:dH) (lD:Env):Prop:=∀t,VR V (ρ t) (lD t)
theorem ER.mono {V':View} (u:Up V V') (h:ER V ρ lD):ER V' ρ lD:=fun t=>(h t).mono u
theorem ER.ev (h:ER V ρ lD) (x:Operand):VR V (eQ ρ x) (ev lD x):=by
 cases x with
 | tmp t=>exact h t
 | const v=>exact VR.inj v
 | global g=>exact .any _
 | func f=>exact .vM f [] [] .nil
theorem ER.put {d:Option Nat} {x:VV} {v:Value} (h:ER V ρ lD) (hx:VR V x v):ER V (J7 ρ d x) (put lD d v):=by
 cases d with
 | none=>exact h
 |
  some d =>
  intro t
  simp only[J7,PM.put]
  split
  ·exact hx
  ·exact h t
theorem ER.evs (h:ER V ρ lD) (xs:List Operand):VL V (xs.map (eQ ρ)) (xs.map (PM.ev lD)):=VL.map fun x _=>h.ev x
def hJ (lo eK:Nat) (V:View) (r:Option (Value×aE)) (v:VV) (H':aA):Prop :=
 ∃pv V',r=some (pv,V'.P)∧V'.H=H'∧SR V' lo eK∧E9 lo V V'∧VR V' v pv
theorem hJ.pure (hS:SR V lo eK) {r:Option Value} {v:VV} {pv:Value} (h:r=some pv) (hv:VR V v pv):hJ lo eK V (r.map (·,V.P)) v V.H :=
 ⟨pv,V,by rw[h];rfl,rfl,hS,E9.refl _ _,hv⟩
theorem hJ.of {V':View} {pv:Value} {v:VV} (h:SR V' lo eK∧E9 lo V V') (hv:VR V' v pv):hJ lo eK V (some (pv,V'.P)) v V'.H:=⟨pv,V',rfl,rfl,h.1,h.2,hv⟩
theorem hJ.same (hS:SR V lo eK) {v:VV} {pv:Value} (hv:VR V v pv):hJ lo eK V (some (pv,V.P)) v V.H :=
 ⟨pv,V,rfl,rfl,hS,E9.refl _ _,hv⟩
theorem cS {α β:Type} {o:Option α} {f:α→β} {b:β} (h:o.map f=some b):∃a,o=some a∧f a=b:=by
 cases o with
 | none=>cases h
 | some a=>cases h;exact⟨a,rfl,rfl⟩
theorem rZ {x:VV} {v u:Value} (h:VR V x u) (hx:x = .sc v):u=v∧lQ v=true:=by
 subst hx
 cases h with
 | sc v h=>exact⟨rfl,h⟩
theorem abN {op:BinOp} {a b c:Value} (h:dU op a b=some c):lQ c=true:=by
 unfold dU at h
 split at h
 ·split at h<;>cases h;rfl
 ·split at h<;>cases h;rfl
 ·split at h
  ·split at h<;>first | (cases h;rfl) | (split at h<;>cases h<;>rfl) | cases h
  ·cases h
 ·split at h<;>first | (cases h;rfl) | (split at h<;>cases h<;>rfl) | cases h
 ·cases h
theorem agL {op:UnOp} {a c:Value} (h:pun op a=some c):lQ c=true:=by
 unfold pun at h
 split at h<;>cases h<;>rfl
theorem Zd {n:Bool} {a b c:Value} (h:Nh n a b=some c):lQ c=true:=by
 unfold Nh at h
 split at h<;>cases h;rfl
theorem ZI {k:IntKind} {a c:Value} (h:Uz k a=some c):lQ c=true:=by
 unfold Uz at h
 split at h<;>cases h;rfl
theorem abI {a c:Value} (h:WA a=some c):lQ c=true:=by
 unfold WA at h
 split at h<;>cases h;rfl
theorem XB {a c:Value} (h:BK a=some c):lQ c=true:=by
 unfold BK at h
 split at h<;>cases h;rfl
theorem Xp {a b c:Value} (h:Gy a b=some c):lQ c=true:=by
 unfold Gy at h
 split at h
 ·split at h<;>cases h;rfl
 ·cases h
theorem abQ {a b c:Value} (h:Q8 a b=some c):lQ c=true:=by
 unfold Q8 at h
 split at h<;>cases h;rfl
theorem acD {a b c:Value} (h:QG a b=some c):lQ c=true:=by
 unfold QG at h
 split at h<;>cases h;rfl
theorem Ef (hS:SR V lo eK) {f:Value→Option Value} (hf:∀a c,f a=some c→lQ c=true) {x v:VV} {u:Value} (hx:VR V x u) (h:Mw f x=some v):hJ lo eK V ((f u).map (·,V.P)) v V.H:=by
 unfold Mw at h
 split at h
 ·obtain⟨h1,_⟩:=rZ hx rfl
  subst h1
  obtain⟨c,hc,rfl⟩:=cS h
  exact hJ.pure hS hc (.sc _ (hf _ _ hc))
 ·cases h
theorem Bm (hS:SR V lo eK) {f:Value→Value→Option Value} (hf:∀a b c,f a b=some c→lQ c=true) {x y v:VV} {u w:Value} (hx:VR V x u) (hy:VR V y w) (h:IL f x y=some v):hJ lo eK V ((f u w).map (·,V.P)) v V.H:=by
 unfold IL at h
 split at h
 ·obtain⟨h1,_⟩:=rZ hx rfl
  obtain⟨h2,_⟩:=rZ hy rfl
  subst h1 h2
  obtain⟨c,hc,rfl⟩:=cS h
  exact hJ.pure hS hc (.sc _ (hf _ _ _ hc))
 ·cases h
theorem Um {α:Type} (l:List α) {o n a k:Nat} (h:a+k≤n):(((l.drop o).take n).drop a).take k=(l.drop (o+a)).take k:=by
 rw[List.drop_take,List.take_take,List.drop_drop,Nat.min_eq_left (by omega)]
theorem SZ {x v:VV} {agg:Bool} {size off b o e:Nat} {r:List Value} {p:Bool} (hb:V.P[b]? = some (.row r e p)) (ho:o+(aB x).length≤r.length) (hl:VL V (aB x) ((r.drop o).take (aB x).length)) (h:dK agg size x off=some v) :
  ∃u,oM agg size (.pointer (some ⟨b,o+off,none⟩)) V.P=some u∧VR V v u:=by
 unfold dK at h
 cases agg with
 |
  true =>
  simp only[if_true] at h
  split at h
  ·rename_i hs
   cases h
   refine⟨.agg ((r.drop (o+off)).take size).toArray,?_,.agg _ _ ?_⟩
   ·simp only[oM,if_true,Br hb (show o+off+size≤r.length by omega)]
    rfl
   ·have:=(hl.drop off).take size
    rw[Um _ hs] at this
    exact this
  ·cases h
 |
  false =>
  simp only[Bool.false_eq_true,if_false] at h
  obtain⟨u,hu,hv⟩:=hl.get h
  have alL:=(List.getElem?_eq_some_iff.1 h).1
  rw[List.getElem?_take,if_pos alL,List.getElem?_drop] at hu
  refine⟨u,?_,hv⟩
  have bH:=(List.getElem?_eq_some_iff.1 hu).1
  simp only[oM,Bool.false_eq_true,if_false,Br hb (show o+off+1≤r.length by omega)]
  rw[List.drop_eq_getElem_cons bH]
  simp only[List.take_succ_cons,List.take_zero]
  rw[List.getElem?_eq_getElem bH] at hu
  injection hu with hu
  rw[hu]
theorem Ld (hS:SR V lo eK) {b g e j:Nat} {es:List VV} {w:Bool} {x:VV} (hb:V.H[b]? = some (.row g es e w)) (hx:es[j]? = some x) :
  ∃r p,V.P[V.m b]? = some (.row r e p)∧(aB x).length=e∧j*e+(aB x).length≤r.length∧VL V (aB x) ((r.drop (j*e)).take (aB x).length):=by
 obtain⟨r,p,h1,h2,h3⟩:=hS.row b g es e w hb
 have hxe:=h2 x (List.mem_of_getElem? hx)
 have hj:=(List.getElem?_eq_some_iff.1 hx).1
 have hlen:=h3.length
 rw[lF h2] at hlen
 have hm:(j+1)*e≤es.length*e:=Nat.mul_le_mul_right _ hj
 rw[Nat.succ_mul] at hm
 refine⟨r,p,h1,hxe,by omega,?_⟩
 have:=(h3.drop (j*e)).take e
 rw[MX h2 hx] at this
 rw[hxe]
 exact this
theorem L7 (hS:SR V lo eK) {p v:VV} {u:Value} {agg:Bool} {size:Nat} (hp:VR V p u) (h:cN agg size p V.H=some v):∃w,oM agg size u V.P=some w∧VR V v w:=by
 unfold cN at h
 split at h
 ·cases hp with
  | dB x off b o r e p hF hb ho hl=>exact SZ hb ho hl h
 ·split at h
  ·rename_i es e w hr
   rw[cW] at hr
   split at h
   ·rename_i x hx
    cases hp with
    |
     ptr b g j off a bH hg ha hq =>
     have:=ha _ _ _ hr
     subst this
     obtain⟨r,p,h1,h2,h3,h4⟩:=Ld hS hr hx
     exact SZ h1 h3 h4 h
   ·cases h
  ·cases h
 ·cases h
theorem R8 (hS:SR V lo eK) {x i v:VV} {u k:Value} {size:Nat} (hx:VR V x u) (hi:VR V i k) (h:bP size x i V.H=some v):∃w,PH size u k=some w∧VR V v w:=by
 unfold bP at h
 split at h
 ·rename_i es tk ik i
  obtain⟨rfl,_⟩:=rZ hi rfl
  split at h
  ·rename_i h0
   split at h
   ·rename_i y hy
    split at h
    ·rename_i C0
     cases h
     have bH:=(List.getElem?_eq_some_iff.1 hy).1
     cases hx with
     | pB=>simp at bH
     |
      tree es k b o c r e p hF hb ho hc he hk hl =>
      have hye:=he y (List.mem_of_getElem? hy)
      have Nq:e=size:=by omega
      subst Nq
      have hm:(i.toNat+1)*e≤es.length*e:=Nat.mul_le_mul_right _ bH
      rw[Nat.succ_mul] at hm
      refine⟨_,Sy h0 (by omega),?_⟩
      have h1:=(hl.drop (i.toNat*e)).take e
      rw[MX he hy,Um _ (by omega)] at h1
      exact .dB y 0 b (o+i.toNat*e) r e p hF hb (by omega) (by rw[hye];exact h1)
    ·cases h
   ·cases h
  ·cases h
 ·rename_i b g o n c ik i
  obtain⟨rfl,_⟩:=rZ hi rfl
  split at h
  ·rename_i es e w hr
   rw[cW] at hr
   split at h
   ·rename_i hc
    obtain⟨rfl,h0,h1⟩:=hc
    cases h
    cases hx with
    |
     ref b g o n c a n' c' bH hg ha hq =>
     obtain⟨rfl,rfl,rfl⟩:=ha _ _ _ hr
     refine⟨_,Sy h0 h1,.ptr b g (o+i.toNat) 0 _ bH hg (fun nE e' w' Fh => ?_) fun a0 h=>by cases h;exact hq ⟨V.m b,o*e,none⟩ rfl⟩
     rw[hr] at Fh
     cases Fh
     rw[Nat.add_mul,Nat.add_zero]
   ·cases h
  ·cases h
 ·cases h
theorem Bi {l:Option Operand} {lv:Option Value} (hE:ER V ρ lD) (h:Hz (l.map (eQ ρ))=some lv):l.map (ev lD)=lv:=by
 cases l with
 | none=>cases h;rfl
 |
  some x =>
  simp only[Option.map_some,Hz] at h
  split at h
  ·rename_i hv;cases hv
  ·rename_i v hv
   cases h
   injection hv with hv
   obtain⟨h1,_⟩:=rZ (hE.ev x) hv
   rw[Option.map_some,h1]
  ·cases h
theorem IW {v:Option Value} {d:Option Nat} {t x:Nat} (hd:∀y,d=some y→y≤t) (h:fD v d t=some x):x≤t:=by
 unfold fD at h
 split at h
 ·exact hd _ h
 ·split at h
  ·cases h;omega
  ·cases h
 ·cases h
theorem Ob {v:Option Value} {d d':Option Nat} {t t' x:Nat} (ht:t≤t') (hd:v=none→d=d') (h:fD v d t=some x):fD v d' t'=some x:=by
 unfold fD at h ⊢
 cases v with
 | none=>rw[←hd rfl];exact h
 |
  some v =>
  cases v with
  |
   int k i =>
   simp only at h ⊢
   split at h
   ·rename_i h1;rw[if_pos (by omega)];exact h
   ·cases h
  | _=>simp only at h ⊢;exact h
theorem Oj (hS:SR V lo eK) (size:Nat):hJ lo eK V (some (.slice (some ⟨V.P.length,0,none⟩) 0 0,V.P++[.row [] size false])) (.tree [] (.cl size)) V.H:=by
 exact(hJ.of (B9 hS (.row [] size false)) (.tree [] (.cl size) V.P.length 0 0 [] size false (.inr rfl) (by simp) (by simp) (by simp) (fun x hx=>by cases hx) ⟨rfl,rfl,rfl⟩ (by simp;exact .nil)) :)
theorem XS (hS:SR V lo eK) (hE:ER V ρ lD) {x v:VV} {u:Value} {size:Nat} {l h m:Option Operand} (hx:VR V x u) (hv:Gb size x (l.map (eQ ρ)) (h.map (eQ ρ)) (m.map (eQ ρ)) V.H=some v) :
  hJ lo eK V (CS size u (l.map (ev lD)) (h.map (ev lD)) (m.map (ev lD)) V.P) v V.H:=by
 unfold Gb at hv
 split at hv
 case h_2=>cases hv
 rename_i lv hhv mv hl hh hm
 rw[Bi hE hl,Bi hE hh,Bi hE hm]
 split at hv
 ·rename_i y ys tk
  split at hv
  case isFalse=>cases hv
  rename_i C0
  split at hv
  ·cases hv
  rename_i m0 hm0
  split at hv
  ·cases hv
  rename_i h0 hh0
  split at hv
  ·cases hv
  rename_i l0 Ak
  cases hx with
  |
   tree es k b o c r e p hF hb ho hc he hk hl =>
   have Nq:e=size:=by rw[←he y List.mem_cons_self];exact C0
   subst Nq
   have hlen:(y::ys).length=ys.length+1:=rfl
   rw[hlen] at ho hc
   have b1:m0≤ys.length+1:=IW (fun z hz=>by injection hz with hz;omega) hm0
   have b2:h0≤m0:=by
    refine IW (fun z hz => ?_) hh0
    split at hz
    ·cases hz
    ·rename_i hmn
     injection hz with hz
     have:mv=none:=by cases mv<;>simp_all
     subst this
     simp[fD] at hm0
     omega
   have b3:l0≤h0:=IW (fun z hz=>by injection hz with hz;omega) Ak
   have e1:fD mv (some c) c=some (if mv.isSome then m0 else c):=by
    cases mv with
    | none=>rfl
    | some q=>exact Ob hc (fun hq=>by cases hq) hm0
   have e2:fD hhv (if mv.isSome then none else some (ys.length+1)) (if mv.isSome then m0 else c)=some h0:=by
    cases mv with
    |
     none =>
     simp only[Option.isSome_none,Bool.false_eq_true,if_false] at hh0 ⊢
     exact Ob (by omega) (fun _=>rfl) hh0
    | some q=>exact hh0
   unfold CS
   simp only[hb,if_true]
   rw[e1]
   simp only
   rw[hlen,e2]
   simp only
   rw[Ak]
   simp only
   by_cases lO:mv.isSome=true∧m0=l0
   ·rw[if_pos lO] at hv
    cases hv
    rw[if_pos ⟨lO.1,by rw[if_pos lO.1];exact lO.2⟩]
    exact Oj hS e
   ·rw[if_neg lO] at hv
    cases hv
    rw[if_neg (fun hh=>lO ⟨hh.1,by have:=hh.2;rw[if_pos hh.1] at this;exact this⟩)]
    have bH:(((y::ys).drop l0).take (h0-l0)).length=h0-l0:=by simp;omega
    have O3:l0*e+(h0-l0)*e=h0*e:=by rw[←Nat.add_mul];congr 1;omega
    have hm2:h0*e≤(ys.length+1)*e:=Nat.mul_le_mul_right _ (by omega)
    have Qj:h0-l0≤(if mv.isSome then m0 else c)-l0:=by split<;>omega
    have:=VR.tree (V:=V) (((y::ys).drop l0).take (h0-l0)) .op b (o+l0*e) ((if mv.isSome then m0 else c)-l0) r e p hF hb (by rw[bH];omega) (by rw[bH];exact Qj) (fun z hz=>he z (List.mem_of_mem_drop (List.mem_of_mem_take hz))) trivial (by
     rw[bH]
     have h1:=(hl.drop (l0*e)).take ((h0-l0)*e)
     rw[Um _ (by rw[hlen];omega),uT he,uW (fun z hz=>he z (List.mem_of_mem_drop hz))] at h1
     exact h1)
    rw[bH] at this
    exact hJ.same hS this
 ·rename_i b g o n c
  split at hv
  case h_2=>cases hv
  rename_i es e w hr
  rw[cW] at hr
  split at hv
  case isFalse=>cases hv
  rename_i C0
  subst C0
  split at hv
  ·cases hv
  rename_i m0 hm0
  split at hv
  ·cases hv
  rename_i h0 hh0
  split at hv
  ·cases hv
  rename_i l0 Ak
  cases hx with
  |
   ref b g o n c a n' c' bH hg ha hq =>
   obtain⟨rfl,rfl,rfl⟩:=ha _ _ _ hr
   obtain⟨r,p,h1,_⟩:=hS.row b g es e w hr
   unfold CS
   simp only[h1,if_true]
   rw[hm0]
   simp only
   rw[hh0]
   simp only
   rw[Ak]
   simp only
   by_cases lO:mv.isSome=true∧m0=l0
   ·rw[if_pos lO] at hv
    cases hv
    rw[if_pos lO]
    exact Oj hS e
   ·rw[if_neg lO] at hv
    cases hv
    rw[if_neg lO]
    refine hJ.same hS (.ref b g (o+l0) _ _ _ _ _ bH hg (fun nE e' w' Fh => ?_) fun a0 h=>by cases h;exact hq ⟨V.m b,o*e,none⟩ rfl)
    rw[hr] at Fh
    cases Fh
    exact⟨by rw[Nat.add_mul],rfl,rfl⟩
 ·cases hv
theorem BJ {es:List VV} (h:(es.all fun x=>(aB x).all cC)=true):(es.flatMap aB).all cC=true:=by
 rw[List.all_eq_true] at h ⊢
 intro x hx
 obtain⟨y,hy,AY⟩:=List.mem_flatMap.1 hx
 exact List.all_eq_true.1 (h y hy) x AY
theorem xJ (hS:SR V lo eK) {y:VV} {u:Value} {size:Nat} {new:List VV} (hy:VR V y u) (h:dF size y V.H=some new) :
  tD u=some new.length∧(∀x∈new,(aB x).length=size)∧(new.flatMap aB).all cC=true∧∀n,n≤new.length→∃pn,jV V.P size n u=some pn∧VL V ((new.take n).flatMap aB) pn:=by
 unfold dF at h
 split at h
 ·rename_i es tk
  split at h
  case isFalse=>cases h
  rename_i mD
  cases h
  have acF:∀x∈new,(aB x).length=size∧(aB x).all cC=true:=fun x hx=>by
   have:=List.all_eq_true.1 mD x hx
   simpa using this
  refine⟨?_,fun x hx=>(acF x hx).1,BJ (List.all_eq_true.2 fun x hx=>(acF x hx).2),fun n hn => ?_⟩
  ·cases hy<;>rfl
  ·cases hy with
   |
    pB k hk =>
    have:n=0:=by simpa using hn
    subst this
    exact⟨[],rfl,by simp;exact .nil⟩
   |
    tree es k b o c r e p hF hb ho hc he hk hl =>
    cases Nq:new with
    |
     nil =>
     rw[Nq] at hn
     have:n=0:=by simpa using hn
     subst this
     refine⟨[],?_,by simp;exact .nil⟩
     simp only[jV,Nat.zero_mul]
     rw[Br hb (by omega)]
     simp
    |
     cons x xs =>
     have Qo:e=size:=by rw[←he x (by rw[Nq];exact List.mem_cons_self)];exact(acF x (by rw[Nq];exact List.mem_cons_self)).1
     subst Qo
     have hm:n*e≤new.length*e:=Nat.mul_le_mul_right _ hn
     refine⟨_,by simp only[jV];exact Br hb (by omega),?_⟩
     rw[←Nq,←uW he]
     have h1:=hl.take (n*e)
     rw[List.take_take,Nat.min_eq_left hm] at h1
     exact h1
 ·rename_i b g o n c
  split at h
  case h_2=>cases h
  rename_i es e w hr
  rw[cW] at hr
  split at h
  case isFalse=>cases h
  rename_i hc
  obtain⟨rfl,hlen,mD⟩:=hc
  cases h
  obtain⟨r,p,h1,h2,h3⟩:=hS.row b g es e w hr
  have hn2:((es.drop o).take n).length=n:=by simp;omega
  have AX:=h3.length
  rw[lF h2] at AX
  cases hy with
  |
   ref b g o n c a n' c' bH hg ha hq =>
   obtain⟨rfl,rfl,rfl⟩:=ha _ _ _ hr
   have ZX:∀x∈(es.drop o).take n',(aB x).length=e:=fun x hx=>h2 x (List.mem_of_mem_drop (List.mem_of_mem_take hx))
   refine⟨by rw[hn2];rfl,ZX,BJ mD,fun k hk => ?_⟩
   rw[hn2] at hk
   have hm:(o+k)*e≤es.length*e:=Nat.mul_le_mul_right _ (by omega)
   rw[Nat.add_mul] at hm
   refine⟨_,by simp only[jV];exact Br h1 (by omega),?_⟩
   rw[List.take_take,Nat.min_eq_left hk]
   have h4:=(h3.drop (o*e)).take (k*e)
   rw[uT h2,uW (fun x hx=>h2 x (List.mem_of_mem_drop hx))] at h4
   exact h4
 ·rename_i s
  split at h
  case isFalse=>cases h
  rename_i hs
  subst hs
  cases h
  obtain⟨rfl,_⟩:=rZ hy rfl
  have hlen:(s.data.toList.map fun b=>VV.sc (.int .u8 (b.toNat:Int))).length=s.size:=by simp
  refine⟨by rw[hlen];rfl,fun x hx => ?_,?_,fun n hn => ?_⟩
  ·obtain⟨b,_,rfl⟩:=List.mem_map.1 hx
   rfl
  ·refine BJ (List.all_eq_true.2 fun x hx => ?_)
   obtain⟨b,_,rfl⟩:=List.mem_map.1 hx
   rfl
  ·refine⟨(s.data.toList.take n).map fun b=>Value.int .u8 (b.toNat:Int),by simp only[jV,if_true],?_⟩
   rw[←List.map_take,List.flatMap_map]
   have:((s.data.toList.take n).flatMap fun a=>aB (VV.sc (.int .u8 (a.toNat:Int))))=(s.data.toList.take n).map fun a=>VV.sc (.int .u8 (a.toNat:Int)):=by
    generalize s.data.toList.take n=l
    induction l with
    | nil=>rfl
    | cons a l ih=>rw[List.flatMap_cons,ih];rfl
   rw[this]
   exact VL.map fun b _ => .sc _ rfl
 ·cases h
end
end Go.PM
namespace Go.PM
section
variable {V:View} {lo eK:Nat} {ρ:dH} {lD:Env}
theorem Kq (hS:SR V lo eK) {es:List VV} {r:List Value} {e n c:Nat} {p:Bool}:VR { V with m:=Yv V.m V.H.length V.P.length,H:=V.H++[.row 0 es e true],P:=V.P++[.row r e p] } (.ref V.H.length 0 0 n c) (.slice (some ⟨V.P.length,0,none⟩) n c):=by
 refine .ref _ _ _ _ _ _ _ _ (by simp) (fun g' es e w _=>Nat.zero_le _) (fun nE e' w' h=>⟨?_,rfl,rfl⟩) fun a0 ha => ?_
 ·simp only[mM,Nat.zero_mul]
 ·cases ha
  refine⟨hS.Kp,by simp,fun b' g' nE e' w' hb fQ hm => ?_⟩
  have uC:(V.H++[cA.row 0 es e true])[b']? = some (.row g' nE e' w'):=hb
  have bH:b'<V.H.length:=by
   have:=(List.getElem?_eq_some_iff.1 uC).1
   simp at this
   omega
  rw[List.getElem?_append_left bH] at uC
  have h2:=hS.mlt uC
  simp only[nT (show b'≠V.H.length by omega)] at hm
  omega
theorem VO (hS:SR V lo eK) {es:List VV} {r:List Value} {e:Nat} {p:Bool}:VR { V with m:=Yv V.m V.H.length V.P.length,H:=V.H++[.row 0 es e true],P:=V.P++[.row r e p] } (.ptr V.H.length 0 0 0) (.pointer (some ⟨V.P.length,0,none⟩)):=by
 refine .ptr _ _ _ _ _ (by simp) (fun g' es e w _=>Nat.zero_le _) (fun nE e' w' h => ?_) fun a0 ha => ?_
 ·simp only[mM,Nat.zero_mul]
 ·cases ha
  refine⟨hS.Kp,by simp,fun b' g' nE e' w' hb fQ hm => ?_⟩
  have uC:(V.H++[cA.row 0 es e true])[b']? = some (.row g' nE e' w'):=hb
  have bH:b'<V.H.length:=by
   have:=(List.getElem?_eq_some_iff.1 uC).1
   simp at this
   omega
  rw[List.getElem?_append_left bH] at uC
  have h2:=hS.mlt uC
  simp only[nT (show b'≠V.H.length by omega)] at hm
  omega
theorem G5 (hS:SR V lo eK) {x v:VV} {u:Value} {size bytes:Nat} {nw:List VV} {pn:List Value} {H':aA} (hx:VR V x u) (hn:∀x∈nw,(aB x).length=size) (wX:(nw.flatMap aB).all cC=true) (hl:VL V (nw.flatMap aB) pn) (h:eE lo size bytes x nw V.H=some (v,H')) :
  hJ lo eK V (eU eK size bytes u nw.length pn V.P) v H':=by
 unfold eE at h
 split at h
 case isFalse=>cases h
 rename_i hbs
 have MZ:pn.length=nw.length*size:=by rw[hl.length,lF hn]
 unfold eU
 rw[if_pos ⟨hbs.1,hbs.2,hl.gE wX,MZ⟩]
 split at h
 ·cases hx with
  | tree es k b o c r e p hF hb ho hc he hk hl=>exact hk.elim
  |
   pB =>
   simp only[and_self,if_true]
   split at h
   ·rename_i h0
    cases h
    rw[if_pos h0]
    exact hJ.same hS (.pB _ (.inr rfl))
   ·rename_i h0
    split at h
    case isFalse=>cases h
    rename_i h1
    cases h
    rw[if_neg h0,if_pos h1]
    exact(hJ.of (sE hS (es:=nw) (r:=pn) (e:=size) true hn hl) (Kq hS) :)
 ·rename_i es e
  split at h
  case isFalse=>cases h
  rename_i Nq
  subst Nq
  cases hx with
  | pB k hk=>rcases hk with hk | hk<;>cases hk
  |
   tree es k b o c r e' p hF hb ho hc he hk B7 =>
   obtain⟨h1,h2,h3⟩:=hk
   subst h1 h2 h3
   simp only[hb]
   rw[if_pos ⟨trivial,ho⟩]
   split at h
   ·rename_i h0
    cases h
    rw[if_pos (by omega),if_pos h0]
    exact hJ.same hS (.tree es _ b o _ r e false hF hb ho hc he ⟨rfl,rfl,rfl⟩ B7)
   ·rename_i h0
    split at h
    case isFalse=>cases h
    rename_i C0
    cases h
    rw[if_neg (by omega),if_pos C0]
    simp only[Bool.false_eq_true,if_false]
    have mD:∀x∈es++nw,(aB x).length=e:=fun x hx=>by
     rcases List.mem_append.1 hx with h | h
     ·exact he x h
     ·exact hn x h
    exact(hJ.of (sE hS (es:=es++nw) (r:=(r.drop o).take (es.length*e)++pn) (e:=e) true mD (by rw[List.flatMap_append];exact B7.append hl)) (Kq hS) :)
 ·rename_i b g o n c
  split at h
  case h_2=>cases h
  rename_i es e hr
  rw[cW] at hr
  split at h
  case isFalse=>cases h
  rename_i hc
  obtain⟨rfl,fG,hon⟩:=hc
  obtain⟨r,p,h1,h2,h3⟩:=hS.row b g es e true hr
  have AX:=h3.length
  rw[lF h2] at AX
  have EV:=(hS.wr b g es e hr).2 fG
  cases hx with
  |
   ref b g o n c a n' c' bH hg ha hq =>
   obtain⟨rfl,rfl,rfl⟩:=ha _ _ _ hr
   have hm:(o+n')*e≤es.length*e:=Nat.mul_le_mul_right _ hon
   rw[Nat.add_mul] at hm
   simp only[h1]
   rw[if_pos ⟨trivial,by omega⟩]
   split at h
   ·rename_i Yy
    rw[if_pos Yy]
    split at h
    ·rename_i h0
     cases h
     rw[if_pos h0]
     exact hJ.same hS (.ref _ _ _ _ _ _ _ _ bH hg ha hq)
    ·rename_i h0
     split at h
     case isFalse=>cases h
     rename_i rU
     cases h
     rw[if_neg h0]
     have hm2:(o+n'+nw.length)*e≤es.length*e:=Nat.mul_le_mul_right _ rU
     rw[Nat.add_mul,Nat.add_mul] at hm2
     have mD:∀x∈dG es (o+n') nw,(aB x).length=e:=fun x hx=>by
      rcases JQ hx with h | h
      ·exact h2 x h
      ·exact hn x h
     have E3:VL V ((dG es (o+n') nw).flatMap aB) (jK r (o*e+n'*e) pn):=by
      rw[←xQ h2 hn,Nat.add_mul]
      exact h3.jK hl _
     obtain⟨g1,g2⟩:=DQ hS hr fG mD E3 h1
     refine⟨.slice (some ⟨V.m b,o*e,none⟩) (n'+nw.length) c',{ V with H:=V.H.set b (.row g (dG es (o+n') nw) e true),P:=V.P.set (V.m b) (.row (jK r (o*e+n'*e) pn) e p) },?_,rfl,g1,g2,?_⟩
     ·unfold aE.write
      simp only[h1]
      rw[if_pos ⟨EV,by omega,hl.gE wX⟩]
      rfl
     ·refine .ref _ _ _ _ _ _ _ _ (by simpa using bH) (fun g' nE e' w' Fh => ?_) (fun nE e' w' Fh => ?_) fun a0 h=>by cases h;exact g2.toUp.hq (hq _ rfl)
      ·rcases gV bH Fh with⟨_,h⟩ | ⟨h,_⟩
       ·cases h;exact Nat.le_refl _
       ·exact absurd rfl h
      ·rcases gV bH Fh with⟨_,h⟩ | ⟨h,_⟩
       ·cases h;exact⟨rfl,rfl,rfl⟩
       ·exact absurd rfl h
   ·rename_i Yy
    split at h
    case isFalse=>cases h
    rename_i C0
    cases h
    rw[if_neg Yy,if_pos C0]
    have mD:∀x∈(es.drop o).take n'++nw,(aB x).length=e:=fun x hx=>by
     rcases List.mem_append.1 hx with h | h
     ·exact h2 x (List.mem_of_mem_drop (List.mem_of_mem_take h))
     ·exact hn x h
    have E3:VL V (((es.drop o).take n'++nw).flatMap aB) ((r.drop (o*e)).take (n'*e)++pn):=by
     rw[List.flatMap_append]
     refine VL.append ?_ hl
     have h4:=(h3.drop (o*e)).take (n'*e)
     rw[uT h2,uW (fun x hx=>h2 x (List.mem_of_mem_drop hx))] at h4
     exact h4
    have fin:∀P1:aE,P1.length=V.P.length→(∀q,q≠V.m b→P1[q]? = V.P[q]?) →
      hJ lo eK V (some (.slice (some ⟨V.P.length,0,none⟩) (n'+nw.length) (n'+nw.length),P1++[.row ((r.drop (o*e)).take (n'*e)++pn) e true])) (.ref b (g+1) 0 (n'+nw.length) (n'+nw.length)) (V.H.set b (.row (g+1) ((es.drop o).take n'++nw) e true)):=by
     intro P1 hP hk
     refine(hJ.of (Te hS hr fG mD E3 hP hk true) ?_ :)
     refine .ref _ _ _ _ _ _ _ _ (by simpa using bH) (fun g' nE e' w' Fh => ?_) (fun nE e' w' Fh => ?_) fun a0 h => ?_
     ·rcases gV bH Fh with⟨_,h⟩ | ⟨h,_⟩
      ·cases h;exact Nat.le_refl _
      ·exact absurd rfl h
     ·rcases gV bH Fh with⟨_,h⟩ | ⟨h,_⟩
      ·cases h;exact⟨by simp only[mM,Nat.zero_mul],rfl,rfl⟩
      ·exact absurd rfl h
     ·cases h
      refine⟨hS.Kp,by simp[hP],fun b' g' nE e' w' hb fQ hm => ?_⟩
      rcases gV bH hb with⟨h,_⟩ | ⟨_,h⟩
      ·exact fQ h
      ·simp only[nT fQ] at hm
       have:=hS.mlt h
       omega
    cases p with
    |
     true =>
     simp only[if_true,EV]
     exact fin (V.P.set (V.m b) .dead) (by simp) fun q hq=>List.getElem?_set_ne (Ne.symm hq)
    |
     false =>
     simp only[Bool.false_eq_true,if_false]
     exact fin V.P rfl fun _ _=>rfl
 ·cases h
theorem Q2 (hS:SR V lo eK) {p v:VV} {u w:Value} {size:Nat} {H':aA} (hp:VR V p u) (hv:VR V v w) (h:cD lo size p v V.H=some H'):hJ lo eK V (FL eK size u w V.P) qU H':=by
 unfold cD at h
 split at h
 case h_2=>cases h
 rename_i b g j o
 split at h
 case h_2=>cases h
 rename_i es e hr
 rw[cW] at hr
 split at h
 case h_2=>cases h
 rename_i x hx
 split at h
 case isFalse=>cases h
 rename_i hc
 obtain⟨C0,fG,wX⟩:=hc
 obtain⟨r,q,h1,h2,h3⟩:=hS.row b g es e true hr
 have AX:=h3.length
 rw[lF h2] at AX
 have EV:=(hS.wr b g es e hr).2 fG
 have hj:=(List.getElem?_eq_some_iff.1 hx).1
 have hxe:=h2 x (List.mem_of_getElem? hx)
 have hm:(j+1)*e≤es.length*e:=Nat.mul_le_mul_right _ hj
 rw[Nat.succ_mul] at hm
 have lO:=hv.cells (US wX)
 have hwl:(aN w).length=size:=by rw[lO.length,C0]
 cases hp with
 |
  ptr b g j off a bH hg ha hq =>
  have:=ha _ _ _ hr
  subst this
  have fin:∀y:VV,(aB y).length=e→o+size≤e→aB y=dG (aB x) o (aB v)→H'=V.H.set b (.row g (es.set j y) e true)→hJ lo eK V (FL eK size (.pointer (some ⟨V.m b,j*e+o,none⟩)) w V.P) qU H':=by
   intro y hy ho hye hH
   subst hH
   have mD:∀z∈es.set j y,(aB z).length=e:=fun z hz=>by
    rcases List.mem_or_eq_of_mem_set hz with h | h
    ·exact h2 z h
    ·subst h;exact hy
   have E3:VL V ((es.set j y).flatMap aB) (jK r (j*e+o) (aN w)):=by
    have e1:(es.set j y).flatMap aB=dG (es.flatMap aB) (j*e+o) (aB v):=by
     rw[←Jt hj,←xQ h2 (new:=[y]) (fun z hz=>by rw[List.mem_singleton] at hz;subst hz;exact hy)]
     simp only[List.flatMap_cons,List.flatMap_nil,List.append_nil]
     rw[hye]
     have hx2:=MX h2 hx
     unfold dG
     have t1:(es.flatMap aB).take (j*e+o)=(es.flatMap aB).take (j*e)++(aB x).take o:=by
      rw[List.take_add,←hx2,List.take_take,Nat.min_eq_left (by omega)]
     have t2:(es.flatMap aB).drop (j*e+o+(aB v).length)=(aB x).drop (o+(aB v).length)++(es.flatMap aB).drop (j*e+e):=by
      have t0:(es.flatMap aB).drop (j*e+e)=((es.flatMap aB).drop (j*e+(o+(aB v).length))).drop (e-(o+(aB v).length)):=by
       rw[List.drop_drop]
       congr 1
       omega
      rw[←hx2,List.drop_take,List.drop_drop,t0,List.take_append_drop,Nat.add_assoc]
     rw[t1,t2]
     have t3:(List.take o (aB x)++aB v++List.drop (o+(aB v).length) (aB x)).length=e:=by
      simp;omega
     rw[t3]
     simp only[List.append_assoc]
    rw[e1]
    exact h3.jK lO _
   obtain⟨g1,g2⟩:=DQ hS hr fG mD E3 h1
   refine⟨undef,{ V with H:=V.H.set b (.row g (es.set j y) e true),P:=V.P.set (V.m b) (.row (jK r (j*e+o) (aN w)) e q) },?_,rfl,g1,g2,.fN [] [] .nil⟩
   unfold FL
   simp only[hwl,if_true]
   unfold aE.write
   simp only[h1]
   rw[if_pos ⟨EV,by omega,lO.gE wX⟩]
   rfl
  split at h
  ·rename_i ho
   obtain⟨rfl,rfl⟩:=ho
   cases h
   refine fin v C0 (by omega) ?_ rfl
   unfold dG
   rw[Nat.zero_add,List.take_zero,List.nil_append,List.drop_of_length_le (by omega),List.append_nil]
  ·split at h
   case isFalse=>cases h
   rename_i ho
   cases h
   have QO:(dG (aB x) o (aB v)).length=e:=by rw[Q6 (by omega)];exact hxe
   exact fin (.agg (dG (aB x) o (aB v))) QO (by omega) rfl rfl
theorem Dw {z:List Value} (hz:(z.map jX).all cC=true):(aB (elemOf (z.map jX))).length=z.length:=by
 rw[oG hz,List.length_map]
theorem BQ {z:List Value} (hz:(z.map jX).all cC=true):∀n,VL V ((List.replicate n (elemOf (z.map jX))).flatMap aB) (dC n z):=by
 intro n
 have wX:z.all gE=true:=(VL.zero (V:=V) z).gE hz
 have ZE:dC n z=(List.replicate n ()).flatMap fun _=>z:=by
  rcases Nat.eq_zero_or_pos z.length with h0 | lT
  ·have:z=[]:=List.length_eq_zero_iff.1 h0
   subst this
   simp[dC]
  ·exact SO (enc:=fun(_:Unit)=>z) (fZ:=z.length) (x:=()) ⟨fun _=>rfl,fun _=>wX,lT⟩
 rw[ZE]
 clear ZE
 induction n with
 | zero=>exact .nil
 |
  succ n ih =>
  rw[List.replicate_succ,List.replicate_succ,List.flatMap_cons,List.flatMap_cons,oG hz]
  exact(VL.zero z).append ih
theorem TN (hS:SR V lo eK) {z:List Value} {bytes:Nat} {l c v:VV} {u w:Value} {H':aA} (hz:(z.map jX).all cC=true) (hl:VR V l u) (hc:VR V c w) (h:Bn z bytes l c V.H=some (v,H')):hJ lo eK V (VE z bytes u w V.P) v H':=by
 unfold Bn at h
 split at h
 case h_2=>cases h
 obtain⟨rfl,_⟩:=rZ hl rfl
 obtain⟨rfl,_⟩:=rZ hc rfl
 split at h
 case isFalse=>cases h
 rename_i Sz
 cases h
 unfold VE
 simp only[if_pos Sz]
 exact(hJ.of (sE hS (e:=z.length) false (fun x hx=>by rw[List.eq_of_mem_replicate hx];exact Dw hz) (BQ hz _)) (Kq hS) :)
theorem X3 (hS:SR V lo eK) {z:List Value} (hz:(z.map jX).all cC=true):hJ lo eK V (some (.pointer (some ⟨V.P.length,0,none⟩),V.P++[.row z z.length false])) (.ptr V.H.length 0 0 0) (V.H++[.row 0 [elemOf (z.map jX)] z.length true]):=by
 exact(hJ.of (sE hS (es:=[elemOf (z.map jX)]) (r:=z) (e:=z.length) false (fun x hx=>by rw[List.mem_singleton] at hx;subst hx;exact Dw hz) (by simp only[List.flatMap_cons,List.flatMap_nil,List.append_nil,oG hz];exact VL.zero z)) (VO hS) :)
theorem Xm (hS:SR V lo eK) {x v:VV} {u:Value} {H':aA} {bf:Bool} (hx:VR V x u) (hs:(aB x).all cC=true) (h:(if bf=true then some (VV.dB x 0,V.H) else some (VV.ptr V.H.length 0 0 0,V.H++[cA.row 0 [x] (aB x).length true]))=some (v,H')) :
  hJ lo eK V (if (aN u).all gE then some (.pointer (some ⟨V.P.length,0,none⟩),V.P++[.row (aN u) (aN u).length false]) else none) v H':=by
 have hc:=hx.cells (US hs)
 rw[if_pos (hc.gE hs)]
 split at h
 ·cases h
  have g:=B9 hS (.row (aN u) (aN u).length false)
  refine(hJ.of g ?_ :)
  have hm:=hc.mono g.2.toUp
  refine .dB x 0 V.P.length 0 (aN u) (aN u).length false (.inr rfl) (by simp) (by rw[hc.length];omega) ?_
  rw[List.drop_zero,List.take_of_length_le (by rw[hc.length];exact Nat.le_refl _)]
  exact hm
 ·cases h
  rw[hc.length]
  exact(hJ.of (sE hS (es:=[x]) (r:=aN u) (e:=(aB x).length) false (fun y hy=>by rw[List.mem_singleton] at hy;subst hy;rfl) (by simpa using hc)) (VO hS) :)
theorem take_set {α:Type} {l:List α} {i:Nat} {x:α} (h:i<l.length):l.set i x=l.take i++x::l.drop (i+1):=by
 rw[List.set_eq_take_append_cons_drop,if_pos h]
inductive T9 (V:View):List (Nat×VV)→List (Nat×Value)→Prop
 | nil:T9 V [] []
 | cons {i:Nat} {x:VV} {v:Value} {xs:List (Nat×VV)} {vs:List (Nat×Value)} (h:VR V x v) (hs:T9 V xs vs):T9 V ((i,x)::xs) ((i,v)::vs)
theorem Fe {e n:Nat}:∀ {parts:List (Nat×VV)} {AM:List (Nat×Value)} {es nE:List VV} {r:List Value},es.length=n→(∀x∈es,(aB x).length=e)→VL V (es.flatMap aB) r →
  T9 V parts AM→vH e es parts=some nE→nE.length=n∧(∀x∈nE,(aB x).length=e)∧∃r',xF ((List.range n).map fun i=>(i*e,e)) r AM=some r'∧VL V (nE.flatMap aB) r'
 |
  [],_,es,nE,r,hn,he,hl,.nil,h=>by
  cases h
  exact⟨hn,he,r,rfl,hl⟩
 |
  (i,v)::parts,(_,w)::AM,es,nE,r,hn,he,hl,.cons hv hps,h=>by
  unfold vH at h
  split at h
  case isFalse=>cases h
  rename_i hc
  obtain⟨hi,hve,wX⟩:=hc
  have lO:=hv.cells (US wX)
  have hwl:(aN w).length=e:=by rw[lO.length,hve]
  have AX:=hl.length
  rw[lF he] at AX
  have hm:(i+1)*e≤es.length*e:=Nat.mul_le_mul_right _ hi
  rw[Nat.succ_mul] at hm
  have mD:∀x∈es.set i v,(aB x).length=e:=fun x hx=>by
   rcases List.mem_or_eq_of_mem_set hx with h | h
   ·exact he x h
   ·subst h;exact hve
  have E3:VL V ((es.set i v).flatMap aB) (r.take (i*e)++aN w++r.drop (i*e+e)):=by
   have h1:=hl.jK lO (i*e)
   have h2:=xQ he (new:=[v]) (fun z hz=>by rw[List.mem_singleton] at hz;subst hz;exact hve) i
   simp only[List.flatMap_cons,List.flatMap_nil,List.append_nil] at h2
   rw[h2,Jt hi] at h1
   unfold jK at h1
   rw[hwl] at h1
   exact h1
  obtain⟨g1,g2,r',g3,g4⟩:=Fe (n:=n) (by rw[List.length_set];exact hn) mD E3 hps h
  refine⟨g1,g2,r',?_,g4⟩
  unfold xF
  have hr:((List.range n).map fun i=>(i*e,e))[i]? = some (i*e,e):=by simp[List.getElem?_range (show i<n by omega)]
  simp only[hr]
  rw[if_pos ⟨hwl,by omega⟩]
  exact g3
theorem I5 (hE:ER V ρ lD):∀parts:List (Nat×Operand),T9 V (parts.map fun(i,x)=>(i,eQ ρ x)) (parts.map fun(i,x)=>(i,ev lD x))
 | [] => .nil
 | (i,x)::parts => .cons (hE.ev x) (I5 hE parts)
theorem GK {e:Nat}:∀ {parts:List (Nat×VV)} {es nE:List VV},(es.all fun x=>(aB x).all cC)=true→vH e es parts=some nE→(nE.all fun x=>(aB x).all cC)=true
 | [],es,nE,h,hf=>by cases hf;exact h
 |
  (i,v)::parts,es,nE,h,hf=>by
  unfold vH at hf
  split at hf
  case isFalse=>cases hf
  rename_i hc
  refine GK ?_ hf
  rw[List.all_eq_true] at h ⊢
  intro x hx
  rcases List.mem_or_eq_of_mem_set hx with h1 | h1
  ·exact h x h1
  ·subst h1;exact hc.2.2
theorem XK (hS:SR V lo eK) {lr:Bool} {z:List Value} {n:Nat} {parts:List (Nat×VV)} {AM:List (Nat×Value)} {v:VV} {H':aA} (hp:T9 V parts AM) (h:jY lr z n parts V.H=some (v,H')):hJ lo eK V (afM z n AM V.P) v H':=by
 unfold jY at h
 split at h
 case h_2=>cases h
 rename_i es Nq
 split at h
 case isFalse=>cases h
 rename_i hz
 obtain⟨g1,g2,r',g3,g4⟩:=Fe (V:=V) (n:=n) (by simp) (fun x hx=>by rw[List.eq_of_mem_replicate hx];exact Dw hz) (BQ hz n) hp Nq
 have wX:=GK (by
  rw[List.all_eq_true]
  intro x hx
  rw[List.eq_of_mem_replicate hx,oG hz]
  exact hz) Nq
 unfold afM
 simp only[g3]
 rw[if_pos (g4.gE (BJ wX))]
 split at h
 ·cases h
  exact(hJ.of (sE hS (e:=z.length) false g2 g4) (Kq hS) :)
 ·cases h
  have k:=B9 hS (.row r' z.length false)
  refine(hJ.of k ?_ :)
  have hm:=g4.mono k.2.toUp
  have AX:=g4.length
  rw[lF g2] at AX
  subst g1
  refine .tree es _ V.P.length 0 es.length r' z.length false (.inr rfl) (by simp) (by omega) (Nat.le_refl _) g2 ⟨rfl,rfl,rfl⟩ ?_
  rw[List.drop_zero,List.take_of_length_le (by omega)]
  exact hm
theorem O1 (hS:SR V lo eK) {b g e o:Nat} {es nw:List VV} {pn:List Value} (hr:V.H[b]? = some (.row g es e true)) (fG:lo≤b) (rU:o+nw.length≤es.length) (hn:∀x∈nw,(aB x).length=e) (wX:(nw.flatMap aB).all cC=true) (hl:VL V (nw.flatMap aB) pn) :
  ∃V',V.P.write eK (V.m b) (o*e) pn=some V'.P∧V'.H=V.H.set b (.row g (dG es o nw) e true)∧SR V' lo eK∧E9 lo V V':=by
 obtain⟨r,q,h1,h2,h3⟩:=hS.row b g es e true hr
 have AX:=h3.length
 rw[lF h2] at AX
 have EV:=(hS.wr b g es e hr).2 fG
 have MZ:=hl.length
 rw[lF hn] at MZ
 have hm:(o+nw.length)*e≤es.length*e:=Nat.mul_le_mul_right _ rU
 rw[Nat.add_mul] at hm
 have mD:∀x∈dG es o nw,(aB x).length=e:=fun x hx=>by
  rcases JQ hx with h | h
  ·exact h2 x h
  ·exact hn x h
 have E3:VL V ((dG es o nw).flatMap aB) (jK r (o*e) pn):=by
  rw[←xQ h2 hn]
  exact h3.jK hl _
 obtain⟨g1,g2⟩:=DQ hS hr fG mD E3 h1
 refine⟨{ V with H:=V.H.set b (.row g (dG es o nw) e true),P:=V.P.set (V.m b) (.row (jK r (o*e) pn) e q) },?_,rfl,g1,g2⟩
 unfold aE.write
 simp only[h1]
 rw[if_pos ⟨EV,by omega,hl.gE wX⟩]
theorem TO (hS:SR V lo eK) {x y v:VV} {u w:Value} {size:Nat} {H':aA} (hx:VR V x u) (hy:VR V y w) (h:NO lo size x y V.H=some (v,H')):hJ lo eK V (copyV eK size u w V.P) v H':=by
 unfold NO at h
 split at h
 ·rename_i new hs
  obtain⟨h1,_⟩:=xJ hS hy hs
  cases h
  cases hx with
  | tree es k b o c r e p hF hb ho hc he hk hl=>exact hk.elim
  |
   pB =>
   unfold copyV
   simp only[h1]
   exact hJ.same hS (.sc _ rfl)
 ·rename_i b g o d c new hs
  obtain⟨h1,h2,h3,h4⟩:=xJ hS hy hs
  split at h
  case h_2=>cases h
  rename_i es e hr
  rw[cW] at hr
  split at h
  case isFalse=>cases h
  rename_i hc
  obtain⟨rfl,fG,rU⟩:=hc
  cases h
  cases hx with
  |
   ref b g o n c a n' c' bH hg ha hq =>
   obtain⟨rfl,rfl,rfl⟩:=ha _ _ _ hr
   have afP:(new.take n').length=Nat.min new.length n':=by rw[List.length_take];exact Nat.min_comm _ _
   obtain⟨pn,h5,h6⟩:=h4 (Nat.min new.length n') (Nat.min_le_left _ _)
   have ht:new.take (Nat.min new.length n')=new.take n':=by
    rw[←afP,List.length_take,←List.take_take,List.take_length]
   rw[ht] at h6
   have MV:∀x∈new.take n',(aB x).length=e:=fun x hx=>h2 x (List.mem_of_mem_take hx)
   have wX:((new.take n').flatMap aB).all cC=true:=by
    rw[List.all_eq_true] at h3 ⊢
    intro x hx
    obtain⟨y,hy,AY⟩:=List.mem_flatMap.1 hx
    exact h3 x (List.mem_flatMap.2 ⟨y,List.mem_of_mem_take hy,AY⟩)
   obtain⟨V',k1,k2,k3,k4⟩:=O1 hS hr fG rU MV wX h6
   refine⟨.int .i64 (Nat.min new.length n'),V',?_,k2,k3,k4,?_⟩
   ·unfold copyV
    simp only[h1,h5,k1]
    rfl
   ·rw[afP]
    exact .sc _ rfl
 ·cases h
theorem Q9 (hS:SR V lo eK) {x:VV} {u:Value} {z:List Value} {H':aA} (hx:VR V x u) (h:PU lo z x V.H=some H'):hJ lo eK V (PD eK z u V.P) qU H':=by
 unfold PU at h
 split at h
 case h_2=>cases h
 rename_i b g o n c
 split at h
 case h_2=>cases h
 rename_i es e hr
 rw[cW] at hr
 cases hx with
 |
  ref b g o n c a n' c' bH hg ha hq =>
  obtain⟨rfl,rfl,rfl⟩:=ha _ _ _ hr
  unfold PD
  simp only
  split at h
  ·rename_i h0
   cases h
   rw[if_pos h0]
   exact hJ.same hS (.fN [] [] .nil)
  ·rename_i h0
   rw[if_neg h0]
   split at h
   case isFalse=>cases h
   rename_i hc
   obtain⟨rfl,fG,rU,hz⟩:=hc
   cases h
   have MV:∀x∈List.replicate n' (elemOf (z.map jX)),(aB x).length=z.length:=fun x hx=>by rw[List.eq_of_mem_replicate hx];exact Dw hz
   obtain⟨V',k1,k2,k3,k4⟩:=O1 hS hr fG (nw:=List.replicate n' (elemOf (z.map jX))) (by simpa using rU) MV (BJ (by
    rw[List.all_eq_true]
    intro x hx
    rw[List.eq_of_mem_replicate hx,oG hz]
    exact hz)) (BQ hz n')
   refine⟨undef,V',?_,k2,k3,k4,.fN [] [] .nil⟩
   rw[k1]
   rfl
end
end Go.PM
namespace Go.PM
section
variable {V:View} {lo eK:Nat} {ρ:dH} {lD:Env}
theorem Rq {x v:VV} {u:Value} {neg:Bool} (hx:VR V x u) (h:Fx neg x V.H=some v):∃w,acY neg u=some w∧VR V v w:=by
 unfold Fx at h
 split at h
 ·cases h
  cases hx with
  | tree es k b o c r e p hF hb ho hc he hk hl=>exact hk.elim
  | pB=>exact⟨_,rfl,.sc _ rfl⟩
 ·cases h
  cases hx with
  | pB k hk=>rcases hk with hk | hk<;>cases hk
  | tree=>exact⟨_,rfl,.sc _ rfl⟩
 ·cases h
  cases hx with
  | tree=>exact⟨_,rfl,.sc _ rfl⟩
 ·obtain⟨⟨es,e,w⟩,hr,rfl⟩:=cS h
  rw[cW] at hr
  cases hx with
  |
   ref b g o n c a n' c' bH hg ha hq =>
   obtain⟨rfl,rfl,rfl⟩:=ha _ _ _ hr
   exact⟨_,rfl,.sc _ rfl⟩
 ·cases h
theorem WG {x v:VV} {u:Value} (hx:VR V x u) (h:qB x V.H=some v):∃w,ajV u=some w∧VR V v w:=by
 unfold qB at h
 split at h
 ·cases h
  cases hx<;>exact⟨_,rfl,.sc _ rfl⟩
 ·obtain⟨⟨es,e,w⟩,hr,rfl⟩:=cS h
  rw[cW] at hr
  cases hx with
  |
   ref b g o n c a n' c' bH hg ha hq =>
   obtain⟨rfl,rfl,rfl⟩:=ha _ _ _ hr
   exact⟨_,rfl,.sc _ rfl⟩
 ·cases h
theorem Ro {x v:VV} {u:Value} {off:Nat} (hx:VR V x u) (h:HF off x V.H=some v):∃w,aaE off u=some w∧VR V v w:=by
 unfold HF at h
 split at h
 ·cases h
  cases hx with
  | dB x off b o r e p hF hb ho hl=>exact⟨_,rfl,by rw[Nat.add_assoc];exact .dB _ _ b o r e p hF hb ho hl⟩
 ·obtain⟨⟨es,e,w⟩,hr,rfl⟩:=cS h
  rw[cW] at hr
  cases hx with
  |
   ptr b g j off a bH hg ha hq =>
   have:=ha _ _ _ hr
   subst this
   refine⟨_,rfl,.ptr _ _ _ _ _ bH hg (fun nE e' w' Fh => ?_) fun a0 h=>by cases h;have:=hq _ rfl;exact this⟩
   rw[hr] at Fh
   cases Fh
   rw[Nat.add_assoc]
 ·cases h
theorem XP {x v:VV} {u:Value} (hx:VR V x u) (h:W4 x V.H=some v):∃w,arO u=some w∧VR V v w:=by
 unfold W4 at h
 split at h
 ·cases h
  cases hx with
  | dB x off b o r e p hF hb ho hl=>exact⟨_,rfl,.dB _ _ b o r e p hF hb ho hl⟩
 ·obtain⟨⟨es,e,w⟩,hr,rfl⟩:=cS h
  rw[cW] at hr
  cases hx with
  |
   ptr b g j off a bH hg ha hq =>
   have:=ha _ _ _ hr
   subst this
   exact⟨_,rfl,.ptr _ _ _ _ _ bH hg ha hq⟩
 ·cases h
theorem Tf {c a b v:VV} {u x y:Value} (hc:VR V c u) (ha:VR V a x) (hb:VR V b y) (h:Qz c a b=some v):∃t,u = .bool t∧VR V v (if t then x else y):=by
 unfold Qz at h
 split at h
 ·rename_i t
  cases h
  obtain⟨rfl,_⟩:=rZ hc rfl
  refine⟨t,rfl,?_⟩
  cases t
  ·exact hb
  ·exact ha
 ·cases h
theorem WN {x v:VV} {u:Value} {i:Nat} (hx:VR V x u) (h:acK i x=some v):∃w,ajI i u=some w∧VR V v w:=by
 unfold acK at h
 split at h
 ·cases hx with
  |
   fN cs ps hl =>
   obtain⟨w,hw,hv⟩:=hl.get h
   exact⟨w,by simpa[ajI] using hw,hv⟩
 ·cases h
theorem Yd {x v:VV} {u:Value} {agg:Bool} {off size:Nat} (hx:VR V x u) (h:aeB agg off size x=some v):∃w,adW agg off size u=some w∧VR V v w:=by
 unfold aeB at h
 split at h
 ·rename_i cs
  cases hx with
  |
   agg cs ps hl =>
   split at h
   ·rename_i ha
    split at h
    ·rename_i hs
     cases h
     refine⟨.agg ((ps.drop off).take size).toArray,?_,.agg _ _ ((hl.drop off).take size)⟩
     unfold adW
     simp only[ha,if_true]
     rw[if_pos (by simpa[hl.length] using hs)]
     congr 2
     apply Array.ext'
     simp[List.extract_eq_take_drop]
    ·cases h
   ·rename_i ha
    obtain⟨w,hw,hv⟩:=hl.get h
    refine⟨w,?_,hv⟩
    unfold adW
    simp only[ha]
    simpa using hw
 ·cases h
theorem Nr {ks:List CK}:∀ {xs ys:List VV} {us ws:List Value} {t:Bool},VL V xs us→VL V ys ws→rE ks xs ys=some t→qM ks us ws=some t:=by
 induction ks with
 |
  nil =>
  intro xs ys us ws t h1 h2 h
  cases h1 with
  |
   nil=>cases h2 with
   | nil=>exact h
   | cons=>simp[rE] at h
  | cons=>simp[rE] at h
 |
  cons k ks ih =>
  intro xs ys us ws t h1 h2 h
  cases h1 with
  | nil=>simp[rE] at h
  |
   cons x u xs us hx Qo=>cases h2 with
   | nil=>cases x<;>simp[rE] at h
   |
    cons y w ys ws hy hys =>
    cases hx with
    |
     sc _ _=>cases hy with
     |
      sc _ _ =>
      simp only[rE] at h
      simp only[qM]
      split at h
      ·rename_i h1
       rw[h1]
       exact ih Qo hys h
      ·rename_i h1
       rw[h1]
       exact h
      ·cases h
     | _=>simp[rE] at h
    | _=>simp[rE] at h
theorem MB {places:List (Nat×Nat)}:∀ {parts:List (Nat×VV)} {AM:List (Nat×Value)} {cs AZ:List VV} {r:List Value},VL V cs r→T9 V parts AM→zP places cs parts=some AZ →
  ∃r',xF places r AM=some r'∧VL V AZ r'
 | [],_,cs,AZ,r,hl,.nil,h=>by cases h;exact⟨r,rfl,hl⟩
 |
  (i,v)::parts,(_,w)::AM,cs,AZ,r,hl,.cons hv hps,h=>by
  unfold zP at h
  unfold xF
  split at h
  ·cases h
  ·rename_i off size MZ
   simp only[MZ]
   split at h
   case isFalse=>cases h
   rename_i hc
   have lO:=hv.cells (fun e=>by subst e;cases hc.2.2)
   rw[if_pos ⟨by rw[lO.length];exact hc.1,by rw[hl.length];exact hc.2.1⟩]
   exact MB (((hl.take off).append lO).append (hl.drop _)) hps h
theorem JO:∀ {es:List VV} {r:List Value} {bs:List UInt8},VL V (es.flatMap aB) r→IQ es=some bs→uQ r=some bs
 | [],_,bs,.nil,h=>h
 |
  x::es,r,bs,hl,h=>by
  unfold IQ at h
  split at h
  ·rename_i e;cases e
  ·rename_i n r' e
   cases e
   obtain⟨t,ht,rfl⟩:=cS h
   rw[List.flatMap_cons] at hl
   cases hl with
   |
    cons _ u _ us hu hus =>
    obtain⟨rfl,_⟩:=rZ hu rfl
    unfold uQ
    rw[JO hus ht]
    rfl
  ·cases h
theorem lift {r:Option VV} {v:VV} {H':aA} {s:Option (Value×aE)} (h:r.map (·,V.H)=some (v,H')) (k:r=some v→hJ lo eK V s v V.H):hJ lo eK V s v H':=by
 obtain⟨a,ha,he⟩:=cS h
 cases he
 exact k ha
theorem XZ (hS:SR V lo eK) (hE:ER V ρ lD) {fl:Fl} {o:oJ} {v:VV} {H':aA} {q:Bool} (h:vop fl lo o ρ V.H=some (v,H')):hJ lo eK V (kL eK q o lD V.P) v H':=by
 cases o<;>simp only[vop] at h
 case mv x=>cases h;rw[afO];exact hJ.same hS (hE.ev x)
 case pick c a b =>
  refine lift h fun h => ?_
  obtain⟨t,ht,hv⟩:=Tf (hE.ev c) (hE.ev a) (hE.ev b) h
  rw[Xo,ht]
  exact hJ.same hS hv
 case bin op x y=>rw[ZF];exact lift h fun h=>Bm (f:=dU op) hS (fun _ _ _=>abN) (hE.ev x) (hE.ev y) h
 case eqb neg x y=>rw[acR];exact lift h fun h=>Bm (f:=Nh neg) hS (fun _ _ _=>Zd) (hE.ev x) (hE.ev y) h
 case isnil neg x =>
  rw[UM]
  refine lift h fun h => ?_
  obtain⟨w,h1,h2⟩:=Rq (hE.ev x) h
  exact hJ.pure hS h1 h2
 case eqagg neg ks x y =>
  rw[UQ]
  refine lift h fun h => ?_
  unfold Tu at h
  split at h
  case h_2=>cases h
  rename_i a b hx hy
  obtain⟨t,ht,rfl⟩:=cS h
  have h1:=hE.ev x
  have h2:=hE.ev y
  rw[hx] at h1
  rw[hy] at h2
  generalize ev lD x=u at h1 ⊢
  generalize ev lD y=w at h2 ⊢
  cases h1 with
  |
   agg cs ps h1=>cases h2 with
   |
    agg AZ ps' h2 =>
    refine hJ.pure hS (pv := .bool (t != neg)) ?_ (.sc _ rfl)
    unfold abG
    simp only
    rw[Nr h1 h2 ht]
    rfl
 case un op x=>rw[afU];exact lift h fun h=>Ef (f:=pun op) hS (fun _ _=>agL) (hE.ev x) h
 case cvt k x=>rw[ZS];exact lift h fun h=>Ef (f:=Uz k) hS (fun _ _=>ZI) (hE.ev x) h
 case cvs x =>
  have e:kL eK q (.cvs x) lD V.P=(WA (ev lD x)).map (·,V.P):=dT rfl
  rw[e];exact lift h fun h=>Ef (f:=WA) hS (fun _ _=>abI) (hE.ev x) h
 case ext x i =>
  rw[ZJ]
  refine lift h fun h => ?_
  obtain⟨w,h1,h2⟩:=WN (hE.ev x) h
  exact hJ.pure hS h1 h2
 case fld agg off size x =>
  rw[adF]
  refine lift h fun h => ?_
  obtain⟨w,h1,h2⟩:=Yd (hE.ev x) h
  exact hJ.pure hS h1 h2
 case build zero places parts =>
  obtain⟨cs,OJ,he⟩:=cS h
  cases he
  obtain⟨r,h1,h2⟩:=MB (VL.zero zero) (I5 hE parts) OJ
  rw[UJ,h1]
  exact hJ.same hS (.agg _ _ h2)
 case chk x =>
  rw[Z1]
  refine lift h fun h => ?_
  obtain⟨w,h1,h2⟩:=XP (hE.ev x) h
  exact hJ.pure hS h1 h2
 case faddr off x =>
  rw[UN]
  refine lift h fun h => ?_
  obtain⟨w,h1,h2⟩:=Ro (hE.ev x) h
  exact hJ.pure hS h1 h2
 case iaddr size x i =>
  rw[Ty]
  refine lift h fun h => ?_
  obtain⟨w,h1,h2⟩:=R8 hS (hE.ev x) (hE.ev i) h
  exact hJ.pure hS h1 h2
 case sidx x i =>
  have e:kL eK q (.sidx x i) lD V.P=(Gy (ev lD x) (ev lD i)).map (·,V.P):=dT rfl
  rw[e];exact lift h fun h=>Bm (f:=Gy) hS (fun _ _ _=>Xp) (hE.ev x) (hE.ev i) h
 case ssub x l h' =>
  refine lift h fun h => ?_
  unfold wD at h
  split at h
  case h_2=>cases h
  rename_i s lv hv hx h1 h2
  split at h
  case h_2=>cases h
  rename_i a b F9
  cases h
  obtain⟨e1,_⟩:=rZ (hE.ev x) hx
  have e:kL eK q (.ssub x l h') lD V.P=some (.string (s.extract a b),V.P):=by
   rw[dT rfl]
   simp only[iW,e1]
   rw[Bi hE h1,Bi hE h2,F9]
   rfl
  rw[e]
  exact hJ.same hS (.sc _ rfl)
 case mkfn f gF =>
  cases h
  rw[W2]
  exact hJ.same hS (.vM _ _ _ (hE.evs gF))
 case len x =>
  rw[Y6]
  refine lift h fun h => ?_
  obtain⟨w,h1,h2⟩:=WG (hE.ev x) h
  exact hJ.pure hS h1 h2
 case slen x =>
  have e:kL eK q (.slen x) lD V.P=(BK (ev lD x)).map (·,V.P):=dT rfl
  rw[e];exact lift h fun h=>Ef (f:=BK) hS (fun _ _=>XB) (hE.ev x) h
 case min x y=>rw[adA];exact lift h fun h=>Bm (f:=Q8) hS (fun _ _ _=>abQ) (hE.ev x) (hE.ev y) h
 case max x y=>rw[ZU];exact lift h fun h=>Bm (f:=QG) hS (fun _ _ _=>acD) (hE.ev x) (hE.ev y) h
 case load agg size p =>
  rw[XE]
  refine lift h fun h => ?_
  obtain⟨w,h1,h2⟩:=L7 hS (hE.ev p) h
  exact hJ.pure hS h1 h2
 case sub size x l hh m =>
  rw[aaS]
  exact lift h fun h=>XS hS hE (hE.ev x) h
 case b2s x =>
  split at h
  ·cases h
  rename_i y fQ
  split at h
  case h_2=>cases h
  rename_i es Nq
  obtain⟨bs,hbs,he⟩:=cS h
  cases he
  obtain⟨h1,h2,h3,h4⟩:=xJ hS (hE.ev x) Nq
  obtain⟨pn,h5,h6⟩:=h4 es.length (Nat.le_refl _)
  rw[List.take_length] at h6
  have hb:=JO h6 hbs
  have hx:=hE.ev x
  have e:kL eK q (.b2s x) lD V.P=some (.string ⟨bs.toArray⟩,V.P):=by
   apply qA
   simp only[pop]
   generalize ev lD x=u at *
   cases u<;>first | (exfalso;simp[tD] at h1;done) | skip
   case string s =>
    generalize eQ ρ x=y at *
    cases hx with
    | any=>simp[dF] at Nq
    | sc _ _=>exact absurd rfl (fQ _)
   case slice a n c =>
    injection h1 with h1
    subst h1
    cases a with
    |
     none =>
     simp only[jV] at h5
     split at h5
     ·cases h5
      cases hb
      rfl
     ·cases h5
    |
     some a =>
     obtain⟨b,o,sp⟩:=a
     cases sp with
     | some s=>simp[jV] at h5
     |
      none =>
      simp only[jV,Nat.mul_one] at h5
      simp only[h5,hb]
      rfl
  rw[e]
  exact hJ.same hS (.sc _ rfl)
 case new zero =>
  split at h
  case isFalse=>cases h
  rename_i hz
  cases h
  rw[ZB]
  exact X3 hS hz
 case box x =>
  split at h
  case isFalse=>cases h
  rename_i hs
  rw[abY]
  exact Xm hS (hE.ev x) hs h
 case make zero bytes l c =>
  split at h
  case isFalse=>cases h
  rename_i hz
  rw[XI]
  exact TN hS hz (hE.ev l) (hE.ev c) h
 case lit zero n parts =>
  rw[acO]
  exact XK hS (I5 hE parts) h
 case store size p x =>
  obtain⟨a,ha,he⟩:=cS h
  cases he
  rw[Ug]
  exact Q2 hS (hE.ev p) (hE.ev x) ha
 case app size bytes x y =>
  split at h
  case h_2=>cases h
  rename_i new hn
  obtain⟨h1,h2,h3,h4⟩:=xJ hS (hE.ev y) hn
  obtain⟨pn,h5,h6⟩:=h4 new.length (Nat.le_refl _)
  rw[List.take_length] at h6
  rw[Y2]
  unfold amB
  simp only[h1,h5]
  exact G5 hS (hE.ev x) h2 h3 h6 h
 case appz zero bytes x n =>
  split at h
  case h_2=>cases h
  rename_i k hk
  split at h
  case isFalse=>cases h
  rename_i hc
  obtain⟨e1,_⟩:=rZ (hE.ev n) hk
  have MV:∀x∈List.replicate k.toNat (elemOf (zero.map jX)),(aB x).length=zero.length:=fun x hx=>by rw[List.eq_of_mem_replicate hx];exact Dw hc.2.2
  have:=G5 hS (hE.ev x) MV (BJ (by
    rw[List.all_eq_true]
    intro x hx
    rw[List.eq_of_mem_replicate hx,oG hc.2.2]
    exact hc.2.2)) (BQ hc.2.2 _) h
  rw[List.length_replicate] at this
  rw[WY]
  unfold aaU
  rw[e1]
  simp only[if_pos (show 0≤k∧k*(bytes:Int)≤140737488355328 from⟨hc.1,hc.2.1⟩)]
  exact this
 case copy size x y =>
  rw[Xq]
  exact TO hS (hE.ev x) (hE.ev y) h
 case clear zero x =>
  obtain⟨a,ha,he⟩:=cS h
  cases he
  rw[T1]
  exact Q9 hS (hE.ev x) ha
 all_goals cases h
end
end Go.PM
namespace Go.PM
def bare (F:Nat→Prop) (P:aE):View:=⟨fun _=>0,F,[],P,0⟩
theorem BE {es:List VV}:aM es=true↔∀x∈es,bA x=true:=by
 induction es with
 | nil=>simp[aM]
 | cons x xs ih=>simp[aM,ih]
theorem DZ {x:VV} (h:bA x=true):aM (aB x)=true:=by
 unfold aB
 split
 ·simpa[bA] using h
 ·simp[aM,h]
theorem MO {es:List VV} (h:aM es=true):aM (es.flatMap aB)=true:=by
 rw[BE] at h ⊢
 intro x hx
 obtain⟨y,hy,AY⟩:=List.mem_flatMap.1 hx
 exact BE.1 (DZ (h y hy)) x AY
theorem ID {es:List VV} {k:TK} (h:bA (.tree es k)=true):k = .op∧aM es=true∧uni es=true:=by
 simp only[bA,Bool.and_eq_true,decide_eq_true_eq] at h
 exact⟨h.1.1,h.1.2,h.2⟩
theorem Jj {x:VV} (h:bA x=true):x ≠ .any:=by
 rintro rfl
 cases h
theorem agG {es:List VV} (h:uni es=true):∃e,∀x∈es,(aB x).length=e:=by
 cases es with
 | nil=>exact⟨0,fun x hx=>by cases hx⟩
 |
  cons x xs =>
  refine⟨(aB x).length,fun y hy => ?_⟩
  rcases List.mem_cons.1 hy with rfl | hy
  ·rfl
  ·have:=List.all_eq_true.1 h y hy
   simpa using this
section
variable {V V':View}
theorem VR.pure {x:VV} {v:Value} (hF:∀b,V.F b→V'.F b∧V'.P[b]? = V.P[b]?) (h:VR V x v):bA x=true→VR V' x v:=by
 induction h using VR.rec (motive_2:=fun xs vs _=>aM xs=true→VL V' xs vs) with
 | any=>intro hp;cases hp
 | sc _ h=>intro _;exact .sc _ h
 | agg cs ps _ ih=>intro hp;exact .agg _ _ (ih hp)
 | fN cs ps _ ih=>intro hp;exact .fN _ _ (ih hp)
 | pB k hk=>intro _;exact .pB k hk
 | tree es k b o c r e p Uh hb ho hc he hk _ ih=>intro hp;exact .tree es k b o c r e p (hF _ Uh).1 (by rw[(hF _ Uh).2];exact hb) ho hc he hk (ih (MO (ID hp).2.1))
 | dB x off b o r e p Uh hb ho _ ih=>intro hp;exact .dB x off b o r e p (hF _ Uh).1 (by rw[(hF _ Uh).2];exact hb) ho (ih (DZ hp))
 | ref=>intro hp;cases hp
 | ptr=>intro hp;cases hp
 | vM f gF ps _ ih=>intro hp;exact .vM _ _ _ (ih hp)
 | nil=>exact .nil
 |
  cons x v xs vs _ _ ih UC =>
  rename_i hp
  simp only[aM,Bool.and_eq_true] at hp
  exact .cons _ _ _ _ (ih hp.1) (UC hp.2)
theorem VL.pure {xs:List VV} {vs:List Value} (hF:∀b,V.F b→V'.F b∧V'.P[b]? = V.P[b]?) (h:VL V xs vs) (hp:aM xs=true):VL V' xs vs:=by
 induction xs generalizing vs with
 | nil=>cases h;exact .nil
 |
  cons x xs ih=>cases h with
  |
   cons _ v _ vs h hs =>
   simp only[aM,Bool.and_eq_true] at hp
   exact .cons _ _ _ _ (h.pure hF hp.1) (ih hs hp.2)
theorem VL.flatten {es:List VV} {ps:List Value} (h:VL V es ps) (hp:aM es=true):VL V (es.flatMap aB) (ps.flatMap aN):=by
 induction es generalizing ps with
 | nil=>cases h;exact .nil
 |
  cons x xs ih =>
  cases h with
  |
   cons _ v _ vs h hs =>
   simp only[aM,Bool.and_eq_true] at hp
   rw[List.flatMap_cons,List.flatMap_cons]
   exact(h.cells (Jj hp.1)).append (ih hs hp.2)
theorem Pc {P P':aE} (h:P <+: P'):∀b,(bare (· < P.length) P).F b→(bare (· < P'.length) P').F b∧(bare (· < P'.length) P').P[b]? = (bare (· < P.length) P).P[b]? := by
 intro b hb
 obtain⟨L,rfl⟩:=h
 have uC:b<P.length:=hb
 exact⟨by show b<(P++L).length;simp;omega,List.getElem?_append_left uC⟩
mutual
theorem real (x:VV) (hp:bA x=true) (P:aE):∃P' pv,P <+: P'∧VR (bare (· < P'.length) P') x pv:=by
 cases x with
 | any=>cases hp
 | sc v=>exact⟨P,v,List.prefix_refl _,.sc v hp⟩
 |
  agg cs =>
  obtain⟨P',ps,h1,h2⟩:=On cs hp P
  exact⟨P',_,h1,.agg _ _ h2⟩
 |
  fN cs =>
  obtain⟨P',ps,h1,h2⟩:=On cs hp P
  exact⟨P',_,h1,.fN _ _ h2⟩
 |
  tree es k =>
  obtain⟨rfl,h1,h2⟩:=ID hp
  obtain⟨P',ps,h3,h4⟩:=On es h1 P
  obtain⟨e,he⟩:=agG h2
  have h5:=h4.flatten h1
  have hl:=h5.length
  rw[lF he] at hl
  have Bw:P' <+: P'++[M7.row (ps.flatMap aN) e false]:=List.prefix_append _ _
  refine⟨_,.slice (some ⟨P'.length,0,none⟩) es.length es.length,h3.trans Bw,?_⟩
  refine .tree es .op P'.length 0 es.length (ps.flatMap aN) e false (show P'.length<(P'++[M7.row (ps.flatMap aN) e false]).length by simp) (by show (P'++[M7.row (ps.flatMap aN) e false])[P'.length]? = _;simp) (by omega) (Nat.le_refl _) he trivial ?_
  rw[List.drop_zero,List.take_of_length_le (by omega)]
  exact VL.pure (Pc Bw) h5 (MO h1)
 |
  dB x off =>
  obtain⟨P',pv,h3,h4⟩:=real x hp P
  have h5:=h4.cells (Jj hp)
  have Bw:P' <+: P'++[M7.row (aN pv) (aN pv).length false]:=List.prefix_append _ _
  refine⟨_,.pointer (some ⟨P'.length,0+off,none⟩),h3.trans Bw,?_⟩
  refine .dB x off P'.length 0 (aN pv) (aN pv).length false (show P'.length<(P'++[M7.row (aN pv) (aN pv).length false]).length by simp) (by show (P'++[M7.row (aN pv) (aN pv).length false])[P'.length]? = _;simp) (by rw[h5.length];omega) ?_
  rw[List.drop_zero,List.take_of_length_le (by rw[h5.length];exact Nat.le_refl _)]
  exact VL.pure (Pc Bw) h5 (DZ hp)
 | ref=>cases hp
 | ptr=>cases hp
 |
  vM f gF =>
  obtain⟨P',ps,h1,h2⟩:=On gF hp P
  exact⟨P',_,h1,.vM _ _ _ h2⟩
theorem On (xs:List VV) (hp:aM xs=true) (P:aE):∃P' ps,P <+: P'∧VL (bare (· < P'.length) P') xs ps:=by
 cases xs with
 | nil=>exact⟨P,[],List.prefix_refl _,.nil⟩
 |
  cons x xs =>
  simp only[aM,Bool.and_eq_true] at hp
  obtain⟨P1,pv,h1,h2⟩:=real x hp.1 P
  obtain⟨P2,ps,h3,h4⟩:=On xs hp.2 P1
  exact⟨P2,pv::ps,h1.trans h3,.cons _ _ _ _ (h2.pure (Pc h3) hp.1) h4⟩
end
theorem Lx {es:List VV}:sK es=true↔∀x∈es,iU x=true:=by
 induction es with
 | nil=>simp[sK]
 | cons x xs ih=>simp[sK,ih]
theorem C5 {es:List VV} {k:TK} (h:iU (.tree es k)=true):k = .op∧sK es=true∧uni es=true∧es.all AP=true:=by
 simp only[iU,Bool.and_eq_true,decide_eq_true_eq] at h
 exact⟨h.1.1.1,h.1.1.2,h.1.2,h.2⟩
theorem UB {x:VV} (h:iU x=true):sK (aB x)=true:=by
 unfold aB
 split
 ·simpa[iU] using h
 ·simp[sK,h]
theorem NI {es:List VV} (h:sK es=true):sK (es.flatMap aB)=true:=by
 rw[Lx] at h ⊢
 intro x hx
 obtain⟨y,hy,AY⟩:=List.mem_flatMap.1 hx
 exact Lx.1 (UB (h y hy)) x AY
mutual
theorem SI (x:VV) (h:iU x=true):bA x=true:=by
 cases x with
 | sc v=>exact h
 | agg cs=>exact Er cs h
 | fN cs=>exact Er cs h
 |
  tree es k =>
  obtain⟨h1,h2,h3,_⟩:=C5 h
  simp[bA,h1,Er es h2,h3]
 | any=>cases h
 | dB=>cases h
 | ref=>cases h
 | ptr=>cases h
 | vM=>cases h
theorem Er (xs:List VV) (h:sK xs=true):aM xs=true:=by
 cases xs with
 | nil=>rfl
 |
  cons x xs =>
  simp only[sK,Bool.and_eq_true] at h
  simp[aM,SI x h.1,Er xs h.2]
end
theorem Rm {e:Nat}:∀ {es nE:List VV},(∀x∈es,(aB x).length=e)→(∀x∈nE,(aB x).length=e)→es.all AP=true→nE.all AP=true→es.length=nE.length→es.flatMap aB=nE.flatMap aB→es=nE
 | [],[],_,_,_,_,_,_=>rfl
 |
  x::es,y::nE,h1,h2,h3,h4,hl,h=>by
  rw[List.flatMap_cons,List.flatMap_cons] at h
  have hx:=h1 x List.mem_cons_self
  have hy:=h2 y List.mem_cons_self
  obtain⟨e1,e2⟩:=List.append_inj h (by omega)
  simp only[List.all_cons,Bool.and_eq_true] at h3 h4
  have AY:x=y:=by
   have g1:=h3.1
   have g2:=h4.1
   unfold aB at e1
   split at e1<;>split at e1
   ·rw[e1]
   ·rename_i cs _ _
    subst e1
    cases g1
   ·rename_i cs
    subst e1
    cases g2
   ·injection e1
  rw[AY,Rm (fun z hz=>h1 z (List.mem_cons_of_mem _ hz)) (fun z hz=>h2 z (List.mem_cons_of_mem _ hz)) h3.2 h4.2 (by simpa using hl) e2]
theorem VR.uniq {x y:VV} {v:Value} (h:VR V x v) (h':VR V y v) (hx:iU x=true) (hy:iU y=true):x=y:=by
 induction h using VR.rec (motive_2:=fun xs vs _=>∀ys,VL V ys vs→sK xs=true→sK ys=true→xs=ys) generalizing y with
 | any=>cases hx
 |
  sc _ h=>cases h' with
  | sc _ _=>rfl
  | any=>cases hy
  | agg=>cases h
  | fN=>cases h
  | pB=>cases h
  | tree=>cases h
  | dB=>cases hy
  | ref=>cases hy
  | ptr=>cases hy
  | vM=>cases hy
 |
  agg cs ps h ih=>generalize hw:Value.agg ps.toArray=w at h';cases h' with
  | sc _ h'=>subst hw;cases h'
  | any=>cases hy
  |
   agg AZ ps' h' =>
   injection hw with hw
   have:ps=ps':=by simpa using hw
   subst this
   rw[ih _ h' hx hy]
  | fN=>cases hw
  | pB=>cases hw
  | tree=>cases hw
  | dB=>cases hy
  | ref=>cases hy
  | ptr=>cases hy
  | vM=>cases hy
 |
  fN cs ps h ih=>generalize hw:Value.tuple ps.toArray=w at h';cases h' with
  | sc _ h'=>subst hw;cases h'
  | any=>cases hy
  |
   fN AZ ps' h' =>
   injection hw with hw
   have:ps=ps':=by simpa using hw
   subst this
   rw[ih _ h' hx hy]
  | agg=>cases hw
  | pB=>cases hw
  | tree=>cases hw
  | dB=>cases hy
  | ref=>cases hy
  | ptr=>cases hy
  | vM=>cases hy
 |
  pB k hk =>
  obtain⟨rfl,_⟩:=C5 hx
  generalize hw:Value.slice none 0 0=w at h'
  cases h' with
  | sc _ h'=>subst hw;cases h'
  | any=>cases hy
  | pB k' hk'=>obtain⟨rfl,_⟩:=C5 hy;rfl
  | agg=>cases hw
  | fN=>cases hw
  | tree=>cases hw
  | dB=>cases hy
  | ref=>cases hy
  | ptr=>cases hy
  | vM=>cases hy
 |
  tree es k b o c r e p hF hb ho hc he hk hl ih =>
  obtain⟨rfl,hx1,hx2,hx3⟩:=C5 hx
  generalize hw:Value.slice (some ⟨b,o,none⟩) es.length c=w at h'
  cases h' with
  | sc _ h'=>subst hw;cases h'
  | any=>cases hy
  | pB=>cases hw
  | agg=>cases hw
  | fN=>cases hw
  |
   tree nE k' b' o' c' r' e' p' hF' uC ZM TG he' hk' B7 =>
   obtain⟨rfl,hy1,hy2,hy3⟩:=C5 hy
   injection hw with h1 h2 h3
   injection h1 with h1
   injection h1 with h1 h4
   subst h1 h3 h4
   rw[hb] at uC
   injection uC with uC
   injection uC with g1 g2 g3
   subst g1 g2 g3
   rw[←h2] at B7
   rw[Rm he he' hx3 hy3 h2 (ih _ B7 (NI hx1) (NI hy1))]
  | dB=>cases hy
  | ref=>cases hy
  | ptr=>cases hy
  | vM=>cases hy
 | dB=>cases hx
 | ref=>cases hx
 | ptr=>cases hx
 | vM=>cases hx
 | nil=>rename_i h' _ _;cases h';rfl
 |
  cons x v xs vs _ _ ih UC =>
  rename_i ys h' hx hy
  cases h' with
  |
   cons y _ ys _ h' hs' =>
   simp only[sK,Bool.and_eq_true] at hx hy
   rw[ih h' hx.1 hy.1,UC _ hs' hx.2 hy.2]
end
end Go.PM
namespace Go.PM
section
variable {V:View} {lo eK:Nat}
theorem mE {α β:Type} {f:α→Option β} {x:α} {xs:List α} {r:List β} (h:(x::xs).mapM f=some r):∃y ys,f x=some y∧xs.mapM f=some ys∧r=y::ys:=by
 rw[List.mapM_cons] at h
 cases hx:f x with
 | none=>rw[hx] at h;cases h
 |
  some y =>
  rw[hx] at h
  cases hs:xs.mapM f with
  | none=>rw[hs] at h;cases h
  | some ys=>rw[hs] at h;cases h;exact⟨y,ys,rfl,rfl,rfl⟩
theorem qZ {α β:Type} {f:α→Option β}:∀ {xs:List α} {r:List β},xs.mapM f=some r→r.length=xs.length
 | [],r,h=>by cases h;rfl
 |
  x::xs,r,h=>by
  obtain⟨y,ys,_,h2,rfl⟩:=mE h
  simp[qZ h2]
theorem Vh {d:Nat} {H:aA} {x x':VV} (h:fz d H x=some x'):(∃cs AZ,x = .agg cs∧x' = .agg AZ∧AZ.length=cs.length)∨(aB x=[x]∧aB x'=[x']):=by
 cases d with
 | zero=>cases h
 |
  succ d =>
  unfold fz at h
  split at h
  ·cases h
   cases x with
   | agg cs=>exact .inl ⟨cs,cs,rfl,rfl,rfl⟩
   | _=>exact .inr ⟨rfl,rfl⟩
  ·split at h
   ·obtain⟨AZ,h1,rfl⟩:=cS h
    exact .inl ⟨_,_,rfl,rfl,qZ h1⟩
   ·obtain⟨AZ,h1,rfl⟩:=cS h;exact .inr ⟨rfl,rfl⟩
   ·obtain⟨AZ,h1,rfl⟩:=cS h;exact .inr ⟨rfl,rfl⟩
   ·obtain⟨AZ,h1,rfl⟩:=cS h;exact .inr ⟨rfl,rfl⟩
   ·split at h
    ·split at h
     ·obtain⟨AZ,h1,rfl⟩:=cS h;exact .inr ⟨rfl,rfl⟩
     ·cases h
    ·cases h
   ·split at h
    ·split at h
     ·obtain⟨AZ,h1,rfl⟩:=cS h;exact .inr ⟨rfl,rfl⟩
     ·cases h
    ·cases h
   ·obtain⟨AZ,h1,rfl⟩:=cS h;exact .inr ⟨rfl,rfl⟩
   ·cases h
theorem PQ {d:Nat} {H:aA} {x x':VV} (h:fz d H x=some x'):(aB x').length=(aB x).length:=by
 rcases Vh h with⟨cs,AZ,rfl,rfl,h'⟩ | ⟨h1,h2⟩
 ·exact h'
 ·rw[h1,h2];rfl
def OV (V:View) (G:Nat→Prop) (ids:List Nat):Prop:=∀i∈ids,∀g es e w,V.H[i]? = some (.row g es e w)→G (V.m i)
theorem MC (hS:SR V lo eK) {G:Nat→Prop} (hG:∀q,V.F q→G q):∀(d:Nat) (v v':VV) (pv:Value),VR V v pv→fz d V.H v=some v'→OV V G (jQ d V.H v)→VR (bare G V.P) v' pv:=by
 have hFG:∀b,V.F b→(bare G V.P).F b∧(bare G V.P).P[b]? = V.P[b]? := fun b hb=>⟨hG b hb,rfl⟩
 intro d
 induction d with
 | zero=>intro v v' pv _ h;cases h
 |
  succ d ih =>
  have ihL:∀(xs IT:List VV) (ps:List Value),VL V xs ps→xs.mapM (fz d V.H)=some IT→OV V G (xs.flatMap (jQ d V.H))→VL (bare G V.P) IT ps:=by
   intro xs
   induction xs with
   | nil=>intro IT ps hl h _;cases h;cases hl;exact .nil
   |
    cons x xs ihx =>
    intro IT ps hl h hi
    obtain⟨y,ys,h1,h2,rfl⟩:=mE h
    cases hl with
    |
     cons _ v _ vs hx Qo =>
     exact .cons _ _ _ _ (ih x y v hx h1 fun i qW=>hi i (by rw[List.flatMap_cons];exact List.mem_append_left _ qW)) (ihx ys vs Qo h2 fun i qW=>hi i (by rw[List.flatMap_cons];exact List.mem_append_right _ qW))
  have ihC:∀(x x':VV) (ps:List Value),VL V (aB x) ps→fz d V.H x=some x'→OV V G (jQ d V.H x)→VL (bare G V.P) (aB x') ps:=by
   intro x x' ps hl h hi
   rcases Vh h with⟨cs,AZ,rfl,rfl,lO⟩ | ⟨h1,h2⟩
   ·have:=ih _ _ (.agg ps.toArray) (.agg _ _ hl) h hi
    generalize hw:Value.agg ps.toArray=w at this
    cases this with
    |
     agg _ ps' B7 =>
     injection hw with hw
     have:ps=ps':=by simpa using hw
     subst this
     exact B7
   ·rw[h1] at hl
    rw[h2]
    cases hl with
    |
     cons _ v _ vs hx Qo =>
     cases Qo
     exact .cons _ _ _ _ (ih _ _ _ hx h hi) .nil
  have ihF:∀(xs IT:List VV) (ps:List Value),VL V (xs.flatMap aB) ps→xs.mapM (fz d V.H)=some IT→OV V G (xs.flatMap (jQ d V.H))→VL (bare G V.P) (IT.flatMap aB) ps:=by
   intro xs
   induction xs with
   | nil=>intro IT ps hl h _;cases h;cases hl;exact .nil
   |
    cons x xs ihx =>
    intro IT ps hl h hi
    obtain⟨y,ys,h1,h2,rfl⟩:=mE h
    rw[List.flatMap_cons] at hl ⊢
    have hlen:=hl.length
    have a1:=hl.take (aB x).length
    have a2:=hl.drop (aB x).length
    rw[List.take_left] at a1
    rw[List.drop_left] at a2
    rw[←List.take_append_drop (aB x).length ps]
    exact(ihC x y _ a1 h1 fun i qW=>hi i (by rw[List.flatMap_cons];exact List.mem_append_left _ qW)).append (ihx ys _ a2 h2 fun i qW=>hi i (by rw[List.flatMap_cons];exact List.mem_append_right _ qW))
  have arR:∀(xs IT:List VV) (e:Nat),xs.mapM (fz d V.H)=some IT→(∀x∈xs,(aB x).length=e)→∀x∈IT,(aB x).length=e:=by
   intro xs
   induction xs with
   | nil=>intro IT e h _ x hx;cases h;cases hx
   |
    cons x xs ihx =>
    intro IT e h he z hz
    obtain⟨y,ys,h1,h2,rfl⟩:=mE h
    rcases List.mem_cons.1 hz with rfl | hz
    ·rw[PQ h1];exact he x List.mem_cons_self
    ·exact ihx ys e h2 (fun w hw=>he w (List.mem_cons_of_mem _ hw)) z hz
  intro v v' pv hv h hi
  unfold fz at h
  unfold jQ at hi
  split at h
  ·rename_i hp
   cases h
   exact hv.pure hFG hp
  ·rename_i hp
   rw[if_neg hp] at hi
   split at h
   ·obtain⟨AZ,h1,rfl⟩:=cS h
    cases hv with
    | agg cs ps hl=>exact .agg _ _ (ihL _ _ _ hl h1 hi)
   ·obtain⟨AZ,h1,rfl⟩:=cS h
    cases hv with
    | fN cs ps hl=>exact .fN _ _ (ihL _ _ _ hl h1 hi)
   ·obtain⟨AZ,h1,rfl⟩:=cS h
    cases hv with
    | pB k hk=>cases h1;exact .pB _ (.inl rfl)
    |
     tree es k b o c r e p hF hb ho hc he hk hl =>
     have hlen:=qZ h1
     have:=VR.tree (V:=bare G V.P) AZ .op b o c r e p (hG b hF) hb (by rw[hlen];exact ho) (by rw[hlen];exact hc) (arR _ _ _ h1 he) trivial (by rw[hlen];exact ihF _ _ _ hl h1 hi)
     rw[hlen] at this
     exact this
   ·obtain⟨x',h1,rfl⟩:=cS h
    cases hv with
    |
     dB x off b o r e p hF hb ho hl =>
     have hlen:=PQ h1
     exact .dB x' _ b o r e p (hG b hF) hb (by rw[hlen];exact ho) (by rw[hlen];exact ihC _ _ _ hl h1 hi)
   ·rename_i b g o n c
    split at h
    case h_2=>cases h
    rename_i es e w hr
    simp only[hr] at hi
    rw[cW] at hr
    split at h
    case isFalse=>cases h
    rename_i auH
    obtain⟨hon,DL⟩:=auH
    obtain⟨nE,h1,rfl⟩:=cS h
    obtain⟨r,p,k1,k2,k3⟩:=hS.row b g es e w hr
    have AX:=k3.length
    rw[lF k2] at AX
    cases hv with
    |
     ref b g o n c a n' c' bH hg ha hq =>
     obtain⟨rfl,rfl,rfl⟩:=ha _ _ _ hr
     have ZX:∀x∈(es.drop o).take n',(aB x).length=e:=fun x hx=>k2 x (List.mem_of_mem_drop (List.mem_of_mem_take hx))
     have hn2:((es.drop o).take n').length=n':=by simp;omega
     have hlen:=qZ h1
     rw[hn2] at hlen
     have hm:(o+n')*e≤es.length*e:=Nat.mul_le_mul_right _ hon
     rw[Nat.add_mul] at hm
     have hl:VL V (((es.drop o).take n').flatMap aB) ((r.drop (o*e)).take (n'*e)):=by
      have h4:=(k3.drop (o*e)).take (n'*e)
      rw[uT k2,uW (fun x hx=>k2 x (List.mem_of_mem_drop hx))] at h4
      exact h4
     have hGb:G (V.m b):=hi b List.mem_cons_self _ _ _ _ hr
     have:=VR.tree (V:=bare G V.P) nE .op (V.m b) (o*e) c' r e p hGb k1 (by rw[hlen];omega) (by rw[hlen];exact DL) (arR _ _ _ h1 ZX) trivial (by rw[hlen];exact ihF _ _ _ hl h1 fun i qW=>hi i (List.mem_cons_of_mem _ qW))
     rw[hlen] at this
     exact this
   ·rename_i b g j o
    split at h
    case h_2=>cases h
    rename_i es e w hr
    simp only[hr] at hi
    rw[cW] at hr
    split at h
    case h_2=>cases h
    rename_i x hx
    simp only[hx] at hi
    obtain⟨x',h1,rfl⟩:=cS h
    obtain⟨r,p,k1,k2,k3,k4⟩:=Ld hS hr hx
    cases hv with
    |
     ptr b g j off a bH hg ha hq =>
     have:=ha _ _ _ hr
     subst this
     have hlen:=PQ h1
     exact .dB x' o (V.m b) (j*e) r e p (hi b List.mem_cons_self _ _ _ _ hr) k1 (by rw[hlen];exact k3) (by rw[hlen];exact ihC _ _ _ k4 h1 fun i qW=>hi i (List.mem_cons_of_mem _ qW))
   ·obtain⟨AZ,h1,rfl⟩:=cS h
    cases hv with
    | vM f gF ps hl=>exact .vM _ _ _ (ihL _ _ _ hl h1 hi)
   ·cases h
theorem D9 (hS:SR V lo eK) {G:Nat→Prop} (hG:∀q,V.F q→G q) {d:Nat}:∀ {xs IT:List VV} {ps:List Value},VL V xs ps→xs.mapM (fz d V.H)=some IT→OV V G (xs.flatMap (jQ d V.H))→VL (bare G V.P) IT ps
 | [],IT,ps,hl,h,_=>by cases h;cases hl;exact .nil
 |
  x::xs,IT,ps,hl,h,hi=>by
  obtain⟨y,ys,h1,h2,rfl⟩:=mE h
  cases hl with
  |
   cons _ v _ vs hx Qo =>
   exact .cons _ _ _ _ (MC hS hG d x y v hx h1 fun i qW=>hi i (by rw[List.flatMap_cons];exact List.mem_append_left _ qW)) (D9 hS hG Qo h2 fun i qW=>hi i (by rw[List.flatMap_cons];exact List.mem_append_right _ qW))
def View.dD (V:View) (ids:List Nat):View:=ids.foldl View.freeze V
theorem wL:∀(ids:List Nat) {V:View},SR V lo eK→SR (V.dD ids) lo eK∧E9 lo V (V.dD ids)∧(V.dD ids).H=PM.dD V.H ids∧(V.dD ids).P=V.P∧(V.dD ids).m=V.m∧OV V (V.dD ids).F ids
 | [],V,hS=>⟨hS,E9.refl _ _,rfl,rfl,rfl,fun i hi=>by cases hi⟩
 |
  i::ids,V,hS=>by
  obtain⟨h1,h2,h3⟩:=PF hS i
  obtain⟨g1,g2,g3,g4,g5,g6⟩:=wL ids h1
  refine⟨g1,h2.trans g2,?_,g4.trans (abT V i),g5.trans (RI V i),?_⟩
  ·show ((V.freeze i).dD ids).H=_
   rw[g3,QI]
   rfl
  ·intro k hk g es e w hr
   show ((V.freeze i).dD ids).F (V.m k)
   rcases List.mem_cons.1 hk with rfl | hk
   ·exact g2.F _ (h3 _ _ _ _ hr)
   ·have Fh:∃g es e w,(V.freeze i).H[k]? = some (.row g es e w):=by
     rw[QI]
     unfold Cc
     split
     ·rename_i g' nE e' w' hi
      by_cases hki:k=i
      ·subst hki
       exact⟨g',nE,e',false,List.getElem?_set_self (List.getElem?_eq_some_iff.1 hi).1⟩
      ·exact⟨g,es,e,w,by rw[List.getElem?_set_ne (Ne.symm hki)];exact hr⟩
     ·exact⟨g,es,e,w,hr⟩
    obtain⟨g',nE,e',w',Fh⟩:=Fh
    have:=g6 k hk _ _ _ _ Fh
    rw[RI] at this
    exact this
end
end Go.PM