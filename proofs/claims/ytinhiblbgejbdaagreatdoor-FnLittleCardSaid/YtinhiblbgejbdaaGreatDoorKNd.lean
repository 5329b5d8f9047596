/- Texts of a claim, in one: part 4. -/
import Derived.Test.YtinhiblbgejbdaaGreatDoorKNc
set_option linter.unusedSimpArgs false
set_option linter.unusedVariables false
namespace Go.PM
inductive TK where
 | op
 | cl (e:Nat)
 | nil
 deriving DecidableEq
inductive VV where
 | any
 | sc (v:Value)
 | agg (cs:List VV)
 | eX (vs:List VV)
 | tree (es:List VV) (k:TK)
 | cD (x:VV) (off:Nat)
 | ref (b g o n c:Nat)
 | ptr (b g j off:Nat)
 | nJ (f:Nat) (eV:List VV)
 deriving Inhabited
inductive cZ where
 | dead
 | row (g:Nat) (es:List VV) (e:Nat) (w:Bool)
 deriving Inhabited
abbrev aC:=List cZ
abbrev cN:=Nat→VV
def mK:VV := .eX []
def kQ:Value→Bool
 | .bool _ | .int _ _ | .string _ | .pointer none | .nilFunc | .nilIface=>true
 | _=>false
def gL:Value→VV
 | .slice none 0 0 => .tree [] .nil
 | v=>if kQ v then .sc v else .any
def inj:Value→VV
 | .agg cs => .agg (cs.toList.map gL)
 | .tuple vs=>if vs.isEmpty then .eX [] else .any
 | v=>gL v
def dJ (ρ:cN):Operand→VV
 | .tmp t=>ρ t
 | .const v=>inj v
 | .global _ => .any
 | .func f => .nJ f []
def Gc (ρ:cN):Option Nat→VV→cN
 | none,_=>ρ
 | some d,v=>fun k=>if k=d then v else ρ k
def aB:VV→List VV
 | .agg cs=>cs
 | v=>[v]
def elemOf:List VV→VV
 | [x]=>x
 | cs => .agg cs
def cB:VV→Bool
 | .any | .agg _ | .eX _=>false
 | _=>true
def uni:List VV→Bool
 | []=>true
 | x::xs=>xs.all fun y=>(aB y).length == (aB x).length
mutual
def aX:VV→Bool
 | .any=>false
 | .sc v=>kQ v
 | .agg cs=>aO cs
 | .eX vs=>aO vs
 | .tree es k=>decide (k = .op)&&aO es&&uni es
 | .cD x _=>aX x
 | .ref .. => false
 | .ptr .. => false
 | .nJ _ eV=>aO eV
def aO:List VV→Bool
 | []=>true
 | x::xs=>aX x&&aO xs
end
def E5:VV→Bool
 | .agg [_]=>false
 | _=>true
mutual
def iZ:VV→Bool
 | .any=>false
 | .sc v=>kQ v
 | .agg cs=>pV cs
 | .eX vs=>pV vs
 | .tree es k=>decide (k = .op)&&pV es&&uni es&&es.all E5
 | .cD _ _=>false
 | .ref .. => false
 | .ptr .. => false
 | .nJ _ _=>false
def pV:List VV→Bool
 | []=>true
 | x::xs=>iZ x&&pV xs
end
mutual
def IG:VV→Bool
 | .sc v=>kQ v
 | .agg cs=>M0 cs
 | .eX vs=>M0 vs
 | _=>false
def M0:List VV→Bool
 | []=>true
 | x::xs=>IG x&&M0 xs
end
mutual
def below (k:Nat):VV→Bool
 | .any=>true
 | .sc _=>true
 | .agg cs=>jK k cs
 | .eX vs=>jK k vs
 | .tree es _=>jK k es
 | .cD x _=>below k x
 | .ref b _ _ _ _=>decide (b<k)
 | .ptr b _ _ _=>decide (b<k)
 | .nJ _ eV=>jK k eV
def jK (k:Nat):List VV→Bool
 | []=>true
 | x::xs=>below k x&&jK k xs
end
def AL (k:Nat) (v:VV):VV:=if below k v then v else .any
def aM (H:aC) (b g:Nat):Option (List VV×Nat×Bool) :=
 match H[b]? with
 | some (.row g' es e w)=>if g'=g then some (es,e,w) else none
 | _=>none
def mV:List CK→List VV→List VV→Option Bool
 | [],[],[]=>some true
 |
  k::ks,.sc x::xs,.sc y::ys=>match pW k x y with
  | some true=>mV ks xs ys
  | some false=>some false
  | none=>none
 | _,_,_=>none
def bW (cs:List VV) (o:Nat) (new:List VV):List VV:=cs.take o++new++cs.drop (o+new.length)
def isAny:VV→Bool
 | .any=>true
 | _=>false
def yV (places:List (Nat×Nat)) (cells:List VV):List (Nat×VV)→Option (List VV)
 | []=>some cells
 |
  (i,v)::rest =>
  match places[i]? with
  | none=>none
  |
   some (off,size) =>
   if (aB v).length=size∧off+size≤cells.length∧isAny v=false then
    yV places (cells.take off++aB v++cells.drop (off+size)) rest
   else none
def qI (e:Nat) (es:List VV):List (Nat×VV)→Option (List VV)
 | []=>some es
 | (i,v)::rest=>if i<es.length∧(aB v).length=e∧(aB v).all cB then qI e (es.set i v) rest else none
def Dq:Option VV→Option (Option Value)
 | none=>some none
 | some (.sc v)=>some (some v)
 | some _=>none
def bU (agg:Bool) (size:Nat) (x:VV) (o:Nat):Option VV :=
 if agg then (if o+size≤(aB x).length then some (.agg (((aB x).drop o).take size)) else none) else (aB x)[o]?
structure Fl where
 bf:Bool
 lr:Bool
def eZ (agg:Bool) (size:Nat) (p:VV) (H:aC):Option VV :=
 match p with
 | .cD x o=>bU agg size x o
 |
  .ptr b g j o=>match aM H b g with
  |
   some (es,_,_)=>match es[j]? with
   | some x=>bU agg size x o
   | none=>none
  | none=>none
 | _=>none
def aZ (size:Nat) (x i:VV) (H:aC):Option VV :=
 match x,i with
 |
  .tree es _,.sc (.int _ i)=>if 0≤i then match es[i.toNat]? with
  | some x=>if (aB x).length=size then some (.cD x 0) else none
  | none=>none
  else none
 |
  .ref b g o n _,.sc (.int _ i)=>match aM H b g with
  | some (_,e,_)=>if e=size∧0≤i∧i<n then some (.ptr b g (o+i.toNat) 0) else none
  | none=>none
 | _,_=>none
def AA (size:Nat) (x:VV) (l h m:Option VV) (H:aC):Option VV :=
 match Dq l,Dq h,Dq m with
 |
  some lv,some hv,some mv =>
  match x with
  |
   .tree (y::ys) _ =>
   if (aB y).length=size then
    match dK mv (some (ys.length+1)) (ys.length+1) with
    | none=>none
    |
     some m=>match dK hv (if mv.isSome then none else some (ys.length+1)) m with
     | none=>none
     |
      some h=>match dK lv (some 0) h with
      | none=>none
      | some l=>if mv.isSome∧m=l then some (.tree [] (.cl size)) else some (.tree (((y::ys).drop l).take (h-l)) .op)
   else none
  |
   .ref b g o n c =>
   match aM H b g with
   |
    some (_,e,_) =>
    if e=size then
     match dK mv (some c) c with
     | none=>none
     |
      some m=>match dK hv (if mv.isSome then none else some n) m with
      | none=>none
      |
       some h=>match dK lv (some 0) h with
       | none=>none
       | some l=>if mv.isSome∧m=l then some (.tree [] (.cl size)) else some (.ref b g (o+l) (h-l) (m-l))
    else none
   | none=>none
  | _=>none
 | _,_,_=>none
def ES:List VV→Option (List UInt8)
 | []=>some []
 | .sc (.int .u8 n)::r=>(ES r).map (UInt8.ofNat n.toNat :: ·)
 | _=>none
def cM (size:Nat) (y:VV) (H:aC):Option (List VV) :=
 match y with
 | .tree es _=>if es.all fun x=>(aB x).length == size&&(aB x).all cB then some es else none
 |
  .ref b g o n _=>match aM H b g with
  | some (es,e,_)=>if e=size∧o+n≤es.length∧(((es.drop o).take n).all fun x=>(aB x).all cB) then some ((es.drop o).take n) else none
  | none=>none
 | .sc (.string s)=>if size=1 then some (s.data.toList.map fun b => .sc (.int .u8 b.toNat)) else none
 | _=>none
def dW (lo size bytes:Nat) (x:VV) (new:List VV) (H:aC):Option (VV×aC) :=
 if 1≤bytes∧1≤size then
  match x with
  | .tree [] .nil=>if new.length=0 then some (x,H) else if new.length*bytes≤140737488355328 then some (.ref H.length 0 0 new.length new.length,H++[.row 0 new size true]) else none
  | .tree es (.cl e)=>if e=size then (if new.length=0 then some (x,H) else if (es.length+new.length)*bytes≤140737488355328 then some (.ref H.length 0 0 (es.length+new.length) (es.length+new.length),H++[.row 0 (es++new) size true]) else none) else none
  |
   .ref b g o n c=>match aM H b g with
   |
    some (es,e,true) =>
    if e=size∧lo≤b∧o+n≤es.length then
     if n+new.length≤c then
      if new.length=0 then some (x,H)
      else if o+n+new.length≤es.length then some (.ref b g o (n+new.length) c,H.set b (.row g (bW es (o+n) new) e true))
      else none
     else if (n+new.length)*bytes≤140737488355328 then some (.ref b (g+1) 0 (n+new.length) (n+new.length),H.set b (.row (g+1) ((es.drop o).take n++new) e true))
     else none
    else none
   | _=>none
  | _=>none
 else none
def dE (lo size:Nat) (p v:VV) (H:aC):Option aC :=
 match p with
 |
  .ptr b g j o=>match aM H b g with
  |
   some (es,e,true)=>match es[j]? with
   |
    some x =>
    if (aB v).length=size∧lo≤b∧(aB v).all cB then
     if o=0∧size=e then some (H.set b (.row g (es.set j v) e true))
     else if 2≤e∧o+size≤e then some (H.set b (.row g (es.set j (.agg (bW (aB x) o (aB v)))) e true))
     else none
    else none
   | none=>none
  | _=>none
 | _=>none
def zY (zero:List Value) (bytes:Nat) (l c:VV) (H:aC):Option (VV×aC) :=
 match l,c with
 | .sc (.int .i64 l),.sc (.int .i64 c)=>if 0≤l∧l≤c∧c*bytes≤281474976710656∧c≤9223372036854775807 then
  some (.ref H.length 0 0 l.toNat c.toNat,H++[.row 0 (List.replicate c.toNat (elemOf (zero.map gL))) zero.length true]) else none
 | _,_=>none
def oU (lr:Bool) (zero:List Value) (n:Nat) (parts:List (Nat×VV)) (H:aC):Option (VV×aC) :=
 match qI zero.length (List.replicate n (elemOf (zero.map gL))) parts with
 | some es=>if (zero.map gL).all cB then (if n=0∨lr=true then some (.ref H.length 0 0 n n,H++[.row 0 es zero.length true]) else some (.tree es (.cl zero.length),H)) else none
 | none=>none
def Fz (lo size:Nat) (x y:VV) (H:aC):Option (VV×aC) :=
 match x,cM size y H with
 | .tree [] .nil,some _=>some (.sc (.int .i64 0),H)
 |
  .ref b g o d _,some new=>match aM H b g with
  | some (es,e,true)=>if e=size∧lo≤b∧o+(new.take d).length≤es.length then some (.sc (.int .i64 (new.take d).length),H.set b (.row g (bW es o (new.take d)) e true)) else none
  | _=>none
 | _,_=>none
def EV (lo:Nat) (zero:List Value) (x:VV) (H:aC):Option aC :=
 match x with
 |
  .ref b g o n _=>match aM H b g with
  | some (es,e,true)=>if n=0 then some H else if e=zero.length∧lo≤b∧o+n≤es.length∧(zero.map gL).all cB then some (H.set b (.row g (bW es o (List.replicate n (elemOf (zero.map gL)))) e true)) else none
  | _=>none
 | _=>none
def Cy (neg:Bool) (x:VV) (H:aC):Option VV :=
 match x with
 | .tree [] .nil=>some (.sc (.bool (true != neg)))
 | .tree [] (.cl _)=>some (.sc (.bool (false != neg)))
 | .tree (_::_) _=>some (.sc (.bool (false != neg)))
 | .ref b g _ _ _=>(aM H b g).map fun _ => .sc (.bool (false != neg))
 | _=>none
def lY (x:VV) (H:aC):Option VV :=
 match x with
 | .tree es _=>some (.sc (.int .i64 es.length))
 | .ref b g _ n _=>(aM H b g).map fun _ => .sc (.int .i64 n)
 | _=>none
def tL (off:Nat) (x:VV) (H:aC):Option VV :=
 match x with
 | .cD x o=>some (.cD x (o+off))
 | .ptr b g j o=>(aM H b g).map fun _ => .ptr b g j (o+off)
 | _=>none
def R2 (x:VV) (H:aC):Option VV :=
 match x with
 | .cD x o=>some (.cD x o)
 | .ptr b g j o=>(aM H b g).map fun _ => .ptr b g j o
 | _=>none
def FW (x:VV) (l h:Option VV):Option VV :=
 match x,Dq l,Dq h with
 |
  .sc (.string s),some lv,some hv=>match BB lv hv s.size with
  | some (l,h)=>some (.sc (.string (s.extract l h)))
  | none=>none
 | _,_,_=>none
def YI (agg:Bool) (off size:Nat) (x:VV):Option VV :=
 match x with
 | .agg cs=>if agg then (if off+size≤cs.length then some (.agg ((cs.drop off).take size)) else none) else cs[off]?
 | _=>none
def Ip (f:Value→Option Value) (x:VV):Option VV :=
 match x with
 | .sc a=>(f a).map .sc
 | _=>none
def Fe (f:Value→Value→Option Value) (x y:VV):Option VV :=
 match x,y with
 | .sc a,.sc b=>(f a b).map .sc
 | _,_=>none
def MV (c a b:VV):Option VV :=
 match c with
 | .sc (.bool t)=>some (if t then a else b)
 | _=>none
def WB (i:Nat) (x:VV):Option VV :=
 match x with
 | .eX vs=>vs[i]?
 | _=>none
def O5 (neg:Bool) (ks:List CK) (x y:VV):Option VV :=
 match x,y with
 | .agg a,.agg b=>(mV ks a b).map fun t => .sc (.bool (t != neg))
 | _,_=>none
def S9:Value→Option Value
 | .string s=>some (.string s)
 | _=>none
def Da:Value→Option Value
 | .string s=>some (.int .i64 s.size)
 | _=>none
def Ec:Value→Value→Option Value
 | .string s,.int _ i=>if 0≤i∧i<s.size then some (.int .u8 ((s.data.toList.getD i.toNat 0).toNat:Int)) else none
 | _,_=>none
def vop (fl:Fl) (lo:Nat) (o:kO) (ρ:cN) (H:aC):Option (VV×aC) :=
 match o with
 | .mv x=>some (dJ ρ x,H)
 | .pick c a b=>(MV (dJ ρ c) (dJ ρ a) (dJ ρ b)).map (·,H)
 | .bin op x y=>(Fe (cY op) (dJ ρ x) (dJ ρ y)).map (·,H)
 | .eqb neg x y=>(Fe (Po neg) (dJ ρ x) (dJ ρ y)).map (·,H)
 | .isnil neg x=>(Cy neg (dJ ρ x) H).map (·,H)
 | .eqagg neg ks x y=>(O5 neg ks (dJ ρ x) (dJ ρ y)).map (·,H)
 | .un op x=>(Ip (TT op) (dJ ρ x)).map (·,H)
 | .cvt k x=>(Ip (P6 k) (dJ ρ x)).map (·,H)
 | .cvs x=>(Ip S9 (dJ ρ x)).map (·,H)
 | .ext x i=>(WB i (dJ ρ x)).map (·,H)
 | .fld agg off size x=>(YI agg off size (dJ ρ x)).map (·,H)
 | .build zero places parts=>(yV places (zero.map gL) (parts.map fun(i,x)=>(i,dJ ρ x))).map fun cs=>(.agg cs,H)
 | .chk x=>(R2 (dJ ρ x) H).map (·,H)
 | .faddr off x=>(tL off (dJ ρ x) H).map (·,H)
 | .iaddr size x i=>(aZ size (dJ ρ x) (dJ ρ i) H).map (·,H)
 | .sidx x i=>(Fe Ec (dJ ρ x) (dJ ρ i)).map (·,H)
 | .ssub x l h=>(FW (dJ ρ x) (l.map (dJ ρ)) (h.map (dJ ρ))).map (·,H)
 | .mkfn f eV=>some (.nJ f (eV.map (dJ ρ)),H)
 | .len x=>(lY (dJ ρ x) H).map (·,H)
 | .slen x=>(Ip Da (dJ ρ x)).map (·,H)
 | .min x y=>(Fe MX (dJ ρ x) (dJ ρ y)).map (·,H)
 | .max x y=>(Fe Ol (dJ ρ x) (dJ ρ y)).map (·,H)
 | .load agg size p=>(eZ agg size (dJ ρ p) H).map (·,H)
 | .sub size x l h m=>(AA size (dJ ρ x) (l.map (dJ ρ)) (h.map (dJ ρ)) (m.map (dJ ρ)) H).map (·,H)
 |
  .b2s x=>match dJ ρ x with
  | .sc _=>none
  |
   y=>match cM 1 y H with
   | some es=>(ES es).map fun bs=>(.sc (.string ⟨bs.toArray⟩),H)
   | none=>none
 | .new zero=>if (zero.map gL).all cB then some (.ptr H.length 0 0 0,H++[.row 0 [elemOf (zero.map gL)] zero.length true]) else none
 | .box x=>if (aB (dJ ρ x)).all cB then (if fl.bf then some (.cD (dJ ρ x) 0,H) else some (.ptr H.length 0 0 0,H++[.row 0 [dJ ρ x] (aB (dJ ρ x)).length true])) else none
 | .make zero bytes l c=>if (zero.map gL).all cB then zY zero bytes (dJ ρ l) (dJ ρ c) H else none
 | .lit zero n parts=>oU fl.lr zero n (parts.map fun(i,x)=>(i,dJ ρ x)) H
 | .store size p v=>(dE lo size (dJ ρ p) (dJ ρ v) H).map fun H'=>(mK,H')
 |
  .app size bytes x y=>match cM size (dJ ρ y) H with
  | some new=>dW lo size bytes (dJ ρ x) new H
  | none=>none
 |
  .appz zero bytes x n=>match dJ ρ n with
  | .sc (.int .i64 n)=>if 0≤n∧n*bytes≤140737488355328∧(zero.map gL).all cB then dW lo zero.length bytes (dJ ρ x) (List.replicate n.toNat (elemOf (zero.map gL))) H else none
  | _=>none
 | .copy size x y=>Fz lo size (dJ ρ x) (dJ ρ y) H
 | .clear zero x=>(EV lo zero (dJ ρ x) H).map fun H'=>(mK,H')
 | _=>none
inductive VBx where
 | no
 | row (i:Nat) (w:Bool)
 | Am (i:Nat)
 | tree
 | bad
def uE (H:aC):VV→VBx
 | .tree [] .nil => .no
 | .tree _ _ => .tree
 | .cD _ _ => .tree
 |
  .ref b g _ _ _=>match aM H b g with
  | some (_,_,w) => .row b w
  | none => .Am b
 |
  .ptr b g _ _=>match aM H b g with
  | some (_,_,w) => .row b w
  | none => .Am b
 | .any => .bad
 | _ => .no
def tA (H:aC) (x y:VV):Bool :=
 match uE H x,uE H y with
 | .bad,_=>false
 | _,.bad=>false
 | .no,_=>true
 | _,.no=>true
 | .row i _,.row j _=>i != j
 | .row i _,.Am j=>i != j
 | .Am i,.row j _=>i != j
 | .Am _,.Am _=>false
 | .Am _,.tree=>false
 | .tree,.Am _=>false
 | .row _ w,.tree=>w
 | .tree,.row _ w=>w
 | .tree,.tree=>false
def nH (ρ:cN) (H:aC) (c:Operand×Operand):Bool:=tA H (dJ ρ c.1) (dJ ρ c.2)
def yB (g:Option (Nat×Bool)) (ρ:cN):Option Bool :=
 match g with
 | none=>some true
 |
  some (t,want)=>match ρ t with
  | .sc (.bool b)=>some (b == want)
  | .eX _=>some false
  | _=>none
def fz:Nat→aC→VV→Option VV
 | 0,_,_=>none
 |
  d+1,H,v =>
  if aX v then some v else
  match v with
  | .agg cs=>(cs.mapM (fz d H)).map .agg
  | .eX vs=>(vs.mapM (fz d H)).map .eX
  | .tree es _=>(es.mapM (fz d H)).map (.tree · .op)
  | .cD x o=>(fz d H x).map (.cD · o)
  |
   .ref b g o n c=>match aM H b g with
   | some (es,_,_)=>if o+n≤es.length∧n≤c then (((es.drop o).take n).mapM (fz d H)).map (.tree · .op) else none
   | none=>none
  |
   .ptr b g j o=>match aM H b g with
   |
    some (es,_,_)=>match es[j]? with
    | some x=>(fz d H x).map (.cD · o)
    | none=>none
   | none=>none
  | .nJ f eV=>(eV.mapM (fz d H)).map (.nJ f ·)
  | _=>none
def gQ:Nat→aC→VV→List Nat
 | 0,_,_=>[]
 |
  d+1,H,v =>
  if aX v then [] else
  match v with
  | .agg cs=>cs.flatMap (gQ d H)
  | .eX vs=>vs.flatMap (gQ d H)
  | .tree es _=>es.flatMap (gQ d H)
  | .cD x _=>gQ d H x
  |
   .ref b g o n _=>match aM H b g with
   | some (es,_,_)=>b::((es.drop o).take n).flatMap (gQ d H)
   | none=>[]
  |
   .ptr b g j _=>match aM H b g with
   |
    some (es,_,_)=>match es[j]? with
    | some x=>b::gQ d H x
    | none=>[]
   | none=>[]
  | .nJ _ eV=>eV.flatMap (gQ d H)
  | _=>[]
def yD (H:aC) (b:Nat):aC :=
 match H[b]? with
 | some (.row g es e _)=>H.set b (.row g es e false)
 | _=>H
def cA (H:aC) (ids:List Nat):aC:=ids.foldl yD H
def depth:Nat:=8
end Go.PM
namespace Go.PM
structure View where
 m:Nat→Nat
 F:Nat→Prop
 H:aC
 P:aF
 base:Nat
def kindOk (k:TK) (n c e:Nat) (p:Bool):Prop :=
 match k with
 | .op=>True
 | .cl e'=>e'=e∧c=n∧p=false
 | .nil=>False
mutual
inductive VR (V:View):VV→Value→Prop
 | any (v:Value):VR V .any v
 | sc (v:Value) (h:kQ v=true):VR V (.sc v) v
 | agg (cs:List VV) (ps:List Value) (h:VL V cs ps):VR V (.agg cs) (.agg ps.toArray)
 | eX (cs:List VV) (ps:List Value) (h:VL V cs ps):VR V (.eX cs) (.tuple ps.toArray)
 | mN (k:TK) (hk:k = .op∨k = .nil):VR V (.tree [] k) (.slice none 0 0)
 | tree (es:List VV) (k:TK) (b o c:Nat) (r:List Value) (e:Nat) (p:Bool) (hF:V.F b) (hb:V.P[b]? = some (.row r e p)) (ho:o+es.length*e≤r.length)
  (hc:es.length≤c) (he:∀x∈es,(aB x).length=e) (hk:kindOk k es.length c e p) (hl:VL V (es.flatMap aB) ((r.drop o).take (es.length*e))) :
  VR V (.tree es k) (.slice (some ⟨b,o,none⟩) es.length c)
 | cD (x:VV) (off b o:Nat) (r:List Value) (e:Nat) (p:Bool) (hF:V.F b) (hb:V.P[b]? = some (.row r e p)) (ho:o+(aB x).length≤r.length)
  (hl:VL V (aB x) ((r.drop o).take (aB x).length)):VR V (.cD x off) (.pointer (some ⟨b,o+off,none⟩))
 | ref (b g o n c:Nat) (a:Option Addr) (n' c':Nat) (aR:b<V.H.length) (hg:∀g' es e w,V.H[b]? = some (.row g' es e w)→g≤g')
  (h:∀es e w,V.H[b]? = some (.row g es e w)→a=some ⟨V.m b,o*e,none⟩∧n'=n∧c'=c)
  (hq:∀a0,a=some a0→V.base≤a0.block∧a0.block<V.P.length∧∀b' g' es e w,V.H[b']? = some (.row g' es e w)→b'≠b→V.m b'≠a0.block):VR V (.ref b g o n c) (.slice a n' c')
 | ptr (b g j off:Nat) (a:Option Addr) (aR:b<V.H.length) (hg:∀g' es e w,V.H[b]? = some (.row g' es e w)→g≤g')
  (h:∀es e w,V.H[b]? = some (.row g es e w)→a=some ⟨V.m b,j*e+off,none⟩)
  (hq:∀a0,a=some a0→V.base≤a0.block∧a0.block<V.P.length∧∀b' g' es e w,V.H[b']? = some (.row g' es e w)→b'≠b→V.m b'≠a0.block):VR V (.ptr b g j off) (.pointer a)
 | nJ (f:Nat) (eV:List VV) (ps:List Value) (h:VL V eV ps):VR V (.nJ f eV) (.func (.func f) #[] ps.toArray)
inductive VL (V:View):List VV→List Value→Prop
 | nil:VL V [] []
 | cons (x:VV) (v:Value) (xs:List VV) (vs:List Value) (h:VR V x v) (hs:VL V xs vs):VL V (x::xs) (v::vs)
end
structure Up (V V':View):Prop where
 F:∀b,V.F b→V'.F b
 P:∀b,V.F b→V'.P[b]? = V.P[b]?
 len:V.H.length≤V'.H.length
 row:∀b g' kD e w',b<V.H.length→V'.H[b]? = some (.row g' kD e w')→∃g es w,V.H[b]? = some (.row g es e w)∧g≤g'∧(g'=g→V'.m b=V.m b)
 Jh:V'.base=V.base
 DT:V.P.length≤V'.P.length
 Am:∀b g es e w,V'.H[b]? = some (.row g es e w)→V'.m b<V.P.length→∃g0 es0 w0,V.H[b]? = some (.row g0 es0 e w0)∧V'.m b=V.m b∧(w=true→w0=true)
section
variable {V V' Mh:View}
theorem Up.refl (V:View):Up V V:=⟨fun _ h=>h,fun _ _=>rfl,Nat.le_refl _,fun b g es e w _ h=>⟨g,es,w,h,Nat.le_refl _,fun _=>rfl⟩,rfl,Nat.le_refl _,fun b g es e w h _=>⟨g,es,w,h,rfl,id⟩⟩
theorem Up.trans (h:Up V V') (h':Up V' Mh):Up V Mh :=
 ⟨fun b hb=>h'.F b (h.F b hb),fun b hb=>(h'.P b (h.F b hb)).trans (h.P b hb),Nat.le_trans h.len h'.len,fun b g es e w hb hr=>by
  obtain⟨g1,Ab,w1,h1,h2,h3⟩:=h'.row b g es e w (Nat.lt_of_lt_of_le hb h.len) hr
  obtain⟨g2,Wd,w2,h4,h5,h6⟩:=h.row b g1 Ab e w1 hb h1
  exact⟨g2,Wd,w2,h4,Nat.le_trans h5 h2,fun hg=>(h3 (by omega)).trans (h6 (by omega))⟩,h'.Jh.trans h.Jh,Nat.le_trans h.DT h'.DT,fun b g es e w hb hm=>by
   obtain⟨g1,Ab,w1,h1,h2,h3⟩:=h'.Am b g es e w hb (Nat.lt_of_lt_of_le hm h.DT)
   obtain⟨g2,Wd,w2,h4,h5,h6⟩:=h.Am b g1 Ab e w1 h1 (by rw[←h2];exact hm)
   exact⟨g2,Wd,w2,h4,h2.trans h5,fun hw=>h6 (h3 hw)⟩⟩
theorem Up.hq (u:Up V V') {b q:Nat} (h:V.base≤q∧q<V.P.length∧∀b' g' es e w,V.H[b']? = some (.row g' es e w)→b'≠b→V.m b'≠q):V'.base≤q∧q<V'.P.length∧∀b' g' es e w,V'.H[b']? = some (.row g' es e w)→b'≠b→V'.m b'≠q:=by
 refine⟨by rw[u.Jh];exact h.1,Nat.lt_of_lt_of_le h.2.1 u.DT,fun b' g' es e w hb cI hm => ?_⟩
 obtain⟨g0,es0,w0,h1,h2,_⟩:=u.Am b' g' es e w hb (by rw[hm];exact h.2.1)
 exact h.2.2 b' _ _ _ _ h1 cI (h2.symm.trans hm)
theorem VR.mono (u:Up V V') {x:VV} {v:Value} (h:VR V x v):VR V' x v:=by
 induction h using VR.rec (motive_2:=fun xs vs _=>VL V' xs vs) with
 | any=>exact .any _
 | sc _ h=>exact .sc _ h
 | agg cs ps _ ih=>exact .agg _ _ ih
 | eX cs ps _ ih=>exact .eX _ _ ih
 | mN k hk=>exact .mN k hk
 | tree es k b o c r e p hF hb ho hc he hk _ ih=>exact .tree es k b o c r e p (u.F _ hF) (by rw[u.P _ hF];exact hb) ho hc he hk ih
 | cD x off b o r e p hF hb ho _ ih=>exact .cD x off b o r e p (u.F _ hF) (by rw[u.P _ hF];exact hb) ho ih
 |
  ref b g o n c a n' c' aR hg h hq =>
  refine .ref b g o n c a n' c' (Nat.lt_of_lt_of_le aR u.len) (fun g' es e w hr => ?_) (fun es e w hr => ?_) fun a0 ha=>u.hq (hq a0 ha)
  ·obtain⟨g1,Ab,w1,h1,h2,_⟩:=u.row b g' es e w aR hr
   exact Nat.le_trans (hg _ _ _ _ h1) h2
  ·obtain⟨g1,Ab,w1,h1,h2,h3⟩:=u.row b g es e w aR hr
   have h4:=hg _ _ _ _ h1
   have h5:g=g1:=by omega
   subst h5
   rw[h3 rfl]
   exact h _ _ _ h1
 |
  ptr b g j off a aR hg h hq =>
  refine .ptr b g j off a (Nat.lt_of_lt_of_le aR u.len) (fun g' es e w hr => ?_) (fun es e w hr => ?_) fun a0 ha=>u.hq (hq a0 ha)
  ·obtain⟨g1,Ab,w1,h1,h2,_⟩:=u.row b g' es e w aR hr
   exact Nat.le_trans (hg _ _ _ _ h1) h2
  ·obtain⟨g1,Ab,w1,h1,h2,h3⟩:=u.row b g es e w aR hr
   have h4:=hg _ _ _ _ h1
   have h5:g=g1:=by omega
   subst h5
   rw[h3 rfl]
   exact h _ _ _ h1
 | nJ f eV ps _ ih=>exact .nJ _ _ _ ih
 | nil=>exact .nil
 | cons x v xs vs _ _ ih Tb=>exact .cons _ _ _ _ ih Tb
theorem VL.mono (u:Up V V') {xs:List VV} {vs:List Value} (h:VL V xs vs):VL V' xs vs:=by
 induction xs generalizing vs with
 | nil=>cases h;exact .nil
 |
  cons x xs ih=>cases h with
  | cons _ v _ vs h hs=>exact .cons _ _ _ _ (h.mono u) (ih hs)
end
section
variable {V:View} {xs ys:List VV} {vs ws:List Value}
theorem VL.length:∀ {xs:List VV} {vs:List Value},VL V xs vs→vs.length=xs.length
 | _,_,.nil=>rfl
 | _,_,.cons _ _ _ _ _ hs=>by simp[hs.length]
theorem VL.append:∀ {xs:List VV} {vs:List Value},VL V xs vs→VL V ys ws→VL V (xs++ys) (vs++ws)
 | _,_,.nil,h'=>h'
 | _,_,.cons _ _ _ _ h hs,h' => .cons _ _ _ _ h (hs.append h')
theorem VL.take (n:Nat):∀ {xs:List VV} {vs:List Value} ,VL V xs vs→VL V (xs.take n) (vs.take n):=by
 induction n with
 | zero=>intro xs vs _;simp;exact .nil
 |
  succ n ih=>intro xs vs h;cases h with
  | nil=>simp;exact .nil
  | cons x v xs vs h hs=>exact .cons _ _ _ _ h (ih hs)
theorem VL.drop (n:Nat):∀ {xs:List VV} {vs:List Value} ,VL V xs vs→VL V (xs.drop n) (vs.drop n):=by
 induction n with
 | zero=>intro xs vs h;simpa using h
 |
  succ n ih=>intro xs vs h;cases h with
  | nil=>simp;exact .nil
  | cons x v xs vs h hs=>exact ih hs
theorem VL.get (h:VL V xs vs) {i:Nat} {x:VV} (hx:xs[i]? = some x):∃v,vs[i]? = some v∧VR V x v:=by
 induction i generalizing xs vs with
 |
  zero=>cases h with
  | nil=>cases hx
  | cons y v xs vs h hs=>simp at hx;subst hx;exact⟨v,rfl,h⟩
 |
  succ i ih=>cases h with
  | nil=>cases hx
  | cons y v xs vs h hs=>exact ih hs (by simpa using hx)
theorem VL.map {α:Type} {f:α→VV} {g:α→Value}:∀ {l:List α},(∀x∈l,VR V (f x) (g x))→VL V (l.map f) (l.map g)
 | [],_ => .nil
 | x::l,h => .cons _ _ _ _ (h x (by simp)) (VL.map fun y hy=>h y (by simp[hy]))
theorem VL.replicate {x:VV} {v:Value} (h:VR V x v):∀n,VL V (List.replicate n x) (List.replicate n v)
 | 0 => .nil
 | n+1 => .cons _ _ _ _ h (VL.replicate h n)
theorem VL.gJ {cs new:List VV} {ps pn:List Value} (h:VL V cs ps) (hn:VL V new pn) (o:Nat):VL V (bW cs o new) (gJ ps o pn):=by
 unfold bW PM.gJ
 rw[←hn.length]
 exact((h.take o).append hn).append (h.drop _)
theorem VR.gL (v:Value):VR V (gL v) v:=by
 unfold PM.gL
 split
 ·exact .mN _ (.inr rfl)
 ·split
  ·rename_i h;exact .sc _ h
  ·exact .any _
theorem VR.inj (v:Value):VR V (inj v) v:=by
 unfold PM.inj
 split
 ·rename_i cs
  have:(Value.agg cs) = .agg cs.toList.toArray:=by simp
  rw[this]
  refine .agg _ _ ?_
  have:=VL.map (V:=V) (f:=PM.gL) (g:=id) (l:=cs.toList) fun x _=>VR.gL x
  simpa using this
 ·rename_i vs
  split
  ·rename_i h
   have:vs=[].toArray:=by simpa using h
   rw[this]
   exact .eX _ _ .nil
  ·exact .any _
 ·exact VR.gL _
theorem VL.zero (z:List Value):VL V (z.map PM.gL) z:=by
 have:=VL.map (V:=V) (f:=PM.gL) (g:=id) (l:=z) fun x _=>VR.gL x
 simpa using this
theorem VR.cells {x:VV} {v:Value} (h:VR V x v) (hx:x ≠ .any):VL V (aB x) (aK v):=by
 cases h with
 | any=>exact absurd rfl hx
 |
  sc v h =>
  have:aK v=[v]:=by cases v<;>first | rfl | cases h
  rw[this]
  exact .cons _ _ _ _ (.sc v h) .nil
 | agg cs ps h=>simpa[aB,aK] using h
 | eX cs ps h=>exact .cons _ _ _ _ (.eX _ _ h) .nil
 | mN k hk=>exact .cons _ _ _ _ (.mN k hk) .nil
 | tree es k b o c r e p hF hb ho hc he hk hl=>exact .cons _ _ _ _ (.tree es k b o c r e p hF hb ho hc he hk hl) .nil
 | cD x off b o r e p hF hb ho hl=>exact .cons _ _ _ _ (.cD x off b o r e p hF hb ho hl) .nil
 | ref b g o n c a n' c' aR hg h hq=>exact .cons _ _ _ _ (.ref b g o n c a n' c' aR hg h hq) .nil
 | ptr b g j off a aR hg h hq=>exact .cons _ _ _ _ (.ptr b g j off a aR hg h hq) .nil
 | nJ f eV ps h=>exact .cons _ _ _ _ (.nJ _ _ _ h) .nil
theorem VR.fU {x:VV} {v:Value} (h:VR V x v) (hx:cB x=true):fU v=true:=by
 cases h with
 | sc v h=>cases v<;>first | rfl | cases h
 | any=>cases hx
 | agg=>cases hx
 | eX=>cases hx
 | _=>rfl
theorem VL.fU:∀ {xs:List VV} {vs:List Value},VL V xs vs→xs.all cB=true→vs.all PM.fU=true
 | _,_,.nil,_=>rfl
 |
  _,_,.cons _ _ _ _ h hs,hx=>by
  rw[List.all_cons,Bool.and_eq_true] at hx ⊢
  exact⟨h.fU hx.1,hs.fU hx.2⟩
theorem PL {x:VV} (h:(aB x).all cB=true):x ≠ .any:=by
 rintro rfl
 cases h
theorem iQ {es:List VV} {e:Nat} (he:∀x∈es,(aB x).length=e):(es.flatMap aB).length=es.length*e:=by
 induction es with
 | nil=>simp
 |
  cons x xs ih =>
  rw[List.flatMap_cons,List.length_append,ih fun y hy=>he y (List.mem_cons_of_mem _ hy),he x List.mem_cons_self,List.length_cons,Nat.succ_mul]
  omega
theorem qC {es:List VV} {e:Nat} (he:∀x∈es,(aB x).length=e) (i:Nat):(es.flatMap aB).drop (i*e)=(es.drop i).flatMap aB:=by
 induction i generalizing es with
 | zero=>simp
 |
  succ i ih =>
  cases es with
  | nil=>simp
  |
   cons x xs =>
   have hx:=he x List.mem_cons_self
   rw[List.flatMap_cons,List.drop_succ_cons,←ih fun y hy=>he y (List.mem_cons_of_mem _ hy),show (i+1)*e=(aB x).length+i*e by rw[hx,Nat.succ_mul];omega,List.drop_append]
   simp
theorem pN {es:List VV} {e:Nat} (he:∀x∈es,(aB x).length=e) (i:Nat):(es.flatMap aB).take (i*e)=(es.take i).flatMap aB:=by
 induction i generalizing es with
 | zero=>simp
 |
  succ i ih =>
  cases es with
  | nil=>simp
  |
   cons x xs =>
   have hx:=he x List.mem_cons_self
   rw[List.flatMap_cons,List.take_succ_cons,List.flatMap_cons,←ih fun y hy=>he y (List.mem_cons_of_mem _ hy),show (i+1)*e=(aB x).length+i*e by rw[hx,Nat.succ_mul];omega,List.take_append]
   simp
   exact List.take_of_length_le (by omega)
theorem Ha {es:List VV} {e:Nat} (he:∀x∈es,(aB x).length=e) {j:Nat} {x:VV} (hx:es[j]? = some x):((es.flatMap aB).drop (j*e)).take e=aB x:=by
 obtain⟨aR,YD⟩:=List.getElem?_eq_some_iff.1 hx
 rw[qC he,List.drop_eq_getElem_cons aR,YD,List.flatMap_cons,List.take_append,←he x (List.mem_of_getElem? hx)]
 simp
theorem rZ {es new:List VV} {e:Nat} (he:∀x∈es,(aB x).length=e) (hn:∀x∈new,(aB x).length=e) (o:Nat):bW (es.flatMap aB) (o*e) (new.flatMap aB)=(bW es o new).flatMap aB:=by
 unfold bW
 rw[pN he,iQ hn,show o*e+new.length*e=(o+new.length)*e by rw[Nat.add_mul],qC he]
 simp
theorem Fp {es:List VV} {j:Nat} {x:VV} (hj:j<es.length):bW es j [x]=es.set j x:=by
 unfold bW
 rw[List.set_eq_take_append_cons_drop,if_pos hj]
 simp
theorem NN {cs new:List VV} {o:Nat} (h:o+new.length≤cs.length):(bW cs o new).length=cs.length:=by
 unfold bW
 simp
 omega
theorem Fv {cs new:List VV} {o:Nat} {x:VV} (h:x∈bW cs o new):x∈cs∨x∈new:=by
 unfold bW at h
 rw[List.mem_append,List.mem_append] at h
 rcases h with(h | h) | h
 ·exact .inl (List.mem_of_mem_take h)
 ·exact .inr h
 ·exact .inl (List.mem_of_mem_drop h)
theorem kK {cs:List VV} (h:cs.all cB=true):aB (elemOf cs)=cs:=by
 unfold elemOf
 split
 ·rename_i x
  simp only[List.all_cons,List.all_nil,Bool.and_true] at h
  cases x<;>first | rfl | cases h
 ·rfl
theorem bF {H:aC} {b g:Nat} {es:List VV} {e:Nat} {w:Bool}:aM H b g=some (es,e,w)↔H[b]? = some (.row g es e w):=by
 unfold aM
 constructor
 ·intro h
  split at h
  ·rename_i hb
   split at h
   ·rename_i hg;subst hg;cases h;exact hb
   ·cases h
  ·cases h
 ·intro h
  rw[h]
  simp
end
structure SR (V:View) (lo dG:Nat):Prop where
 row:∀b g es e w,V.H[b]? = some (.row g es e w)→∃r p,V.P[V.m b]? = some (.row r e p)∧(∀x∈es,(aB x).length=e)∧VL V (es.flatMap aB) r
 wr:∀b g es e,V.H[b]? = some (.row g es e true)→¬V.F (V.m b)∧(lo≤b→dG≤V.m b)
 inj:∀a b g es e w g' kD e' w',V.H[a]? = some (.row g es e w)→V.H[b]? = some (.row g' kD e' w')→V.m a=V.m b→a=b
 fr:∀b,V.F b→b<V.P.length
 O1:dG≤V.P.length
 Jh:V.base≤V.P.length
structure Ct (lo:Nat) (V V':View):Prop extends Up V V' where
 oB:∀q,q<V.P.length→(∀b g es e,V.H[b]? = some (.row g es e true)→lo≤b→V.m b≠q)→V'.P[q]? = V.P[q]?
 BU:∀q,V'.F q→V.F q∨V.P.length≤q∨∃b g es e w,V.H[b]? = some (.row g es e w)∧V.m b=q
section
variable {V V' Mh:View} {lo:Nat}
theorem Ct.refl (lo:Nat) (V:View):Ct lo V V :=
 { Up.refl V with oB:=fun _ _ _=>rfl,BU:=fun _ h => .inl h }
theorem Ct.trans (h:Ct lo V V') (h':Ct lo V' Mh):Ct lo V Mh :=
 { Up.trans h.toUp h'.toUp with
  oB:=fun q hq hn=>by
   rw[h'.oB q (Nat.lt_of_lt_of_le hq h.DT) ?_,h.oB q hq hn]
   intro b g es e hb hl hm
   obtain⟨g1,Ab,w1,h1,h2,h3⟩:=h.Am b g es e true hb (by rw[hm];exact hq)
   have:=h3 rfl
   subst this
   exact hn b g1 Ab e h1 hl (h2.symm.trans hm)
  BU:=fun q hq=>by
   rcases h'.BU q hq with h1 | h1 | ⟨b,g,es,e,w,h1,h2⟩
   ·exact h.BU q h1
   ·exact .inr (.inl (Nat.le_trans h.DT h1))
   ·rcases Nat.lt_or_ge q V.P.length with hl | hl
    ·obtain⟨g1,Ab,w1,h3,h4,_⟩:=h.Am b g es e w h1 (by rw[h2];exact hl)
     exact .inr (.inr ⟨b,g1,Ab,e,w1,h3,h4.symm.trans h2⟩)
    ·exact .inr (.inl hl) }
end
end Go.PM
namespace Go.PM
def TM (m:Nat→Nat) (b v:Nat):Nat→Nat:=fun k=>if k=b then v else m k
theorem jE {m:Nat→Nat} {b v:Nat}:TM m b v b=v:=by simp[TM]
theorem jV {m:Nat→Nat} {b v k:Nat} (h:k≠b):TM m b v k=m k:=by simp[TM,h]
section
variable {V:View} {lo dG:Nat}
theorem SR.mlt (hS:SR V lo dG) {b g e:Nat} {es:List VV} {w:Bool} (hb:V.H[b]? = some (.row g es e w)):V.m b<V.P.length:=by
 obtain⟨r,p,h,_⟩:=hS.row b g es e w hb
 exact(List.getElem?_eq_some_iff.1 h).1
theorem yG (hS:SR V lo dG) (x:NA):SR { V with P:=V.P++[x],F:=fun q=>V.F q∨q=V.P.length } lo dG∧Ct lo V { V with P:=V.P++[x],F:=fun q=>V.F q∨q=V.P.length }:=by
 have hU:Up V { V with P:=V.P++[x],F:=fun q=>V.F q∨q=V.P.length }:=⟨fun _ h => .inl h,fun b hb=>List.getElem?_append_left (hS.fr b hb),Nat.le_refl _,fun b g es e w _ h=>⟨g,es,w,h,Nat.le_refl _,fun _=>rfl⟩,rfl,by simp,fun b g es e w hb _=>⟨g,es,w,hb,rfl,id⟩⟩
 refine⟨⟨fun b g es e w hb => ?_,fun b g es e hb=>⟨fun hF => ?_,(hS.wr b g es e hb).2⟩,hS.inj,fun b hb => ?_,by have:=hS.O1;simp;omega,by have:=hS.Jh;simp;omega⟩,{ hU with oB:=fun q hq _=>List.getElem?_append_left hq,BU:=fun q hq => ?_ }⟩
 ·obtain⟨r,p,h1,h2,h3⟩:=hS.row b g es e w hb
  exact⟨r,p,by rw[←h1];exact List.getElem?_append_left (hS.mlt hb),h2,h3.mono hU⟩
 ·rcases hF with hF | hF
  ·exact(hS.wr b g es e hb).1 hF
  ·have h1:V.m b=V.P.length:=hF
   have:=hS.mlt hb
   omega
 ·rcases hb with hb | hb
  ·have:=hS.fr b hb
   simp;omega
  ·subst hb;simp
 ·rcases hq with hq | hq
  ·exact .inl hq
  ·exact .inr (.inl (by omega))
theorem nU (hS:SR V lo dG) {es:List VV} {r:List Value} {e:Nat} (p:Bool) (he:∀x∈es,(aB x).length=e) (hl:VL V (es.flatMap aB) r) :
  SR { V with m:=TM V.m V.H.length V.P.length,H:=V.H++[.row 0 es e true],P:=V.P++[.row r e p] } lo dG∧Ct lo V { V with m:=TM V.m V.H.length V.P.length,H:=V.H++[.row 0 es e true],P:=V.P++[.row r e p] }:=by
 have Am:∀b g kD e' w,(V.H++[cZ.row 0 es e true])[b]? = some (.row g kD e' w)→(b=V.H.length∧g=0∧kD=es∧e'=e∧w=true)∨(b≠V.H.length∧V.H[b]? = some (.row g kD e' w)):=by
  intro b g kD e' w hb
  rcases Nat.lt_trichotomy b V.H.length with h | h | h
  ·rw[List.getElem?_append_left h] at hb
   exact .inr ⟨by omega,hb⟩
  ·subst h
   rw[List.getElem?_append_right (Nat.le_refl _)] at hb
   simp at hb
   obtain⟨h1,h2,h3,h4⟩:=hb
   exact .inl ⟨rfl,h1.symm,h2.symm,h3.symm,h4⟩
  ·rw[List.getElem?_eq_none (by simp;omega)] at hb
   cases hb
 have hU:Up V { V with m:=TM V.m V.H.length V.P.length,H:=V.H++[.row 0 es e true],P:=V.P++[.row r e p] } :=
  ⟨fun _ h=>h,fun b hb=>List.getElem?_append_left (hS.fr b hb),by simp,fun b g' kD e' w' aR hb=>by
   rcases Am b g' kD e' w' hb with⟨h,_⟩ | ⟨h,hb⟩
   ·omega
   ·exact⟨g',kD,w',hb,Nat.le_refl _,fun _=>jV h⟩,rfl,by simp,fun b g kD e' w hb hm=>by
   rcases Am b g kD e' w hb with⟨rfl,_⟩ | ⟨h,hb⟩
   ·simp only[jE] at hm
    omega
   ·exact⟨g,kD,w,hb,jV h,id⟩⟩
 refine⟨⟨fun b g kD e' w hb => ?_,fun b g kD e' hb => ?_,fun a b g Ab e1 w1 g' Wd e2 w2 ha hb hm => ?_,fun b hb=>by have:=hS.fr b hb;simp;omega,by have:=hS.O1;simp;omega,by have:=hS.Jh;simp;omega⟩,
  { hU with oB:=fun q hq _=>List.getElem?_append_left hq,BU:=fun q hq => .inl hq }⟩
 ·rcases Am b g kD e' w hb with⟨rfl,rfl,rfl,rfl,rfl⟩ | ⟨h,hb⟩
  ·exact⟨r,p,by simp only[jE];simp,he,hl.mono hU⟩
  ·obtain⟨r1,p1,h1,h2,h3⟩:=hS.row b g kD e' w hb
   refine⟨r1,p1,?_,h2,h3.mono hU⟩
   simp only[jV h]
   rw[List.getElem?_append_left (hS.mlt hb)]
   exact h1
 ·rcases Am b g kD e' true hb with⟨rfl,_⟩ | ⟨h,hb⟩
  ·simp only[jE]
   exact⟨fun hF=>by have:=hS.fr _ hF;omega,fun _=>hS.O1⟩
  ·simp only[jV h]
   exact hS.wr b g kD e' hb
 ·rcases Am a g Ab e1 w1 ha with⟨rfl,_⟩ | ⟨h,ha⟩
  ·rcases Am b g' Wd e2 w2 hb with⟨rfl,_⟩ | ⟨h',hb⟩
   ·rfl
   ·simp only[jE,jV h'] at hm
    have:=hS.mlt hb
    omega
  ·rcases Am b g' Wd e2 w2 hb with⟨rfl,_⟩ | ⟨h',hb⟩
   ·simp only[jE,jV h] at hm
    have:=hS.mlt ha
    omega
   ·simp only[jV h,jV h'] at hm
    exact hS.inj a b _ _ _ _ _ _ _ _ ha hb hm
theorem fE {H:aC} {b:Nat} {x:cZ} (hb:b<H.length) {a:Nat} {y:cZ} (h:(H.set b x)[a]? = some y):(a=b∧y=x)∨(a≠b∧H[a]? = some y):=by
 by_cases he:a=b
 ·subst he
  rw[List.getElem?_set_self hb] at h
  cases h
  exact .inl ⟨rfl,rfl⟩
 ·rw[List.getElem?_set_ne (Ne.symm he)] at h
  exact .inr ⟨he,h⟩
theorem AJ (hS:SR V lo dG) {b g e:Nat} {es kD:List VV} {r':List Value} (hb:V.H[b]? = some (.row g es e true)) (dP:lo≤b) (he:∀x∈kD,(aB x).length=e) (hl:VL V (kD.flatMap aB) r') {r:List Value} {p:Bool} (hp:V.P[V.m b]? = some (.row r e p)) :
  SR { V with H:=V.H.set b (.row g kD e true),P:=V.P.set (V.m b) (.row r' e p) } lo dG∧Ct lo V { V with H:=V.H.set b (.row g kD e true),P:=V.P.set (V.m b) (.row r' e p) }:=by
 have oY:=(List.getElem?_eq_some_iff.1 hb).1
 have KW:=hS.mlt hb
 have hU:Up V { V with H:=V.H.set b (.row g kD e true),P:=V.P.set (V.m b) (.row r' e p) } :=
  ⟨fun _ h=>h,fun q hq=>List.getElem?_set_ne (fun h=>(hS.wr b g es e hb).1 (by rw[h];exact hq)),by simp,fun a g' Ab e1 w1 aR ha=>by
   rcases fE oY ha with⟨rfl,h⟩ | ⟨_,h⟩
   ·cases h
    exact⟨g,es,true,hb,Nat.le_refl _,fun _=>rfl⟩
   ·exact⟨g',Ab,w1,h,Nat.le_refl _,fun _=>rfl⟩,rfl,by simp,fun a g1 Ab e1 w1 ha _=>by
   rcases fE oY ha with⟨rfl,h⟩ | ⟨cI,h⟩
   ·cases h
    exact⟨g,es,true,hb,rfl,fun _=>rfl⟩
   ·exact⟨g1,Ab,w1,h,rfl,id⟩⟩
 refine⟨⟨fun a g1 Ab e1 w1 ha => ?_,fun a g1 Ab e1 ha => ?_,fun a c g1 Ab e1 w1 g2 Wd e2 w2 ha hc hm => ?_,fun q hq=>by have:=hS.fr q hq;simp;omega,by have:=hS.O1;simp;omega,by have:=hS.Jh;simp;omega⟩,
  { hU with oB:=fun q hq hn=>List.getElem?_set_ne (hn b g es e hb dP),BU:=fun q hq => .inl hq }⟩
 ·rcases fE oY ha with⟨rfl,h⟩ | ⟨cI,h⟩
  ·cases h
   exact⟨r',p,List.getElem?_set_self KW,he,hl.mono hU⟩
  ·obtain⟨r1,p1,h1,h2,h3⟩:=hS.row a g1 Ab e1 w1 h
   exact⟨r1,p1,by rw[←h1];exact List.getElem?_set_ne (fun hm=>cI (hS.inj _ _ _ _ _ _ _ _ _ _ h hb hm.symm)),h2,h3.mono hU⟩
 ·rcases fE oY ha with⟨rfl,h⟩ | ⟨cI,h⟩
  ·cases h
   exact hS.wr _ _ _ _ hb
  ·exact hS.wr _ _ _ _ h
 ·rcases fE oY ha with⟨rfl,h⟩ | ⟨cI,h⟩<;>rcases fE oY hc with⟨rfl,h'⟩ | ⟨Sj,h'⟩
  ·rfl
  ·exact hS.inj _ _ _ _ _ _ _ _ _ _ hb h' hm
  ·exact hS.inj _ _ _ _ _ _ _ _ _ _ h hb hm
  ·exact hS.inj _ _ _ _ _ _ _ _ _ _ h h' hm
theorem OR (hS:SR V lo dG) {b g e:Nat} {es kD:List VV} {r':List Value} (hb:V.H[b]? = some (.row g es e true)) (dP:lo≤b) (he:∀x∈kD,(aB x).length=e) (hl:VL V (kD.flatMap aB) r') {P1:aF} (hP:P1.length=V.P.length) (hk:∀q,q≠V.m b→P1[q]? = V.P[q]?) (p:Bool) :
  SR { V with m:=TM V.m b V.P.length,H:=V.H.set b (.row (g+1) kD e true),P:=P1++[.row r' e p] } lo dG∧Ct lo V { V with m:=TM V.m b V.P.length,H:=V.H.set b (.row (g+1) kD e true),P:=P1++[.row r' e p] }:=by
 have oY:=(List.getElem?_eq_some_iff.1 hb).1
 have KW:=hS.mlt hb
 have uB:∀q,q<V.P.length→q≠V.m b→(P1++[NA.row r' e p])[q]? = V.P[q]? := fun q hq hn=>by rw[List.getElem?_append_left (by omega)];exact hk q hn
 have hU:Up V { V with m:=TM V.m b V.P.length,H:=V.H.set b (.row (g+1) kD e true),P:=P1++[.row r' e p] } :=
  ⟨fun _ h=>h,fun q hq=>uB q (hS.fr q hq) (fun h=>(hS.wr b g es e hb).1 (by rw[←h];exact hq)),by simp,fun a g' Ab e1 w1 aR ha=>by
   rcases fE oY ha with⟨rfl,h⟩ | ⟨cI,h⟩
   ·cases h
    exact⟨g,es,true,hb,by omega,fun h=>by omega⟩
   ·exact⟨g',Ab,w1,h,Nat.le_refl _,fun _=>jV cI⟩,rfl,by simp;omega,fun a g1 Ab e1 w1 ha hm=>by
   rcases fE oY ha with⟨rfl,h⟩ | ⟨cI,h⟩
   ·simp only[jE] at hm
    omega
   ·exact⟨g1,Ab,w1,h,jV cI,id⟩⟩
 refine⟨⟨fun a g1 Ab e1 w1 ha => ?_,fun a g1 Ab e1 ha => ?_,fun a c g1 Ab e1 w1 g2 Wd e2 w2 ha hc hm => ?_,fun q hq=>by have:=hS.fr q hq;simp;omega,by have:=hS.O1;simp;omega,by have:=hS.Jh;simp;omega⟩,
  { hU with oB:=fun q hq hn=>uB q hq (Ne.symm (hn b g es e hb dP)),BU:=fun q hq => .inl hq }⟩
 ·rcases fE oY ha with⟨rfl,h⟩ | ⟨cI,h⟩
  ·cases h
   refine⟨r',p,?_,he,hl.mono hU⟩
   simp only[jE]
   rw[←hP]
   simp
  ·obtain⟨r1,p1,h1,h2,h3⟩:=hS.row a g1 Ab e1 w1 h
   refine⟨r1,p1,?_,h2,h3.mono hU⟩
   simp only[jV cI]
   rw[uB _ (hS.mlt h) (fun hm=>cI (hS.inj _ _ _ _ _ _ _ _ _ _ h hb hm))]
   exact h1
 ·rcases fE oY ha with⟨rfl,h⟩ | ⟨cI,h⟩
  ·cases h
   simp only[jE]
   exact⟨fun hF=>by have:=hS.fr _ hF;omega,fun _=>hS.O1⟩
  ·simp only[jV cI]
   exact hS.wr _ _ _ _ h
 ·rcases fE oY ha with⟨rfl,h⟩ | ⟨cI,h⟩<;>rcases fE oY hc with⟨rfl,h'⟩ | ⟨Sj,h'⟩
  ·rfl
  ·simp only[jE,jV Sj] at hm
   have:=hS.mlt h'
   omega
  ·simp only[jE,jV cI] at hm
   have:=hS.mlt h
   omega
  ·simp only[jV cI,jV Sj] at hm
   exact hS.inj _ _ _ _ _ _ _ _ _ _ h h' hm
def View.freeze (V:View) (b:Nat):View :=
 match V.H[b]? with
 | some (.row _ _ _ _)=>{ V with H:=yD V.H b,F:=fun q=>V.F q∨q=V.m b }
 | _=>V
theorem ME (V:View) (b:Nat):(V.freeze b).H=yD V.H b:=by
 unfold View.freeze yD
 cases h:V.H[b]? with
 | none=>rfl
 | some x=>cases x<;>rfl
theorem WW (V:View) (b:Nat):(V.freeze b).P=V.P:=by
 unfold View.freeze
 split<;>rfl
theorem N4 (V:View) (b:Nat):(V.freeze b).m=V.m:=by
 unfold View.freeze
 split<;>rfl
theorem Le (hS:SR V lo dG) (b:Nat):SR (V.freeze b) lo dG∧Ct lo V (V.freeze b)∧(∀g es e w,V.H[b]? = some (.row g es e w)→(V.freeze b).F (V.m b)):=by
 unfold View.freeze
 split
 case h_2 cI=>exact⟨hS,Ct.refl _ _,fun g es e w h=>absurd h (cI _ _ _ _)⟩
 rename_i g es e w hb
 have oY:=(List.getElem?_eq_some_iff.1 hb).1
 have hf:yD V.H b=V.H.set b (.row g es e false):=by unfold yD;rw[hb]
 rw[hf]
 have hU:Up V { V with H:=V.H.set b (.row g es e false),F:=fun q=>V.F q∨q=V.m b } :=
  ⟨fun _ h => .inl h,fun _ _=>rfl,by simp,fun a g' Ab e1 w1 aR ha=>by
   rcases fE oY ha with⟨rfl,h⟩ | ⟨_,h⟩
   ·cases h
    exact⟨g,es,w,hb,Nat.le_refl _,fun _=>rfl⟩
   ·exact⟨g',Ab,w1,h,Nat.le_refl _,fun _=>rfl⟩,rfl,Nat.le_refl _,fun a g1 Ab e1 w1 ha hm=>by
   rcases fE oY ha with⟨rfl,h⟩ | ⟨cI,h⟩
   ·cases h
    exact⟨g,es,w,hb,rfl,fun h=>by cases h⟩
   ·exact⟨g1,Ab,w1,h,rfl,id⟩⟩
 refine⟨⟨fun a g1 Ab e1 w1 ha => ?_,fun a g1 Ab e1 ha => ?_,fun a c g1 Ab e1 w1 g2 Wd e2 w2 ha hc hm => ?_,fun q hq => ?_,hS.O1,hS.Jh⟩,
  { hU with oB:=fun q hq hn=>rfl,BU:=fun q hq => ?_ },fun _ _ _ _ _ => .inr rfl⟩
 ·rcases fE oY ha with⟨rfl,h⟩ | ⟨cI,h⟩
  ·cases h
   obtain⟨r1,p1,h1,h2,h3⟩:=hS.row _ _ _ _ _ hb
   exact⟨r1,p1,h1,h2,h3.mono hU⟩
  ·obtain⟨r1,p1,h1,h2,h3⟩:=hS.row _ _ _ _ _ h
   exact⟨r1,p1,h1,h2,h3.mono hU⟩
 ·rcases fE oY ha with⟨rfl,h⟩ | ⟨cI,h⟩
  ·cases h
  ·refine⟨fun hF => ?_,(hS.wr _ _ _ _ h).2⟩
   rcases hF with hF | hF
   ·exact(hS.wr _ _ _ _ h).1 hF
   ·exact cI (hS.inj _ _ _ _ _ _ _ _ _ _ h hb hF)
 ·rcases fE oY ha with⟨rfl,h⟩ | ⟨cI,h⟩<;>rcases fE oY hc with⟨rfl,h'⟩ | ⟨Sj,h'⟩
  ·rfl
  ·exact hS.inj _ _ _ _ _ _ _ _ _ _ hb h' hm
  ·exact hS.inj _ _ _ _ _ _ _ _ _ _ h hb hm
  ·exact hS.inj _ _ _ _ _ _ _ _ _ _ h h' hm
 ·rcases hq with hq | hq
  ·exact hS.fr q hq
  ·subst hq;exact hS.mlt hb
 ·rcases hq with hq | hq
  ·exact .inl hq
  ·exact .inr (.inr ⟨b,g,es,e,w,hb,hq.symm⟩)
end
end Go.PM
namespace Go.PM
section
variable {V:View} {lo dG:Nat} {ρ:cN} {iR:Env}
def ER (V:View) (ρ:cN) (iR:Env):Prop:=∀t,VR V (ρ t) (iR t)
theorem ER.mono {V':View} (u:Up V V') (h:ER V ρ iR):ER V' ρ iR:=fun t=>(h t).mono u
theorem ER.ev (h:ER V ρ iR) (x:Operand):VR V (dJ ρ x) (ev iR x):=by
 cases x with
 | tmp t=>exact h t
 | const v=>exact VR.inj v
 | global g=>exact .any _
 | func f=>exact .nJ f [] [] .nil
theorem ER.put {d:Option Nat} {x:VV} {v:Value} (h:ER V ρ iR) (hx:VR V x v):ER V (Gc ρ d x) (put iR d v):=by
 cases d with
 | none=>exact h
 |
  some d =>
  intro t
  simp only[Gc,PM.put]
  split
  ·exact hx
  ·exact h t
theorem ER.evs (h:ER V ρ iR) (xs:List Operand):VL V (xs.map (dJ ρ)) (xs.map (PM.ev iR)):=VL.map fun x _=>h.ev x
def fK (lo dG:Nat) (V:View) (r:Option (Value×aF)) (v:VV) (H':aC):Prop :=
 ∃pv V',r=some (pv,V'.P)∧V'.H=H'∧SR V' lo dG∧Ct lo V V'∧VR V' v pv
theorem fK.pure (hS:SR V lo dG) {r:Option Value} {v:VV} {pv:Value} (h:r=some pv) (hv:VR V v pv):fK lo dG V (r.map (·,V.P)) v V.H :=
 ⟨pv,V,by rw[h];rfl,rfl,hS,Ct.refl _ _,hv⟩
theorem fK.of {V':View} {pv:Value} {v:VV} (h:SR V' lo dG∧Ct lo V V') (hv:VR V' v pv):fK lo dG V (some (pv,V'.P)) v V'.H:=⟨pv,V',rfl,rfl,h.1,h.2,hv⟩
theorem fK.same (hS:SR V lo dG) {v:VV} {pv:Value} (hv:VR V v pv):fK lo dG V (some (pv,V.P)) v V.H :=
 ⟨pv,V,rfl,rfl,hS,Ct.refl _ _,hv⟩
theorem bR {α β:Type} {o:Option α} {f:α→β} {b:β} (h:o.map f=some b):∃a,o=some a∧f a=b:=by
 cases o with
 | none=>cases h
 | some a=>cases h;exact⟨a,rfl,rfl⟩
theorem nM {x:VV} {v u:Value} (h:VR V x u) (hx:x = .sc v):u=v∧kQ v=true:=by
 subst hx
 cases h with
 | sc v h=>exact⟨rfl,h⟩
theorem Wo {op:BinOp} {a b c:Value} (h:cY op a b=some c):kQ c=true:=by
 unfold cY at h
 split at h
 ·split at h<;>cases h;rfl
 ·split at h<;>cases h;rfl
 ·split at h
  ·split at h<;>first | (cases h;rfl) | (split at h<;>cases h<;>rfl) | cases h
  ·cases h
 ·split at h<;>first | (cases h;rfl) | (split at h<;>cases h<;>rfl) | cases h
 ·cases h
theorem YP {op:UnOp} {a c:Value} (h:TT op a=some c):kQ c=true:=by
 unfold TT at h
 split at h<;>cases h<;>rfl
theorem Ws {n:Bool} {a b c:Value} (h:Po n a b=some c):kQ c=true:=by
 unfold Po at h
 split at h<;>cases h;rfl
theorem Vh {k:IntKind} {a c:Value} (h:P6 k a=some c):kQ c=true:=by
 unfold P6 at h
 split at h<;>cases h;rfl
theorem VA {a c:Value} (h:S9 a=some c):kQ c=true:=by
 unfold S9 at h
 split at h<;>cases h;rfl
theorem Ss {a c:Value} (h:Da a=some c):kQ c=true:=by
 unfold Da at h
 split at h<;>cases h;rfl
theorem R5 {a b c:Value} (h:Ec a b=some c):kQ c=true:=by
 unfold Ec at h
 split at h
 ·split at h<;>cases h;rfl
 ·cases h
theorem WL {a b c:Value} (h:MX a b=some c):kQ c=true:=by
 unfold MX at h
 split at h<;>cases h;rfl
theorem Uo {a b c:Value} (h:Ol a b=some c):kQ c=true:=by
 unfold Ol at h
 split at h<;>cases h;rfl
theorem Bm (hS:SR V lo dG) {f:Value→Option Value} (hf:∀a c,f a=some c→kQ c=true) {x v:VV} {u:Value} (hx:VR V x u) (h:Ip f x=some v):fK lo dG V ((f u).map (·,V.P)) v V.H:=by
 unfold Ip at h
 split at h
 ·obtain⟨h1,_⟩:=nM hx rfl
  subst h1
  obtain⟨c,hc,rfl⟩:=bR h
  exact fK.pure hS hc (.sc _ (hf _ _ hc))
 ·cases h
theorem xQ (hS:SR V lo dG) {f:Value→Value→Option Value} (hf:∀a b c,f a b=some c→kQ c=true) {x y v:VV} {u w:Value} (hx:VR V x u) (hy:VR V y w) (h:Fe f x y=some v):fK lo dG V ((f u w).map (·,V.P)) v V.H:=by
 unfold Fe at h
 split at h
 ·obtain⟨h1,_⟩:=nM hx rfl
  obtain⟨h2,_⟩:=nM hy rfl
  subst h1 h2
  obtain⟨c,hc,rfl⟩:=bR h
  exact fK.pure hS hc (.sc _ (hf _ _ _ hc))
 ·cases h
theorem Pb {α:Type} (l:List α) {o n a k:Nat} (h:a+k≤n):(((l.drop o).take n).drop a).take k=(l.drop (o+a)).take k:=by
 rw[List.drop_take,List.take_take,List.drop_drop,Nat.min_eq_left (by omega)]
theorem Mw {x v:VV} {agg:Bool} {size off b o e:Nat} {r:List Value} {p:Bool} (hb:V.P[b]? = some (.row r e p)) (ho:o+(aB x).length≤r.length) (hl:VL V (aB x) ((r.drop o).take (aB x).length)) (h:bU agg size x off=some v) :
  ∃u,kU agg size (.pointer (some ⟨b,o+off,none⟩)) V.P=some u∧VR V v u:=by
 unfold bU at h
 cases agg with
 |
  true =>
  simp only[if_true] at h
  split at h
  ·rename_i hs
   cases h
   refine⟨.agg ((r.drop (o+off)).take size).toArray,?_,.agg _ _ ?_⟩
   ·simp only[kU,if_true,xR hb (show o+off+size≤r.length by omega)]
    rfl
   ·have:=(hl.drop off).take size
    rw[Pb _ hs] at this
    exact this
  ·cases h
 |
  false =>
  simp only[Bool.false_eq_true,if_false] at h
  obtain⟨u,hu,hv⟩:=hl.get h
  have ZY:=(List.getElem?_eq_some_iff.1 h).1
  rw[List.getElem?_take,if_pos ZY,List.getElem?_drop] at hu
  refine⟨u,?_,hv⟩
  have aR:=(List.getElem?_eq_some_iff.1 hu).1
  simp only[kU,Bool.false_eq_true,if_false,xR hb (show o+off+1≤r.length by omega)]
  rw[List.drop_eq_getElem_cons aR]
  simp only[List.take_succ_cons,List.take_zero]
  rw[List.getElem?_eq_getElem aR] at hu
  injection hu with hu
  rw[hu]
theorem Iw (hS:SR V lo dG) {b g e j:Nat} {es:List VV} {w:Bool} {x:VV} (hb:V.H[b]? = some (.row g es e w)) (hx:es[j]? = some x) :
  ∃r p,V.P[V.m b]? = some (.row r e p)∧(aB x).length=e∧j*e+(aB x).length≤r.length∧VL V (aB x) ((r.drop (j*e)).take (aB x).length):=by
 obtain⟨r,p,h1,h2,h3⟩:=hS.row b g es e w hb
 have hxe:=h2 x (List.mem_of_getElem? hx)
 have hj:=(List.getElem?_eq_some_iff.1 hx).1
 have hlen:=h3.length
 rw[iQ h2] at hlen
 have hm:(j+1)*e≤es.length*e:=Nat.mul_le_mul_right _ hj
 rw[Nat.succ_mul] at hm
 refine⟨r,p,h1,hxe,by omega,?_⟩
 have:=(h3.drop (j*e)).take e
 rw[Ha h2 hx] at this
 rw[hxe]
 exact this
theorem Ho (hS:SR V lo dG) {p v:VV} {u:Value} {agg:Bool} {size:Nat} (hp:VR V p u) (h:eZ agg size p V.H=some v):∃w,kU agg size u V.P=some w∧VR V v w:=by
 unfold eZ at h
 split at h
 ·cases hp with
  | cD x off b o r e p hF hb ho hl=>exact Mw hb ho hl h
 ·split at h
  ·rename_i es e w hr
   rw[bF] at hr
   split at h
   ·rename_i x hx
    cases hp with
    |
     ptr b g j off a aR hg ha hq =>
     have:=ha _ _ _ hr
     subst this
     obtain⟨r,p,h1,h2,h3,h4⟩:=Iw hS hr hx
     exact Mw h1 h3 h4 h
   ·cases h
  ·cases h
 ·cases h
theorem MH (hS:SR V lo dG) {x i v:VV} {u k:Value} {size:Nat} (hx:VR V x u) (hi:VR V i k) (h:aZ size x i V.H=some v):∃w,LP size u k=some w∧VR V v w:=by
 unfold aZ at h
 split at h
 ·rename_i es tk ik i
  obtain⟨rfl,_⟩:=nM hi rfl
  split at h
  ·rename_i h0
   split at h
   ·rename_i y hy
    split at h
    ·rename_i Aa
     cases h
     have aR:=(List.getElem?_eq_some_iff.1 hy).1
     cases hx with
     | mN=>simp at aR
     |
      tree es k b o c r e p hF hb ho hc he hk hl =>
      have hye:=he y (List.mem_of_getElem? hy)
      have IX:e=size:=by omega
      subst IX
      have hm:(i.toNat+1)*e≤es.length*e:=Nat.mul_le_mul_right _ aR
      rw[Nat.succ_mul] at hm
      refine⟨_,Me h0 (by omega),?_⟩
      have h1:=(hl.drop (i.toNat*e)).take e
      rw[Ha he hy,Pb _ (by omega)] at h1
      exact .cD y 0 b (o+i.toNat*e) r e p hF hb (by omega) (by rw[hye];exact h1)
    ·cases h
   ·cases h
  ·cases h
 ·rename_i b g o n c ik i
  obtain⟨rfl,_⟩:=nM hi rfl
  split at h
  ·rename_i es e w hr
   rw[bF] at hr
   split at h
   ·rename_i hc
    obtain⟨rfl,h0,h1⟩:=hc
    cases h
    cases hx with
    |
     ref b g o n c a n' c' aR hg ha hq =>
     obtain⟨rfl,rfl,rfl⟩:=ha _ _ _ hr
     refine⟨_,Me h0 h1,.ptr b g (o+i.toNat) 0 _ aR hg (fun kD e' w' EP => ?_) fun a0 h=>by cases h;exact hq ⟨V.m b,o*e,none⟩ rfl⟩
     rw[hr] at EP
     cases EP
     rw[Nat.add_mul,Nat.add_zero]
   ·cases h
  ·cases h
 ·cases h
theorem wK {l:Option Operand} {lv:Option Value} (hE:ER V ρ iR) (h:Dq (l.map (dJ ρ))=some lv):l.map (ev iR)=lv:=by
 cases l with
 | none=>cases h;rfl
 |
  some x =>
  simp only[Option.map_some,Dq] at h
  split at h
  ·rename_i hv;cases hv
  ·rename_i v hv
   cases h
   injection hv with hv
   obtain⟨h1,_⟩:=nM (hE.ev x) hv
   rw[Option.map_some,h1]
  ·cases h
theorem EA {v:Option Value} {d:Option Nat} {t x:Nat} (hd:∀y,d=some y→y≤t) (h:dK v d t=some x):x≤t:=by
 unfold dK at h
 split at h
 ·exact hd _ h
 ·split at h
  ·cases h;omega
  ·cases h
 ·cases h
theorem Jw {v:Option Value} {d d':Option Nat} {t t' x:Nat} (ht:t≤t') (hd:v=none→d=d') (h:dK v d t=some x):dK v d' t'=some x:=by
 unfold dK at h ⊢
 cases v with
 | none=>rw[←hd rfl];exact h
 |
  some v =>
  cases v with
  |
   int k i =>
   simp only at h ⊢
   split at h
   ·rename_i h1;rw[if_pos (by omega)];exact h
   ·cases h
  | _=>simp only at h ⊢;exact h
theorem Ka (hS:SR V lo dG) (size:Nat):fK lo dG V (some (.slice (some ⟨V.P.length,0,none⟩) 0 0,V.P++[.row [] size false])) (.tree [] (.cl size)) V.H:=by
 exact(fK.of (yG hS (.row [] size false)) (.tree [] (.cl size) V.P.length 0 0 [] size false (.inr rfl) (by simp) (by simp) (by simp) (fun x hx=>by cases hx) ⟨rfl,rfl,rfl⟩ (by simp;exact .nil)) :)
theorem SX (hS:SR V lo dG) (hE:ER V ρ iR) {x v:VV} {u:Value} {size:Nat} {l h m:Option Operand} (hx:VR V x u) (hv:AA size x (l.map (dJ ρ)) (h.map (dJ ρ)) (m.map (dJ ρ)) V.H=some v) :
  fK lo dG V (Ah size u (l.map (ev iR)) (h.map (ev iR)) (m.map (ev iR)) V.P) v V.H:=by
 unfold AA at hv
 split at hv
 case h_2=>cases hv
 rename_i lv hhv mv hl hh hm
 rw[wK hE hl,wK hE hh,wK hE hm]
 split at hv
 ·rename_i y ys tk
  split at hv
  case isFalse=>cases hv
  rename_i Aa
  split at hv
  ·cases hv
  rename_i m0 Ya
  split at hv
  ·cases hv
  rename_i h0 hh0
  split at hv
  ·cases hv
  rename_i l0 IV
  cases hx with
  |
   tree es k b o c r e p hF hb ho hc he hk hl =>
   have IX:e=size:=by rw[←he y List.mem_cons_self];exact Aa
   subst IX
   have hlen:(y::ys).length=ys.length+1:=rfl
   rw[hlen] at ho hc
   have b1:m0≤ys.length+1:=EA (fun z hz=>by injection hz with hz;omega) Ya
   have b2:h0≤m0:=by
    refine EA (fun z hz => ?_) hh0
    split at hz
    ·cases hz
    ·rename_i hmn
     injection hz with hz
     have:mv=none:=by cases mv<;>simp_all
     subst this
     simp[dK] at Ya
     omega
   have b3:l0≤h0:=EA (fun z hz=>by injection hz with hz;omega) IV
   have e1:dK mv (some c) c=some (if mv.isSome then m0 else c):=by
    cases mv with
    | none=>rfl
    | some q=>exact Jw hc (fun hq=>by cases hq) Ya
   have e2:dK hhv (if mv.isSome then none else some (ys.length+1)) (if mv.isSome then m0 else c)=some h0:=by
    cases mv with
    |
     none =>
     simp only[Option.isSome_none,Bool.false_eq_true,if_false] at hh0 ⊢
     exact Jw (by omega) (fun _=>rfl) hh0
    | some q=>exact hh0
   unfold Ah
   simp only[hb,if_true]
   rw[e1]
   simp only
   rw[hlen,e2]
   simp only
   rw[IV]
   simp only
   by_cases jM:mv.isSome=true∧m0=l0
   ·rw[if_pos jM] at hv
    cases hv
    rw[if_pos ⟨jM.1,by rw[if_pos jM.1];exact jM.2⟩]
    exact Ka hS e
   ·rw[if_neg jM] at hv
    cases hv
    rw[if_neg (fun hh=>jM ⟨hh.1,by have:=hh.2;rw[if_pos hh.1] at this;exact this⟩)]
    have aR:(((y::ys).drop l0).take (h0-l0)).length=h0-l0:=by simp;omega
    have Jd:l0*e+(h0-l0)*e=h0*e:=by rw[←Nat.add_mul];congr 1;omega
    have SP:h0*e≤(ys.length+1)*e:=Nat.mul_le_mul_right _ (by omega)
    have UD:h0-l0≤(if mv.isSome then m0 else c)-l0:=by split<;>omega
    have:=VR.tree (V:=V) (((y::ys).drop l0).take (h0-l0)) .op b (o+l0*e) ((if mv.isSome then m0 else c)-l0) r e p hF hb (by rw[aR];omega) (by rw[aR];exact UD) (fun z hz=>he z (List.mem_of_mem_drop (List.mem_of_mem_take hz))) trivial (by
     rw[aR]
     have h1:=(hl.drop (l0*e)).take ((h0-l0)*e)
     rw[Pb _ (by rw[hlen];omega),qC he,pN (fun z hz=>he z (List.mem_of_mem_drop hz))] at h1
     exact h1)
    rw[aR] at this
    exact fK.same hS this
 ·rename_i b g o n c
  split at hv
  case h_2=>cases hv
  rename_i es e w hr
  rw[bF] at hr
  split at hv
  case isFalse=>cases hv
  rename_i Aa
  subst Aa
  split at hv
  ·cases hv
  rename_i m0 Ya
  split at hv
  ·cases hv
  rename_i h0 hh0
  split at hv
  ·cases hv
  rename_i l0 IV
  cases hx with
  |
   ref b g o n c a n' c' aR hg ha hq =>
   obtain⟨rfl,rfl,rfl⟩:=ha _ _ _ hr
   obtain⟨r,p,h1,_⟩:=hS.row b g es e w hr
   unfold Ah
   simp only[h1,if_true]
   rw[Ya]
   simp only
   rw[hh0]
   simp only
   rw[IV]
   simp only
   by_cases jM:mv.isSome=true∧m0=l0
   ·rw[if_pos jM] at hv
    cases hv
    rw[if_pos jM]
    exact Ka hS e
   ·rw[if_neg jM] at hv
    cases hv
    rw[if_neg jM]
    refine fK.same hS (.ref b g (o+l0) _ _ _ _ _ aR hg (fun kD e' w' EP => ?_) fun a0 h=>by cases h;exact hq ⟨V.m b,o*e,none⟩ rfl)
    rw[hr] at EP
    cases EP
    exact⟨by rw[Nat.add_mul],rfl,rfl⟩
 ·cases hv
theorem wI {es:List VV} (h:(es.all fun x=>(aB x).all cB)=true):(es.flatMap aB).all cB=true:=by
 rw[List.all_eq_true] at h ⊢
 intro x hx
 obtain⟨y,hy,C4⟩:=List.mem_flatMap.1 hx
 exact List.all_eq_true.1 (h y hy) x C4
theorem rX (hS:SR V lo dG) {y:VV} {u:Value} {size:Nat} {new:List VV} (hy:VR V y u) (h:cM size y V.H=some new) :
  oL u=some new.length∧(∀x∈new,(aB x).length=size)∧(new.flatMap aB).all cB=true∧∀n,n≤new.length→∃pn,gU V.P size n u=some pn∧VL V ((new.take n).flatMap aB) pn:=by
 unfold cM at h
 split at h
 ·rename_i es tk
  split at h
  case isFalse=>cases h
  rename_i iN
  cases h
  have Xh:∀x∈new,(aB x).length=size∧(aB x).all cB=true:=fun x hx=>by
   have:=List.all_eq_true.1 iN x hx
   simpa using this
  refine⟨?_,fun x hx=>(Xh x hx).1,wI (List.all_eq_true.2 fun x hx=>(Xh x hx).2),fun n hn => ?_⟩
  ·cases hy<;>rfl
  ·cases hy with
   |
    mN k hk =>
    have:n=0:=by simpa using hn
    subst this
    exact⟨[],rfl,by simp;exact .nil⟩
   |
    tree es k b o c r e p hF hb ho hc he hk hl =>
    cases IX:new with
    |
     nil =>
     rw[IX] at hn
     have:n=0:=by simpa using hn
     subst this
     refine⟨[],?_,by simp;exact .nil⟩
     simp only[gU,Nat.zero_mul]
     rw[xR hb (by omega)]
     simp
    |
     cons x xs =>
     have PU:e=size:=by rw[←he x (by rw[IX];exact List.mem_cons_self)];exact(Xh x (by rw[IX];exact List.mem_cons_self)).1
     subst PU
     have hm:n*e≤new.length*e:=Nat.mul_le_mul_right _ hn
     refine⟨_,by simp only[gU];exact xR hb (by omega),?_⟩
     rw[←IX,←pN he]
     have h1:=hl.take (n*e)
     rw[List.take_take,Nat.min_eq_left hm] at h1
     exact h1
 ·rename_i b g o n c
  split at h
  case h_2=>cases h
  rename_i es e w hr
  rw[bF] at hr
  split at h
  case isFalse=>cases h
  rename_i hc
  obtain⟨rfl,hlen,iN⟩:=hc
  cases h
  obtain⟨r,p,h1,h2,h3⟩:=hS.row b g es e w hr
  have Xk:((es.drop o).take n).length=n:=by simp;omega
  have FA:=h3.length
  rw[iQ h2] at FA
  cases hy with
  |
   ref b g o n c a n' c' aR hg ha hq =>
   obtain⟨rfl,rfl,rfl⟩:=ha _ _ _ hr
   have V9:∀x∈(es.drop o).take n',(aB x).length=e:=fun x hx=>h2 x (List.mem_of_mem_drop (List.mem_of_mem_take hx))
   refine⟨by rw[Xk];rfl,V9,wI iN,fun k hk => ?_⟩
   rw[Xk] at hk
   have hm:(o+k)*e≤es.length*e:=Nat.mul_le_mul_right _ (by omega)
   rw[Nat.add_mul] at hm
   refine⟨_,by simp only[gU];exact xR h1 (by omega),?_⟩
   rw[List.take_take,Nat.min_eq_left hk]
   have h4:=(h3.drop (o*e)).take (k*e)
   rw[qC h2,pN (fun x hx=>h2 x (List.mem_of_mem_drop hx))] at h4
   exact h4
 ·rename_i s
  split at h
  case isFalse=>cases h
  rename_i hs
  subst hs
  cases h
  obtain⟨rfl,_⟩:=nM hy rfl
  have hlen:(s.data.toList.map fun b=>VV.sc (.int .u8 (b.toNat:Int))).length=s.size:=by simp
  refine⟨by rw[hlen];rfl,fun x hx => ?_,?_,fun n hn => ?_⟩
  ·obtain⟨b,_,rfl⟩:=List.mem_map.1 hx
   rfl
  ·refine wI (List.all_eq_true.2 fun x hx => ?_)
   obtain⟨b,_,rfl⟩:=List.mem_map.1 hx
   rfl
  ·refine⟨(s.data.toList.take n).map fun b=>Value.int .u8 (b.toNat:Int),by simp only[gU,if_true],?_⟩
   rw[←List.map_take,List.flatMap_map]
   have:((s.data.toList.take n).flatMap fun a=>aB (VV.sc (.int .u8 (a.toNat:Int))))=(s.data.toList.take n).map fun a=>VV.sc (.int .u8 (a.toNat:Int)):=by
    generalize s.data.toList.take n=l
    induction l with
    | nil=>rfl
    | cons a l ih=>rw[List.flatMap_cons,ih];rfl
   rw[this]
   exact VL.map fun b _ => .sc _ rfl
 ·cases h
end
end Go.PM
namespace Go.PM
section
variable {V:View} {lo dG:Nat} {ρ:cN} {iR:Env}
theorem GK (hS:SR V lo dG) {es:List VV} {r:List Value} {e n c:Nat} {p:Bool}:VR { V with m:=TM V.m V.H.length V.P.length,H:=V.H++[.row 0 es e true],P:=V.P++[.row r e p] } (.ref V.H.length 0 0 n c) (.slice (some ⟨V.P.length,0,none⟩) n c):=by
 refine .ref _ _ _ _ _ _ _ _ (by simp) (fun g' es e w _=>Nat.zero_le _) (fun kD e' w' h=>⟨?_,rfl,rfl⟩) fun a0 ha => ?_
 ·simp only[jE,Nat.zero_mul]
 ·cases ha
  refine⟨hS.Jh,by simp,fun b' g' kD e' w' hb cI hm => ?_⟩
  have xT:(V.H++[cZ.row 0 es e true])[b']? = some (.row g' kD e' w'):=hb
  have aR:b'<V.H.length:=by
   have:=(List.getElem?_eq_some_iff.1 xT).1
   simp at this
   omega
  rw[List.getElem?_append_left aR] at xT
  have h2:=hS.mlt xT
  simp only[jV (show b'≠V.H.length by omega)] at hm
  omega
theorem Qv (hS:SR V lo dG) {es:List VV} {r:List Value} {e:Nat} {p:Bool}:VR { V with m:=TM V.m V.H.length V.P.length,H:=V.H++[.row 0 es e true],P:=V.P++[.row r e p] } (.ptr V.H.length 0 0 0) (.pointer (some ⟨V.P.length,0,none⟩)):=by
 refine .ptr _ _ _ _ _ (by simp) (fun g' es e w _=>Nat.zero_le _) (fun kD e' w' h => ?_) fun a0 ha => ?_
 ·simp only[jE,Nat.zero_mul]
 ·cases ha
  refine⟨hS.Jh,by simp,fun b' g' kD e' w' hb cI hm => ?_⟩
  have xT:(V.H++[cZ.row 0 es e true])[b']? = some (.row g' kD e' w'):=hb
  have aR:b'<V.H.length:=by
   have:=(List.getElem?_eq_some_iff.1 xT).1
   simp at this
   omega
  rw[List.getElem?_append_left aR] at xT
  have h2:=hS.mlt xT
  simp only[jV (show b'≠V.H.length by omega)] at hm
  omega
theorem C8 (hS:SR V lo dG) {x v:VV} {u:Value} {size bytes:Nat} {nw:List VV} {pn:List Value} {H':aC} (hx:VR V x u) (hn:∀x∈nw,(aB x).length=size) (zG:(nw.flatMap aB).all cB=true) (hl:VL V (nw.flatMap aB) pn) (h:dW lo size bytes x nw V.H=some (v,H')) :
  fK lo dG V (dF dG size bytes u nw.length pn V.P) v H':=by
 unfold dW at h
 split at h
 case isFalse=>cases h
 rename_i Za
 have KW:pn.length=nw.length*size:=by rw[hl.length,iQ hn]
 unfold dF
 rw[if_pos ⟨Za.1,Za.2,hl.fU zG,KW⟩]
 split at h
 ·cases hx with
  | tree es k b o c r e p hF hb ho hc he hk hl=>exact hk.elim
  |
   mN =>
   simp only[and_self,if_true]
   split at h
   ·rename_i h0
    cases h
    rw[if_pos h0]
    exact fK.same hS (.mN _ (.inr rfl))
   ·rename_i h0
    split at h
    case isFalse=>cases h
    rename_i h1
    cases h
    rw[if_neg h0,if_pos h1]
    exact(fK.of (nU hS (es:=nw) (r:=pn) (e:=size) true hn hl) (GK hS) :)
 ·rename_i es e
  split at h
  case isFalse=>cases h
  rename_i IX
  subst IX
  cases hx with
  | mN k hk=>rcases hk with hk | hk<;>cases hk
  |
   tree es k b o c r e' p hF hb ho hc he hk AR =>
   obtain⟨h1,h2,h3⟩:=hk
   subst h1 h2 h3
   simp only[hb]
   rw[if_pos ⟨trivial,ho⟩]
   split at h
   ·rename_i h0
    cases h
    rw[if_pos (by omega),if_pos h0]
    exact fK.same hS (.tree es _ b o _ r e false hF hb ho hc he ⟨rfl,rfl,rfl⟩ AR)
   ·rename_i h0
    split at h
    case isFalse=>cases h
    rename_i Aa
    cases h
    rw[if_neg (by omega),if_pos Aa]
    simp only[Bool.false_eq_true,if_false]
    have iN:∀x∈es++nw,(aB x).length=e:=fun x hx=>by
     rcases List.mem_append.1 hx with h | h
     ·exact he x h
     ·exact hn x h
    exact(fK.of (nU hS (es:=es++nw) (r:=(r.drop o).take (es.length*e)++pn) (e:=e) true iN (by rw[List.flatMap_append];exact AR.append hl)) (GK hS) :)
 ·rename_i b g o n c
  split at h
  case h_2=>cases h
  rename_i es e hr
  rw[bF] at hr
  split at h
  case isFalse=>cases h
  rename_i hc
  obtain⟨rfl,dP,hon⟩:=hc
  obtain⟨r,p,h1,h2,h3⟩:=hS.row b g es e true hr
  have FA:=h3.length
  rw[iQ h2] at FA
  have Ch:=(hS.wr b g es e hr).2 dP
  cases hx with
  |
   ref b g o n c a n' c' aR hg ha hq =>
   obtain⟨rfl,rfl,rfl⟩:=ha _ _ _ hr
   have hm:(o+n')*e≤es.length*e:=Nat.mul_le_mul_right _ hon
   rw[Nat.add_mul] at hm
   simp only[h1]
   rw[if_pos ⟨trivial,by omega⟩]
   split at h
   ·rename_i Zd
    rw[if_pos Zd]
    split at h
    ·rename_i h0
     cases h
     rw[if_pos h0]
     exact fK.same hS (.ref _ _ _ _ _ _ _ _ aR hg ha hq)
    ·rename_i h0
     split at h
     case isFalse=>cases h
     rename_i sE
     cases h
     rw[if_neg h0]
     have SP:(o+n'+nw.length)*e≤es.length*e:=Nat.mul_le_mul_right _ sE
     rw[Nat.add_mul,Nat.add_mul] at SP
     have iN:∀x∈bW es (o+n') nw,(aB x).length=e:=fun x hx=>by
      rcases Fv hx with h | h
      ·exact h2 x h
      ·exact hn x h
     have D9:VL V ((bW es (o+n') nw).flatMap aB) (gJ r (o*e+n'*e) pn):=by
      rw[←rZ h2 hn,Nat.add_mul]
      exact h3.gJ hl _
     obtain⟨g1,g2⟩:=AJ hS hr dP iN D9 h1
     refine⟨.slice (some ⟨V.m b,o*e,none⟩) (n'+nw.length) c',{ V with H:=V.H.set b (.row g (bW es (o+n') nw) e true),P:=V.P.set (V.m b) (.row (gJ r (o*e+n'*e) pn) e p) },?_,rfl,g1,g2,?_⟩
     ·unfold aF.write
      simp only[h1]
      rw[if_pos ⟨Ch,by omega,hl.fU zG⟩]
      rfl
     ·refine .ref _ _ _ _ _ _ _ _ (by simpa using aR) (fun g' kD e' w' EP => ?_) (fun kD e' w' EP => ?_) fun a0 h=>by cases h;exact g2.toUp.hq (hq _ rfl)
      ·rcases fE aR EP with⟨_,h⟩ | ⟨h,_⟩
       ·cases h;exact Nat.le_refl _
       ·exact absurd rfl h
      ·rcases fE aR EP with⟨_,h⟩ | ⟨h,_⟩
       ·cases h;exact⟨rfl,rfl,rfl⟩
       ·exact absurd rfl h
   ·rename_i Zd
    split at h
    case isFalse=>cases h
    rename_i Aa
    cases h
    rw[if_neg Zd,if_pos Aa]
    have iN:∀x∈(es.drop o).take n'++nw,(aB x).length=e:=fun x hx=>by
     rcases List.mem_append.1 hx with h | h
     ·exact h2 x (List.mem_of_mem_drop (List.mem_of_mem_take h))
     ·exact hn x h
    have D9:VL V (((es.drop o).take n'++nw).flatMap aB) ((r.drop (o*e)).take (n'*e)++pn):=by
     rw[List.flatMap_append]
     refine VL.append ?_ hl
     have h4:=(h3.drop (o*e)).take (n'*e)
     rw[qC h2,pN (fun x hx=>h2 x (List.mem_of_mem_drop hx))] at h4
     exact h4
    have fin:∀P1:aF,P1.length=V.P.length→(∀q,q≠V.m b→P1[q]? = V.P[q]?) →
      fK lo dG V (some (.slice (some ⟨V.P.length,0,none⟩) (n'+nw.length) (n'+nw.length),P1++[.row ((r.drop (o*e)).take (n'*e)++pn) e true])) (.ref b (g+1) 0 (n'+nw.length) (n'+nw.length)) (V.H.set b (.row (g+1) ((es.drop o).take n'++nw) e true)):=by
     intro P1 hP hk
     refine(fK.of (OR hS hr dP iN D9 hP hk true) ?_ :)
     refine .ref _ _ _ _ _ _ _ _ (by simpa using aR) (fun g' kD e' w' EP => ?_) (fun kD e' w' EP => ?_) fun a0 h => ?_
     ·rcases fE aR EP with⟨_,h⟩ | ⟨h,_⟩
      ·cases h;exact Nat.le_refl _
      ·exact absurd rfl h
     ·rcases fE aR EP with⟨_,h⟩ | ⟨h,_⟩
      ·cases h;exact⟨by simp only[jE,Nat.zero_mul],rfl,rfl⟩
      ·exact absurd rfl h
     ·cases h
      refine⟨hS.Jh,by simp[hP],fun b' g' kD e' w' hb cI hm => ?_⟩
      rcases fE aR hb with⟨h,_⟩ | ⟨_,h⟩
      ·exact cI h
      ·simp only[jV cI] at hm
       have:=hS.mlt h
       omega
    cases p with
    |
     true =>
     simp only[if_true,Ch]
     exact fin (V.P.set (V.m b) .dead) (by simp) fun q hq=>List.getElem?_set_ne (Ne.symm hq)
    |
     false =>
     simp only[Bool.false_eq_true,if_false]
     exact fin V.P rfl fun _ _=>rfl
 ·cases h
theorem Nt (hS:SR V lo dG) {p v:VV} {u w:Value} {size:Nat} {H':aC} (hp:VR V p u) (hv:VR V v w) (h:dE lo size p v V.H=some H'):fK lo dG V (CX dG size u w V.P) mK H':=by
 unfold dE at h
 split at h
 case h_2=>cases h
 rename_i b g j o
 split at h
 case h_2=>cases h
 rename_i es e hr
 rw[bF] at hr
 split at h
 case h_2=>cases h
 rename_i x hx
 split at h
 case isFalse=>cases h
 rename_i hc
 obtain⟨Aa,dP,zG⟩:=hc
 obtain⟨r,q,h1,h2,h3⟩:=hS.row b g es e true hr
 have FA:=h3.length
 rw[iQ h2] at FA
 have Ch:=(hS.wr b g es e hr).2 dP
 have hj:=(List.getElem?_eq_some_iff.1 hx).1
 have hxe:=h2 x (List.mem_of_getElem? hx)
 have hm:(j+1)*e≤es.length*e:=Nat.mul_le_mul_right _ hj
 rw[Nat.succ_mul] at hm
 have jM:=hv.cells (PL zG)
 have Rt:(aK w).length=size:=by rw[jM.length,Aa]
 cases hp with
 |
  ptr b g j off a aR hg ha hq =>
  have:=ha _ _ _ hr
  subst this
  have fin:∀y:VV,(aB y).length=e→o+size≤e→aB y=bW (aB x) o (aB v)→H'=V.H.set b (.row g (es.set j y) e true)→fK lo dG V (CX dG size (.pointer (some ⟨V.m b,j*e+o,none⟩)) w V.P) mK H':=by
   intro y hy ho hye hH
   subst hH
   have iN:∀z∈es.set j y,(aB z).length=e:=fun z hz=>by
    rcases List.mem_or_eq_of_mem_set hz with h | h
    ·exact h2 z h
    ·subst h;exact hy
   have D9:VL V ((es.set j y).flatMap aB) (gJ r (j*e+o) (aK w)):=by
    have e1:(es.set j y).flatMap aB=bW (es.flatMap aB) (j*e+o) (aB v):=by
     rw[←Fp hj,←rZ h2 (new:=[y]) (fun z hz=>by rw[List.mem_singleton] at hz;subst hz;exact hy)]
     simp only[List.flatMap_cons,List.flatMap_nil,List.append_nil]
     rw[hye]
     have Zl:=Ha h2 hx
     unfold bW
     have t1:(es.flatMap aB).take (j*e+o)=(es.flatMap aB).take (j*e)++(aB x).take o:=by
      rw[List.take_add,←Zl,List.take_take,Nat.min_eq_left (by omega)]
     have t2:(es.flatMap aB).drop (j*e+o+(aB v).length)=(aB x).drop (o+(aB v).length)++(es.flatMap aB).drop (j*e+e):=by
      have t0:(es.flatMap aB).drop (j*e+e)=((es.flatMap aB).drop (j*e+(o+(aB v).length))).drop (e-(o+(aB v).length)):=by
       rw[List.drop_drop]
       congr 1
       omega
      rw[←Zl,List.drop_take,List.drop_drop,t0,List.take_append_drop,Nat.add_assoc]
     rw[t1,t2]
     have t3:(List.take o (aB x)++aB v++List.drop (o+(aB v).length) (aB x)).length=e:=by
      simp;omega
     rw[t3]
     simp only[List.append_assoc]
    rw[e1]
    exact h3.gJ jM _
   obtain⟨g1,g2⟩:=AJ hS hr dP iN D9 h1
   refine⟨undef,{ V with H:=V.H.set b (.row g (es.set j y) e true),P:=V.P.set (V.m b) (.row (gJ r (j*e+o) (aK w)) e q) },?_,rfl,g1,g2,.eX [] [] .nil⟩
   unfold CX
   simp only[Rt,if_true]
   unfold aF.write
   simp only[h1]
   rw[if_pos ⟨Ch,by omega,jM.fU zG⟩]
   rfl
  split at h
  ·rename_i ho
   obtain⟨rfl,rfl⟩:=ho
   cases h
   refine fin v Aa (by omega) ?_ rfl
   unfold bW
   rw[Nat.zero_add,List.take_zero,List.nil_append,List.drop_of_length_le (by omega),List.append_nil]
  ·split at h
   case isFalse=>cases h
   rename_i ho
   cases h
   have Sh:(bW (aB x) o (aB v)).length=e:=by rw[NN (by omega)];exact hxe
   exact fin (.agg (bW (aB x) o (aB v))) Sh (by omega) rfl rfl
theorem A4 {z:List Value} (hz:(z.map gL).all cB=true):(aB (elemOf (z.map gL))).length=z.length:=by
 rw[kK hz,List.length_map]
theorem xW {z:List Value} (hz:(z.map gL).all cB=true):∀n,VL V ((List.replicate n (elemOf (z.map gL))).flatMap aB) (bZ n z):=by
 intro n
 have zG:z.all fU=true:=(VL.zero (V:=V) z).fU hz
 have Vs:bZ n z=(List.replicate n ()).flatMap fun _=>z:=by
  rcases Nat.eq_zero_or_pos z.length with h0 | fL
  ·have:z=[]:=List.length_eq_zero_iff.1 h0
   subst this
   simp[bZ]
  ·exact NY (enc:=fun(_:Unit)=>z) (dA:=z.length) (x:=()) ⟨fun _=>rfl,fun _=>zG,fL⟩
 rw[Vs]
 clear Vs
 induction n with
 | zero=>exact .nil
 |
  succ n ih =>
  rw[List.replicate_succ,List.replicate_succ,List.flatMap_cons,List.flatMap_cons,kK hz]
  exact(VL.zero z).append ih
theorem Pg (hS:SR V lo dG) {z:List Value} {bytes:Nat} {l c v:VV} {u w:Value} {H':aC} (hz:(z.map gL).all cB=true) (hl:VR V l u) (hc:VR V c w) (h:zY z bytes l c V.H=some (v,H')):fK lo dG V (RW z bytes u w V.P) v H':=by
 unfold zY at h
 split at h
 case h_2=>cases h
 obtain⟨rfl,_⟩:=nM hl rfl
 obtain⟨rfl,_⟩:=nM hc rfl
 split at h
 case isFalse=>cases h
 rename_i NR
 cases h
 unfold RW
 simp only[if_pos NR]
 exact(fK.of (nU hS (e:=z.length) false (fun x hx=>by rw[List.eq_of_mem_replicate hx];exact A4 hz) (xW hz _)) (GK hS) :)
theorem SL (hS:SR V lo dG) {z:List Value} (hz:(z.map gL).all cB=true):fK lo dG V (some (.pointer (some ⟨V.P.length,0,none⟩),V.P++[.row z z.length false])) (.ptr V.H.length 0 0 0) (V.H++[.row 0 [elemOf (z.map gL)] z.length true]):=by
 exact(fK.of (nU hS (es:=[elemOf (z.map gL)]) (r:=z) (e:=z.length) false (fun x hx=>by rw[List.mem_singleton] at hx;subst hx;exact A4 hz) (by simp only[List.flatMap_cons,List.flatMap_nil,List.append_nil,kK hz];exact VL.zero z)) (Qv hS) :)
theorem SY (hS:SR V lo dG) {x v:VV} {u:Value} {H':aC} {bf:Bool} (hx:VR V x u) (hs:(aB x).all cB=true) (h:(if bf=true then some (VV.cD x 0,V.H) else some (VV.ptr V.H.length 0 0 0,V.H++[cZ.row 0 [x] (aB x).length true]))=some (v,H')) :
  fK lo dG V (if (aK u).all fU then some (.pointer (some ⟨V.P.length,0,none⟩),V.P++[.row (aK u) (aK u).length false]) else none) v H':=by
 have hc:=hx.cells (PL hs)
 rw[if_pos (hc.fU hs)]
 split at h
 ·cases h
  have g:=yG hS (.row (aK u) (aK u).length false)
  refine(fK.of g ?_ :)
  have hm:=hc.mono g.2.toUp
  refine .cD x 0 V.P.length 0 (aK u) (aK u).length false (.inr rfl) (by simp) (by rw[hc.length];omega) ?_
  rw[List.drop_zero,List.take_of_length_le (by rw[hc.length];exact Nat.le_refl _)]
  exact hm
 ·cases h
  rw[hc.length]
  exact(fK.of (nU hS (es:=[x]) (r:=aK u) (e:=(aB x).length) false (fun y hy=>by rw[List.mem_singleton] at hy;subst hy;rfl) (by simpa using hc)) (Qv hS) :)
theorem take_set {α:Type} {l:List α} {i:Nat} {x:α} (h:i<l.length):l.set i x=l.take i++x::l.drop (i+1):=by
 rw[List.set_eq_take_append_cons_drop,if_pos h]
inductive OT (V:View):List (Nat×VV)→List (Nat×Value)→Prop
 | nil:OT V [] []
 | cons {i:Nat} {x:VV} {v:Value} {xs:List (Nat×VV)} {vs:List (Nat×Value)} (h:VR V x v) (hs:OT V xs vs):OT V ((i,x)::xs) ((i,v)::vs)
theorem Cj {e n:Nat}:∀ {parts:List (Nat×VV)} {vX:List (Nat×Value)} {es kD:List VV} {r:List Value},es.length=n→(∀x∈es,(aB x).length=e)→VL V (es.flatMap aB) r →
  OT V parts vX→qI e es parts=some kD→kD.length=n∧(∀x∈kD,(aB x).length=e)∧∃r',rV ((List.range n).map fun i=>(i*e,e)) r vX=some r'∧VL V (kD.flatMap aB) r'
 |
  [],_,es,kD,r,hn,he,hl,.nil,h=>by
  cases h
  exact⟨hn,he,r,rfl,hl⟩
 |
  (i,v)::parts,(_,w)::vX,es,kD,r,hn,he,hl,.cons hv hps,h=>by
  unfold qI at h
  split at h
  case isFalse=>cases h
  rename_i hc
  obtain⟨hi,hve,zG⟩:=hc
  have jM:=hv.cells (PL zG)
  have Rt:(aK w).length=e:=by rw[jM.length,hve]
  have FA:=hl.length
  rw[iQ he] at FA
  have hm:(i+1)*e≤es.length*e:=Nat.mul_le_mul_right _ hi
  rw[Nat.succ_mul] at hm
  have iN:∀x∈es.set i v,(aB x).length=e:=fun x hx=>by
   rcases List.mem_or_eq_of_mem_set hx with h | h
   ·exact he x h
   ·subst h;exact hve
  have D9:VL V ((es.set i v).flatMap aB) (r.take (i*e)++aK w++r.drop (i*e+e)):=by
   have h1:=hl.gJ jM (i*e)
   have h2:=rZ he (new:=[v]) (fun z hz=>by rw[List.mem_singleton] at hz;subst hz;exact hve) i
   simp only[List.flatMap_cons,List.flatMap_nil,List.append_nil] at h2
   rw[h2,Fp hi] at h1
   unfold gJ at h1
   rw[Rt] at h1
   exact h1
  obtain⟨g1,g2,r',g3,g4⟩:=Cj (n:=n) (by rw[List.length_set];exact hn) iN D9 hps h
  refine⟨g1,g2,r',?_,g4⟩
  unfold rV
  have hr:((List.range n).map fun i=>(i*e,e))[i]? = some (i*e,e):=by simp[List.getElem?_range (show i<n by omega)]
  simp only[hr]
  rw[if_pos ⟨Rt,by omega⟩]
  exact g3
theorem E9 (hE:ER V ρ iR):∀parts:List (Nat×Operand),OT V (parts.map fun(i,x)=>(i,dJ ρ x)) (parts.map fun(i,x)=>(i,ev iR x))
 | [] => .nil
 | (i,x)::parts => .cons (hE.ev x) (E9 hE parts)
theorem DB {e:Nat}:∀ {parts:List (Nat×VV)} {es kD:List VV},(es.all fun x=>(aB x).all cB)=true→qI e es parts=some kD→(kD.all fun x=>(aB x).all cB)=true
 | [],es,kD,h,hf=>by cases hf;exact h
 |
  (i,v)::parts,es,kD,h,hf=>by
  unfold qI at hf
  split at hf
  case isFalse=>cases hf
  rename_i hc
  refine DB ?_ hf
  rw[List.all_eq_true] at h ⊢
  intro x hx
  rcases List.mem_or_eq_of_mem_set hx with h1 | h1
  ·exact h x h1
  ·subst h1;exact hc.2.2
theorem Sq (hS:SR V lo dG) {lr:Bool} {z:List Value} {n:Nat} {parts:List (Nat×VV)} {vX:List (Nat×Value)} {v:VV} {H':aC} (hp:OT V parts vX) (h:oU lr z n parts V.H=some (v,H')):fK lo dG V (X4 z n vX V.P) v H':=by
 unfold oU at h
 split at h
 case h_2=>cases h
 rename_i es IX
 split at h
 case isFalse=>cases h
 rename_i hz
 obtain⟨g1,g2,r',g3,g4⟩:=Cj (V:=V) (n:=n) (by simp) (fun x hx=>by rw[List.eq_of_mem_replicate hx];exact A4 hz) (xW hz n) hp IX
 have zG:=DB (by
  rw[List.all_eq_true]
  intro x hx
  rw[List.eq_of_mem_replicate hx,kK hz]
  exact hz) IX
 unfold X4
 simp only[g3]
 rw[if_pos (g4.fU (wI zG))]
 split at h
 ·cases h
  exact(fK.of (nU hS (e:=z.length) false g2 g4) (GK hS) :)
 ·cases h
  have k:=yG hS (.row r' z.length false)
  refine(fK.of k ?_ :)
  have hm:=g4.mono k.2.toUp
  have FA:=g4.length
  rw[iQ g2] at FA
  subst g1
  refine .tree es _ V.P.length 0 es.length r' z.length false (.inr rfl) (by simp) (by omega) (Nat.le_refl _) g2 ⟨rfl,rfl,rfl⟩ ?_
  rw[List.drop_zero,List.take_of_length_le (by omega)]
  exact hm
theorem JX (hS:SR V lo dG) {b g e o:Nat} {es nw:List VV} {pn:List Value} (hr:V.H[b]? = some (.row g es e true)) (dP:lo≤b) (sE:o+nw.length≤es.length) (hn:∀x∈nw,(aB x).length=e) (zG:(nw.flatMap aB).all cB=true) (hl:VL V (nw.flatMap aB) pn) :
  ∃V',V.P.write dG (V.m b) (o*e) pn=some V'.P∧V'.H=V.H.set b (.row g (bW es o nw) e true)∧SR V' lo dG∧Ct lo V V':=by
 obtain⟨r,q,h1,h2,h3⟩:=hS.row b g es e true hr
 have FA:=h3.length
 rw[iQ h2] at FA
 have Ch:=(hS.wr b g es e hr).2 dP
 have KW:=hl.length
 rw[iQ hn] at KW
 have hm:(o+nw.length)*e≤es.length*e:=Nat.mul_le_mul_right _ sE
 rw[Nat.add_mul] at hm
 have iN:∀x∈bW es o nw,(aB x).length=e:=fun x hx=>by
  rcases Fv hx with h | h
  ·exact h2 x h
  ·exact hn x h
 have D9:VL V ((bW es o nw).flatMap aB) (gJ r (o*e) pn):=by
  rw[←rZ h2 hn]
  exact h3.gJ hl _
 obtain⟨g1,g2⟩:=AJ hS hr dP iN D9 h1
 refine⟨{ V with H:=V.H.set b (.row g (bW es o nw) e true),P:=V.P.set (V.m b) (.row (gJ r (o*e) pn) e q) },?_,rfl,g1,g2⟩
 unfold aF.write
 simp only[h1]
 rw[if_pos ⟨Ch,by omega,hl.fU zG⟩]
theorem OL (hS:SR V lo dG) {x y v:VV} {u w:Value} {size:Nat} {H':aC} (hx:VR V x u) (hy:VR V y w) (h:Fz lo size x y V.H=some (v,H')):fK lo dG V (copyV dG size u w V.P) v H':=by
 unfold Fz at h
 split at h
 ·rename_i new hs
  obtain⟨h1,_⟩:=rX hS hy hs
  cases h
  cases hx with
  | tree es k b o c r e p hF hb ho hc he hk hl=>exact hk.elim
  |
   mN =>
   unfold copyV
   simp only[h1]
   exact fK.same hS (.sc _ rfl)
 ·rename_i b g o d c new hs
  obtain⟨h1,h2,h3,h4⟩:=rX hS hy hs
  split at h
  case h_2=>cases h
  rename_i es e hr
  rw[bF] at hr
  split at h
  case isFalse=>cases h
  rename_i hc
  obtain⟨rfl,dP,sE⟩:=hc
  cases h
  cases hx with
  |
   ref b g o n c a n' c' aR hg ha hq =>
   obtain⟨rfl,rfl,rfl⟩:=ha _ _ _ hr
   have XQ:(new.take n').length=Nat.min new.length n':=by rw[List.length_take];exact Nat.min_comm _ _
   obtain⟨pn,h5,h6⟩:=h4 (Nat.min new.length n') (Nat.min_le_left _ _)
   have ht:new.take (Nat.min new.length n')=new.take n':=by
    rw[←XQ,List.length_take,←List.take_take,List.take_length]
   rw[ht] at h6
   have DU:∀x∈new.take n',(aB x).length=e:=fun x hx=>h2 x (List.mem_of_mem_take hx)
   have zG:((new.take n').flatMap aB).all cB=true:=by
    rw[List.all_eq_true] at h3 ⊢
    intro x hx
    obtain⟨y,hy,C4⟩:=List.mem_flatMap.1 hx
    exact h3 x (List.mem_flatMap.2 ⟨y,List.mem_of_mem_take hy,C4⟩)
   obtain⟨V',k1,k2,k3,k4⟩:=JX hS hr dP sE DU zG h6
   refine⟨.int .i64 (Nat.min new.length n'),V',?_,k2,k3,k4,?_⟩
   ·unfold copyV
    simp only[h1,h5,k1]
    rfl
   ·rw[XQ]
    exact .sc _ rfl
 ·cases h
theorem Nl (hS:SR V lo dG) {x:VV} {u:Value} {z:List Value} {H':aC} (hx:VR V x u) (h:EV lo z x V.H=some H'):fK lo dG V (Lm dG z u V.P) mK H':=by
 unfold EV at h
 split at h
 case h_2=>cases h
 rename_i b g o n c
 split at h
 case h_2=>cases h
 rename_i es e hr
 rw[bF] at hr
 cases hx with
 |
  ref b g o n c a n' c' aR hg ha hq =>
  obtain⟨rfl,rfl,rfl⟩:=ha _ _ _ hr
  unfold Lm
  simp only
  split at h
  ·rename_i h0
   cases h
   rw[if_pos h0]
   exact fK.same hS (.eX [] [] .nil)
  ·rename_i h0
   rw[if_neg h0]
   split at h
   case isFalse=>cases h
   rename_i hc
   obtain⟨rfl,dP,sE,hz⟩:=hc
   cases h
   have DU:∀x∈List.replicate n' (elemOf (z.map gL)),(aB x).length=z.length:=fun x hx=>by rw[List.eq_of_mem_replicate hx];exact A4 hz
   obtain⟨V',k1,k2,k3,k4⟩:=JX hS hr dP (nw:=List.replicate n' (elemOf (z.map gL))) (by simpa using sE) DU (wI (by
    rw[List.all_eq_true]
    intro x hx
    rw[List.eq_of_mem_replicate hx,kK hz]
    exact hz)) (xW hz n')
   refine⟨undef,V',?_,k2,k3,k4,.eX [] [] .nil⟩
   rw[k1]
   rfl
end
end Go.PM
namespace Go.PM
section
variable {V:View} {lo dG:Nat} {ρ:cN} {iR:Env}
theorem MB {x v:VV} {u:Value} {neg:Bool} (hx:VR V x u) (h:Cy neg x V.H=some v):∃w,V3 neg u=some w∧VR V v w:=by
 unfold Cy at h
 split at h
 ·cases h
  cases hx with
  | tree es k b o c r e p hF hb ho hc he hk hl=>exact hk.elim
  | mN=>exact⟨_,rfl,.sc _ rfl⟩
 ·cases h
  cases hx with
  | mN k hk=>rcases hk with hk | hk<;>cases hk
  | tree=>exact⟨_,rfl,.sc _ rfl⟩
 ·cases h
  cases hx with
  | tree=>exact⟨_,rfl,.sc _ rfl⟩
 ·obtain⟨⟨es,e,w⟩,hr,rfl⟩:=bR h
  rw[bF] at hr
  cases hx with
  |
   ref b g o n c a n' c' aR hg ha hq =>
   obtain⟨rfl,rfl,rfl⟩:=ha _ _ _ hr
   exact⟨_,rfl,.sc _ rfl⟩
 ·cases h
theorem Sx {x v:VV} {u:Value} (hx:VR V x u) (h:lY x V.H=some v):∃w,ahD u=some w∧VR V v w:=by
 unfold lY at h
 split at h
 ·cases h
  cases hx<;>exact⟨_,rfl,.sc _ rfl⟩
 ·obtain⟨⟨es,e,w⟩,hr,rfl⟩:=bR h
  rw[bF] at hr
  cases hx with
  |
   ref b g o n c a n' c' aR hg ha hq =>
   obtain⟨rfl,rfl,rfl⟩:=ha _ _ _ hr
   exact⟨_,rfl,.sc _ rfl⟩
 ·cases h
theorem NT {x v:VV} {u:Value} {off:Nat} (hx:VR V x u) (h:tL off x V.H=some v):∃w,Vx off u=some w∧VR V v w:=by
 unfold tL at h
 split at h
 ·cases h
  cases hx with
  | cD x off b o r e p hF hb ho hl=>exact⟨_,rfl,by rw[Nat.add_assoc];exact .cD _ _ b o r e p hF hb ho hl⟩
 ·obtain⟨⟨es,e,w⟩,hr,rfl⟩:=bR h
  rw[bF] at hr
  cases hx with
  |
   ptr b g j off a aR hg ha hq =>
   have:=ha _ _ _ hr
   subst this
   refine⟨_,rfl,.ptr _ _ _ _ _ aR hg (fun kD e' w' EP => ?_) fun a0 h=>by cases h;have:=hq _ rfl;exact this⟩
   rw[hr] at EP
   cases EP
   rw[Nat.add_assoc]
 ·cases h
theorem SK {x v:VV} {u:Value} (hx:VR V x u) (h:R2 x V.H=some v):∃w,afG u=some w∧VR V v w:=by
 unfold R2 at h
 split at h
 ·cases h
  cases hx with
  | cD x off b o r e p hF hb ho hl=>exact⟨_,rfl,.cD _ _ b o r e p hF hb ho hl⟩
 ·obtain⟨⟨es,e,w⟩,hr,rfl⟩:=bR h
  rw[bF] at hr
  cases hx with
  |
   ptr b g j off a aR hg ha hq =>
   have:=ha _ _ _ hr
   subst this
   exact⟨_,rfl,.ptr _ _ _ _ _ aR hg ha hq⟩
 ·cases h
theorem OX {c a b v:VV} {u x y:Value} (hc:VR V c u) (ha:VR V a x) (hb:VR V b y) (h:MV c a b=some v):∃t,u = .bool t∧VR V v (if t then x else y):=by
 unfold MV at h
 split at h
 ·rename_i t
  cases h
  obtain⟨rfl,_⟩:=nM hc rfl
  refine⟨t,rfl,?_⟩
  cases t
  ·exact hb
  ·exact ha
 ·cases h
theorem Ts {x v:VV} {u:Value} {i:Nat} (hx:VR V x u) (h:WB i x=some v):∃w,acG i u=some w∧VR V v w:=by
 unfold WB at h
 split at h
 ·cases hx with
  |
   eX cs ps hl =>
   obtain⟨w,hw,hv⟩:=hl.get h
   exact⟨w,by simpa[acG] using hw,hv⟩
 ·cases h
theorem Sr {x v:VV} {u:Value} {agg:Bool} {off size:Nat} (hx:VR V x u) (h:YI agg off size x=some v):∃w,YE agg off size u=some w∧VR V v w:=by
 unfold YI at h
 split at h
 ·rename_i cs
  cases hx with
  |
   agg cs ps hl =>
   split at h
   ·rename_i ha
    split at h
    ·rename_i hs
     cases h
     refine⟨.agg ((ps.drop off).take size).toArray,?_,.agg _ _ ((hl.drop off).take size)⟩
     unfold YE
     simp only[ha,if_true]
     rw[if_pos (by simpa[hl.length] using hs)]
     congr 2
     apply Array.ext'
     simp[List.extract_eq_take_drop]
    ·cases h
   ·rename_i ha
    obtain⟨w,hw,hv⟩:=hl.get h
    refine⟨w,?_,hv⟩
    unfold YE
    simp only[ha]
    simpa using hw
 ·cases h
theorem Ji {ks:List CK}:∀ {xs ys:List VV} {us ws:List Value} {t:Bool},VL V xs us→VL V ys ws→mV ks xs ys=some t→lT ks us ws=some t:=by
 induction ks with
 |
  nil =>
  intro xs ys us ws t h1 h2 h
  cases h1 with
  |
   nil=>cases h2 with
   | nil=>exact h
   | cons=>simp[mV] at h
  | cons=>simp[mV] at h
 |
  cons k ks ih =>
  intro xs ys us ws t h1 h2 h
  cases h1 with
  | nil=>simp[mV] at h
  |
   cons x u xs us hx PU=>cases h2 with
   | nil=>cases x<;>simp[mV] at h
   |
    cons y w ys ws hy hys =>
    cases hx with
    |
     sc _ _=>cases hy with
     |
      sc _ _ =>
      simp only[mV] at h
      simp only[lT]
      split at h
      ·rename_i h1
       rw[h1]
       exact ih PU hys h
      ·rename_i h1
       rw[h1]
       exact h
      ·cases h
     | _=>simp[mV] at h
    | _=>simp[mV] at h
theorem II {places:List (Nat×Nat)}:∀ {parts:List (Nat×VV)} {vX:List (Nat×Value)} {cs zW:List VV} {r:List Value},VL V cs r→OT V parts vX→yV places cs parts=some zW →
  ∃r',rV places r vX=some r'∧VL V zW r'
 | [],_,cs,zW,r,hl,.nil,h=>by cases h;exact⟨r,rfl,hl⟩
 |
  (i,v)::parts,(_,w)::vX,cs,zW,r,hl,.cons hv hps,h=>by
  unfold yV at h
  unfold rV
  split at h
  ·cases h
  ·rename_i off size KW
   simp only[KW]
   split at h
   case isFalse=>cases h
   rename_i hc
   have jM:=hv.cells (fun e=>by subst e;cases hc.2.2)
   rw[if_pos ⟨by rw[jM.length];exact hc.1,by rw[hl.length];exact hc.2.1⟩]
   exact II (((hl.take off).append jM).append (hl.drop _)) hps h
theorem FB:∀ {es:List VV} {r:List Value} {bs:List UInt8},VL V (es.flatMap aB) r→ES es=some bs→pO r=some bs
 | [],_,bs,.nil,h=>h
 |
  x::es,r,bs,hl,h=>by
  unfold ES at h
  split at h
  ·rename_i e;cases e
  ·rename_i n r' e
   cases e
   obtain⟨t,ht,rfl⟩:=bR h
   rw[List.flatMap_cons] at hl
   cases hl with
   |
    cons _ u _ us hu hus =>
    obtain⟨rfl,_⟩:=nM hu rfl
    unfold pO
    rw[FB hus ht]
    rfl
  ·cases h
theorem lift {r:Option VV} {v:VV} {H':aC} {s:Option (Value×aF)} (h:r.map (·,V.H)=some (v,H')) (k:r=some v→fK lo dG V s v V.H):fK lo dG V s v H':=by
 obtain⟨a,ha,he⟩:=bR h
 cases he
 exact k ha
theorem Se (hS:SR V lo dG) (hE:ER V ρ iR) {fl:Fl} {o:kO} {v:VV} {H':aC} {q:Bool} (h:vop fl lo o ρ V.H=some (v,H')):fK lo dG V (iL dG q o iR V.P) v H':=by
 cases o<;>simp only[vop] at h
 case mv x=>cases h;rw[Yx];exact fK.same hS (hE.ev x)
 case pick c a b =>
  refine lift h fun h => ?_
  obtain⟨t,ht,hv⟩:=OX (hE.ev c) (hE.ev a) (hE.ev b) h
  rw[Sg,ht]
  exact fK.same hS hv
 case bin op x y=>rw[WC];exact lift h fun h=>xQ (f:=cY op) hS (fun _ _ _=>Wo) (hE.ev x) (hE.ev y) h
 case eqb neg x y=>rw[Wz];exact lift h fun h=>xQ (f:=Po neg) hS (fun _ _ _=>Ws) (hE.ev x) (hE.ev y) h
 case isnil neg x =>
  rw[Qb]
  refine lift h fun h => ?_
  obtain⟨w,h1,h2⟩:=MB (hE.ev x) h
  exact fK.pure hS h1 h2
 case eqagg neg ks x y =>
  rw[OP]
  refine lift h fun h => ?_
  unfold O5 at h
  split at h
  case h_2=>cases h
  rename_i a b hx hy
  obtain⟨t,ht,rfl⟩:=bR h
  have h1:=hE.ev x
  have h2:=hE.ev y
  rw[hx] at h1
  rw[hy] at h2
  generalize ev iR x=u at h1 ⊢
  generalize ev iR y=w at h2 ⊢
  cases h1 with
  |
   agg cs ps h1=>cases h2 with
   |
    agg zW ps' h2 =>
    refine fK.pure hS (pv := .bool (t != neg)) ?_ (.sc _ rfl)
    unfold W9
    simp only
    rw[Ji h1 h2 ht]
    rfl
 case un op x=>rw[YL];exact lift h fun h=>Bm (f:=TT op) hS (fun _ _=>YP) (hE.ev x) h
 case cvt k x=>rw[Vz];exact lift h fun h=>Bm (f:=P6 k) hS (fun _ _=>Vh) (hE.ev x) h
 case cvs x =>
  have e:iL dG q (.cvs x) iR V.P=(S9 (ev iR x)).map (·,V.P):=cO rfl
  rw[e];exact lift h fun h=>Bm (f:=S9) hS (fun _ _=>VA) (hE.ev x) h
 case ext x i =>
  rw[W0]
  refine lift h fun h => ?_
  obtain⟨w,h1,h2⟩:=Ts (hE.ev x) h
  exact fK.pure hS h1 h2
 case fld agg off size x =>
  rw[TW]
  refine lift h fun h => ?_
  obtain⟨w,h1,h2⟩:=Sr (hE.ev x) h
  exact fK.pure hS h1 h2
 case build zero places parts =>
  obtain⟨cs,OD,he⟩:=bR h
  cases he
  obtain⟨r,h1,h2⟩:=II (VL.zero zero) (E9 hE parts) OD
  rw[Pj,h1]
  exact fK.same hS (.agg _ _ h2)
 case chk x =>
  rw[Wf]
  refine lift h fun h => ?_
  obtain⟨w,h1,h2⟩:=SK (hE.ev x) h
  exact fK.pure hS h1 h2
 case faddr off x =>
  rw[O0]
  refine lift h fun h => ?_
  obtain⟨w,h1,h2⟩:=NT (hE.ev x) h
  exact fK.pure hS h1 h2
 case iaddr size x i =>
  rw[PV]
  refine lift h fun h => ?_
  obtain⟨w,h1,h2⟩:=MH hS (hE.ev x) (hE.ev i) h
  exact fK.pure hS h1 h2
 case sidx x i =>
  have e:iL dG q (.sidx x i) iR V.P=(Ec (ev iR x) (ev iR i)).map (·,V.P):=cO rfl
  rw[e];exact lift h fun h=>xQ (f:=Ec) hS (fun _ _ _=>R5) (hE.ev x) (hE.ev i) h
 case ssub x l h' =>
  refine lift h fun h => ?_
  unfold FW at h
  split at h
  case h_2=>cases h
  rename_i s lv hv hx h1 h2
  split at h
  case h_2=>cases h
  rename_i a b Hy
  cases h
  obtain⟨e1,_⟩:=nM (hE.ev x) hx
  have e:iL dG q (.ssub x l h') iR V.P=some (.string (s.extract a b),V.P):=by
   rw[cO rfl]
   simp only[gC,e1]
   rw[wK hE h1,wK hE h2,Hy]
   rfl
  rw[e]
  exact fK.same hS (.sc _ rfl)
 case mkfn f eV =>
  cases h
  rw[SH]
  exact fK.same hS (.nJ _ _ _ (hE.evs eV))
 case len x =>
  rw[UB]
  refine lift h fun h => ?_
  obtain⟨w,h1,h2⟩:=Sx (hE.ev x) h
  exact fK.pure hS h1 h2
 case slen x =>
  have e:iL dG q (.slen x) iR V.P=(Da (ev iR x)).map (·,V.P):=cO rfl
  rw[e];exact lift h fun h=>Bm (f:=Da) hS (fun _ _=>Ss) (hE.ev x) h
 case min x y=>rw[Xc];exact lift h fun h=>xQ (f:=MX) hS (fun _ _ _=>WL) (hE.ev x) (hE.ev y) h
 case max x y=>rw[US];exact lift h fun h=>xQ (f:=Ol) hS (fun _ _ _=>Uo) (hE.ev x) (hE.ev y) h
 case load agg size p =>
  rw[Tj]
  refine lift h fun h => ?_
  obtain⟨w,h1,h2⟩:=Ho hS (hE.ev p) h
  exact fK.pure hS h1 h2
 case sub size x l hh m =>
  rw[Wk]
  exact lift h fun h=>SX hS hE (hE.ev x) h
 case b2s x =>
  split at h
  ·cases h
  rename_i y cI
  split at h
  case h_2=>cases h
  rename_i es IX
  obtain⟨bs,Za,he⟩:=bR h
  cases he
  obtain⟨h1,h2,h3,h4⟩:=rX hS (hE.ev x) IX
  obtain⟨pn,h5,h6⟩:=h4 es.length (Nat.le_refl _)
  rw[List.take_length] at h6
  have hb:=FB h6 Za
  have hx:=hE.ev x
  have e:iL dG q (.b2s x) iR V.P=some (.string ⟨bs.toArray⟩,V.P):=by
   apply lU
   simp only[pop]
   generalize ev iR x=u at *
   cases u<;>first | (exfalso;simp[oL] at h1;done) | skip
   case string s =>
    generalize dJ ρ x=y at *
    cases hx with
    | any=>simp[cM] at IX
    | sc _ _=>exact absurd rfl (cI _)
   case slice a n c =>
    injection h1 with h1
    subst h1
    cases a with
    |
     none =>
     simp only[gU] at h5
     split at h5
     ·cases h5
      cases hb
      rfl
     ·cases h5
    |
     some a =>
     obtain⟨b,o,sp⟩:=a
     cases sp with
     | some s=>simp[gU] at h5
     |
      none =>
      simp only[gU,Nat.mul_one] at h5
      simp only[h5,hb]
      rfl
  rw[e]
  exact fK.same hS (.sc _ rfl)
 case new zero =>
  split at h
  case isFalse=>cases h
  rename_i hz
  cases h
  rw[Uq]
  exact SL hS hz
 case box x =>
  split at h
  case isFalse=>cases h
  rename_i hs
  rw[Uu]
  exact SY hS (hE.ev x) hs h
 case make zero bytes l c =>
  split at h
  case isFalse=>cases h
  rename_i hz
  rw[Si]
  exact Pg hS hz (hE.ev l) (hE.ev c) h
 case lit zero n parts =>
  rw[Ul]
  exact Sq hS (E9 hE parts) h
 case store size p x =>
  obtain⟨a,ha,he⟩:=bR h
  cases he
  rw[PN]
  exact Nt hS (hE.ev p) (hE.ev x) ha
 case app size bytes x y =>
  split at h
  case h_2=>cases h
  rename_i new hn
  obtain⟨h1,h2,h3,h4⟩:=rX hS (hE.ev y) hn
  obtain⟨pn,h5,h6⟩:=h4 new.length (Nat.le_refl _)
  rw[List.take_length] at h6
  rw[Vq]
  unfold aaN
  simp only[h1,h5]
  exact C8 hS (hE.ev x) h2 h3 h6 h
 case appz zero bytes x n =>
  split at h
  case h_2=>cases h
  rename_i k hk
  split at h
  case isFalse=>cases h
  rename_i hc
  obtain⟨e1,_⟩:=nM (hE.ev n) hk
  have DU:∀x∈List.replicate k.toNat (elemOf (zero.map gL)),(aB x).length=zero.length:=fun x hx=>by rw[List.eq_of_mem_replicate hx];exact A4 hc.2.2
  have:=C8 hS (hE.ev x) DU (wI (by
    rw[List.all_eq_true]
    intro x hx
    rw[List.eq_of_mem_replicate hx,kK hc.2.2]
    exact hc.2.2)) (xW hc.2.2 _) h
  rw[List.length_replicate] at this
  rw[SM]
  unfold UJ
  rw[e1]
  simp only[if_pos (show 0≤k∧k*(bytes:Int)≤140737488355328 from⟨hc.1,hc.2.1⟩)]
  exact this
 case copy size x y =>
  rw[R8]
  exact OL hS (hE.ev x) (hE.ev y) h
 case clear zero x =>
  obtain⟨a,ha,he⟩:=bR h
  cases he
  rw[O7]
  exact Nl hS (hE.ev x) ha
 all_goals cases h
end
end Go.PM
namespace Go.PM
def bare (F:Nat→Prop) (P:aF):View:=⟨fun _=>0,F,[],P,0⟩
theorem xF {es:List VV}:aO es=true↔∀x∈es,aX x=true:=by
 induction es with
 | nil=>simp[aO]
 | cons x xs ih=>simp[aO,ih]
theorem A6 {x:VV} (h:aX x=true):aO (aB x)=true:=by
 unfold aB
 split
 ·simpa[aX] using h
 ·simp[aO,h]
theorem Hu {es:List VV} (h:aO es=true):aO (es.flatMap aB)=true:=by
 rw[xF] at h ⊢
 intro x hx
 obtain⟨y,hy,C4⟩:=List.mem_flatMap.1 hx
 exact xF.1 (A6 (h y hy)) x C4
theorem EZ {es:List VV} {k:TK} (h:aX (.tree es k)=true):k = .op∧aO es=true∧uni es=true:=by
 simp only[aX,Bool.and_eq_true,decide_eq_true_eq] at h
 exact⟨h.1.1,h.1.2,h.2⟩
theorem FY {x:VV} (h:aX x=true):x ≠ .any:=by
 rintro rfl
 cases h
theorem X0 {es:List VV} (h:uni es=true):∃e,∀x∈es,(aB x).length=e:=by
 cases es with
 | nil=>exact⟨0,fun x hx=>by cases hx⟩
 |
  cons x xs =>
  refine⟨(aB x).length,fun y hy => ?_⟩
  rcases List.mem_cons.1 hy with rfl | hy
  ·rfl
  ·have:=List.all_eq_true.1 h y hy
   simpa using this
section
variable {V V':View}
theorem VR.pure {x:VV} {v:Value} (hF:∀b,V.F b→V'.F b∧V'.P[b]? = V.P[b]?) (h:VR V x v):aX x=true→VR V' x v:=by
 induction h using VR.rec (motive_2:=fun xs vs _=>aO xs=true→VL V' xs vs) with
 | any=>intro hp;cases hp
 | sc _ h=>intro _;exact .sc _ h
 | agg cs ps _ ih=>intro hp;exact .agg _ _ (ih hp)
 | eX cs ps _ ih=>intro hp;exact .eX _ _ (ih hp)
 | mN k hk=>intro _;exact .mN k hk
 | tree es k b o c r e p PH hb ho hc he hk _ ih=>intro hp;exact .tree es k b o c r e p (hF _ PH).1 (by rw[(hF _ PH).2];exact hb) ho hc he hk (ih (Hu (EZ hp).2.1))
 | cD x off b o r e p PH hb ho _ ih=>intro hp;exact .cD x off b o r e p (hF _ PH).1 (by rw[(hF _ PH).2];exact hb) ho (ih (A6 hp))
 | ref=>intro hp;cases hp
 | ptr=>intro hp;cases hp
 | nJ f eV ps _ ih=>intro hp;exact .nJ _ _ _ (ih hp)
 | nil=>exact .nil
 |
  cons x v xs vs _ _ ih Tb =>
  rename_i hp
  simp only[aO,Bool.and_eq_true] at hp
  exact .cons _ _ _ _ (ih hp.1) (Tb hp.2)
theorem VL.pure {xs:List VV} {vs:List Value} (hF:∀b,V.F b→V'.F b∧V'.P[b]? = V.P[b]?) (h:VL V xs vs) (hp:aO xs=true):VL V' xs vs:=by
 induction xs generalizing vs with
 | nil=>cases h;exact .nil
 |
  cons x xs ih=>cases h with
  |
   cons _ v _ vs h hs =>
   simp only[aO,Bool.and_eq_true] at hp
   exact .cons _ _ _ _ (h.pure hF hp.1) (ih hs hp.2)
theorem VL.flatten {es:List VV} {ps:List Value} (h:VL V es ps) (hp:aO es=true):VL V (es.flatMap aB) (ps.flatMap aK):=by
 induction es generalizing ps with
 | nil=>cases h;exact .nil
 |
  cons x xs ih =>
  cases h with
  |
   cons _ v _ vs h hs =>
   simp only[aO,Bool.and_eq_true] at hp
   rw[List.flatMap_cons,List.flatMap_cons]
   exact(h.cells (FY hp.1)).append (ih hs hp.2)
theorem KX {P P':aF} (h:P <+: P'):∀b,(bare (· < P.length) P).F b→(bare (· < P'.length) P').F b∧(bare (· < P'.length) P').P[b]? = (bare (· < P.length) P).P[b]? := by
 intro b hb
 obtain⟨L,rfl⟩:=h
 have xT:b<P.length:=hb
 exact⟨by show b<(P++L).length;simp;omega,List.getElem?_append_left xT⟩
mutual
theorem real (x:VV) (hp:aX x=true) (P:aF):∃P' pv,P <+: P'∧VR (bare (· < P'.length) P') x pv:=by
 cases x with
 | any=>cases hp
 | sc v=>exact⟨P,v,List.prefix_refl _,.sc v hp⟩
 |
  agg cs =>
  obtain⟨P',ps,h1,h2⟩:=J0 cs hp P
  exact⟨P',_,h1,.agg _ _ h2⟩
 |
  eX cs =>
  obtain⟨P',ps,h1,h2⟩:=J0 cs hp P
  exact⟨P',_,h1,.eX _ _ h2⟩
 |
  tree es k =>
  obtain⟨rfl,h1,h2⟩:=EZ hp
  obtain⟨P',ps,h3,h4⟩:=J0 es h1 P
  obtain⟨e,he⟩:=X0 h2
  have h5:=h4.flatten h1
  have hl:=h5.length
  rw[iQ he] at hl
  have Al:P' <+: P'++[NA.row (ps.flatMap aK) e false]:=List.prefix_append _ _
  refine⟨_,.slice (some ⟨P'.length,0,none⟩) es.length es.length,h3.trans Al,?_⟩
  refine .tree es .op P'.length 0 es.length (ps.flatMap aK) e false (show P'.length<(P'++[NA.row (ps.flatMap aK) e false]).length by simp) (by show (P'++[NA.row (ps.flatMap aK) e false])[P'.length]? = _;simp) (by omega) (Nat.le_refl _) he trivial ?_
  rw[List.drop_zero,List.take_of_length_le (by omega)]
  exact VL.pure (KX Al) h5 (Hu h1)
 |
  cD x off =>
  obtain⟨P',pv,h3,h4⟩:=real x hp P
  have h5:=h4.cells (FY hp)
  have Al:P' <+: P'++[NA.row (aK pv) (aK pv).length false]:=List.prefix_append _ _
  refine⟨_,.pointer (some ⟨P'.length,0+off,none⟩),h3.trans Al,?_⟩
  refine .cD x off P'.length 0 (aK pv) (aK pv).length false (show P'.length<(P'++[NA.row (aK pv) (aK pv).length false]).length by simp) (by show (P'++[NA.row (aK pv) (aK pv).length false])[P'.length]? = _;simp) (by rw[h5.length];omega) ?_
  rw[List.drop_zero,List.take_of_length_le (by rw[h5.length];exact Nat.le_refl _)]
  exact VL.pure (KX Al) h5 (A6 hp)
 | ref=>cases hp
 | ptr=>cases hp
 |
  nJ f eV =>
  obtain⟨P',ps,h1,h2⟩:=J0 eV hp P
  exact⟨P',_,h1,.nJ _ _ _ h2⟩
theorem J0 (xs:List VV) (hp:aO xs=true) (P:aF):∃P' ps,P <+: P'∧VL (bare (· < P'.length) P') xs ps:=by
 cases xs with
 | nil=>exact⟨P,[],List.prefix_refl _,.nil⟩
 |
  cons x xs =>
  simp only[aO,Bool.and_eq_true] at hp
  obtain⟨P1,pv,h1,h2⟩:=real x hp.1 P
  obtain⟨P2,ps,h3,h4⟩:=J0 xs hp.2 P1
  exact⟨P2,pv::ps,h1.trans h3,.cons _ _ _ _ (h2.pure (KX h3) hp.1) h4⟩
end
theorem Hk {es:List VV}:pV es=true↔∀x∈es,iZ x=true:=by
 induction es with
 | nil=>simp[pV]
 | cons x xs ih=>simp[pV,ih]
theorem AG {es:List VV} {k:TK} (h:iZ (.tree es k)=true):k = .op∧pV es=true∧uni es=true∧es.all E5=true:=by
 simp only[iZ,Bool.and_eq_true,decide_eq_true_eq] at h
 exact⟨h.1.1.1,h.1.1.2,h.1.2,h.2⟩
theorem PG {x:VV} (h:iZ x=true):pV (aB x)=true:=by
 unfold aB
 split
 ·simpa[iZ] using h
 ·simp[pV,h]
theorem JZ {es:List VV} (h:pV es=true):pV (es.flatMap aB)=true:=by
 rw[Hk] at h ⊢
 intro x hx
 obtain⟨y,hy,C4⟩:=List.mem_flatMap.1 hx
 exact Hk.1 (PG (h y hy)) x C4
mutual
theorem MG (x:VV) (h:iZ x=true):aX x=true:=by
 cases x with
 | sc v=>exact h
 | agg cs=>exact By cs h
 | eX cs=>exact By cs h
 |
  tree es k =>
  obtain⟨h1,h2,h3,_⟩:=AG h
  simp[aX,h1,By es h2,h3]
 | any=>cases h
 | cD=>cases h
 | ref=>cases h
 | ptr=>cases h
 | nJ=>cases h
theorem By (xs:List VV) (h:pV xs=true):aO xs=true:=by
 cases xs with
 | nil=>rfl
 |
  cons x xs =>
  simp only[pV,Bool.and_eq_true] at h
  simp[aO,MG x h.1,By xs h.2]
end
theorem Nh {e:Nat}:∀ {es kD:List VV},(∀x∈es,(aB x).length=e)→(∀x∈kD,(aB x).length=e)→es.all E5=true→kD.all E5=true→es.length=kD.length→es.flatMap aB=kD.flatMap aB→es=kD
 | [],[],_,_,_,_,_,_=>rfl
 |
  x::es,y::kD,h1,h2,h3,h4,hl,h=>by
  rw[List.flatMap_cons,List.flatMap_cons] at h
  have hx:=h1 x List.mem_cons_self
  have hy:=h2 y List.mem_cons_self
  obtain⟨e1,e2⟩:=List.append_inj h (by omega)
  simp only[List.all_cons,Bool.and_eq_true] at h3 h4
  have C4:x=y:=by
   have g1:=h3.1
   have g2:=h4.1
   unfold aB at e1
   split at e1<;>split at e1
   ·rw[e1]
   ·rename_i cs _ _
    subst e1
    cases g1
   ·rename_i cs
    subst e1
    cases g2
   ·injection e1
  rw[C4,Nh (fun z hz=>h1 z (List.mem_cons_of_mem _ hz)) (fun z hz=>h2 z (List.mem_cons_of_mem _ hz)) h3.2 h4.2 (by simpa using hl) e2]
theorem VR.uniq {x y:VV} {v:Value} (h:VR V x v) (h':VR V y v) (hx:iZ x=true) (hy:iZ y=true):x=y:=by
 induction h using VR.rec (motive_2:=fun xs vs _=>∀ys,VL V ys vs→pV xs=true→pV ys=true→xs=ys) generalizing y with
 | any=>cases hx
 |
  sc _ h=>cases h' with
  | sc _ _=>rfl
  | any=>cases hy
  | agg=>cases h
  | eX=>cases h
  | mN=>cases h
  | tree=>cases h
  | cD=>cases hy
  | ref=>cases hy
  | ptr=>cases hy
  | nJ=>cases hy
 |
  agg cs ps h ih=>generalize hw:Value.agg ps.toArray=w at h';cases h' with
  | sc _ h'=>subst hw;cases h'
  | any=>cases hy
  |
   agg zW ps' h' =>
   injection hw with hw
   have:ps=ps':=by simpa using hw
   subst this
   rw[ih _ h' hx hy]
  | eX=>cases hw
  | mN=>cases hw
  | tree=>cases hw
  | cD=>cases hy
  | ref=>cases hy
  | ptr=>cases hy
  | nJ=>cases hy
 |
  eX cs ps h ih=>generalize hw:Value.tuple ps.toArray=w at h';cases h' with
  | sc _ h'=>subst hw;cases h'
  | any=>cases hy
  |
   eX zW ps' h' =>
   injection hw with hw
   have:ps=ps':=by simpa using hw
   subst this
   rw[ih _ h' hx hy]
  | agg=>cases hw
  | mN=>cases hw
  | tree=>cases hw
  | cD=>cases hy
  | ref=>cases hy
  | ptr=>cases hy
  | nJ=>cases hy
 |
  mN k hk =>
  obtain⟨rfl,_⟩:=AG hx
  generalize hw:Value.slice none 0 0=w at h'
  cases h' with
  | sc _ h'=>subst hw;cases h'
  | any=>cases hy
  | mN k' So=>obtain⟨rfl,_⟩:=AG hy;rfl
  | agg=>cases hw
  | eX=>cases hw
  | tree=>cases hw
  | cD=>cases hy
  | ref=>cases hy
  | ptr=>cases hy
  | nJ=>cases hy
 |
  tree es k b o c r e p hF hb ho hc he hk hl ih =>
  obtain⟨rfl,hx1,Zl,hx3⟩:=AG hx
  generalize hw:Value.slice (some ⟨b,o,none⟩) es.length c=w at h'
  cases h' with
  | sc _ h'=>subst hw;cases h'
  | any=>cases hy
  | mN=>cases hw
  | agg=>cases hw
  | eX=>cases hw
  |
   tree kD k' b' o' c' r' e' p' hF' xT ho' W8 he' So AR =>
   obtain⟨rfl,hy1,hy2,hy3⟩:=AG hy
   injection hw with h1 h2 h3
   injection h1 with h1
   injection h1 with h1 h4
   subst h1 h3 h4
   rw[hb] at xT
   injection xT with xT
   injection xT with g1 g2 g3
   subst g1 g2 g3
   rw[←h2] at AR
   rw[Nh he he' hx3 hy3 h2 (ih _ AR (JZ hx1) (JZ hy1))]
  | cD=>cases hy
  | ref=>cases hy
  | ptr=>cases hy
  | nJ=>cases hy
 | cD=>cases hx
 | ref=>cases hx
 | ptr=>cases hx
 | nJ=>cases hx
 | nil=>rename_i h' _ _;cases h';rfl
 |
  cons x v xs vs _ _ ih Tb =>
  rename_i ys h' hx hy
  cases h' with
  |
   cons y _ ys _ h' Pa =>
   simp only[pV,Bool.and_eq_true] at hx hy
   rw[ih h' hx.1 hy.1,Tb _ Pa hx.2 hy.2]
end
end Go.PM
namespace Go.PM
section
variable {V:View} {lo dG:Nat}
theorem lG {α β:Type} {f:α→Option β} {x:α} {xs:List α} {r:List β} (h:(x::xs).mapM f=some r):∃y ys,f x=some y∧xs.mapM f=some ys∧r=y::ys:=by
 rw[List.mapM_cons] at h
 cases hx:f x with
 | none=>rw[hx] at h;cases h
 |
  some y =>
  rw[hx] at h
  cases hs:xs.mapM f with
  | none=>rw[hs] at h;cases h
  | some ys=>rw[hs] at h;cases h;exact⟨y,ys,rfl,rfl,rfl⟩
theorem D7 {α β:Type} {f:α→Option β}:∀ {xs:List α} {r:List β},xs.mapM f=some r→r.length=xs.length
 | [],r,h=>by cases h;rfl
 |
  x::xs,r,h=>by
  obtain⟨y,ys,_,h2,rfl⟩:=lG h
  simp[D7 h2]
theorem QL {d:Nat} {H:aC} {x x':VV} (h:fz d H x=some x'):(∃cs zW,x = .agg cs∧x' = .agg zW∧zW.length=cs.length)∨(aB x=[x]∧aB x'=[x']):=by
 cases d with
 | zero=>cases h
 |
  succ d =>
  unfold fz at h
  split at h
  ·cases h
   cases x with
   | agg cs=>exact .inl ⟨cs,cs,rfl,rfl,rfl⟩
   | _=>exact .inr ⟨rfl,rfl⟩
  ·split at h
   ·obtain⟨zW,h1,rfl⟩:=bR h
    exact .inl ⟨_,_,rfl,rfl,D7 h1⟩
   ·obtain⟨zW,h1,rfl⟩:=bR h;exact .inr ⟨rfl,rfl⟩
   ·obtain⟨zW,h1,rfl⟩:=bR h;exact .inr ⟨rfl,rfl⟩
   ·obtain⟨zW,h1,rfl⟩:=bR h;exact .inr ⟨rfl,rfl⟩
   ·split at h
    ·split at h
     ·obtain⟨zW,h1,rfl⟩:=bR h;exact .inr ⟨rfl,rfl⟩
     ·cases h
    ·cases h
   ·split at h
    ·split at h
     ·obtain⟨zW,h1,rfl⟩:=bR h;exact .inr ⟨rfl,rfl⟩
     ·cases h
    ·cases h
   ·obtain⟨zW,h1,rfl⟩:=bR h;exact .inr ⟨rfl,rfl⟩
   ·cases h
theorem Ll {d:Nat} {H:aC} {x x':VV} (h:fz d H x=some x'):(aB x').length=(aB x).length:=by
 rcases QL h with⟨cs,zW,rfl,rfl,h'⟩ | ⟨h1,h2⟩
 ·exact h'
 ·rw[h1,h2];rfl
def J3 (V:View) (G:Nat→Prop) (ids:List Nat):Prop:=∀i∈ids,∀g es e w,V.H[i]? = some (.row g es e w)→G (V.m i)
theorem Ik (hS:SR V lo dG) {G:Nat→Prop} (hG:∀q,V.F q→G q):∀(d:Nat) (v v':VV) (pv:Value),VR V v pv→fz d V.H v=some v'→J3 V G (gQ d V.H v)→VR (bare G V.P) v' pv:=by
 have hFG:∀b,V.F b→(bare G V.P).F b∧(bare G V.P).P[b]? = V.P[b]? := fun b hb=>⟨hG b hb,rfl⟩
 intro d
 induction d with
 | zero=>intro v v' pv _ h;cases h
 |
  succ d ih =>
  have ihL:∀(xs Fg:List VV) (ps:List Value),VL V xs ps→xs.mapM (fz d V.H)=some Fg→J3 V G (xs.flatMap (gQ d V.H))→VL (bare G V.P) Fg ps:=by
   intro xs
   induction xs with
   | nil=>intro Fg ps hl h _;cases h;cases hl;exact .nil
   |
    cons x xs ihx =>
    intro Fg ps hl h hi
    obtain⟨y,ys,h1,h2,rfl⟩:=lG h
    cases hl with
    |
     cons _ v _ vs hx PU =>
     exact .cons _ _ _ _ (ih x y v hx h1 fun i B1=>hi i (by rw[List.flatMap_cons];exact List.mem_append_left _ B1)) (ihx ys vs PU h2 fun i B1=>hi i (by rw[List.flatMap_cons];exact List.mem_append_right _ B1))
  have ihC:∀(x x':VV) (ps:List Value),VL V (aB x) ps→fz d V.H x=some x'→J3 V G (gQ d V.H x)→VL (bare G V.P) (aB x') ps:=by
   intro x x' ps hl h hi
   rcases QL h with⟨cs,zW,rfl,rfl,jM⟩ | ⟨h1,h2⟩
   ·have:=ih _ _ (.agg ps.toArray) (.agg _ _ hl) h hi
    generalize hw:Value.agg ps.toArray=w at this
    cases this with
    |
     agg _ ps' AR =>
     injection hw with hw
     have:ps=ps':=by simpa using hw
     subst this
     exact AR
   ·rw[h1] at hl
    rw[h2]
    cases hl with
    |
     cons _ v _ vs hx PU =>
     cases PU
     exact .cons _ _ _ _ (ih _ _ _ hx h hi) .nil
  have ihF:∀(xs Fg:List VV) (ps:List Value),VL V (xs.flatMap aB) ps→xs.mapM (fz d V.H)=some Fg→J3 V G (xs.flatMap (gQ d V.H))→VL (bare G V.P) (Fg.flatMap aB) ps:=by
   intro xs
   induction xs with
   | nil=>intro Fg ps hl h _;cases h;cases hl;exact .nil
   |
    cons x xs ihx =>
    intro Fg ps hl h hi
    obtain⟨y,ys,h1,h2,rfl⟩:=lG h
    rw[List.flatMap_cons] at hl ⊢
    have hlen:=hl.length
    have a1:=hl.take (aB x).length
    have a2:=hl.drop (aB x).length
    rw[List.take_left] at a1
    rw[List.drop_left] at a2
    rw[←List.take_append_drop (aB x).length ps]
    exact(ihC x y _ a1 h1 fun i B1=>hi i (by rw[List.flatMap_cons];exact List.mem_append_left _ B1)).append (ihx ys _ a2 h2 fun i B1=>hi i (by rw[List.flatMap_cons];exact List.mem_append_right _ B1))
  have ahQ:∀(xs Fg:List VV) (e:Nat),xs.mapM (fz d V.H)=some Fg→(∀x∈xs,(aB x).length=e)→∀x∈Fg,(aB x).length=e:=by
   intro xs
   induction xs with
   | nil=>intro Fg e h _ x hx;cases h;cases hx
   |
    cons x xs ihx =>
    intro Fg e h he z hz
    obtain⟨y,ys,h1,h2,rfl⟩:=lG h
    rcases List.mem_cons.1 hz with rfl | hz
    ·rw[Ll h1];exact he x List.mem_cons_self
    ·exact ihx ys e h2 (fun w hw=>he w (List.mem_cons_of_mem _ hw)) z hz
  intro v v' pv hv h hi
  unfold fz at h
  unfold gQ at hi
  split at h
  ·rename_i hp
   cases h
   exact hv.pure hFG hp
  ·rename_i hp
   rw[if_neg hp] at hi
   split at h
   ·obtain⟨zW,h1,rfl⟩:=bR h
    cases hv with
    | agg cs ps hl=>exact .agg _ _ (ihL _ _ _ hl h1 hi)
   ·obtain⟨zW,h1,rfl⟩:=bR h
    cases hv with
    | eX cs ps hl=>exact .eX _ _ (ihL _ _ _ hl h1 hi)
   ·obtain⟨zW,h1,rfl⟩:=bR h
    cases hv with
    | mN k hk=>cases h1;exact .mN _ (.inl rfl)
    |
     tree es k b o c r e p hF hb ho hc he hk hl =>
     have hlen:=D7 h1
     have:=VR.tree (V:=bare G V.P) zW .op b o c r e p (hG b hF) hb (by rw[hlen];exact ho) (by rw[hlen];exact hc) (ahQ _ _ _ h1 he) trivial (by rw[hlen];exact ihF _ _ _ hl h1 hi)
     rw[hlen] at this
     exact this
   ·obtain⟨x',h1,rfl⟩:=bR h
    cases hv with
    |
     cD x off b o r e p hF hb ho hl =>
     have hlen:=Ll h1
     exact .cD x' _ b o r e p (hG b hF) hb (by rw[hlen];exact ho) (by rw[hlen];exact ihC _ _ _ hl h1 hi)
   ·rename_i b g o n c
    split at h
    case h_2=>cases h
    rename_i es e w hr
    simp only[hr] at hi
    rw[bF] at hr
    split at h
    case isFalse=>cases h
    rename_i alT
    obtain⟨hon,Aq⟩:=alT
    obtain⟨kD,h1,rfl⟩:=bR h
    obtain⟨r,p,k1,k2,k3⟩:=hS.row b g es e w hr
    have FA:=k3.length
    rw[iQ k2] at FA
    cases hv with
    |
     ref b g o n c a n' c' aR hg ha hq =>
     obtain⟨rfl,rfl,rfl⟩:=ha _ _ _ hr
     have V9:∀x∈(es.drop o).take n',(aB x).length=e:=fun x hx=>k2 x (List.mem_of_mem_drop (List.mem_of_mem_take hx))
     have Xk:((es.drop o).take n').length=n':=by simp;omega
     have hlen:=D7 h1
     rw[Xk] at hlen
     have hm:(o+n')*e≤es.length*e:=Nat.mul_le_mul_right _ hon
     rw[Nat.add_mul] at hm
     have hl:VL V (((es.drop o).take n').flatMap aB) ((r.drop (o*e)).take (n'*e)):=by
      have h4:=(k3.drop (o*e)).take (n'*e)
      rw[qC k2,pN (fun x hx=>k2 x (List.mem_of_mem_drop hx))] at h4
      exact h4
     have hGb:G (V.m b):=hi b List.mem_cons_self _ _ _ _ hr
     have:=VR.tree (V:=bare G V.P) kD .op (V.m b) (o*e) c' r e p hGb k1 (by rw[hlen];omega) (by rw[hlen];exact Aq) (ahQ _ _ _ h1 V9) trivial (by rw[hlen];exact ihF _ _ _ hl h1 fun i B1=>hi i (List.mem_cons_of_mem _ B1))
     rw[hlen] at this
     exact this
   ·rename_i b g j o
    split at h
    case h_2=>cases h
    rename_i es e w hr
    simp only[hr] at hi
    rw[bF] at hr
    split at h
    case h_2=>cases h
    rename_i x hx
    simp only[hx] at hi
    obtain⟨x',h1,rfl⟩:=bR h
    obtain⟨r,p,k1,k2,k3,k4⟩:=Iw hS hr hx
    cases hv with
    |
     ptr b g j off a aR hg ha hq =>
     have:=ha _ _ _ hr
     subst this
     have hlen:=Ll h1
     exact .cD x' o (V.m b) (j*e) r e p (hi b List.mem_cons_self _ _ _ _ hr) k1 (by rw[hlen];exact k3) (by rw[hlen];exact ihC _ _ _ k4 h1 fun i B1=>hi i (List.mem_cons_of_mem _ B1))
   ·obtain⟨zW,h1,rfl⟩:=bR h
    cases hv with
    | nJ f eV ps hl=>exact .nJ _ _ _ (ihL _ _ _ hl h1 hi)
   ·cases h
theorem Bq (hS:SR V lo dG) {G:Nat→Prop} (hG:∀q,V.F q→G q) {d:Nat}:∀ {xs Fg:List VV} {ps:List Value},VL V xs ps→xs.mapM (fz d V.H)=some Fg→J3 V G (xs.flatMap (gQ d V.H))→VL (bare G V.P) Fg ps
 | [],Fg,ps,hl,h,_=>by cases h;cases hl;exact .nil
 |
  x::xs,Fg,ps,hl,h,hi=>by
  obtain⟨y,ys,h1,h2,rfl⟩:=lG h
  cases hl with
  |
   cons _ v _ vs hx PU =>
   exact .cons _ _ _ _ (Ik hS hG d x y v hx h1 fun i B1=>hi i (by rw[List.flatMap_cons];exact List.mem_append_left _ B1)) (Bq hS hG PU h2 fun i B1=>hi i (by rw[List.flatMap_cons];exact List.mem_append_right _ B1))
def View.cA (V:View) (ids:List Nat):View:=ids.foldl View.freeze V
theorem rI:∀(ids:List Nat) {V:View},SR V lo dG→SR (V.cA ids) lo dG∧Ct lo V (V.cA ids)∧(V.cA ids).H=PM.cA V.H ids∧(V.cA ids).P=V.P∧(V.cA ids).m=V.m∧J3 V (V.cA ids).F ids
 | [],V,hS=>⟨hS,Ct.refl _ _,rfl,rfl,rfl,fun i hi=>by cases hi⟩
 |
  i::ids,V,hS=>by
  obtain⟨h1,h2,h3⟩:=Le hS i
  obtain⟨g1,g2,g3,g4,g5,g6⟩:=rI ids h1
  refine⟨g1,h2.trans g2,?_,g4.trans (WW V i),g5.trans (N4 V i),?_⟩
  ·show ((V.freeze i).cA ids).H=_
   rw[g3,ME]
   rfl
  ·intro k hk g es e w hr
   show ((V.freeze i).cA ids).F (V.m k)
   rcases List.mem_cons.1 hk with rfl | hk
   ·exact g2.F _ (h3 _ _ _ _ hr)
   ·have EP:∃g es e w,(V.freeze i).H[k]? = some (.row g es e w):=by
     rw[ME]
     unfold yD
     split
     ·rename_i g' kD e' w' hi
      by_cases hki:k=i
      ·subst hki
       exact⟨g',kD,e',false,List.getElem?_set_self (List.getElem?_eq_some_iff.1 hi).1⟩
      ·exact⟨g,es,e,w,by rw[List.getElem?_set_ne (Ne.symm hki)];exact hr⟩
     ·exact⟨g,es,e,w,hr⟩
    obtain⟨g',kD,e',w',EP⟩:=EP
    have:=g6 k hk _ _ _ _ EP
    rw[N4] at this
    exact this
end
end Go.PM