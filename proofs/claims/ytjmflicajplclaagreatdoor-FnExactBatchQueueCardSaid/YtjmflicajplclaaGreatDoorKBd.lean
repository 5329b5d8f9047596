/- Texts of a claim, in one: part 4. -/
import Derived.Test.YtjmflicajplclaaGreatDoorKBc
set_option linter.unusedSimpArgs false
set_option linter.unusedVariables false
namespace Go.PM
inductive TK where
 | op
 | cl (e:Nat)
 | nil
 deriving DecidableEq
inductive VV where
 | any
 | sc (v:Value)
 | agg (cs:List VV)
 | dQ (vs:List VV)
 | tree (es:List VV) (k:TK)
 | dA (x:VV) (off:Nat)
 | ref (b g o n c:Nat)
 | ptr (b g j off:Nat)
 | wG (f:Nat) (gL:List VV)
 deriving Inhabited
inductive cB where
 | dead
 | row (g:Nat) (es:List VV) (e:Nat) (w:Bool)
 deriving Inhabited
abbrev aA:=List cB
abbrev dU:=Nat→VV
def rA:VV := .dQ []
def lG:Value→Bool
 | .bool _ | .int _ _ | .string _ | .pointer none | .nilFunc | .nilIface=>true
 | _=>false
def kK:Value→VV
 | .slice none 0 0 => .tree [] .nil
 | v=>if lG v then .sc v else .any
def inj:Value→VV
 | .agg cs => .agg (cs.toList.map kK)
 | .tuple vs=>if vs.isEmpty then .dQ [] else .any
 | v=>kK v
def fE (ρ:dU):Operand→VV
 | .tmp t=>ρ t
 | .const v=>inj v
 | .global _ => .any
 | .func f => .wG f []
def Mg (ρ:dU):Option Nat→VV→dU
 | none,_=>ρ
 | some d,v=>fun k=>if k=d then v else ρ k
def aB:VV→List VV
 | .agg cs=>cs
 | v=>[v]
def elemOf:List VV→VV
 | [x]=>x
 | cs => .agg cs
def bS:VV→Bool
 | .any | .agg _ | .dQ _=>false
 | _=>true
def uni:List VV→Bool
 | []=>true
 | x::xs=>xs.all fun y=>(aB y).length == (aB x).length
mutual
def aQ:VV→Bool
 | .any=>false
 | .sc v=>lG v
 | .agg cs=>aO cs
 | .dQ vs=>aO vs
 | .tree es k=>decide (k = .op)&&aO es&&uni es
 | .dA x _=>aQ x
 | .ref .. => false
 | .ptr .. => false
 | .wG _ gL=>aO gL
def aO:List VV→Bool
 | []=>true
 | x::xs=>aQ x&&aO xs
end
def Bo:VV→Bool
 | .agg [_]=>false
 | _=>true
mutual
def fX:VV→Bool
 | .any=>false
 | .sc v=>lG v
 | .agg cs=>rE cs
 | .dQ vs=>rE vs
 | .tree es k=>decide (k = .op)&&rE es&&uni es&&es.all Bo
 | .dA _ _=>false
 | .ref .. => false
 | .ptr .. => false
 | .wG _ _=>false
def rE:List VV→Bool
 | []=>true
 | x::xs=>fX x&&rE xs
end
mutual
def OH:VV→Bool
 | .sc v=>lG v
 | .agg cs=>Vd cs
 | .dQ vs=>Vd vs
 | _=>false
def Vd:List VV→Bool
 | []=>true
 | x::xs=>OH x&&Vd xs
end
mutual
def below (k:Nat):VV→Bool
 | .any=>true
 | .sc _=>true
 | .agg cs=>mY k cs
 | .dQ vs=>mY k vs
 | .tree es _=>mY k es
 | .dA x _=>below k x
 | .ref b _ _ _ _=>decide (b<k)
 | .ptr b _ _ _=>decide (b<k)
 | .wG _ gL=>mY k gL
def mY (k:Nat):List VV→Bool
 | []=>true
 | x::xs=>below k x&&mY k xs
end
def Lq (k:Nat) (v:VV):VV:=if below k v then v else .any
def aJ (H:aA) (b g:Nat):Option (List VV×Nat×Bool) :=
 match H[b]? with
 | some (.row g' es e w)=>if g'=g then some (es,e,w) else none
 | _=>none
def rM:List CK→List VV→List VV→Option Bool
 | [],[],[]=>some true
 |
  k::ks,.sc x::xs,.sc y::ys=>match vR k x y with
  | some true=>rM ks xs ys
  | some false=>some false
  | none=>none
 | _,_,_=>none
def dC (cs:List VV) (o:Nat) (new:List VV):List VV:=cs.take o++new++cs.drop (o+new.length)
def isAny:VV→Bool
 | .any=>true
 | _=>false
def zV (places:List (Nat×Nat)) (cells:List VV):List (Nat×VV)→Option (List VV)
 | []=>some cells
 |
  (i,v)::rest =>
  match places[i]? with
  | none=>none
  |
   some (off,size) =>
   if (aB v).length=size∧off+size≤cells.length∧isAny v=false then
    zV places (cells.take off++aB v++cells.drop (off+size)) rest
   else none
def yS (e:Nat) (es:List VV):List (Nat×VV)→Option (List VV)
 | []=>some es
 | (i,v)::rest=>if i<es.length∧(aB v).length=e∧(aB v).all bS then yS e (es.set i v) rest else none
def GV:Option VV→Option (Option Value)
 | none=>some none
 | some (.sc v)=>some (some v)
 | some _=>none
def dM (agg:Bool) (size:Nat) (x:VV) (o:Nat):Option VV :=
 if agg then (if o+size≤(aB x).length then some (.agg (((aB x).drop o).take size)) else none) else (aB x)[o]?
structure Fl where
 bf:Bool
 lr:Bool
def cC (agg:Bool) (size:Nat) (p:VV) (H:aA):Option VV :=
 match p with
 | .dA x o=>dM agg size x o
 |
  .ptr b g j o=>match aJ H b g with
  |
   some (es,_,_)=>match es[j]? with
   | some x=>dM agg size x o
   | none=>none
  | none=>none
 | _=>none
def bL (size:Nat) (x i:VV) (H:aA):Option VV :=
 match x,i with
 |
  .tree es _,.sc (.int _ i)=>if 0≤i then match es[i.toNat]? with
  | some x=>if (aB x).length=size then some (.dA x 0) else none
  | none=>none
  else none
 |
  .ref b g o n _,.sc (.int _ i)=>match aJ H b g with
  | some (_,e,_)=>if e=size∧0≤i∧i<n then some (.ptr b g (o+i.toNat) 0) else none
  | none=>none
 | _,_=>none
def FW (size:Nat) (x:VV) (l h m:Option VV) (H:aA):Option VV :=
 match GV l,GV h,GV m with
 |
  some lv,some hv,some mv =>
  match x with
  |
   .tree (y::ys) _ =>
   if (aB y).length=size then
    match fG mv (some (ys.length+1)) (ys.length+1) with
    | none=>none
    |
     some m=>match fG hv (if mv.isSome then none else some (ys.length+1)) m with
     | none=>none
     |
      some h=>match fG lv (some 0) h with
      | none=>none
      | some l=>if mv.isSome∧m=l then some (.tree [] (.cl size)) else some (.tree (((y::ys).drop l).take (h-l)) .op)
   else none
  |
   .ref b g o n c =>
   match aJ H b g with
   |
    some (_,e,_) =>
    if e=size then
     match fG mv (some c) c with
     | none=>none
     |
      some m=>match fG hv (if mv.isSome then none else some n) m with
      | none=>none
      |
       some h=>match fG lv (some 0) h with
       | none=>none
       | some l=>if mv.isSome∧m=l then some (.tree [] (.cl size)) else some (.ref b g (o+l) (h-l) (m-l))
    else none
   | none=>none
  | _=>none
 | _,_,_=>none
def J2:List VV→Option (List UInt8)
 | []=>some []
 | .sc (.int .u8 n)::r=>(J2 r).map (UInt8.ofNat n.toNat :: ·)
 | _=>none
def cT (size:Nat) (y:VV) (H:aA):Option (List VV) :=
 match y with
 | .tree es _=>if es.all fun x=>(aB x).length == size&&(aB x).all bS then some es else none
 |
  .ref b g o n _=>match aJ H b g with
  | some (es,e,_)=>if e=size∧o+n≤es.length∧(((es.drop o).take n).all fun x=>(aB x).all bS) then some ((es.drop o).take n) else none
  | none=>none
 | .sc (.string s)=>if size=1 then some (s.data.toList.map fun b => .sc (.int .u8 b.toNat)) else none
 | _=>none
def eE (lo size bytes:Nat) (x:VV) (new:List VV) (H:aA):Option (VV×aA) :=
 if 1≤bytes∧1≤size then
  match x with
  | .tree [] .nil=>if new.length=0 then some (x,H) else if new.length*bytes≤140737488355328 then some (.ref H.length 0 0 new.length new.length,H++[.row 0 new size true]) else none
  | .tree es (.cl e)=>if e=size then (if new.length=0 then some (x,H) else if (es.length+new.length)*bytes≤140737488355328 then some (.ref H.length 0 0 (es.length+new.length) (es.length+new.length),H++[.row 0 (es++new) size true]) else none) else none
  |
   .ref b g o n c=>match aJ H b g with
   |
    some (es,e,true) =>
    if e=size∧lo≤b∧o+n≤es.length then
     if n+new.length≤c then
      if new.length=0 then some (x,H)
      else if o+n+new.length≤es.length then some (.ref b g o (n+new.length) c,H.set b (.row g (dC es (o+n) new) e true))
      else none
     else if (n+new.length)*bytes≤140737488355328 then some (.ref b (g+1) 0 (n+new.length) (n+new.length),H.set b (.row (g+1) ((es.drop o).take n++new) e true))
     else none
    else none
   | _=>none
  | _=>none
 else none
def bQ (lo size:Nat) (p v:VV) (H:aA):Option aA :=
 match p with
 |
  .ptr b g j o=>match aJ H b g with
  |
   some (es,e,true)=>match es[j]? with
   |
    some x =>
    if (aB v).length=size∧lo≤b∧(aB v).all bS then
     if o=0∧size=e then some (H.set b (.row g (es.set j v) e true))
     else if 2≤e∧o+size≤e then some (H.set b (.row g (es.set j (.agg (dC (aB x) o (aB v)))) e true))
     else none
    else none
   | none=>none
  | _=>none
 | _=>none
def BK (zero:List Value) (bytes:Nat) (l c:VV) (H:aA):Option (VV×aA) :=
 match l,c with
 | .sc (.int .i64 l),.sc (.int .i64 c)=>if 0≤l∧l≤c∧c*bytes≤281474976710656∧c≤9223372036854775807 then
  some (.ref H.length 0 0 l.toNat c.toNat,H++[.row 0 (List.replicate c.toNat (elemOf (zero.map kK))) zero.length true]) else none
 | _,_=>none
def kD (lr:Bool) (zero:List Value) (n:Nat) (parts:List (Nat×VV)) (H:aA):Option (VV×aA) :=
 match yS zero.length (List.replicate n (elemOf (zero.map kK))) parts with
 | some es=>if (zero.map kK).all bS then (if n=0∨lr=true then some (.ref H.length 0 0 n n,H++[.row 0 es zero.length true]) else some (.tree es (.cl zero.length),H)) else none
 | none=>none
def Lt (lo size:Nat) (x y:VV) (H:aA):Option (VV×aA) :=
 match x,cT size y H with
 | .tree [] .nil,some _=>some (.sc (.int .i64 0),H)
 |
  .ref b g o d _,some new=>match aJ H b g with
  | some (es,e,true)=>if e=size∧lo≤b∧o+(new.take d).length≤es.length then some (.sc (.int .i64 (new.take d).length),H.set b (.row g (dC es o (new.take d)) e true)) else none
  | _=>none
 | _,_=>none
def RA (lo:Nat) (zero:List Value) (x:VV) (H:aA):Option aA :=
 match x with
 |
  .ref b g o n _=>match aJ H b g with
  | some (es,e,true)=>if n=0 then some H else if e=zero.length∧lo≤b∧o+n≤es.length∧(zero.map kK).all bS then some (H.set b (.row g (dC es o (List.replicate n (elemOf (zero.map kK)))) e true)) else none
  | _=>none
 | _=>none
def Hn (neg:Bool) (x:VV) (H:aA):Option VV :=
 match x with
 | .tree [] .nil=>some (.sc (.bool (true != neg)))
 | .tree [] (.cl _)=>some (.sc (.bool (false != neg)))
 | .tree (_::_) _=>some (.sc (.bool (false != neg)))
 | .ref b g _ _ _=>(aJ H b g).map fun _ => .sc (.bool (false != neg))
 | _=>none
def pW (x:VV) (H:aA):Option VV :=
 match x with
 | .tree es _=>some (.sc (.int .i64 es.length))
 | .ref b g _ n _=>(aJ H b g).map fun _ => .sc (.int .i64 n)
 | _=>none
def KC (off:Nat) (x:VV) (H:aA):Option VV :=
 match x with
 | .dA x o=>some (.dA x (o+off))
 | .ptr b g j o=>(aJ H b g).map fun _ => .ptr b g j (o+off)
 | _=>none
def ZD (x:VV) (H:aA):Option VV :=
 match x with
 | .dA x o=>some (.dA x o)
 | .ptr b g j o=>(aJ H b g).map fun _ => .ptr b g j o
 | _=>none
def wV (x:VV) (l h:Option VV):Option VV :=
 match x,GV l,GV h with
 |
  .sc (.string s),some lv,some hv=>match Bd lv hv s.size with
  | some (l,h)=>some (.sc (.string (s.extract l h)))
  | none=>none
 | _,_,_=>none
def amO (agg:Bool) (off size:Nat) (x:VV):Option VV :=
 match x with
 | .agg cs=>if agg then (if off+size≤cs.length then some (.agg ((cs.drop off).take size)) else none) else cs[off]?
 | _=>none
def NQ (f:Value→Option Value) (x:VV):Option VV :=
 match x with
 | .sc a=>(f a).map .sc
 | _=>none
def J7 (f:Value→Value→Option Value) (x y:VV):Option VV :=
 match x,y with
 | .sc a,.sc b=>(f a b).map .sc
 | _,_=>none
def T7 (c a b:VV):Option VV :=
 match c with
 | .sc (.bool t)=>some (if t then a else b)
 | _=>none
def adS (i:Nat) (x:VV):Option VV :=
 match x with
 | .dQ vs=>vs[i]?
 | _=>none
def Wz (neg:Bool) (ks:List CK) (x y:VV):Option VV :=
 match x,y with
 | .agg a,.agg b=>(rM ks a b).map fun t => .sc (.bool (t != neg))
 | _,_=>none
def Zq:Value→Option Value
 | .string s=>some (.string s)
 | _=>none
def xV:Value→Option Value
 | .string s=>some (.int .i64 s.size)
 | _=>none
def IA:Value→Value→Option Value
 | .string s,.int _ i=>if 0≤i∧i<s.size then some (.int .u8 ((s.data.toList.getD i.toNat 0).toNat:Int)) else none
 | _,_=>none
def vop (fl:Fl) (lo:Nat) (o:oQ) (ρ:dU) (H:aA):Option (VV×aA) :=
 match o with
 | .mv x=>some (fE ρ x,H)
 | .pick c a b=>(T7 (fE ρ c) (fE ρ a) (fE ρ b)).map (·,H)
 | .bin op x y=>(J7 (dN op) (fE ρ x) (fE ρ y)).map (·,H)
 | .eqb neg x y=>(J7 (Pv neg) (fE ρ x) (fE ρ y)).map (·,H)
 | .isnil neg x=>(Hn neg (fE ρ x) H).map (·,H)
 | .eqagg neg ks x y=>(Wz neg ks (fE ρ x) (fE ρ y)).map (·,H)
 | .un op x=>(NQ (pun op) (fE ρ x)).map (·,H)
 | .cvt k x=>(NQ (Xm k) (fE ρ x)).map (·,H)
 | .cvs x=>(NQ Zq (fE ρ x)).map (·,H)
 | .ext x i=>(adS i (fE ρ x)).map (·,H)
 | .fld agg off size x=>(amO agg off size (fE ρ x)).map (·,H)
 | .build zero places parts=>(zV places (zero.map kK) (parts.map fun(i,x)=>(i,fE ρ x))).map fun cs=>(.agg cs,H)
 | .chk x=>(ZD (fE ρ x) H).map (·,H)
 | .faddr off x=>(KC off (fE ρ x) H).map (·,H)
 | .iaddr size x i=>(bL size (fE ρ x) (fE ρ i) H).map (·,H)
 | .sidx x i=>(J7 IA (fE ρ x) (fE ρ i)).map (·,H)
 | .ssub x l h=>(wV (fE ρ x) (l.map (fE ρ)) (h.map (fE ρ))).map (·,H)
 | .mkfn f gL=>some (.wG f (gL.map (fE ρ)),H)
 | .len x=>(pW (fE ρ x) H).map (·,H)
 | .slen x=>(NQ xV (fE ρ x)).map (·,H)
 | .min x y=>(J7 TZ (fE ρ x) (fE ρ y)).map (·,H)
 | .max x y=>(J7 UQ (fE ρ x) (fE ρ y)).map (·,H)
 | .load agg size p=>(cC agg size (fE ρ p) H).map (·,H)
 | .sub size x l h m=>(FW size (fE ρ x) (l.map (fE ρ)) (h.map (fE ρ)) (m.map (fE ρ)) H).map (·,H)
 |
  .b2s x=>match fE ρ x with
  | .sc _=>none
  |
   y=>match cT 1 y H with
   | some es=>(J2 es).map fun bs=>(.sc (.string ⟨bs.toArray⟩),H)
   | none=>none
 | .new zero=>if (zero.map kK).all bS then some (.ptr H.length 0 0 0,H++[.row 0 [elemOf (zero.map kK)] zero.length true]) else none
 | .box x=>if (aB (fE ρ x)).all bS then (if fl.bf then some (.dA (fE ρ x) 0,H) else some (.ptr H.length 0 0 0,H++[.row 0 [fE ρ x] (aB (fE ρ x)).length true])) else none
 | .make zero bytes l c=>if (zero.map kK).all bS then BK zero bytes (fE ρ l) (fE ρ c) H else none
 | .lit zero n parts=>kD fl.lr zero n (parts.map fun(i,x)=>(i,fE ρ x)) H
 | .store size p v=>(bQ lo size (fE ρ p) (fE ρ v) H).map fun H'=>(rA,H')
 |
  .app size bytes x y=>match cT size (fE ρ y) H with
  | some new=>eE lo size bytes (fE ρ x) new H
  | none=>none
 |
  .appz zero bytes x n=>match fE ρ n with
  | .sc (.int .i64 n)=>if 0≤n∧n*bytes≤140737488355328∧(zero.map kK).all bS then eE lo zero.length bytes (fE ρ x) (List.replicate n.toNat (elemOf (zero.map kK))) H else none
  | _=>none
 | .copy size x y=>Lt lo size (fE ρ x) (fE ρ y) H
 | .clear zero x=>(RA lo zero (fE ρ x) H).map fun H'=>(rA,H')
 | _=>none
inductive VBx where
 | no
 | row (i:Nat) (w:Bool)
 | CO (i:Nat)
 | tree
 | bad
def sF (H:aA):VV→VBx
 | .tree [] .nil => .no
 | .tree _ _ => .tree
 | .dA _ _ => .tree
 |
  .ref b g _ _ _=>match aJ H b g with
  | some (_,_,w) => .row b w
  | none => .CO b
 |
  .ptr b g _ _=>match aJ H b g with
  | some (_,_,w) => .row b w
  | none => .CO b
 | .any => .bad
 | _ => .no
def oS (H:aA) (x y:VV):Bool :=
 match sF H x,sF H y with
 | .bad,_=>false
 | _,.bad=>false
 | .no,_=>true
 | _,.no=>true
 | .row i _,.row j _=>i != j
 | .row i _,.CO j=>i != j
 | .CO i,.row j _=>i != j
 | .CO _,.CO _=>false
 | .CO _,.tree=>false
 | .tree,.CO _=>false
 | .row _ w,.tree=>w
 | .tree,.row _ w=>w
 | .tree,.tree=>false
def kA (ρ:dU) (H:aA) (c:Operand×Operand):Bool:=oS H (fE ρ c.1) (fE ρ c.2)
def CL (g:Option (Nat×Bool)) (ρ:dU):Option Bool :=
 match g with
 | none=>some true
 |
  some (t,want)=>match ρ t with
  | .sc (.bool b)=>some (b == want)
  | .dQ _=>some false
  | _=>none
def fz:Nat→aA→VV→Option VV
 | 0,_,_=>none
 |
  d+1,H,v =>
  if aQ v then some v else
  match v with
  | .agg cs=>(cs.mapM (fz d H)).map .agg
  | .dQ vs=>(vs.mapM (fz d H)).map .dQ
  | .tree es _=>(es.mapM (fz d H)).map (.tree · .op)
  | .dA x o=>(fz d H x).map (.dA · o)
  |
   .ref b g o n c=>match aJ H b g with
   | some (es,_,_)=>if o+n≤es.length∧n≤c then (((es.drop o).take n).mapM (fz d H)).map (.tree · .op) else none
   | none=>none
  |
   .ptr b g j o=>match aJ H b g with
   |
    some (es,_,_)=>match es[j]? with
    | some x=>(fz d H x).map (.dA · o)
    | none=>none
   | none=>none
  | .wG f gL=>(gL.mapM (fz d H)).map (.wG f ·)
  | _=>none
def iS:Nat→aA→VV→List Nat
 | 0,_,_=>[]
 |
  d+1,H,v =>
  if aQ v then [] else
  match v with
  | .agg cs=>cs.flatMap (iS d H)
  | .dQ vs=>vs.flatMap (iS d H)
  | .tree es _=>es.flatMap (iS d H)
  | .dA x _=>iS d H x
  |
   .ref b g o n _=>match aJ H b g with
   | some (es,_,_)=>b::((es.drop o).take n).flatMap (iS d H)
   | none=>[]
  |
   .ptr b g j _=>match aJ H b g with
   |
    some (es,_,_)=>match es[j]? with
    | some x=>b::iS d H x
    | none=>[]
   | none=>[]
  | .wG _ gL=>gL.flatMap (iS d H)
  | _=>[]
def C3 (H:aA) (b:Nat):aA :=
 match H[b]? with
 | some (.row g es e _)=>H.set b (.row g es e false)
 | _=>H
def dI (H:aA) (ids:List Nat):aA:=ids.foldl C3 H
def depth:Nat:=8
end Go.PM
namespace Go.PM
structure View where
 m:Nat→Nat
 F:Nat→Prop
 H:aA
 P:aF
 base:Nat
def kindOk (k:TK) (n c e:Nat) (p:Bool):Prop :=
 match k with
 | .op=>True
 | .cl e'=>e'=e∧c=n∧p=false
 | .nil=>False
mutual
inductive VR (V:View):VV→Value→Prop
 | any (v:Value):VR V .any v
 | sc (v:Value) (h:lG v=true):VR V (.sc v) v
 | agg (cs:List VV) (ps:List Value) (h:VL V cs ps):VR V (.agg cs) (.agg ps.toArray)
 | dQ (cs:List VV) (ps:List Value) (h:VL V cs ps):VR V (.dQ cs) (.tuple ps.toArray)
 | oP (k:TK) (hk:k = .op∨k = .nil):VR V (.tree [] k) (.slice none 0 0)
 | tree (es:List VV) (k:TK) (b o c:Nat) (r:List Value) (e:Nat) (p:Bool) (hF:V.F b) (hb:V.P[b]? = some (.row r e p)) (ho:o+es.length*e≤r.length)
  (hc:es.length≤c) (he:∀x∈es,(aB x).length=e) (hk:kindOk k es.length c e p) (hl:VL V (es.flatMap aB) ((r.drop o).take (es.length*e))) :
  VR V (.tree es k) (.slice (some ⟨b,o,none⟩) es.length c)
 | dA (x:VV) (off b o:Nat) (r:List Value) (e:Nat) (p:Bool) (hF:V.F b) (hb:V.P[b]? = some (.row r e p)) (ho:o+(aB x).length≤r.length)
  (hl:VL V (aB x) ((r.drop o).take (aB x).length)):VR V (.dA x off) (.pointer (some ⟨b,o+off,none⟩))
 | ref (b g o n c:Nat) (a:Option Addr) (n' c':Nat) (bH:b<V.H.length) (hg:∀g' es e w,V.H[b]? = some (.row g' es e w)→g≤g')
  (h:∀es e w,V.H[b]? = some (.row g es e w)→a=some ⟨V.m b,o*e,none⟩∧n'=n∧c'=c)
  (hq:∀a0,a=some a0→V.base≤a0.block∧a0.block<V.P.length∧∀b' g' es e w,V.H[b']? = some (.row g' es e w)→b'≠b→V.m b'≠a0.block):VR V (.ref b g o n c) (.slice a n' c')
 | ptr (b g j off:Nat) (a:Option Addr) (bH:b<V.H.length) (hg:∀g' es e w,V.H[b]? = some (.row g' es e w)→g≤g')
  (h:∀es e w,V.H[b]? = some (.row g es e w)→a=some ⟨V.m b,j*e+off,none⟩)
  (hq:∀a0,a=some a0→V.base≤a0.block∧a0.block<V.P.length∧∀b' g' es e w,V.H[b']? = some (.row g' es e w)→b'≠b→V.m b'≠a0.block):VR V (.ptr b g j off) (.pointer a)
 | wG (f:Nat) (gL:List VV) (ps:List Value) (h:VL V gL ps):VR V (.wG f gL) (.func (.func f) #[] ps.toArray)
inductive VL (V:View):List VV→List Value→Prop
 | nil:VL V [] []
 | cons (x:VV) (v:Value) (xs:List VV) (vs:List Value) (h:VR V x v) (hs:VL V xs vs):VL V (x::xs) (v::vs)
end
structure Up (V V':View):Prop where
 F:∀b,V.F b→V'.F b
 P:∀b,V.F b→V'.P[b]? = V.P[b]?
 len:V.H.length≤V'.H.length
 row:∀b g' nU e w',b<V.H.length→V'.H[b]? = some (.row g' nU e w')→∃g es w,V.H[b]? = some (.row g es e w)∧g≤g'∧(g'=g→V'.m b=V.m b)
 Mx:V'.base=V.base
 FT:V.P.length≤V'.P.length
 CO:∀b g es e w,V'.H[b]? = some (.row g es e w)→V'.m b<V.P.length→∃g0 es0 w0,V.H[b]? = some (.row g0 es0 e w0)∧V'.m b=V.m b∧(w=true→w0=true)
section
variable {V V' Va:View}
theorem Up.refl (V:View):Up V V:=⟨fun _ h=>h,fun _ _=>rfl,Nat.le_refl _,fun b g es e w _ h=>⟨g,es,w,h,Nat.le_refl _,fun _=>rfl⟩,rfl,Nat.le_refl _,fun b g es e w h _=>⟨g,es,w,h,rfl,id⟩⟩
theorem Up.trans (h:Up V V') (h':Up V' Va):Up V Va :=
 ⟨fun b hb=>h'.F b (h.F b hb),fun b hb=>(h'.P b (h.F b hb)).trans (h.P b hb),Nat.le_trans h.len h'.len,fun b g es e w hb hr=>by
  obtain⟨g1,Dx,w1,h1,h2,h3⟩:=h'.row b g es e w (Nat.lt_of_lt_of_le hb h.len) hr
  obtain⟨g2,es2,w2,h4,h5,h6⟩:=h.row b g1 Dx e w1 hb h1
  exact⟨g2,es2,w2,h4,Nat.le_trans h5 h2,fun hg=>(h3 (by omega)).trans (h6 (by omega))⟩,h'.Mx.trans h.Mx,Nat.le_trans h.FT h'.FT,fun b g es e w hb hm=>by
   obtain⟨g1,Dx,w1,h1,h2,h3⟩:=h'.CO b g es e w hb (Nat.lt_of_lt_of_le hm h.FT)
   obtain⟨g2,es2,w2,h4,h5,h6⟩:=h.CO b g1 Dx e w1 h1 (by rw[←h2];exact hm)
   exact⟨g2,es2,w2,h4,h2.trans h5,fun hw=>h6 (h3 hw)⟩⟩
theorem Up.hq (u:Up V V') {b q:Nat} (h:V.base≤q∧q<V.P.length∧∀b' g' es e w,V.H[b']? = some (.row g' es e w)→b'≠b→V.m b'≠q):V'.base≤q∧q<V'.P.length∧∀b' g' es e w,V'.H[b']? = some (.row g' es e w)→b'≠b→V'.m b'≠q:=by
 refine⟨by rw[u.Mx];exact h.1,Nat.lt_of_lt_of_le h.2.1 u.FT,fun b' g' es e w hb fT hm => ?_⟩
 obtain⟨g0,es0,w0,h1,h2,_⟩:=u.CO b' g' es e w hb (by rw[hm];exact h.2.1)
 exact h.2.2 b' _ _ _ _ h1 fT (h2.symm.trans hm)
theorem VR.mono (u:Up V V') {x:VV} {v:Value} (h:VR V x v):VR V' x v:=by
 induction h using VR.rec (motive_2:=fun xs vs _=>VL V' xs vs) with
 | any=>exact .any _
 | sc _ h=>exact .sc _ h
 | agg cs ps _ ih=>exact .agg _ _ ih
 | dQ cs ps _ ih=>exact .dQ _ _ ih
 | oP k hk=>exact .oP k hk
 | tree es k b o c r e p hF hb ho hc he hk _ ih=>exact .tree es k b o c r e p (u.F _ hF) (by rw[u.P _ hF];exact hb) ho hc he hk ih
 | dA x off b o r e p hF hb ho _ ih=>exact .dA x off b o r e p (u.F _ hF) (by rw[u.P _ hF];exact hb) ho ih
 |
  ref b g o n c a n' c' bH hg h hq =>
  refine .ref b g o n c a n' c' (Nat.lt_of_lt_of_le bH u.len) (fun g' es e w hr => ?_) (fun es e w hr => ?_) fun a0 ha=>u.hq (hq a0 ha)
  ·obtain⟨g1,Dx,w1,h1,h2,_⟩:=u.row b g' es e w bH hr
   exact Nat.le_trans (hg _ _ _ _ h1) h2
  ·obtain⟨g1,Dx,w1,h1,h2,h3⟩:=u.row b g es e w bH hr
   have h4:=hg _ _ _ _ h1
   have h5:g=g1:=by omega
   subst h5
   rw[h3 rfl]
   exact h _ _ _ h1
 |
  ptr b g j off a bH hg h hq =>
  refine .ptr b g j off a (Nat.lt_of_lt_of_le bH u.len) (fun g' es e w hr => ?_) (fun es e w hr => ?_) fun a0 ha=>u.hq (hq a0 ha)
  ·obtain⟨g1,Dx,w1,h1,h2,_⟩:=u.row b g' es e w bH hr
   exact Nat.le_trans (hg _ _ _ _ h1) h2
  ·obtain⟨g1,Dx,w1,h1,h2,h3⟩:=u.row b g es e w bH hr
   have h4:=hg _ _ _ _ h1
   have h5:g=g1:=by omega
   subst h5
   rw[h3 rfl]
   exact h _ _ _ h1
 | wG f gL ps _ ih=>exact .wG _ _ _ ih
 | nil=>exact .nil
 | cons x v xs vs _ _ ih Wr=>exact .cons _ _ _ _ ih Wr
theorem VL.mono (u:Up V V') {xs:List VV} {vs:List Value} (h:VL V xs vs):VL V' xs vs:=by
 induction xs generalizing vs with
 | nil=>cases h;exact .nil
 |
  cons x xs ih=>cases h with
  | cons _ v _ vs h hs=>exact .cons _ _ _ _ (h.mono u) (ih hs)
end
section
variable {V:View} {xs ys:List VV} {vs ws:List Value}
theorem VL.length:∀ {xs:List VV} {vs:List Value},VL V xs vs→vs.length=xs.length
 | _,_,.nil=>rfl
 | _,_,.cons _ _ _ _ _ hs=>by simp[hs.length]
theorem VL.append:∀ {xs:List VV} {vs:List Value},VL V xs vs→VL V ys ws→VL V (xs++ys) (vs++ws)
 | _,_,.nil,h'=>h'
 | _,_,.cons _ _ _ _ h hs,h' => .cons _ _ _ _ h (hs.append h')
theorem VL.take (n:Nat):∀ {xs:List VV} {vs:List Value} ,VL V xs vs→VL V (xs.take n) (vs.take n):=by
 induction n with
 | zero=>intro xs vs _;simp;exact .nil
 |
  succ n ih=>intro xs vs h;cases h with
  | nil=>simp;exact .nil
  | cons x v xs vs h hs=>exact .cons _ _ _ _ h (ih hs)
theorem VL.drop (n:Nat):∀ {xs:List VV} {vs:List Value} ,VL V xs vs→VL V (xs.drop n) (vs.drop n):=by
 induction n with
 | zero=>intro xs vs h;simpa using h
 |
  succ n ih=>intro xs vs h;cases h with
  | nil=>simp;exact .nil
  | cons x v xs vs h hs=>exact ih hs
theorem VL.get (h:VL V xs vs) {i:Nat} {x:VV} (hx:xs[i]? = some x):∃v,vs[i]? = some v∧VR V x v:=by
 induction i generalizing xs vs with
 |
  zero=>cases h with
  | nil=>cases hx
  | cons y v xs vs h hs=>simp at hx;subst hx;exact⟨v,rfl,h⟩
 |
  succ i ih=>cases h with
  | nil=>cases hx
  | cons y v xs vs h hs=>exact ih hs (by simpa using hx)
theorem VL.map {α:Type} {f:α→VV} {g:α→Value}:∀ {l:List α},(∀x∈l,VR V (f x) (g x))→VL V (l.map f) (l.map g)
 | [],_ => .nil
 | x::l,h => .cons _ _ _ _ (h x (by simp)) (VL.map fun y hy=>h y (by simp[hy]))
theorem VL.replicate {x:VV} {v:Value} (h:VR V x v):∀n,VL V (List.replicate n x) (List.replicate n v)
 | 0 => .nil
 | n+1 => .cons _ _ _ _ h (VL.replicate h n)
theorem VL.jS {cs new:List VV} {ps pn:List Value} (h:VL V cs ps) (hn:VL V new pn) (o:Nat):VL V (dC cs o new) (jS ps o pn):=by
 unfold dC PM.jS
 rw[←hn.length]
 exact((h.take o).append hn).append (h.drop _)
theorem VR.kK (v:Value):VR V (kK v) v:=by
 unfold PM.kK
 split
 ·exact .oP _ (.inr rfl)
 ·split
  ·rename_i h;exact .sc _ h
  ·exact .any _
theorem VR.inj (v:Value):VR V (inj v) v:=by
 unfold PM.inj
 split
 ·rename_i cs
  have:(Value.agg cs) = .agg cs.toList.toArray:=by simp
  rw[this]
  refine .agg _ _ ?_
  have:=VL.map (V:=V) (f:=PM.kK) (g:=id) (l:=cs.toList) fun x _=>VR.kK x
  simpa using this
 ·rename_i vs
  split
  ·rename_i h
   have:vs=[].toArray:=by simpa using h
   rw[this]
   exact .dQ _ _ .nil
  ·exact .any _
 ·exact VR.kK _
theorem VL.zero (z:List Value):VL V (z.map PM.kK) z:=by
 have:=VL.map (V:=V) (f:=PM.kK) (g:=id) (l:=z) fun x _=>VR.kK x
 simpa using this
theorem VR.cells {x:VV} {v:Value} (h:VR V x v) (hx:x ≠ .any):VL V (aB x) (aU v):=by
 cases h with
 | any=>exact absurd rfl hx
 |
  sc v h =>
  have:aU v=[v]:=by cases v<;>first | rfl | cases h
  rw[this]
  exact .cons _ _ _ _ (.sc v h) .nil
 | agg cs ps h=>simpa[aB,aU] using h
 | dQ cs ps h=>exact .cons _ _ _ _ (.dQ _ _ h) .nil
 | oP k hk=>exact .cons _ _ _ _ (.oP k hk) .nil
 | tree es k b o c r e p hF hb ho hc he hk hl=>exact .cons _ _ _ _ (.tree es k b o c r e p hF hb ho hc he hk hl) .nil
 | dA x off b o r e p hF hb ho hl=>exact .cons _ _ _ _ (.dA x off b o r e p hF hb ho hl) .nil
 | ref b g o n c a n' c' bH hg h hq=>exact .cons _ _ _ _ (.ref b g o n c a n' c' bH hg h hq) .nil
 | ptr b g j off a bH hg h hq=>exact .cons _ _ _ _ (.ptr b g j off a bH hg h hq) .nil
 | wG f gL ps h=>exact .cons _ _ _ _ (.wG _ _ _ h) .nil
theorem VR.gM {x:VV} {v:Value} (h:VR V x v) (hx:bS x=true):gM v=true:=by
 cases h with
 | sc v h=>cases v<;>first | rfl | cases h
 | any=>cases hx
 | agg=>cases hx
 | dQ=>cases hx
 | _=>rfl
theorem VL.gM:∀ {xs:List VV} {vs:List Value},VL V xs vs→xs.all bS=true→vs.all PM.gM=true
 | _,_,.nil,_=>rfl
 |
  _,_,.cons _ _ _ _ h hs,hx=>by
  rw[List.all_cons,Bool.and_eq_true] at hx ⊢
  exact⟨h.gM hx.1,hs.gM hx.2⟩
theorem WZ {x:VV} (h:(aB x).all bS=true):x ≠ .any:=by
 rintro rfl
 cases h
theorem lR {es:List VV} {e:Nat} (he:∀x∈es,(aB x).length=e):(es.flatMap aB).length=es.length*e:=by
 induction es with
 | nil=>simp
 |
  cons x xs ih =>
  rw[List.flatMap_cons,List.length_append,ih fun y hy=>he y (List.mem_cons_of_mem _ hy),he x List.mem_cons_self,List.length_cons,Nat.succ_mul]
  omega
theorem vJ {es:List VV} {e:Nat} (he:∀x∈es,(aB x).length=e) (i:Nat):(es.flatMap aB).drop (i*e)=(es.drop i).flatMap aB:=by
 induction i generalizing es with
 | zero=>simp
 |
  succ i ih =>
  cases es with
  | nil=>simp
  |
   cons x xs =>
   have hx:=he x List.mem_cons_self
   rw[List.flatMap_cons,List.drop_succ_cons,←ih fun y hy=>he y (List.mem_cons_of_mem _ hy),show (i+1)*e=(aB x).length+i*e by rw[hx,Nat.succ_mul];omega,List.drop_append]
   simp
theorem vV {es:List VV} {e:Nat} (he:∀x∈es,(aB x).length=e) (i:Nat):(es.flatMap aB).take (i*e)=(es.take i).flatMap aB:=by
 induction i generalizing es with
 | zero=>simp
 |
  succ i ih =>
  cases es with
  | nil=>simp
  |
   cons x xs =>
   have hx:=he x List.mem_cons_self
   rw[List.flatMap_cons,List.take_succ_cons,List.flatMap_cons,←ih fun y hy=>he y (List.mem_cons_of_mem _ hy),show (i+1)*e=(aB x).length+i*e by rw[hx,Nat.succ_mul];omega,List.take_append]
   simp
   exact List.take_of_length_le (by omega)
theorem NS {es:List VV} {e:Nat} (he:∀x∈es,(aB x).length=e) {j:Nat} {x:VV} (hx:es[j]? = some x):((es.flatMap aB).drop (j*e)).take e=aB x:=by
 obtain⟨bH,SG⟩:=List.getElem?_eq_some_iff.1 hx
 rw[vJ he,List.drop_eq_getElem_cons bH,SG,List.flatMap_cons,List.take_append,←he x (List.mem_of_getElem? hx)]
 simp
theorem yE {es new:List VV} {e:Nat} (he:∀x∈es,(aB x).length=e) (hn:∀x∈new,(aB x).length=e) (o:Nat):dC (es.flatMap aB) (o*e) (new.flatMap aB)=(dC es o new).flatMap aB:=by
 unfold dC
 rw[vV he,lR hn,show o*e+new.length*e=(o+new.length)*e by rw[Nat.add_mul],vJ he]
 simp
theorem Lk {es:List VV} {j:Nat} {x:VV} (hj:j<es.length):dC es j [x]=es.set j x:=by
 unfold dC
 rw[List.set_eq_take_append_cons_drop,if_pos hj]
 simp
theorem UJ {cs new:List VV} {o:Nat} (h:o+new.length≤cs.length):(dC cs o new).length=cs.length:=by
 unfold dC
 simp
 omega
theorem KG {cs new:List VV} {o:Nat} {x:VV} (h:x∈dC cs o new):x∈cs∨x∈new:=by
 unfold dC at h
 rw[List.mem_append,List.mem_append] at h
 rcases h with(h | h) | h
 ·exact .inl (List.mem_of_mem_take h)
 ·exact .inr h
 ·exact .inl (List.mem_of_mem_drop h)
theorem oJ {cs:List VV} (h:cs.all bS=true):aB (elemOf cs)=cs:=by
 unfold elemOf
 split
 ·rename_i x
  simp only[List.all_cons,List.all_nil,Bool.and_true] at h
  cases x<;>first | rfl | cases h
 ·rfl
theorem cK {H:aA} {b g:Nat} {es:List VV} {e:Nat} {w:Bool}:aJ H b g=some (es,e,w)↔H[b]? = some (.row g es e w):=by
 unfold aJ
 constructor
 ·intro h
  split at h
  ·rename_i hb
   split at h
   ·rename_i hg;subst hg;cases h;exact hb
   ·cases h
  ·cases h
 ·intro h
  rw[h]
  simp
end
structure SR (V:View) (lo fC:Nat):Prop where
 row:∀b g es e w,V.H[b]? = some (.row g es e w)→∃r p,V.P[V.m b]? = some (.row r e p)∧(∀x∈es,(aB x).length=e)∧VL V (es.flatMap aB) r
 wr:∀b g es e,V.H[b]? = some (.row g es e true)→¬V.F (V.m b)∧(lo≤b→fC≤V.m b)
 inj:∀a b g es e w g' nU e' w',V.H[a]? = some (.row g es e w)→V.H[b]? = some (.row g' nU e' w')→V.m a=V.m b→a=b
 fr:∀b,V.F b→b<V.P.length
 VH:fC≤V.P.length
 Mx:V.base≤V.P.length
structure F4 (lo:Nat) (V V':View):Prop extends Up V V' where
 cJ:∀q,q<V.P.length→(∀b g es e,V.H[b]? = some (.row g es e true)→lo≤b→V.m b≠q)→V'.P[q]? = V.P[q]?
 DS:∀q,V'.F q→V.F q∨V.P.length≤q∨∃b g es e w,V.H[b]? = some (.row g es e w)∧V.m b=q
section
variable {V V' Va:View} {lo:Nat}
theorem F4.refl (lo:Nat) (V:View):F4 lo V V :=
 { Up.refl V with cJ:=fun _ _ _=>rfl,DS:=fun _ h => .inl h }
theorem F4.trans (h:F4 lo V V') (h':F4 lo V' Va):F4 lo V Va :=
 { Up.trans h.toUp h'.toUp with
  cJ:=fun q hq hn=>by
   rw[h'.cJ q (Nat.lt_of_lt_of_le hq h.FT) ?_,h.cJ q hq hn]
   intro b g es e hb hl hm
   obtain⟨g1,Dx,w1,h1,h2,h3⟩:=h.CO b g es e true hb (by rw[hm];exact hq)
   have:=h3 rfl
   subst this
   exact hn b g1 Dx e h1 hl (h2.symm.trans hm)
  DS:=fun q hq=>by
   rcases h'.DS q hq with h1 | h1 | ⟨b,g,es,e,w,h1,h2⟩
   ·exact h.DS q h1
   ·exact .inr (.inl (Nat.le_trans h.FT h1))
   ·rcases Nat.lt_or_ge q V.P.length with hl | hl
    ·obtain⟨g1,Dx,w1,h3,h4,_⟩:=h.CO b g es e w h1 (by rw[h2];exact hl)
     exact .inr (.inr ⟨b,g1,Dx,e,w1,h3,h4.symm.trans h2⟩)
    ·exact .inr (.inl hl) }
end
end Go.PM
namespace Go.PM
def upd (m:Nat→Nat) (b v:Nat):Nat→Nat:=fun k=>if k=b then v else m k
theorem mQ {m:Nat→Nat} {b v:Nat}:upd m b v b=v:=by simp[upd]
theorem nZ {m:Nat→Nat} {b v k:Nat} (h:k≠b):upd m b v k=m k:=by simp[upd,h]
section
variable {V:View} {lo fC:Nat}
theorem SR.mlt (hS:SR V lo fC) {b g e:Nat} {es:List VV} {w:Bool} (hb:V.H[b]? = some (.row g es e w)):V.m b<V.P.length:=by
 obtain⟨r,p,h,_⟩:=hS.row b g es e w hb
 exact(List.getElem?_eq_some_iff.1 h).1
theorem CY (hS:SR V lo fC) (x:PO):SR { V with P:=V.P++[x],F:=fun q=>V.F q∨q=V.P.length } lo fC∧F4 lo V { V with P:=V.P++[x],F:=fun q=>V.F q∨q=V.P.length }:=by
 have hU:Up V { V with P:=V.P++[x],F:=fun q=>V.F q∨q=V.P.length }:=⟨fun _ h => .inl h,fun b hb=>List.getElem?_append_left (hS.fr b hb),Nat.le_refl _,fun b g es e w _ h=>⟨g,es,w,h,Nat.le_refl _,fun _=>rfl⟩,rfl,by simp,fun b g es e w hb _=>⟨g,es,w,hb,rfl,id⟩⟩
 refine⟨⟨fun b g es e w hb => ?_,fun b g es e hb=>⟨fun hF => ?_,(hS.wr b g es e hb).2⟩,hS.inj,fun b hb => ?_,by have:=hS.VH;simp;omega,by have:=hS.Mx;simp;omega⟩,{ hU with cJ:=fun q hq _=>List.getElem?_append_left hq,DS:=fun q hq => ?_ }⟩
 ·obtain⟨r,p,h1,h2,h3⟩:=hS.row b g es e w hb
  exact⟨r,p,by rw[←h1];exact List.getElem?_append_left (hS.mlt hb),h2,h3.mono hU⟩
 ·rcases hF with hF | hF
  ·exact(hS.wr b g es e hb).1 hF
  ·have h1:V.m b=V.P.length:=hF
   have:=hS.mlt hb
   omega
 ·rcases hb with hb | hb
  ·have:=hS.fr b hb
   simp;omega
  ·subst hb;simp
 ·rcases hq with hq | hq
  ·exact .inl hq
  ·exact .inr (.inl (by omega))
theorem tB (hS:SR V lo fC) {es:List VV} {r:List Value} {e:Nat} (p:Bool) (he:∀x∈es,(aB x).length=e) (hl:VL V (es.flatMap aB) r) :
  SR { V with m:=upd V.m V.H.length V.P.length,H:=V.H++[.row 0 es e true],P:=V.P++[.row r e p] } lo fC∧F4 lo V { V with m:=upd V.m V.H.length V.P.length,H:=V.H++[.row 0 es e true],P:=V.P++[.row r e p] }:=by
 have CO:∀b g nU e' w,(V.H++[cB.row 0 es e true])[b]? = some (.row g nU e' w)→(b=V.H.length∧g=0∧nU=es∧e'=e∧w=true)∨(b≠V.H.length∧V.H[b]? = some (.row g nU e' w)):=by
  intro b g nU e' w hb
  rcases Nat.lt_trichotomy b V.H.length with h | h | h
  ·rw[List.getElem?_append_left h] at hb
   exact .inr ⟨by omega,hb⟩
  ·subst h
   rw[List.getElem?_append_right (Nat.le_refl _)] at hb
   simp at hb
   obtain⟨h1,h2,h3,h4⟩:=hb
   exact .inl ⟨rfl,h1.symm,h2.symm,h3.symm,h4⟩
  ·rw[List.getElem?_eq_none (by simp;omega)] at hb
   cases hb
 have hU:Up V { V with m:=upd V.m V.H.length V.P.length,H:=V.H++[.row 0 es e true],P:=V.P++[.row r e p] } :=
  ⟨fun _ h=>h,fun b hb=>List.getElem?_append_left (hS.fr b hb),by simp,fun b g' nU e' w' bH hb=>by
   rcases CO b g' nU e' w' hb with⟨h,_⟩ | ⟨h,hb⟩
   ·omega
   ·exact⟨g',nU,w',hb,Nat.le_refl _,fun _=>nZ h⟩,rfl,by simp,fun b g nU e' w hb hm=>by
   rcases CO b g nU e' w hb with⟨rfl,_⟩ | ⟨h,hb⟩
   ·simp only[mQ] at hm
    omega
   ·exact⟨g,nU,w,hb,nZ h,id⟩⟩
 refine⟨⟨fun b g nU e' w hb => ?_,fun b g nU e' hb => ?_,fun a b g Dx e1 w1 g' es2 e2 w2 ha hb hm => ?_,fun b hb=>by have:=hS.fr b hb;simp;omega,by have:=hS.VH;simp;omega,by have:=hS.Mx;simp;omega⟩,
  { hU with cJ:=fun q hq _=>List.getElem?_append_left hq,DS:=fun q hq => .inl hq }⟩
 ·rcases CO b g nU e' w hb with⟨rfl,rfl,rfl,rfl,rfl⟩ | ⟨h,hb⟩
  ·exact⟨r,p,by simp only[mQ];simp,he,hl.mono hU⟩
  ·obtain⟨r1,p1,h1,h2,h3⟩:=hS.row b g nU e' w hb
   refine⟨r1,p1,?_,h2,h3.mono hU⟩
   simp only[nZ h]
   rw[List.getElem?_append_left (hS.mlt hb)]
   exact h1
 ·rcases CO b g nU e' true hb with⟨rfl,_⟩ | ⟨h,hb⟩
  ·simp only[mQ]
   exact⟨fun hF=>by have:=hS.fr _ hF;omega,fun _=>hS.VH⟩
  ·simp only[nZ h]
   exact hS.wr b g nU e' hb
 ·rcases CO a g Dx e1 w1 ha with⟨rfl,_⟩ | ⟨h,ha⟩
  ·rcases CO b g' es2 e2 w2 hb with⟨rfl,_⟩ | ⟨h',hb⟩
   ·rfl
   ·simp only[mQ,nZ h'] at hm
    have:=hS.mlt hb
    omega
  ·rcases CO b g' es2 e2 w2 hb with⟨rfl,_⟩ | ⟨h',hb⟩
   ·simp only[mQ,nZ h] at hm
    have:=hS.mlt ha
    omega
   ·simp only[nZ h,nZ h'] at hm
    exact hS.inj a b _ _ _ _ _ _ _ _ ha hb hm
theorem gP {H:aA} {b:Nat} {x:cB} (hb:b<H.length) {a:Nat} {y:cB} (h:(H.set b x)[a]? = some y):(a=b∧y=x)∨(a≠b∧H[a]? = some y):=by
 by_cases he:a=b
 ·subst he
  rw[List.getElem?_set_self hb] at h
  cases h
  exact .inl ⟨rfl,rfl⟩
 ·rw[List.getElem?_set_ne (Ne.symm he)] at h
  exact .inr ⟨he,h⟩
theorem EH (hS:SR V lo fC) {b g e:Nat} {es nU:List VV} {r':List Value} (hb:V.H[b]? = some (.row g es e true)) (dV:lo≤b) (he:∀x∈nU,(aB x).length=e) (hl:VL V (nU.flatMap aB) r') {r:List Value} {p:Bool} (hp:V.P[V.m b]? = some (.row r e p)) :
  SR { V with H:=V.H.set b (.row g nU e true),P:=V.P.set (V.m b) (.row r' e p) } lo fC∧F4 lo V { V with H:=V.H.set b (.row g nU e true),P:=V.P.set (V.m b) (.row r' e p) }:=by
 have vB:=(List.getElem?_eq_some_iff.1 hb).1
 have O8:=hS.mlt hb
 have hU:Up V { V with H:=V.H.set b (.row g nU e true),P:=V.P.set (V.m b) (.row r' e p) } :=
  ⟨fun _ h=>h,fun q hq=>List.getElem?_set_ne (fun h=>(hS.wr b g es e hb).1 (by rw[h];exact hq)),by simp,fun a g' Dx e1 w1 bH ha=>by
   rcases gP vB ha with⟨rfl,h⟩ | ⟨_,h⟩
   ·cases h
    exact⟨g,es,true,hb,Nat.le_refl _,fun _=>rfl⟩
   ·exact⟨g',Dx,w1,h,Nat.le_refl _,fun _=>rfl⟩,rfl,by simp,fun a g1 Dx e1 w1 ha _=>by
   rcases gP vB ha with⟨rfl,h⟩ | ⟨fT,h⟩
   ·cases h
    exact⟨g,es,true,hb,rfl,fun _=>rfl⟩
   ·exact⟨g1,Dx,w1,h,rfl,id⟩⟩
 refine⟨⟨fun a g1 Dx e1 w1 ha => ?_,fun a g1 Dx e1 ha => ?_,fun a c g1 Dx e1 w1 g2 es2 e2 w2 ha hc hm => ?_,fun q hq=>by have:=hS.fr q hq;simp;omega,by have:=hS.VH;simp;omega,by have:=hS.Mx;simp;omega⟩,
  { hU with cJ:=fun q hq hn=>List.getElem?_set_ne (hn b g es e hb dV),DS:=fun q hq => .inl hq }⟩
 ·rcases gP vB ha with⟨rfl,h⟩ | ⟨fT,h⟩
  ·cases h
   exact⟨r',p,List.getElem?_set_self O8,he,hl.mono hU⟩
  ·obtain⟨r1,p1,h1,h2,h3⟩:=hS.row a g1 Dx e1 w1 h
   exact⟨r1,p1,by rw[←h1];exact List.getElem?_set_ne (fun hm=>fT (hS.inj _ _ _ _ _ _ _ _ _ _ h hb hm.symm)),h2,h3.mono hU⟩
 ·rcases gP vB ha with⟨rfl,h⟩ | ⟨fT,h⟩
  ·cases h
   exact hS.wr _ _ _ _ hb
  ·exact hS.wr _ _ _ _ h
 ·rcases gP vB ha with⟨rfl,h⟩ | ⟨fT,h⟩<;>rcases gP vB hc with⟨rfl,h'⟩ | ⟨abT,h'⟩
  ·rfl
  ·exact hS.inj _ _ _ _ _ _ _ _ _ _ hb h' hm
  ·exact hS.inj _ _ _ _ _ _ _ _ _ _ h hb hm
  ·exact hS.inj _ _ _ _ _ _ _ _ _ _ h h' hm
theorem Wn (hS:SR V lo fC) {b g e:Nat} {es nU:List VV} {r':List Value} (hb:V.H[b]? = some (.row g es e true)) (dV:lo≤b) (he:∀x∈nU,(aB x).length=e) (hl:VL V (nU.flatMap aB) r') {P1:aF} (hP:P1.length=V.P.length) (hk:∀q,q≠V.m b→P1[q]? = V.P[q]?) (p:Bool) :
  SR { V with m:=upd V.m b V.P.length,H:=V.H.set b (.row (g+1) nU e true),P:=P1++[.row r' e p] } lo fC∧F4 lo V { V with m:=upd V.m b V.P.length,H:=V.H.set b (.row (g+1) nU e true),P:=P1++[.row r' e p] }:=by
 have vB:=(List.getElem?_eq_some_iff.1 hb).1
 have O8:=hS.mlt hb
 have tF:∀q,q<V.P.length→q≠V.m b→(P1++[PO.row r' e p])[q]? = V.P[q]? := fun q hq hn=>by rw[List.getElem?_append_left (by omega)];exact hk q hn
 have hU:Up V { V with m:=upd V.m b V.P.length,H:=V.H.set b (.row (g+1) nU e true),P:=P1++[.row r' e p] } :=
  ⟨fun _ h=>h,fun q hq=>tF q (hS.fr q hq) (fun h=>(hS.wr b g es e hb).1 (by rw[←h];exact hq)),by simp,fun a g' Dx e1 w1 bH ha=>by
   rcases gP vB ha with⟨rfl,h⟩ | ⟨fT,h⟩
   ·cases h
    exact⟨g,es,true,hb,by omega,fun h=>by omega⟩
   ·exact⟨g',Dx,w1,h,Nat.le_refl _,fun _=>nZ fT⟩,rfl,by simp;omega,fun a g1 Dx e1 w1 ha hm=>by
   rcases gP vB ha with⟨rfl,h⟩ | ⟨fT,h⟩
   ·simp only[mQ] at hm
    omega
   ·exact⟨g1,Dx,w1,h,nZ fT,id⟩⟩
 refine⟨⟨fun a g1 Dx e1 w1 ha => ?_,fun a g1 Dx e1 ha => ?_,fun a c g1 Dx e1 w1 g2 es2 e2 w2 ha hc hm => ?_,fun q hq=>by have:=hS.fr q hq;simp;omega,by have:=hS.VH;simp;omega,by have:=hS.Mx;simp;omega⟩,
  { hU with cJ:=fun q hq hn=>tF q hq (Ne.symm (hn b g es e hb dV)),DS:=fun q hq => .inl hq }⟩
 ·rcases gP vB ha with⟨rfl,h⟩ | ⟨fT,h⟩
  ·cases h
   refine⟨r',p,?_,he,hl.mono hU⟩
   simp only[mQ]
   rw[←hP]
   simp
  ·obtain⟨r1,p1,h1,h2,h3⟩:=hS.row a g1 Dx e1 w1 h
   refine⟨r1,p1,?_,h2,h3.mono hU⟩
   simp only[nZ fT]
   rw[tF _ (hS.mlt h) (fun hm=>fT (hS.inj _ _ _ _ _ _ _ _ _ _ h hb hm))]
   exact h1
 ·rcases gP vB ha with⟨rfl,h⟩ | ⟨fT,h⟩
  ·cases h
   simp only[mQ]
   exact⟨fun hF=>by have:=hS.fr _ hF;omega,fun _=>hS.VH⟩
  ·simp only[nZ fT]
   exact hS.wr _ _ _ _ h
 ·rcases gP vB ha with⟨rfl,h⟩ | ⟨fT,h⟩<;>rcases gP vB hc with⟨rfl,h'⟩ | ⟨abT,h'⟩
  ·rfl
  ·simp only[mQ,nZ abT] at hm
   have:=hS.mlt h'
   omega
  ·simp only[mQ,nZ fT] at hm
   have:=hS.mlt h
   omega
  ·simp only[nZ fT,nZ abT] at hm
   exact hS.inj _ _ _ _ _ _ _ _ _ _ h h' hm
def View.freeze (V:View) (b:Nat):View :=
 match V.H[b]? with
 | some (.row _ _ _ _)=>{ V with H:=C3 V.H b,F:=fun q=>V.F q∨q=V.m b }
 | _=>V
theorem UB (V:View) (b:Nat):(V.freeze b).H=C3 V.H b:=by
 unfold View.freeze C3
 cases h:V.H[b]? with
 | none=>rfl
 | some x=>cases x<;>rfl
theorem aiM (V:View) (b:Nat):(V.freeze b).P=V.P:=by
 unfold View.freeze
 split<;>rfl
theorem Uh (V:View) (b:Nat):(V.freeze b).m=V.m:=by
 unfold View.freeze
 split<;>rfl
theorem Rz (hS:SR V lo fC) (b:Nat):SR (V.freeze b) lo fC∧F4 lo V (V.freeze b)∧(∀g es e w,V.H[b]? = some (.row g es e w)→(V.freeze b).F (V.m b)):=by
 unfold View.freeze
 split
 case h_2 fT=>exact⟨hS,F4.refl _ _,fun g es e w h=>absurd h (fT _ _ _ _)⟩
 rename_i g es e w hb
 have vB:=(List.getElem?_eq_some_iff.1 hb).1
 have hf:C3 V.H b=V.H.set b (.row g es e false):=by unfold C3;rw[hb]
 rw[hf]
 have hU:Up V { V with H:=V.H.set b (.row g es e false),F:=fun q=>V.F q∨q=V.m b } :=
  ⟨fun _ h => .inl h,fun _ _=>rfl,by simp,fun a g' Dx e1 w1 bH ha=>by
   rcases gP vB ha with⟨rfl,h⟩ | ⟨_,h⟩
   ·cases h
    exact⟨g,es,w,hb,Nat.le_refl _,fun _=>rfl⟩
   ·exact⟨g',Dx,w1,h,Nat.le_refl _,fun _=>rfl⟩,rfl,Nat.le_refl _,fun a g1 Dx e1 w1 ha hm=>by
   rcases gP vB ha with⟨rfl,h⟩ | ⟨fT,h⟩
   ·cases h
    exact⟨g,es,w,hb,rfl,fun h=>by cases h⟩
   ·exact⟨g1,Dx,w1,h,rfl,id⟩⟩
 refine⟨⟨fun a g1 Dx e1 w1 ha => ?_,fun a g1 Dx e1 ha => ?_,fun a c g1 Dx e1 w1 g2 es2 e2 w2 ha hc hm => ?_,fun q hq => ?_,hS.VH,hS.Mx⟩,
  { hU with cJ:=fun q hq hn=>rfl,DS:=fun q hq => ?_ },fun _ _ _ _ _ => .inr rfl⟩
 ·rcases gP vB ha with⟨rfl,h⟩ | ⟨fT,h⟩
  ·cases h
   obtain⟨r1,p1,h1,h2,h3⟩:=hS.row _ _ _ _ _ hb
   exact⟨r1,p1,h1,h2,h3.mono hU⟩
  ·obtain⟨r1,p1,h1,h2,h3⟩:=hS.row _ _ _ _ _ h
   exact⟨r1,p1,h1,h2,h3.mono hU⟩
 ·rcases gP vB ha with⟨rfl,h⟩ | ⟨fT,h⟩
  ·cases h
  ·refine⟨fun hF => ?_,(hS.wr _ _ _ _ h).2⟩
   rcases hF with hF | hF
   ·exact(hS.wr _ _ _ _ h).1 hF
   ·exact fT (hS.inj _ _ _ _ _ _ _ _ _ _ h hb hF)
 ·rcases gP vB ha with⟨rfl,h⟩ | ⟨fT,h⟩<;>rcases gP vB hc with⟨rfl,h'⟩ | ⟨abT,h'⟩
  ·rfl
  ·exact hS.inj _ _ _ _ _ _ _ _ _ _ hb h' hm
  ·exact hS.inj _ _ _ _ _ _ _ _ _ _ h hb hm
  ·exact hS.inj _ _ _ _ _ _ _ _ _ _ h h' hm
 ·rcases hq with hq | hq
  ·exact hS.fr q hq
  ·subst hq;exact hS.mlt hb
 ·rcases hq with hq | hq
  ·exact .inl hq
  ·exact .inr (.inr ⟨b,g,es,e,w,hb,hq.symm⟩)
end
end Go.PM
namespace Go.PM
section
variable {V:View} {lo fC:Nat} {ρ:dU} {lQ:Env}
def ER (V:View) (ρ:dU) (lQ:Env):Prop:=∀t,VR V (ρ t) (lQ t)
theorem ER.mono {V':View} (u:Up V V') (h:ER V ρ lQ):ER V' ρ lQ:=fun t=>(h t).mono u
theorem ER.ev (h:ER V ρ lQ) (x:Operand):VR V (fE ρ x) (ev lQ x):=by
 cases x with
 | tmp t=>exact h t
 | const v=>exact VR.inj v
 | global g=>exact .any _
 | func f=>exact .wG f [] [] .nil
theorem ER.put {d:Option Nat} {x:VV} {v:Value} (h:ER V ρ lQ) (hx:VR V x v):ER V (Mg ρ d x) (put lQ d v):=by
 cases d with
 | none=>exact h
 |
  some d =>
  intro t
  simp only[Mg,PM.put]
  split
  ·exact hx
  ·exact h t
theorem ER.evs (h:ER V ρ lQ) (xs:List Operand):VL V (xs.map (fE ρ)) (xs.map (PM.ev lQ)):=VL.map fun x _=>h.ev x
def iF (lo fC:Nat) (V:View) (r:Option (Value×aF)) (v:VV) (H':aA):Prop :=
 ∃pv V',r=some (pv,V'.P)∧V'.H=H'∧SR V' lo fC∧F4 lo V V'∧VR V' v pv
theorem iF.pure (hS:SR V lo fC) {r:Option Value} {v:VV} {pv:Value} (h:r=some pv) (hv:VR V v pv):iF lo fC V (r.map (·,V.P)) v V.H :=
 ⟨pv,V,by rw[h];rfl,rfl,hS,F4.refl _ _,hv⟩
theorem iF.of {V':View} {pv:Value} {v:VV} (h:SR V' lo fC∧F4 lo V V') (hv:VR V' v pv):iF lo fC V (some (pv,V'.P)) v V'.H:=⟨pv,V',rfl,rfl,h.1,h.2,hv⟩
theorem iF.same (hS:SR V lo fC) {v:VV} {pv:Value} (hv:VR V v pv):iF lo fC V (some (pv,V.P)) v V.H :=
 ⟨pv,V,rfl,rfl,hS,F4.refl _ _,hv⟩
theorem cV {α β:Type} {o:Option α} {f:α→β} {b:β} (h:o.map f=some b):∃a,o=some a∧f a=b:=by
 cases o with
 | none=>cases h
 | some a=>cases h;exact⟨a,rfl,rfl⟩
theorem sL {x:VV} {v u:Value} (h:VR V x u) (hx:x = .sc v):u=v∧lG v=true:=by
 subst hx
 cases h with
 | sc v h=>exact⟨rfl,h⟩
theorem adO {op:BinOp} {a b c:Value} (h:dN op a b=some c):lG c=true:=by
 unfold dN at h
 split at h
 ·split at h<;>cases h;rfl
 ·split at h<;>cases h;rfl
 ·split at h
  ·split at h<;>first | (cases h;rfl) | (split at h<;>cases h<;>rfl) | cases h
  ·cases h
 ·split at h<;>first | (cases h;rfl) | (split at h<;>cases h<;>rfl) | cases h
 ·cases h
theorem alS {op:UnOp} {a c:Value} (h:pun op a=some c):lG c=true:=by
 unfold pun at h
 split at h<;>cases h<;>rfl
theorem aiZ {n:Bool} {a b c:Value} (h:Pv n a b=some c):lG c=true:=by
 unfold Pv at h
 split at h<;>cases h;rfl
theorem aeH {k:IntKind} {a c:Value} (h:Xm k a=some c):lG c=true:=by
 unfold Xm at h
 split at h<;>cases h;rfl
theorem ahB {a c:Value} (h:Zq a=some c):lG c=true:=by
 unfold Zq at h
 split at h<;>cases h;rfl
theorem Zu {a c:Value} (h:xV a=some c):lG c=true:=by
 unfold xV at h
 split at h<;>cases h;rfl
theorem Z3 {a b c:Value} (h:IA a b=some c):lG c=true:=by
 unfold IA at h
 split at h
 ·split at h<;>cases h;rfl
 ·cases h
theorem adF {a b c:Value} (h:TZ a b=some c):lG c=true:=by
 unfold TZ at h
 split at h<;>cases h;rfl
theorem aiD {a b c:Value} (h:UQ a b=some c):lG c=true:=by
 unfold UQ at h
 split at h<;>cases h;rfl
theorem FL (hS:SR V lo fC) {f:Value→Option Value} (hf:∀a c,f a=some c→lG c=true) {x v:VV} {u:Value} (hx:VR V x u) (h:NQ f x=some v):iF lo fC V ((f u).map (·,V.P)) v V.H:=by
 unfold NQ at h
 split at h
 ·obtain⟨h1,_⟩:=sL hx rfl
  subst h1
  obtain⟨c,hc,rfl⟩:=cV h
  exact iF.pure hS hc (.sc _ (hf _ _ hc))
 ·cases h
theorem Cg (hS:SR V lo fC) {f:Value→Value→Option Value} (hf:∀a b c,f a b=some c→lG c=true) {x y v:VV} {u w:Value} (hx:VR V x u) (hy:VR V y w) (h:J7 f x y=some v):iF lo fC V ((f u w).map (·,V.P)) v V.H:=by
 unfold J7 at h
 split at h
 ·obtain⟨h1,_⟩:=sL hx rfl
  obtain⟨h2,_⟩:=sL hy rfl
  subst h1 h2
  obtain⟨c,hc,rfl⟩:=cV h
  exact iF.pure hS hc (.sc _ (hf _ _ _ hc))
 ·cases h
theorem XB {α:Type} (l:List α) {o n a k:Nat} (h:a+k≤n):(((l.drop o).take n).drop a).take k=(l.drop (o+a)).take k:=by
 rw[List.drop_take,List.take_take,List.drop_drop,Nat.min_eq_left (by omega)]
theorem S9 {x v:VV} {agg:Bool} {size off b o e:Nat} {r:List Value} {p:Bool} (hb:V.P[b]? = some (.row r e p)) (ho:o+(aB x).length≤r.length) (hl:VL V (aB x) ((r.drop o).take (aB x).length)) (h:dM agg size x off=some v) :
  ∃u,oX agg size (.pointer (some ⟨b,o+off,none⟩)) V.P=some u∧VR V v u:=by
 unfold dM at h
 cases agg with
 |
  true =>
  simp only[if_true] at h
  split at h
  ·rename_i hs
   cases h
   refine⟨.agg ((r.drop (o+off)).take size).toArray,?_,.agg _ _ ?_⟩
   ·simp only[oX,if_true,Cc hb (show o+off+size≤r.length by omega)]
    rfl
   ·have:=(hl.drop off).take size
    rw[XB _ hs] at this
    exact this
  ·cases h
 |
  false =>
  simp only[Bool.false_eq_true,if_false] at h
  obtain⟨u,hu,hv⟩:=hl.get h
  have aqG:=(List.getElem?_eq_some_iff.1 h).1
  rw[List.getElem?_take,if_pos aqG,List.getElem?_drop] at hu
  refine⟨u,?_,hv⟩
  have bH:=(List.getElem?_eq_some_iff.1 hu).1
  simp only[oX,Bool.false_eq_true,if_false,Cc hb (show o+off+1≤r.length by omega)]
  rw[List.drop_eq_getElem_cons bH]
  simp only[List.take_succ_cons,List.take_zero]
  rw[List.getElem?_eq_getElem bH] at hu
  injection hu with hu
  rw[hu]
theorem O2 (hS:SR V lo fC) {b g e j:Nat} {es:List VV} {w:Bool} {x:VV} (hb:V.H[b]? = some (.row g es e w)) (hx:es[j]? = some x) :
  ∃r p,V.P[V.m b]? = some (.row r e p)∧(aB x).length=e∧j*e+(aB x).length≤r.length∧VL V (aB x) ((r.drop (j*e)).take (aB x).length):=by
 obtain⟨r,p,h1,h2,h3⟩:=hS.row b g es e w hb
 have hxe:=h2 x (List.mem_of_getElem? hx)
 have hj:=(List.getElem?_eq_some_iff.1 hx).1
 have hlen:=h3.length
 rw[lR h2] at hlen
 have hm:(j+1)*e≤es.length*e:=Nat.mul_le_mul_right _ hj
 rw[Nat.succ_mul] at hm
 refine⟨r,p,h1,hxe,by omega,?_⟩
 have:=(h3.drop (j*e)).take e
 rw[NS h2 hx] at this
 rw[hxe]
 exact this
theorem Oa (hS:SR V lo fC) {p v:VV} {u:Value} {agg:Bool} {size:Nat} (hp:VR V p u) (h:cC agg size p V.H=some v):∃w,oX agg size u V.P=some w∧VR V v w:=by
 unfold cC at h
 split at h
 ·cases hp with
  | dA x off b o r e p hF hb ho hl=>exact S9 hb ho hl h
 ·split at h
  ·rename_i es e w hr
   rw[cK] at hr
   split at h
   ·rename_i x hx
    cases hp with
    |
     ptr b g j off a bH hg ha hq =>
     have:=ha _ _ _ hr
     subst this
     obtain⟨r,p,h1,h2,h3,h4⟩:=O2 hS hr hx
     exact S9 h1 h3 h4 h
   ·cases h
  ·cases h
 ·cases h
theorem S6 (hS:SR V lo fC) {x i v:VV} {u k:Value} {size:Nat} (hx:VR V x u) (hi:VR V i k) (h:bL size x i V.H=some v):∃w,RW size u k=some w∧VR V v w:=by
 unfold bL at h
 split at h
 ·rename_i es tk ik i
  obtain⟨rfl,_⟩:=sL hi rfl
  split at h
  ·rename_i h0
   split at h
   ·rename_i y hy
    split at h
    ·rename_i Co
     cases h
     have bH:=(List.getElem?_eq_some_iff.1 hy).1
     cases hx with
     | oP=>simp at bH
     |
      tree es k b o c r e p hF hb ho hc he hk hl =>
      have hye:=he y (List.mem_of_getElem? hy)
      have PQ:e=size:=by omega
      subst PQ
      have hm:(i.toNat+1)*e≤es.length*e:=Nat.mul_le_mul_right _ bH
      rw[Nat.succ_mul] at hm
      refine⟨_,Vh h0 (by omega),?_⟩
      have h1:=(hl.drop (i.toNat*e)).take e
      rw[NS he hy,XB _ (by omega)] at h1
      exact .dA y 0 b (o+i.toNat*e) r e p hF hb (by omega) (by rw[hye];exact h1)
    ·cases h
   ·cases h
  ·cases h
 ·rename_i b g o n c ik i
  obtain⟨rfl,_⟩:=sL hi rfl
  split at h
  ·rename_i es e w hr
   rw[cK] at hr
   split at h
   ·rename_i hc
    obtain⟨rfl,h0,h1⟩:=hc
    cases h
    cases hx with
    |
     ref b g o n c a n' c' bH hg ha hq =>
     obtain⟨rfl,rfl,rfl⟩:=ha _ _ _ hr
     refine⟨_,Vh h0 h1,.ptr b g (o+i.toNat) 0 _ bH hg (fun nU e' w' Gs => ?_) fun a0 h=>by cases h;exact hq ⟨V.m b,o*e,none⟩ rfl⟩
     rw[hr] at Gs
     cases Gs
     rw[Nat.add_mul,Nat.add_zero]
   ·cases h
  ·cases h
 ·cases h
theorem B4 {l:Option Operand} {lv:Option Value} (hE:ER V ρ lQ) (h:GV (l.map (fE ρ))=some lv):l.map (ev lQ)=lv:=by
 cases l with
 | none=>cases h;rfl
 |
  some x =>
  simp only[Option.map_some,GV] at h
  split at h
  ·rename_i hv;cases hv
  ·rename_i v hv
   cases h
   injection hv with hv
   obtain⟨h1,_⟩:=sL (hE.ev x) hv
   rw[Option.map_some,h1]
  ·cases h
theorem JF {v:Option Value} {d:Option Nat} {t x:Nat} (hd:∀y,d=some y→y≤t) (h:fG v d t=some x):x≤t:=by
 unfold fG at h
 split at h
 ·exact hd _ h
 ·split at h
  ·cases h;omega
  ·cases h
 ·cases h
theorem QZ {v:Option Value} {d d':Option Nat} {t t' x:Nat} (ht:t≤t') (hd:v=none→d=d') (h:fG v d t=some x):fG v d' t'=some x:=by
 unfold fG at h ⊢
 cases v with
 | none=>rw[←hd rfl];exact h
 |
  some v =>
  cases v with
  |
   int k i =>
   simp only at h ⊢
   split at h
   ·rename_i h1;rw[if_pos (by omega)];exact h
   ·cases h
  | _=>simp only at h ⊢;exact h
theorem Ql (hS:SR V lo fC) (size:Nat):iF lo fC V (some (.slice (some ⟨V.P.length,0,none⟩) 0 0,V.P++[.row [] size false])) (.tree [] (.cl size)) V.H:=by
 exact(iF.of (CY hS (.row [] size false)) (.tree [] (.cl size) V.P.length 0 0 [] size false (.inr rfl) (by simp) (by simp) (by simp) (fun x hx=>by cases hx) ⟨rfl,rfl,rfl⟩ (by simp;exact .nil)) :)
theorem aaA (hS:SR V lo fC) (hE:ER V ρ lQ) {x v:VV} {u:Value} {size:Nat} {l h m:Option Operand} (hx:VR V x u) (hv:FW size x (l.map (fE ρ)) (h.map (fE ρ)) (m.map (fE ρ)) V.H=some v) :
  iF lo fC V (DP size u (l.map (ev lQ)) (h.map (ev lQ)) (m.map (ev lQ)) V.P) v V.H:=by
 unfold FW at hv
 split at hv
 case h_2=>cases hv
 rename_i lv hhv mv hl hh hm
 rw[B4 hE hl,B4 hE hh,B4 hE hm]
 split at hv
 ·rename_i y ys tk
  split at hv
  case isFalse=>cases hv
  rename_i Co
  split at hv
  ·cases hv
  rename_i m0 hm0
  split at hv
  ·cases hv
  rename_i h0 hh0
  split at hv
  ·cases hv
  rename_i l0 Bv
  cases hx with
  |
   tree es k b o c r e p hF hb ho hc he hk hl =>
   have PQ:e=size:=by rw[←he y List.mem_cons_self];exact Co
   subst PQ
   have hlen:(y::ys).length=ys.length+1:=rfl
   rw[hlen] at ho hc
   have b1:m0≤ys.length+1:=JF (fun z hz=>by injection hz with hz;omega) hm0
   have b2:h0≤m0:=by
    refine JF (fun z hz => ?_) hh0
    split at hz
    ·cases hz
    ·rename_i hmn
     injection hz with hz
     have:mv=none:=by cases mv<;>simp_all
     subst this
     simp[fG] at hm0
     omega
   have b3:l0≤h0:=JF (fun z hz=>by injection hz with hz;omega) Bv
   have e1:fG mv (some c) c=some (if mv.isSome then m0 else c):=by
    cases mv with
    | none=>rfl
    | some q=>exact QZ hc (fun hq=>by cases hq) hm0
   have e2:fG hhv (if mv.isSome then none else some (ys.length+1)) (if mv.isSome then m0 else c)=some h0:=by
    cases mv with
    |
     none =>
     simp only[Option.isSome_none,Bool.false_eq_true,if_false] at hh0 ⊢
     exact QZ (by omega) (fun _=>rfl) hh0
    | some q=>exact hh0
   unfold DP
   simp only[hb,if_true]
   rw[e1]
   simp only
   rw[hlen,e2]
   simp only
   rw[Bv]
   simp only
   by_cases oR:mv.isSome=true∧m0=l0
   ·rw[if_pos oR] at hv
    cases hv
    rw[if_pos ⟨oR.1,by rw[if_pos oR.1];exact oR.2⟩]
    exact Ql hS e
   ·rw[if_neg oR] at hv
    cases hv
    rw[if_neg (fun hh=>oR ⟨hh.1,by have:=hh.2;rw[if_pos hh.1] at this;exact this⟩)]
    have bH:(((y::ys).drop l0).take (h0-l0)).length=h0-l0:=by simp;omega
    have QQ:l0*e+(h0-l0)*e=h0*e:=by rw[←Nat.add_mul];congr 1;omega
    have hm2:h0*e≤(ys.length+1)*e:=Nat.mul_le_mul_right _ (by omega)
    have Sv:h0-l0≤(if mv.isSome then m0 else c)-l0:=by split<;>omega
    have:=VR.tree (V:=V) (((y::ys).drop l0).take (h0-l0)) .op b (o+l0*e) ((if mv.isSome then m0 else c)-l0) r e p hF hb (by rw[bH];omega) (by rw[bH];exact Sv) (fun z hz=>he z (List.mem_of_mem_drop (List.mem_of_mem_take hz))) trivial (by
     rw[bH]
     have h1:=(hl.drop (l0*e)).take ((h0-l0)*e)
     rw[XB _ (by rw[hlen];omega),vJ he,vV (fun z hz=>he z (List.mem_of_mem_drop hz))] at h1
     exact h1)
    rw[bH] at this
    exact iF.same hS this
 ·rename_i b g o n c
  split at hv
  case h_2=>cases hv
  rename_i es e w hr
  rw[cK] at hr
  split at hv
  case isFalse=>cases hv
  rename_i Co
  subst Co
  split at hv
  ·cases hv
  rename_i m0 hm0
  split at hv
  ·cases hv
  rename_i h0 hh0
  split at hv
  ·cases hv
  rename_i l0 Bv
  cases hx with
  |
   ref b g o n c a n' c' bH hg ha hq =>
   obtain⟨rfl,rfl,rfl⟩:=ha _ _ _ hr
   obtain⟨r,p,h1,_⟩:=hS.row b g es e w hr
   unfold DP
   simp only[h1,if_true]
   rw[hm0]
   simp only
   rw[hh0]
   simp only
   rw[Bv]
   simp only
   by_cases oR:mv.isSome=true∧m0=l0
   ·rw[if_pos oR] at hv
    cases hv
    rw[if_pos oR]
    exact Ql hS e
   ·rw[if_neg oR] at hv
    cases hv
    rw[if_neg oR]
    refine iF.same hS (.ref b g (o+l0) _ _ _ _ _ bH hg (fun nU e' w' Gs => ?_) fun a0 h=>by cases h;exact hq ⟨V.m b,o*e,none⟩ rfl)
    rw[hr] at Gs
    cases Gs
    exact⟨by rw[Nat.add_mul],rfl,rfl⟩
 ·cases hv
theorem BG {es:List VV} (h:(es.all fun x=>(aB x).all bS)=true):(es.flatMap aB).all bS=true:=by
 rw[List.all_eq_true] at h ⊢
 intro x hx
 obtain⟨y,hy,Bu⟩:=List.mem_flatMap.1 hx
 exact List.all_eq_true.1 (h y hy) x Bu
theorem yR (hS:SR V lo fC) {y:VV} {u:Value} {size:Nat} {new:List VV} (hy:VR V y u) (h:cT size y V.H=some new) :
  tW u=some new.length∧(∀x∈new,(aB x).length=size)∧(new.flatMap aB).all bS=true∧∀n,n≤new.length→∃pn,jY V.P size n u=some pn∧VL V ((new.take n).flatMap aB) pn:=by
 unfold cT at h
 split at h
 ·rename_i es tk
  split at h
  case isFalse=>cases h
  rename_i kB
  cases h
  have agP:∀x∈new,(aB x).length=size∧(aB x).all bS=true:=fun x hx=>by
   have:=List.all_eq_true.1 kB x hx
   simpa using this
  refine⟨?_,fun x hx=>(agP x hx).1,BG (List.all_eq_true.2 fun x hx=>(agP x hx).2),fun n hn => ?_⟩
  ·cases hy<;>rfl
  ·cases hy with
   |
    oP k hk =>
    have:n=0:=by simpa using hn
    subst this
    exact⟨[],rfl,by simp;exact .nil⟩
   |
    tree es k b o c r e p hF hb ho hc he hk hl =>
    cases PQ:new with
    |
     nil =>
     rw[PQ] at hn
     have:n=0:=by simpa using hn
     subst this
     refine⟨[],?_,by simp;exact .nil⟩
     simp only[jY,Nat.zero_mul]
     rw[Cc hb (by omega)]
     simp
    |
     cons x xs =>
     have Pa:e=size:=by rw[←he x (by rw[PQ];exact List.mem_cons_self)];exact(agP x (by rw[PQ];exact List.mem_cons_self)).1
     subst Pa
     have hm:n*e≤new.length*e:=Nat.mul_le_mul_right _ hn
     refine⟨_,by simp only[jY];exact Cc hb (by omega),?_⟩
     rw[←PQ,←vV he]
     have h1:=hl.take (n*e)
     rw[List.take_take,Nat.min_eq_left hm] at h1
     exact h1
 ·rename_i b g o n c
  split at h
  case h_2=>cases h
  rename_i es e w hr
  rw[cK] at hr
  split at h
  case isFalse=>cases h
  rename_i hc
  obtain⟨rfl,hlen,kB⟩:=hc
  cases h
  obtain⟨r,p,h1,h2,h3⟩:=hS.row b g es e w hr
  have hn2:((es.drop o).take n).length=n:=by simp;omega
  have yX:=h3.length
  rw[lR h2] at yX
  cases hy with
  |
   ref b g o n c a n' c' bH hg ha hq =>
   obtain⟨rfl,rfl,rfl⟩:=ha _ _ _ hr
   have afI:∀x∈(es.drop o).take n',(aB x).length=e:=fun x hx=>h2 x (List.mem_of_mem_drop (List.mem_of_mem_take hx))
   refine⟨by rw[hn2];rfl,afI,BG kB,fun k hk => ?_⟩
   rw[hn2] at hk
   have hm:(o+k)*e≤es.length*e:=Nat.mul_le_mul_right _ (by omega)
   rw[Nat.add_mul] at hm
   refine⟨_,by simp only[jY];exact Cc h1 (by omega),?_⟩
   rw[List.take_take,Nat.min_eq_left hk]
   have h4:=(h3.drop (o*e)).take (k*e)
   rw[vJ h2,vV (fun x hx=>h2 x (List.mem_of_mem_drop hx))] at h4
   exact h4
 ·rename_i s
  split at h
  case isFalse=>cases h
  rename_i hs
  subst hs
  cases h
  obtain⟨rfl,_⟩:=sL hy rfl
  have hlen:(s.data.toList.map fun b=>VV.sc (.int .u8 (b.toNat:Int))).length=s.size:=by simp
  refine⟨by rw[hlen];rfl,fun x hx => ?_,?_,fun n hn => ?_⟩
  ·obtain⟨b,_,rfl⟩:=List.mem_map.1 hx
   rfl
  ·refine BG (List.all_eq_true.2 fun x hx => ?_)
   obtain⟨b,_,rfl⟩:=List.mem_map.1 hx
   rfl
  ·refine⟨(s.data.toList.take n).map fun b=>Value.int .u8 (b.toNat:Int),by simp only[jY,if_true],?_⟩
   rw[←List.map_take,List.flatMap_map]
   have:((s.data.toList.take n).flatMap fun a=>aB (VV.sc (.int .u8 (a.toNat:Int))))=(s.data.toList.take n).map fun a=>VV.sc (.int .u8 (a.toNat:Int)):=by
    generalize s.data.toList.take n=l
    induction l with
    | nil=>rfl
    | cons a l ih=>rw[List.flatMap_cons,ih];rfl
   rw[this]
   exact VL.map fun b _ => .sc _ rfl
 ·cases h
end
end Go.PM
namespace Go.PM
section
variable {V:View} {lo fC:Nat} {ρ:dU} {lQ:Env}
theorem MJ (hS:SR V lo fC) {es:List VV} {r:List Value} {e n c:Nat} {p:Bool}:VR { V with m:=upd V.m V.H.length V.P.length,H:=V.H++[.row 0 es e true],P:=V.P++[.row r e p] } (.ref V.H.length 0 0 n c) (.slice (some ⟨V.P.length,0,none⟩) n c):=by
 refine .ref _ _ _ _ _ _ _ _ (by simp) (fun g' es e w _=>Nat.zero_le _) (fun nU e' w' h=>⟨?_,rfl,rfl⟩) fun a0 ha => ?_
 ·simp only[mQ,Nat.zero_mul]
 ·cases ha
  refine⟨hS.Mx,by simp,fun b' g' nU e' w' hb fT hm => ?_⟩
  have vD:(V.H++[cB.row 0 es e true])[b']? = some (.row g' nU e' w'):=hb
  have bH:b'<V.H.length:=by
   have:=(List.getElem?_eq_some_iff.1 vD).1
   simp at this
   omega
  rw[List.getElem?_append_left bH] at vD
  have h2:=hS.mlt vD
  simp only[nZ (show b'≠V.H.length by omega)] at hm
  omega
theorem YK (hS:SR V lo fC) {es:List VV} {r:List Value} {e:Nat} {p:Bool}:VR { V with m:=upd V.m V.H.length V.P.length,H:=V.H++[.row 0 es e true],P:=V.P++[.row r e p] } (.ptr V.H.length 0 0 0) (.pointer (some ⟨V.P.length,0,none⟩)):=by
 refine .ptr _ _ _ _ _ (by simp) (fun g' es e w _=>Nat.zero_le _) (fun nU e' w' h => ?_) fun a0 ha => ?_
 ·simp only[mQ,Nat.zero_mul]
 ·cases ha
  refine⟨hS.Mx,by simp,fun b' g' nU e' w' hb fT hm => ?_⟩
  have vD:(V.H++[cB.row 0 es e true])[b']? = some (.row g' nU e' w'):=hb
  have bH:b'<V.H.length:=by
   have:=(List.getElem?_eq_some_iff.1 vD).1
   simp at this
   omega
  rw[List.getElem?_append_left bH] at vD
  have h2:=hS.mlt vD
  simp only[nZ (show b'≠V.H.length by omega)] at hm
  omega
theorem HT (hS:SR V lo fC) {x v:VV} {u:Value} {size bytes:Nat} {nw:List VV} {pn:List Value} {H':aA} (hx:VR V x u) (hn:∀x∈nw,(aB x).length=size) (wZ:(nw.flatMap aB).all bS=true) (hl:VL V (nw.flatMap aB) pn) (h:eE lo size bytes x nw V.H=some (v,H')) :
  iF lo fC V (fL fC size bytes u nw.length pn V.P) v H':=by
 unfold eE at h
 split at h
 case isFalse=>cases h
 rename_i hbs
 have O8:pn.length=nw.length*size:=by rw[hl.length,lR hn]
 unfold fL
 rw[if_pos ⟨hbs.1,hbs.2,hl.gM wZ,O8⟩]
 split at h
 ·cases hx with
  | tree es k b o c r e p hF hb ho hc he hk hl=>exact hk.elim
  |
   oP =>
   simp only[and_self,if_true]
   split at h
   ·rename_i h0
    cases h
    rw[if_pos h0]
    exact iF.same hS (.oP _ (.inr rfl))
   ·rename_i h0
    split at h
    case isFalse=>cases h
    rename_i h1
    cases h
    rw[if_neg h0,if_pos h1]
    exact(iF.of (tB hS (es:=nw) (r:=pn) (e:=size) true hn hl) (MJ hS) :)
 ·rename_i es e
  split at h
  case isFalse=>cases h
  rename_i PQ
  subst PQ
  cases hx with
  | oP k hk=>rcases hk with hk | hk<;>cases hk
  |
   tree es k b o c r e' p hF hb ho hc he hk Cp =>
   obtain⟨h1,h2,h3⟩:=hk
   subst h1 h2 h3
   simp only[hb]
   rw[if_pos ⟨trivial,ho⟩]
   split at h
   ·rename_i h0
    cases h
    rw[if_pos (by omega),if_pos h0]
    exact iF.same hS (.tree es _ b o _ r e false hF hb ho hc he ⟨rfl,rfl,rfl⟩ Cp)
   ·rename_i h0
    split at h
    case isFalse=>cases h
    rename_i Co
    cases h
    rw[if_neg (by omega),if_pos Co]
    simp only[Bool.false_eq_true,if_false]
    have kB:∀x∈es++nw,(aB x).length=e:=fun x hx=>by
     rcases List.mem_append.1 hx with h | h
     ·exact he x h
     ·exact hn x h
    exact(iF.of (tB hS (es:=es++nw) (r:=(r.drop o).take (es.length*e)++pn) (e:=e) true kB (by rw[List.flatMap_append];exact Cp.append hl)) (MJ hS) :)
 ·rename_i b g o n c
  split at h
  case h_2=>cases h
  rename_i es e hr
  rw[cK] at hr
  split at h
  case isFalse=>cases h
  rename_i hc
  obtain⟨rfl,dV,hon⟩:=hc
  obtain⟨r,p,h1,h2,h3⟩:=hS.row b g es e true hr
  have yX:=h3.length
  rw[lR h2] at yX
  have GG:=(hS.wr b g es e hr).2 dV
  cases hx with
  |
   ref b g o n c a n' c' bH hg ha hq =>
   obtain⟨rfl,rfl,rfl⟩:=ha _ _ _ hr
   have hm:(o+n')*e≤es.length*e:=Nat.mul_le_mul_right _ hon
   rw[Nat.add_mul] at hm
   simp only[h1]
   rw[if_pos ⟨trivial,by omega⟩]
   split at h
   ·rename_i hnc
    rw[if_pos hnc]
    split at h
    ·rename_i h0
     cases h
     rw[if_pos h0]
     exact iF.same hS (.ref _ _ _ _ _ _ _ _ bH hg ha hq)
    ·rename_i h0
     split at h
     case isFalse=>cases h
     rename_i sJ
     cases h
     rw[if_neg h0]
     have hm2:(o+n'+nw.length)*e≤es.length*e:=Nat.mul_le_mul_right _ sJ
     rw[Nat.add_mul,Nat.add_mul] at hm2
     have kB:∀x∈dC es (o+n') nw,(aB x).length=e:=fun x hx=>by
      rcases KG hx with h | h
      ·exact h2 x h
      ·exact hn x h
     have Gj:VL V ((dC es (o+n') nw).flatMap aB) (jS r (o*e+n'*e) pn):=by
      rw[←yE h2 hn,Nat.add_mul]
      exact h3.jS hl _
     obtain⟨g1,g2⟩:=EH hS hr dV kB Gj h1
     refine⟨.slice (some ⟨V.m b,o*e,none⟩) (n'+nw.length) c',{ V with H:=V.H.set b (.row g (dC es (o+n') nw) e true),P:=V.P.set (V.m b) (.row (jS r (o*e+n'*e) pn) e p) },?_,rfl,g1,g2,?_⟩
     ·unfold aF.write
      simp only[h1]
      rw[if_pos ⟨GG,by omega,hl.gM wZ⟩]
      rfl
     ·refine .ref _ _ _ _ _ _ _ _ (by simpa using bH) (fun g' nU e' w' Gs => ?_) (fun nU e' w' Gs => ?_) fun a0 h=>by cases h;exact g2.toUp.hq (hq _ rfl)
      ·rcases gP bH Gs with⟨_,h⟩ | ⟨h,_⟩
       ·cases h;exact Nat.le_refl _
       ·exact absurd rfl h
      ·rcases gP bH Gs with⟨_,h⟩ | ⟨h,_⟩
       ·cases h;exact⟨rfl,rfl,rfl⟩
       ·exact absurd rfl h
   ·rename_i hnc
    split at h
    case isFalse=>cases h
    rename_i Co
    cases h
    rw[if_neg hnc,if_pos Co]
    have kB:∀x∈(es.drop o).take n'++nw,(aB x).length=e:=fun x hx=>by
     rcases List.mem_append.1 hx with h | h
     ·exact h2 x (List.mem_of_mem_drop (List.mem_of_mem_take h))
     ·exact hn x h
    have Gj:VL V (((es.drop o).take n'++nw).flatMap aB) ((r.drop (o*e)).take (n'*e)++pn):=by
     rw[List.flatMap_append]
     refine VL.append ?_ hl
     have h4:=(h3.drop (o*e)).take (n'*e)
     rw[vJ h2,vV (fun x hx=>h2 x (List.mem_of_mem_drop hx))] at h4
     exact h4
    have fin:∀P1:aF,P1.length=V.P.length→(∀q,q≠V.m b→P1[q]? = V.P[q]?) →
      iF lo fC V (some (.slice (some ⟨V.P.length,0,none⟩) (n'+nw.length) (n'+nw.length),P1++[.row ((r.drop (o*e)).take (n'*e)++pn) e true])) (.ref b (g+1) 0 (n'+nw.length) (n'+nw.length)) (V.H.set b (.row (g+1) ((es.drop o).take n'++nw) e true)):=by
     intro P1 hP hk
     refine(iF.of (Wn hS hr dV kB Gj hP hk true) ?_ :)
     refine .ref _ _ _ _ _ _ _ _ (by simpa using bH) (fun g' nU e' w' Gs => ?_) (fun nU e' w' Gs => ?_) fun a0 h => ?_
     ·rcases gP bH Gs with⟨_,h⟩ | ⟨h,_⟩
      ·cases h;exact Nat.le_refl _
      ·exact absurd rfl h
     ·rcases gP bH Gs with⟨_,h⟩ | ⟨h,_⟩
      ·cases h;exact⟨by simp only[mQ,Nat.zero_mul],rfl,rfl⟩
      ·exact absurd rfl h
     ·cases h
      refine⟨hS.Mx,by simp[hP],fun b' g' nU e' w' hb fT hm => ?_⟩
      rcases gP bH hb with⟨h,_⟩ | ⟨_,h⟩
      ·exact fT h
      ·simp only[nZ fT] at hm
       have:=hS.mlt h
       omega
    cases p with
    |
     true =>
     simp only[if_true,GG]
     exact fin (V.P.set (V.m b) .dead) (by simp) fun q hq=>List.getElem?_set_ne (Ne.symm hq)
    |
     false =>
     simp only[Bool.false_eq_true,if_false]
     exact fin V.P rfl fun _ _=>rfl
 ·cases h
theorem Te (hS:SR V lo fC) {p v:VV} {u w:Value} {size:Nat} {H':aA} (hp:VR V p u) (hv:VR V v w) (h:bQ lo size p v V.H=some H'):iF lo fC V (Hh fC size u w V.P) rA H':=by
 unfold bQ at h
 split at h
 case h_2=>cases h
 rename_i b g j o
 split at h
 case h_2=>cases h
 rename_i es e hr
 rw[cK] at hr
 split at h
 case h_2=>cases h
 rename_i x hx
 split at h
 case isFalse=>cases h
 rename_i hc
 obtain⟨Co,dV,wZ⟩:=hc
 obtain⟨r,q,h1,h2,h3⟩:=hS.row b g es e true hr
 have yX:=h3.length
 rw[lR h2] at yX
 have GG:=(hS.wr b g es e hr).2 dV
 have hj:=(List.getElem?_eq_some_iff.1 hx).1
 have hxe:=h2 x (List.mem_of_getElem? hx)
 have hm:(j+1)*e≤es.length*e:=Nat.mul_le_mul_right _ hj
 rw[Nat.succ_mul] at hm
 have oR:=hv.cells (WZ wZ)
 have hwl:(aU w).length=size:=by rw[oR.length,Co]
 cases hp with
 |
  ptr b g j off a bH hg ha hq =>
  have:=ha _ _ _ hr
  subst this
  have fin:∀y:VV,(aB y).length=e→o+size≤e→aB y=dC (aB x) o (aB v)→H'=V.H.set b (.row g (es.set j y) e true)→iF lo fC V (Hh fC size (.pointer (some ⟨V.m b,j*e+o,none⟩)) w V.P) rA H':=by
   intro y hy ho hye hH
   subst hH
   have kB:∀z∈es.set j y,(aB z).length=e:=fun z hz=>by
    rcases List.mem_or_eq_of_mem_set hz with h | h
    ·exact h2 z h
    ·subst h;exact hy
   have Gj:VL V ((es.set j y).flatMap aB) (jS r (j*e+o) (aU w)):=by
    have e1:(es.set j y).flatMap aB=dC (es.flatMap aB) (j*e+o) (aB v):=by
     rw[←Lk hj,←yE h2 (new:=[y]) (fun z hz=>by rw[List.mem_singleton] at hz;subst hz;exact hy)]
     simp only[List.flatMap_cons,List.flatMap_nil,List.append_nil]
     rw[hye]
     have hx2:=NS h2 hx
     unfold dC
     have t1:(es.flatMap aB).take (j*e+o)=(es.flatMap aB).take (j*e)++(aB x).take o:=by
      rw[List.take_add,←hx2,List.take_take,Nat.min_eq_left (by omega)]
     have t2:(es.flatMap aB).drop (j*e+o+(aB v).length)=(aB x).drop (o+(aB v).length)++(es.flatMap aB).drop (j*e+e):=by
      have t0:(es.flatMap aB).drop (j*e+e)=((es.flatMap aB).drop (j*e+(o+(aB v).length))).drop (e-(o+(aB v).length)):=by
       rw[List.drop_drop]
       congr 1
       omega
      rw[←hx2,List.drop_take,List.drop_drop,t0,List.take_append_drop,Nat.add_assoc]
     rw[t1,t2]
     have t3:(List.take o (aB x)++aB v++List.drop (o+(aB v).length) (aB x)).length=e:=by
      simp;omega
     rw[t3]
     simp only[List.append_assoc]
    rw[e1]
    exact h3.jS oR _
   obtain⟨g1,g2⟩:=EH hS hr dV kB Gj h1
   refine⟨undef,{ V with H:=V.H.set b (.row g (es.set j y) e true),P:=V.P.set (V.m b) (.row (jS r (j*e+o) (aU w)) e q) },?_,rfl,g1,g2,.dQ [] [] .nil⟩
   unfold Hh
   simp only[hwl,if_true]
   unfold aF.write
   simp only[h1]
   rw[if_pos ⟨GG,by omega,oR.gM wZ⟩]
   rfl
  split at h
  ·rename_i ho
   obtain⟨rfl,rfl⟩:=ho
   cases h
   refine fin v Co (by omega) ?_ rfl
   unfold dC
   rw[Nat.zero_add,List.take_zero,List.nil_append,List.drop_of_length_le (by omega),List.append_nil]
  ·split at h
   case isFalse=>cases h
   rename_i ho
   cases h
   have Vl:(dC (aB x) o (aB v)).length=e:=by rw[UJ (by omega)];exact hxe
   exact fin (.agg (dC (aB x) o (aB v))) Vl (by omega) rfl rfl
theorem D2 {z:List Value} (hz:(z.map kK).all bS=true):(aB (elemOf (z.map kK))).length=z.length:=by
 rw[oJ hz,List.length_map]
theorem C8 {z:List Value} (hz:(z.map kK).all bS=true):∀n,VL V ((List.replicate n (elemOf (z.map kK))).flatMap aB) (dF n z):=by
 intro n
 have wZ:z.all gM=true:=(VL.zero (V:=V) z).gM hz
 have aiX:dF n z=(List.replicate n ()).flatMap fun _=>z:=by
  rcases Nat.eq_zero_or_pos z.length with h0 | mC
  ·have:z=[]:=List.length_eq_zero_iff.1 h0
   subst this
   simp[dF]
  ·exact UO (enc:=fun(_:Unit)=>z) (gC:=z.length) (x:=()) ⟨fun _=>rfl,fun _=>wZ,mC⟩
 rw[aiX]
 clear aiX
 induction n with
 | zero=>exact .nil
 |
  succ n ih =>
  rw[List.replicate_succ,List.replicate_succ,List.flatMap_cons,List.flatMap_cons,oJ hz]
  exact(VL.zero z).append ih
theorem Xt (hS:SR V lo fC) {z:List Value} {bytes:Nat} {l c v:VV} {u w:Value} {H':aA} (hz:(z.map kK).all bS=true) (hl:VR V l u) (hc:VR V c w) (h:BK z bytes l c V.H=some (v,H')):iF lo fC V (Yj z bytes u w V.P) v H':=by
 unfold BK at h
 split at h
 case h_2=>cases h
 obtain⟨rfl,_⟩:=sL hl rfl
 obtain⟨rfl,_⟩:=sL hc rfl
 split at h
 case isFalse=>cases h
 rename_i Vr
 cases h
 unfold Yj
 simp only[if_pos Vr]
 exact(iF.of (tB hS (e:=z.length) false (fun x hx=>by rw[List.eq_of_mem_replicate hx];exact D2 hz) (C8 hz _)) (MJ hS) :)
theorem ZM (hS:SR V lo fC) {z:List Value} (hz:(z.map kK).all bS=true):iF lo fC V (some (.pointer (some ⟨V.P.length,0,none⟩),V.P++[.row z z.length false])) (.ptr V.H.length 0 0 0) (V.H++[.row 0 [elemOf (z.map kK)] z.length true]):=by
 exact(iF.of (tB hS (es:=[elemOf (z.map kK)]) (r:=z) (e:=z.length) false (fun x hx=>by rw[List.mem_singleton] at hx;subst hx;exact D2 hz) (by simp only[List.flatMap_cons,List.flatMap_nil,List.append_nil,oJ hz];exact VL.zero z)) (YK hS) :)
theorem abP (hS:SR V lo fC) {x v:VV} {u:Value} {H':aA} {bf:Bool} (hx:VR V x u) (hs:(aB x).all bS=true) (h:(if bf=true then some (VV.dA x 0,V.H) else some (VV.ptr V.H.length 0 0 0,V.H++[cB.row 0 [x] (aB x).length true]))=some (v,H')) :
  iF lo fC V (if (aU u).all gM then some (.pointer (some ⟨V.P.length,0,none⟩),V.P++[.row (aU u) (aU u).length false]) else none) v H':=by
 have hc:=hx.cells (WZ hs)
 rw[if_pos (hc.gM hs)]
 split at h
 ·cases h
  have g:=CY hS (.row (aU u) (aU u).length false)
  refine(iF.of g ?_ :)
  have hm:=hc.mono g.2.toUp
  refine .dA x 0 V.P.length 0 (aU u) (aU u).length false (.inr rfl) (by simp) (by rw[hc.length];omega) ?_
  rw[List.drop_zero,List.take_of_length_le (by rw[hc.length];exact Nat.le_refl _)]
  exact hm
 ·cases h
  rw[hc.length]
  exact(iF.of (tB hS (es:=[x]) (r:=aU u) (e:=(aB x).length) false (fun y hy=>by rw[List.mem_singleton] at hy;subst hy;rfl) (by simpa using hc)) (YK hS) :)
theorem take_set {α:Type} {l:List α} {i:Nat} {x:α} (h:i<l.length):l.set i x=l.take i++x::l.drop (i+1):=by
 rw[List.set_eq_take_append_cons_drop,if_pos h]
inductive Xa (V:View):List (Nat×VV)→List (Nat×Value)→Prop
 | nil:Xa V [] []
 | cons {i:Nat} {x:VV} {v:Value} {xs:List (Nat×VV)} {vs:List (Nat×Value)} (h:VR V x v) (hs:Xa V xs vs):Xa V ((i,x)::xs) ((i,v)::vs)
theorem Gz {e n:Nat}:∀ {parts:List (Nat×VV)} {Bq:List (Nat×Value)} {es nU:List VV} {r:List Value},es.length=n→(∀x∈es,(aB x).length=e)→VL V (es.flatMap aB) r →
  Xa V parts Bq→yS e es parts=some nU→nU.length=n∧(∀x∈nU,(aB x).length=e)∧∃r',xX ((List.range n).map fun i=>(i*e,e)) r Bq=some r'∧VL V (nU.flatMap aB) r'
 |
  [],_,es,nU,r,hn,he,hl,.nil,h=>by
  cases h
  exact⟨hn,he,r,rfl,hl⟩
 |
  (i,v)::parts,(_,w)::Bq,es,nU,r,hn,he,hl,.cons hv hps,h=>by
  unfold yS at h
  split at h
  case isFalse=>cases h
  rename_i hc
  obtain⟨hi,hve,wZ⟩:=hc
  have oR:=hv.cells (WZ wZ)
  have hwl:(aU w).length=e:=by rw[oR.length,hve]
  have yX:=hl.length
  rw[lR he] at yX
  have hm:(i+1)*e≤es.length*e:=Nat.mul_le_mul_right _ hi
  rw[Nat.succ_mul] at hm
  have kB:∀x∈es.set i v,(aB x).length=e:=fun x hx=>by
   rcases List.mem_or_eq_of_mem_set hx with h | h
   ·exact he x h
   ·subst h;exact hve
  have Gj:VL V ((es.set i v).flatMap aB) (r.take (i*e)++aU w++r.drop (i*e+e)):=by
   have h1:=hl.jS oR (i*e)
   have h2:=yE he (new:=[v]) (fun z hz=>by rw[List.mem_singleton] at hz;subst hz;exact hve) i
   simp only[List.flatMap_cons,List.flatMap_nil,List.append_nil] at h2
   rw[h2,Lk hi] at h1
   unfold jS at h1
   rw[hwl] at h1
   exact h1
  obtain⟨g1,g2,r',g3,g4⟩:=Gz (n:=n) (by rw[List.length_set];exact hn) kB Gj hps h
  refine⟨g1,g2,r',?_,g4⟩
  unfold xX
  have hr:((List.range n).map fun i=>(i*e,e))[i]? = some (i*e,e):=by simp[List.getElem?_range (show i<n by omega)]
  simp only[hr]
  rw[if_pos ⟨hwl,by omega⟩]
  exact g3
theorem JC (hE:ER V ρ lQ):∀parts:List (Nat×Operand),Xa V (parts.map fun(i,x)=>(i,fE ρ x)) (parts.map fun(i,x)=>(i,ev lQ x))
 | [] => .nil
 | (i,x)::parts => .cons (hE.ev x) (JC hE parts)
theorem IF {e:Nat}:∀ {parts:List (Nat×VV)} {es nU:List VV},(es.all fun x=>(aB x).all bS)=true→yS e es parts=some nU→(nU.all fun x=>(aB x).all bS)=true
 | [],es,nU,h,hf=>by cases hf;exact h
 |
  (i,v)::parts,es,nU,h,hf=>by
  unfold yS at hf
  split at hf
  case isFalse=>cases hf
  rename_i hc
  refine IF ?_ hf
  rw[List.all_eq_true] at h ⊢
  intro x hx
  rcases List.mem_or_eq_of_mem_set hx with h1 | h1
  ·exact h x h1
  ·subst h1;exact hc.2.2
theorem abE (hS:SR V lo fC) {lr:Bool} {z:List Value} {n:Nat} {parts:List (Nat×VV)} {Bq:List (Nat×Value)} {v:VV} {H':aA} (hp:Xa V parts Bq) (h:kD lr z n parts V.H=some (v,H')):iF lo fC V (anW z n Bq V.P) v H':=by
 unfold kD at h
 split at h
 case h_2=>cases h
 rename_i es PQ
 split at h
 case isFalse=>cases h
 rename_i hz
 obtain⟨g1,g2,r',g3,g4⟩:=Gz (V:=V) (n:=n) (by simp) (fun x hx=>by rw[List.eq_of_mem_replicate hx];exact D2 hz) (C8 hz n) hp PQ
 have wZ:=IF (by
  rw[List.all_eq_true]
  intro x hx
  rw[List.eq_of_mem_replicate hx,oJ hz]
  exact hz) PQ
 unfold anW
 simp only[g3]
 rw[if_pos (g4.gM (BG wZ))]
 split at h
 ·cases h
  exact(iF.of (tB hS (e:=z.length) false g2 g4) (MJ hS) :)
 ·cases h
  have k:=CY hS (.row r' z.length false)
  refine(iF.of k ?_ :)
  have hm:=g4.mono k.2.toUp
  have yX:=g4.length
  rw[lR g2] at yX
  subst g1
  refine .tree es _ V.P.length 0 es.length r' z.length false (.inr rfl) (by simp) (by omega) (Nat.le_refl _) g2 ⟨rfl,rfl,rfl⟩ ?_
  rw[List.drop_zero,List.take_of_length_le (by omega)]
  exact hm
theorem Qe (hS:SR V lo fC) {b g e o:Nat} {es nw:List VV} {pn:List Value} (hr:V.H[b]? = some (.row g es e true)) (dV:lo≤b) (sJ:o+nw.length≤es.length) (hn:∀x∈nw,(aB x).length=e) (wZ:(nw.flatMap aB).all bS=true) (hl:VL V (nw.flatMap aB) pn) :
  ∃V',V.P.write fC (V.m b) (o*e) pn=some V'.P∧V'.H=V.H.set b (.row g (dC es o nw) e true)∧SR V' lo fC∧F4 lo V V':=by
 obtain⟨r,q,h1,h2,h3⟩:=hS.row b g es e true hr
 have yX:=h3.length
 rw[lR h2] at yX
 have GG:=(hS.wr b g es e hr).2 dV
 have O8:=hl.length
 rw[lR hn] at O8
 have hm:(o+nw.length)*e≤es.length*e:=Nat.mul_le_mul_right _ sJ
 rw[Nat.add_mul] at hm
 have kB:∀x∈dC es o nw,(aB x).length=e:=fun x hx=>by
  rcases KG hx with h | h
  ·exact h2 x h
  ·exact hn x h
 have Gj:VL V ((dC es o nw).flatMap aB) (jS r (o*e) pn):=by
  rw[←yE h2 hn]
  exact h3.jS hl _
 obtain⟨g1,g2⟩:=EH hS hr dV kB Gj h1
 refine⟨{ V with H:=V.H.set b (.row g (dC es o nw) e true),P:=V.P.set (V.m b) (.row (jS r (o*e) pn) e q) },?_,rfl,g1,g2⟩
 unfold aF.write
 simp only[h1]
 rw[if_pos ⟨GG,by omega,hl.gM wZ⟩]
theorem Xp (hS:SR V lo fC) {x y v:VV} {u w:Value} {size:Nat} {H':aA} (hx:VR V x u) (hy:VR V y w) (h:Lt lo size x y V.H=some (v,H')):iF lo fC V (copyV fC size u w V.P) v H':=by
 unfold Lt at h
 split at h
 ·rename_i new hs
  obtain⟨h1,_⟩:=yR hS hy hs
  cases h
  cases hx with
  | tree es k b o c r e p hF hb ho hc he hk hl=>exact hk.elim
  |
   oP =>
   unfold copyV
   simp only[h1]
   exact iF.same hS (.sc _ rfl)
 ·rename_i b g o d c new hs
  obtain⟨h1,h2,h3,h4⟩:=yR hS hy hs
  split at h
  case h_2=>cases h
  rename_i es e hr
  rw[cK] at hr
  split at h
  case isFalse=>cases h
  rename_i hc
  obtain⟨rfl,dV,sJ⟩:=hc
  cases h
  cases hx with
  |
   ref b g o n c a n' c' bH hg ha hq =>
   obtain⟨rfl,rfl,rfl⟩:=ha _ _ _ hr
   have anJ:(new.take n').length=Nat.min new.length n':=by rw[List.length_take];exact Nat.min_comm _ _
   obtain⟨pn,h5,h6⟩:=h4 (Nat.min new.length n') (Nat.min_le_left _ _)
   have ht:new.take (Nat.min new.length n')=new.take n':=by
    rw[←anJ,List.length_take,←List.take_take,List.take_length]
   rw[ht] at h6
   have Oh:∀x∈new.take n',(aB x).length=e:=fun x hx=>h2 x (List.mem_of_mem_take hx)
   have wZ:((new.take n').flatMap aB).all bS=true:=by
    rw[List.all_eq_true] at h3 ⊢
    intro x hx
    obtain⟨y,hy,Bu⟩:=List.mem_flatMap.1 hx
    exact h3 x (List.mem_flatMap.2 ⟨y,List.mem_of_mem_take hy,Bu⟩)
   obtain⟨V',k1,k2,k3,k4⟩:=Qe hS hr dV sJ Oh wZ h6
   refine⟨.int .i64 (Nat.min new.length n'),V',?_,k2,k3,k4,?_⟩
   ·unfold copyV
    simp only[h1,h5,k1]
    rfl
   ·rw[anJ]
    exact .sc _ rfl
 ·cases h
theorem T5 (hS:SR V lo fC) {x:VV} {u:Value} {z:List Value} {H':aA} (hx:VR V x u) (h:RA lo z x V.H=some H'):iF lo fC V (R4 fC z u V.P) rA H':=by
 unfold RA at h
 split at h
 case h_2=>cases h
 rename_i b g o n c
 split at h
 case h_2=>cases h
 rename_i es e hr
 rw[cK] at hr
 cases hx with
 |
  ref b g o n c a n' c' bH hg ha hq =>
  obtain⟨rfl,rfl,rfl⟩:=ha _ _ _ hr
  unfold R4
  simp only
  split at h
  ·rename_i h0
   cases h
   rw[if_pos h0]
   exact iF.same hS (.dQ [] [] .nil)
  ·rename_i h0
   rw[if_neg h0]
   split at h
   case isFalse=>cases h
   rename_i hc
   obtain⟨rfl,dV,sJ,hz⟩:=hc
   cases h
   have Oh:∀x∈List.replicate n' (elemOf (z.map kK)),(aB x).length=z.length:=fun x hx=>by rw[List.eq_of_mem_replicate hx];exact D2 hz
   obtain⟨V',k1,k2,k3,k4⟩:=Qe hS hr dV (nw:=List.replicate n' (elemOf (z.map kK))) (by simpa using sJ) Oh (BG (by
    rw[List.all_eq_true]
    intro x hx
    rw[List.eq_of_mem_replicate hx,oJ hz]
    exact hz)) (C8 hz n')
   refine⟨undef,V',?_,k2,k3,k4,.dQ [] [] .nil⟩
   rw[k1]
   rfl
end
end Go.PM
namespace Go.PM
section
variable {V:View} {lo fC:Nat} {ρ:dU} {lQ:Env}
theorem Ta {x v:VV} {u:Value} {neg:Bool} (hx:VR V x u) (h:Hn neg x V.H=some v):∃w,aeD neg u=some w∧VR V v w:=by
 unfold Hn at h
 split at h
 ·cases h
  cases hx with
  | tree es k b o c r e p hF hb ho hc he hk hl=>exact hk.elim
  | oP=>exact⟨_,rfl,.sc _ rfl⟩
 ·cases h
  cases hx with
  | oP k hk=>rcases hk with hk | hk<;>cases hk
  | tree=>exact⟨_,rfl,.sc _ rfl⟩
 ·cases h
  cases hx with
  | tree=>exact⟨_,rfl,.sc _ rfl⟩
 ·obtain⟨⟨es,e,w⟩,hr,rfl⟩:=cV h
  rw[cK] at hr
  cases hx with
  |
   ref b g o n c a n' c' bH hg ha hq =>
   obtain⟨rfl,rfl,rfl⟩:=ha _ _ _ hr
   exact⟨_,rfl,.sc _ rfl⟩
 ·cases h
theorem aaW {x v:VV} {u:Value} (hx:VR V x u) (h:pW x V.H=some v):∃w,apZ u=some w∧VR V v w:=by
 unfold pW at h
 split at h
 ·cases h
  cases hx<;>exact⟨_,rfl,.sc _ rfl⟩
 ·obtain⟨⟨es,e,w⟩,hr,rfl⟩:=cV h
  rw[cK] at hr
  cases hx with
  |
   ref b g o n c a n' c' bH hg ha hq =>
   obtain⟨rfl,rfl,rfl⟩:=ha _ _ _ hr
   exact⟨_,rfl,.sc _ rfl⟩
 ·cases h
theorem Tl {x v:VV} {u:Value} {off:Nat} (hx:VR V x u) (h:KC off x V.H=some v):∃w,aiG off u=some w∧VR V v w:=by
 unfold KC at h
 split at h
 ·cases h
  cases hx with
  | dA x off b o r e p hF hb ho hl=>exact⟨_,rfl,by rw[Nat.add_assoc];exact .dA _ _ b o r e p hF hb ho hl⟩
 ·obtain⟨⟨es,e,w⟩,hr,rfl⟩:=cV h
  rw[cK] at hr
  cases hx with
  |
   ptr b g j off a bH hg ha hq =>
   have:=ha _ _ _ hr
   subst this
   refine⟨_,rfl,.ptr _ _ _ _ _ bH hg (fun nU e' w' Gs => ?_) fun a0 h=>by cases h;have:=hq _ rfl;exact this⟩
   rw[hr] at Gs
   cases Gs
   rw[Nat.add_assoc]
 ·cases h
theorem Z2 {x v:VV} {u:Value} (hx:VR V x u) (h:ZD x V.H=some v):∃w,axC u=some w∧VR V v w:=by
 unfold ZD at h
 split at h
 ·cases h
  cases hx with
  | dA x off b o r e p hF hb ho hl=>exact⟨_,rfl,.dA _ _ b o r e p hF hb ho hl⟩
 ·obtain⟨⟨es,e,w⟩,hr,rfl⟩:=cV h
  rw[cK] at hr
  cases hx with
  |
   ptr b g j off a bH hg ha hq =>
   have:=ha _ _ _ hr
   subst this
   exact⟨_,rfl,.ptr _ _ _ _ _ bH hg ha hq⟩
 ·cases h
theorem V4 {c a b v:VV} {u x y:Value} (hc:VR V c u) (ha:VR V a x) (hb:VR V b y) (h:T7 c a b=some v):∃t,u = .bool t∧VR V v (if t then x else y):=by
 unfold T7 at h
 split at h
 ·rename_i t
  cases h
  obtain⟨rfl,_⟩:=sL hc rfl
  refine⟨t,rfl,?_⟩
  cases t
  ·exact hb
  ·exact ha
 ·cases h
theorem aaF {x v:VV} {u:Value} {i:Nat} (hx:VR V x u) (h:adS i x=some v):∃w,arO i u=some w∧VR V v w:=by
 unfold adS at h
 split at h
 ·cases hx with
  |
   dQ cs ps hl =>
   obtain⟨w,hw,hv⟩:=hl.get h
   exact⟨w,by simpa[arO] using hw,hv⟩
 ·cases h
theorem abV {x v:VV} {u:Value} {agg:Bool} {off size:Nat} (hx:VR V x u) (h:amO agg off size x=some v):∃w,amK agg off size u=some w∧VR V v w:=by
 unfold amO at h
 split at h
 ·rename_i cs
  cases hx with
  |
   agg cs ps hl =>
   split at h
   ·rename_i ha
    split at h
    ·rename_i hs
     cases h
     refine⟨.agg ((ps.drop off).take size).toArray,?_,.agg _ _ ((hl.drop off).take size)⟩
     unfold amK
     simp only[ha,if_true]
     rw[if_pos (by simpa[hl.length] using hs)]
     congr 2
     apply Array.ext'
     simp[List.extract_eq_take_drop]
    ·cases h
   ·rename_i ha
    obtain⟨w,hw,hv⟩:=hl.get h
    refine⟨w,?_,hv⟩
    unfold amK
    simp only[ha]
    simpa using hw
 ·cases h
theorem Pn {ks:List CK}:∀ {xs ys:List VV} {us ws:List Value} {t:Bool},VL V xs us→VL V ys ws→rM ks xs ys=some t→qH ks us ws=some t:=by
 induction ks with
 |
  nil =>
  intro xs ys us ws t h1 h2 h
  cases h1 with
  |
   nil=>cases h2 with
   | nil=>exact h
   | cons=>simp[rM] at h
  | cons=>simp[rM] at h
 |
  cons k ks ih =>
  intro xs ys us ws t h1 h2 h
  cases h1 with
  | nil=>simp[rM] at h
  |
   cons x u xs us hx Pa=>cases h2 with
   | nil=>cases x<;>simp[rM] at h
   |
    cons y w ys ws hy hys =>
    cases hx with
    |
     sc _ _=>cases hy with
     |
      sc _ _ =>
      simp only[rM] at h
      simp only[qH]
      split at h
      ·rename_i h1
       rw[h1]
       exact ih Pa hys h
      ·rename_i h1
       rw[h1]
       exact h
      ·cases h
     | _=>simp[rM] at h
    | _=>simp[rM] at h
theorem OT {places:List (Nat×Nat)}:∀ {parts:List (Nat×VV)} {Bq:List (Nat×Value)} {cs Bt:List VV} {r:List Value},VL V cs r→Xa V parts Bq→zV places cs parts=some Bt →
  ∃r',xX places r Bq=some r'∧VL V Bt r'
 | [],_,cs,Bt,r,hl,.nil,h=>by cases h;exact⟨r,rfl,hl⟩
 |
  (i,v)::parts,(_,w)::Bq,cs,Bt,r,hl,.cons hv hps,h=>by
  unfold zV at h
  unfold xX
  split at h
  ·cases h
  ·rename_i off size O8
   simp only[O8]
   split at h
   case isFalse=>cases h
   rename_i hc
   have oR:=hv.cells (fun e=>by subst e;cases hc.2.2)
   rw[if_pos ⟨by rw[oR.length];exact hc.1,by rw[hl.length];exact hc.2.1⟩]
   exact OT (((hl.take off).append oR).append (hl.drop _)) hps h
theorem KT:∀ {es:List VV} {r:List Value} {bs:List UInt8},VL V (es.flatMap aB) r→J2 es=some bs→vF r=some bs
 | [],_,bs,.nil,h=>h
 |
  x::es,r,bs,hl,h=>by
  unfold J2 at h
  split at h
  ·rename_i e;cases e
  ·rename_i n r' e
   cases e
   obtain⟨t,ht,rfl⟩:=cV h
   rw[List.flatMap_cons] at hl
   cases hl with
   |
    cons _ u _ us hu hus =>
    obtain⟨rfl,_⟩:=sL hu rfl
    unfold vF
    rw[KT hus ht]
    rfl
  ·cases h
theorem lift {r:Option VV} {v:VV} {H':aA} {s:Option (Value×aF)} (h:r.map (·,V.H)=some (v,H')) (k:r=some v→iF lo fC V s v V.H):iF lo fC V s v H':=by
 obtain⟨a,ha,he⟩:=cV h
 cases he
 exact k ha
theorem aaY (hS:SR V lo fC) (hE:ER V ρ lQ) {fl:Fl} {o:oQ} {v:VV} {H':aA} {q:Bool} (h:vop fl lo o ρ V.H=some (v,H')):iF lo fC V (kP fC q o lQ V.P) v H':=by
 cases o<;>simp only[vop] at h
 case mv x=>cases h;rw[alT];exact iF.same hS (hE.ev x)
 case pick c a b =>
  refine lift h fun h => ?_
  obtain⟨t,ht,hv⟩:=V4 (hE.ev c) (hE.ev a) (hE.ev b) h
  rw[abN,ht]
  exact iF.same hS hv
 case bin op x y=>rw[agJ];exact lift h fun h=>Cg (f:=dN op) hS (fun _ _ _=>adO) (hE.ev x) (hE.ev y) h
 case eqb neg x y=>rw[aeF];exact lift h fun h=>Cg (f:=Pv neg) hS (fun _ _ _=>aiZ) (hE.ev x) (hE.ev y) h
 case isnil neg x =>
  rw[WY]
  refine lift h fun h => ?_
  obtain⟨w,h1,h2⟩:=Ta (hE.ev x) h
  exact iF.pure hS h1 h2
 case eqagg neg ks x y =>
  rw[Xg]
  refine lift h fun h => ?_
  unfold Wz at h
  split at h
  case h_2=>cases h
  rename_i a b hx hy
  obtain⟨t,ht,rfl⟩:=cV h
  have h1:=hE.ev x
  have h2:=hE.ev y
  rw[hx] at h1
  rw[hy] at h2
  generalize ev lQ x=u at h1 ⊢
  generalize ev lQ y=w at h2 ⊢
  cases h1 with
  |
   agg cs ps h1=>cases h2 with
   |
    agg Bt ps' h2 =>
    refine iF.pure hS (pv := .bool (t != neg)) ?_ (.sc _ rfl)
    unfold agU
    simp only
    rw[Pn h1 h2 ht]
    rfl
 case un op x=>rw[amR];exact lift h fun h=>FL (f:=pun op) hS (fun _ _=>alS) (hE.ev x) h
 case cvt k x=>rw[aiV];exact lift h fun h=>FL (f:=Xm k) hS (fun _ _=>aeH) (hE.ev x) h
 case cvs x =>
  have e:kP fC q (.cvs x) lQ V.P=(Zq (ev lQ x)).map (·,V.P):=dX rfl
  rw[e];exact lift h fun h=>FL (f:=Zq) hS (fun _ _=>ahB) (hE.ev x) h
 case ext x i =>
  rw[agC]
  refine lift h fun h => ?_
  obtain⟨w,h1,h2⟩:=aaF (hE.ev x) h
  exact iF.pure hS h1 h2
 case fld agg off size x =>
  rw[agS]
  refine lift h fun h => ?_
  obtain⟨w,h1,h2⟩:=abV (hE.ev x) h
  exact iF.pure hS h1 h2
 case build zero places parts =>
  obtain⟨cs,O7,he⟩:=cV h
  cases he
  obtain⟨r,h1,h2⟩:=OT (VL.zero zero) (JC hE parts) O7
  rw[WW,h1]
  exact iF.same hS (.agg _ _ h2)
 case chk x =>
  rw[aiI]
  refine lift h fun h => ?_
  obtain⟨w,h1,h2⟩:=Z2 (hE.ev x) h
  exact iF.pure hS h1 h2
 case faddr off x =>
  rw[VZ]
  refine lift h fun h => ?_
  obtain⟨w,h1,h2⟩:=Tl (hE.ev x) h
  exact iF.pure hS h1 h2
 case iaddr size x i =>
  rw[Wa]
  refine lift h fun h => ?_
  obtain⟨w,h1,h2⟩:=S6 hS (hE.ev x) (hE.ev i) h
  exact iF.pure hS h1 h2
 case sidx x i =>
  have e:kP fC q (.sidx x i) lQ V.P=(IA (ev lQ x) (ev lQ i)).map (·,V.P):=dX rfl
  rw[e];exact lift h fun h=>Cg (f:=IA) hS (fun _ _ _=>Z3) (hE.ev x) (hE.ev i) h
 case ssub x l h' =>
  refine lift h fun h => ?_
  unfold wV at h
  split at h
  case h_2=>cases h
  rename_i s lv hv hx h1 h2
  split at h
  case h_2=>cases h
  rename_i a b HD
  cases h
  obtain⟨e1,_⟩:=sL (hE.ev x) hx
  have e:kP fC q (.ssub x l h') lQ V.P=some (.string (s.extract a b),V.P):=by
   rw[dX rfl]
   simp only[jM,e1]
   rw[B4 hE h1,B4 hE h2,HD]
   rfl
  rw[e]
  exact iF.same hS (.sc _ rfl)
 case mkfn f gL =>
  cases h
  rw[Zr]
  exact iF.same hS (.wG _ _ _ (hE.evs gL))
 case len x =>
  rw[ahV]
  refine lift h fun h => ?_
  obtain⟨w,h1,h2⟩:=aaW (hE.ev x) h
  exact iF.pure hS h1 h2
 case slen x =>
  have e:kP fC q (.slen x) lQ V.P=(xV (ev lQ x)).map (·,V.P):=dX rfl
  rw[e];exact lift h fun h=>FL (f:=xV) hS (fun _ _=>Zu) (hE.ev x) h
 case min x y=>rw[adJ];exact lift h fun h=>Cg (f:=TZ) hS (fun _ _ _=>adF) (hE.ev x) (hE.ev y) h
 case max x y=>rw[ahC];exact lift h fun h=>Cg (f:=UQ) hS (fun _ _ _=>aiD) (hE.ev x) (hE.ev y) h
 case load agg size p =>
  rw[aaU]
  refine lift h fun h => ?_
  obtain⟨w,h1,h2⟩:=Oa hS (hE.ev p) h
  exact iF.pure hS h1 h2
 case sub size x l hh m =>
  rw[afU]
  exact lift h fun h=>aaA hS hE (hE.ev x) h
 case b2s x =>
  split at h
  ·cases h
  rename_i y fT
  split at h
  case h_2=>cases h
  rename_i es PQ
  obtain⟨bs,hbs,he⟩:=cV h
  cases he
  obtain⟨h1,h2,h3,h4⟩:=yR hS (hE.ev x) PQ
  obtain⟨pn,h5,h6⟩:=h4 es.length (Nat.le_refl _)
  rw[List.take_length] at h6
  have hb:=KT h6 hbs
  have hx:=hE.ev x
  have e:kP fC q (.b2s x) lQ V.P=some (.string ⟨bs.toArray⟩,V.P):=by
   apply qQ
   simp only[pop]
   generalize ev lQ x=u at *
   cases u<;>first | (exfalso;simp[tW] at h1;done) | skip
   case string s =>
    generalize fE ρ x=y at *
    cases hx with
    | any=>simp[cT] at PQ
    | sc _ _=>exact absurd rfl (fT _)
   case slice a n c =>
    injection h1 with h1
    subst h1
    cases a with
    |
     none =>
     simp only[jY] at h5
     split at h5
     ·cases h5
      cases hb
      rfl
     ·cases h5
    |
     some a =>
     obtain⟨b,o,sp⟩:=a
     cases sp with
     | some s=>simp[jY] at h5
     |
      none =>
      simp only[jY,Nat.mul_one] at h5
      simp only[h5,hb]
      rfl
  rw[e]
  exact iF.same hS (.sc _ rfl)
 case new zero =>
  split at h
  case isFalse=>cases h
  rename_i hz
  cases h
  rw[afC]
  exact ZM hS hz
 case box x =>
  split at h
  case isFalse=>cases h
  rename_i hs
  rw[ahF]
  exact abP hS (hE.ev x) hs h
 case make zero bytes l c =>
  split at h
  case isFalse=>cases h
  rename_i hz
  rw[aaI]
  exact Xt hS hz (hE.ev l) (hE.ev c) h
 case lit zero n parts =>
  rw[aeY]
  exact abE hS (JC hE parts) h
 case store size p x =>
  obtain⟨a,ha,he⟩:=cV h
  cases he
  rw[Wb]
  exact Te hS (hE.ev p) (hE.ev x) ha
 case app size bytes x y =>
  split at h
  case h_2=>cases h
  rename_i new hn
  obtain⟨h1,h2,h3,h4⟩:=yR hS (hE.ev y) hn
  obtain⟨pn,h5,h6⟩:=h4 new.length (Nat.le_refl _)
  rw[List.take_length] at h6
  rw[afN]
  unfold arT
  simp only[h1,h5]
  exact HT hS (hE.ev x) h2 h3 h6 h
 case appz zero bytes x n =>
  split at h
  case h_2=>cases h
  rename_i k hk
  split at h
  case isFalse=>cases h
  rename_i hc
  obtain⟨e1,_⟩:=sL (hE.ev n) hk
  have Oh:∀x∈List.replicate k.toNat (elemOf (zero.map kK)),(aB x).length=zero.length:=fun x hx=>by rw[List.eq_of_mem_replicate hx];exact D2 hc.2.2
  have:=HT hS (hE.ev x) Oh (BG (by
    rw[List.all_eq_true]
    intro x hx
    rw[List.eq_of_mem_replicate hx,oJ hc.2.2]
    exact hc.2.2)) (C8 hc.2.2 _) h
  rw[List.length_replicate] at this
  rw[Zi]
  unfold aeM
  rw[e1]
  simp only[if_pos (show 0≤k∧k*(bytes:Int)≤140737488355328 from⟨hc.1,hc.2.1⟩)]
  exact this
 case copy size x y =>
  rw[abD]
  exact Xp hS (hE.ev x) (hE.ev y) h
 case clear zero x =>
  obtain⟨a,ha,he⟩:=cV h
  cases he
  rw[Xy]
  exact T5 hS (hE.ev x) ha
 all_goals cases h
end
end Go.PM
namespace Go.PM
def bare (F:Nat→Prop) (P:aF):View:=⟨fun _=>0,F,[],P,0⟩
theorem Bx {es:List VV}:aO es=true↔∀x∈es,aQ x=true:=by
 induction es with
 | nil=>simp[aO]
 | cons x xs ih=>simp[aO,ih]
theorem EX {x:VV} (h:aQ x=true):aO (aB x)=true:=by
 unfold aB
 split
 ·simpa[aQ] using h
 ·simp[aO,h]
theorem Ou {es:List VV} (h:aO es=true):aO (es.flatMap aB)=true:=by
 rw[Bx] at h ⊢
 intro x hx
 obtain⟨y,hy,Bu⟩:=List.mem_flatMap.1 hx
 exact Bx.1 (EX (h y hy)) x Bu
theorem Jz {es:List VV} {k:TK} (h:aQ (.tree es k)=true):k = .op∧aO es=true∧uni es=true:=by
 simp only[aQ,Bool.and_eq_true,decide_eq_true_eq] at h
 exact⟨h.1.1,h.1.2,h.2⟩
theorem Lp {x:VV} (h:aQ x=true):x ≠ .any:=by
 rintro rfl
 cases h
theorem akV {es:List VV} (h:uni es=true):∃e,∀x∈es,(aB x).length=e:=by
 cases es with
 | nil=>exact⟨0,fun x hx=>by cases hx⟩
 |
  cons x xs =>
  refine⟨(aB x).length,fun y hy => ?_⟩
  rcases List.mem_cons.1 hy with rfl | hy
  ·rfl
  ·have:=List.all_eq_true.1 h y hy
   simpa using this
section
variable {V V':View}
theorem VR.pure {x:VV} {v:Value} (hF:∀b,V.F b→V'.F b∧V'.P[b]? = V.P[b]?) (h:VR V x v):aQ x=true→VR V' x v:=by
 induction h using VR.rec (motive_2:=fun xs vs _=>aO xs=true→VL V' xs vs) with
 | any=>intro hp;cases hp
 | sc _ h=>intro _;exact .sc _ h
 | agg cs ps _ ih=>intro hp;exact .agg _ _ (ih hp)
 | dQ cs ps _ ih=>intro hp;exact .dQ _ _ (ih hp)
 | oP k hk=>intro _;exact .oP k hk
 | tree es k b o c r e p W3 hb ho hc he hk _ ih=>intro hp;exact .tree es k b o c r e p (hF _ W3).1 (by rw[(hF _ W3).2];exact hb) ho hc he hk (ih (Ou (Jz hp).2.1))
 | dA x off b o r e p W3 hb ho _ ih=>intro hp;exact .dA x off b o r e p (hF _ W3).1 (by rw[(hF _ W3).2];exact hb) ho (ih (EX hp))
 | ref=>intro hp;cases hp
 | ptr=>intro hp;cases hp
 | wG f gL ps _ ih=>intro hp;exact .wG _ _ _ (ih hp)
 | nil=>exact .nil
 |
  cons x v xs vs _ _ ih Wr =>
  rename_i hp
  simp only[aO,Bool.and_eq_true] at hp
  exact .cons _ _ _ _ (ih hp.1) (Wr hp.2)
theorem VL.pure {xs:List VV} {vs:List Value} (hF:∀b,V.F b→V'.F b∧V'.P[b]? = V.P[b]?) (h:VL V xs vs) (hp:aO xs=true):VL V' xs vs:=by
 induction xs generalizing vs with
 | nil=>cases h;exact .nil
 |
  cons x xs ih=>cases h with
  |
   cons _ v _ vs h hs =>
   simp only[aO,Bool.and_eq_true] at hp
   exact .cons _ _ _ _ (h.pure hF hp.1) (ih hs hp.2)
theorem VL.flatten {es:List VV} {ps:List Value} (h:VL V es ps) (hp:aO es=true):VL V (es.flatMap aB) (ps.flatMap aU):=by
 induction es generalizing ps with
 | nil=>cases h;exact .nil
 |
  cons x xs ih =>
  cases h with
  |
   cons _ v _ vs h hs =>
   simp only[aO,Bool.and_eq_true] at hp
   rw[List.flatMap_cons,List.flatMap_cons]
   exact(h.cells (Lp hp.1)).append (ih hs hp.2)
theorem Rt {P P':aF} (h:P <+: P'):∀b,(bare (· < P.length) P).F b→(bare (· < P'.length) P').F b∧(bare (· < P'.length) P').P[b]? = (bare (· < P.length) P).P[b]? := by
 intro b hb
 obtain⟨L,rfl⟩:=h
 have vD:b<P.length:=hb
 exact⟨by show b<(P++L).length;simp;omega,List.getElem?_append_left vD⟩
mutual
theorem real (x:VV) (hp:aQ x=true) (P:aF):∃P' pv,P <+: P'∧VR (bare (· < P'.length) P') x pv:=by
 cases x with
 | any=>cases hp
 | sc v=>exact⟨P,v,List.prefix_refl _,.sc v hp⟩
 |
  agg cs =>
  obtain⟨P',ps,h1,h2⟩:=PT cs hp P
  exact⟨P',_,h1,.agg _ _ h2⟩
 |
  dQ cs =>
  obtain⟨P',ps,h1,h2⟩:=PT cs hp P
  exact⟨P',_,h1,.dQ _ _ h2⟩
 |
  tree es k =>
  obtain⟨rfl,h1,h2⟩:=Jz hp
  obtain⟨P',ps,h3,h4⟩:=PT es h1 P
  obtain⟨e,he⟩:=akV h2
  have h5:=h4.flatten h1
  have hl:=h5.length
  rw[lR he] at hl
  have AK:P' <+: P'++[PO.row (ps.flatMap aU) e false]:=List.prefix_append _ _
  refine⟨_,.slice (some ⟨P'.length,0,none⟩) es.length es.length,h3.trans AK,?_⟩
  refine .tree es .op P'.length 0 es.length (ps.flatMap aU) e false (show P'.length<(P'++[PO.row (ps.flatMap aU) e false]).length by simp) (by show (P'++[PO.row (ps.flatMap aU) e false])[P'.length]? = _;simp) (by omega) (Nat.le_refl _) he trivial ?_
  rw[List.drop_zero,List.take_of_length_le (by omega)]
  exact VL.pure (Rt AK) h5 (Ou h1)
 |
  dA x off =>
  obtain⟨P',pv,h3,h4⟩:=real x hp P
  have h5:=h4.cells (Lp hp)
  have AK:P' <+: P'++[PO.row (aU pv) (aU pv).length false]:=List.prefix_append _ _
  refine⟨_,.pointer (some ⟨P'.length,0+off,none⟩),h3.trans AK,?_⟩
  refine .dA x off P'.length 0 (aU pv) (aU pv).length false (show P'.length<(P'++[PO.row (aU pv) (aU pv).length false]).length by simp) (by show (P'++[PO.row (aU pv) (aU pv).length false])[P'.length]? = _;simp) (by rw[h5.length];omega) ?_
  rw[List.drop_zero,List.take_of_length_le (by rw[h5.length];exact Nat.le_refl _)]
  exact VL.pure (Rt AK) h5 (EX hp)
 | ref=>cases hp
 | ptr=>cases hp
 |
  wG f gL =>
  obtain⟨P',ps,h1,h2⟩:=PT gL hp P
  exact⟨P',_,h1,.wG _ _ _ h2⟩
theorem PT (xs:List VV) (hp:aO xs=true) (P:aF):∃P' ps,P <+: P'∧VL (bare (· < P'.length) P') xs ps:=by
 cases xs with
 | nil=>exact⟨P,[],List.prefix_refl _,.nil⟩
 |
  cons x xs =>
  simp only[aO,Bool.and_eq_true] at hp
  obtain⟨P1,pv,h1,h2⟩:=real x hp.1 P
  obtain⟨P2,ps,h3,h4⟩:=PT xs hp.2 P1
  exact⟨P2,pv::ps,h1.trans h3,.cons _ _ _ _ (h2.pure (Rt h3) hp.1) h4⟩
end
theorem Od {es:List VV}:rE es=true↔∀x∈es,fX x=true:=by
 induction es with
 | nil=>simp[rE]
 | cons x xs ih=>simp[rE,ih]
theorem EG {es:List VV} {k:TK} (h:fX (.tree es k)=true):k = .op∧rE es=true∧uni es=true∧es.all Bo=true:=by
 simp only[fX,Bool.and_eq_true,decide_eq_true_eq] at h
 exact⟨h.1.1.1,h.1.1.2,h.1.2,h.2⟩
theorem XG {x:VV} (h:fX x=true):rE (aB x)=true:=by
 unfold aB
 split
 ·simpa[fX] using h
 ·simp[rE,h]
theorem PV {es:List VV} (h:rE es=true):rE (es.flatMap aB)=true:=by
 rw[Od] at h ⊢
 intro x hx
 obtain⟨y,hy,Bu⟩:=List.mem_flatMap.1 hx
 exact Od.1 (XG (h y hy)) x Bu
mutual
theorem UF (x:VV) (h:fX x=true):aQ x=true:=by
 cases x with
 | sc v=>exact h
 | agg cs=>exact FD cs h
 | dQ cs=>exact FD cs h
 |
  tree es k =>
  obtain⟨h1,h2,h3,_⟩:=EG h
  simp[aQ,h1,FD es h2,h3]
 | any=>cases h
 | dA=>cases h
 | ref=>cases h
 | ptr=>cases h
 | wG=>cases h
theorem FD (xs:List VV) (h:rE xs=true):aO xs=true:=by
 cases xs with
 | nil=>rfl
 |
  cons x xs =>
  simp only[rE,Bool.and_eq_true] at h
  simp[aO,UF x h.1,FD xs h.2]
end
theorem Vo {e:Nat}:∀ {es nU:List VV},(∀x∈es,(aB x).length=e)→(∀x∈nU,(aB x).length=e)→es.all Bo=true→nU.all Bo=true→es.length=nU.length→es.flatMap aB=nU.flatMap aB→es=nU
 | [],[],_,_,_,_,_,_=>rfl
 |
  x::es,y::nU,h1,h2,h3,h4,hl,h=>by
  rw[List.flatMap_cons,List.flatMap_cons] at h
  have hx:=h1 x List.mem_cons_self
  have hy:=h2 y List.mem_cons_self
  obtain⟨e1,e2⟩:=List.append_inj h (by omega)
  simp only[List.all_cons,Bool.and_eq_true] at h3 h4
  have Bu:x=y:=by
   have g1:=h3.1
   have g2:=h4.1
   unfold aB at e1
   split at e1<;>split at e1
   ·rw[e1]
   ·rename_i cs _ _
    subst e1
    cases g1
   ·rename_i cs
    subst e1
    cases g2
   ·injection e1
  rw[Bu,Vo (fun z hz=>h1 z (List.mem_cons_of_mem _ hz)) (fun z hz=>h2 z (List.mem_cons_of_mem _ hz)) h3.2 h4.2 (by simpa using hl) e2]
theorem VR.uniq {x y:VV} {v:Value} (h:VR V x v) (h':VR V y v) (hx:fX x=true) (hy:fX y=true):x=y:=by
 induction h using VR.rec (motive_2:=fun xs vs _=>∀ys,VL V ys vs→rE xs=true→rE ys=true→xs=ys) generalizing y with
 | any=>cases hx
 |
  sc _ h=>cases h' with
  | sc _ _=>rfl
  | any=>cases hy
  | agg=>cases h
  | dQ=>cases h
  | oP=>cases h
  | tree=>cases h
  | dA=>cases hy
  | ref=>cases hy
  | ptr=>cases hy
  | wG=>cases hy
 |
  agg cs ps h ih=>generalize hw:Value.agg ps.toArray=w at h';cases h' with
  | sc _ h'=>subst hw;cases h'
  | any=>cases hy
  |
   agg Bt ps' h' =>
   injection hw with hw
   have:ps=ps':=by simpa using hw
   subst this
   rw[ih _ h' hx hy]
  | dQ=>cases hw
  | oP=>cases hw
  | tree=>cases hw
  | dA=>cases hy
  | ref=>cases hy
  | ptr=>cases hy
  | wG=>cases hy
 |
  dQ cs ps h ih=>generalize hw:Value.tuple ps.toArray=w at h';cases h' with
  | sc _ h'=>subst hw;cases h'
  | any=>cases hy
  |
   dQ Bt ps' h' =>
   injection hw with hw
   have:ps=ps':=by simpa using hw
   subst this
   rw[ih _ h' hx hy]
  | agg=>cases hw
  | oP=>cases hw
  | tree=>cases hw
  | dA=>cases hy
  | ref=>cases hy
  | ptr=>cases hy
  | wG=>cases hy
 |
  oP k hk =>
  obtain⟨rfl,_⟩:=EG hx
  generalize hw:Value.slice none 0 0=w at h'
  cases h' with
  | sc _ h'=>subst hw;cases h'
  | any=>cases hy
  | oP k' hk'=>obtain⟨rfl,_⟩:=EG hy;rfl
  | agg=>cases hw
  | dQ=>cases hw
  | tree=>cases hw
  | dA=>cases hy
  | ref=>cases hy
  | ptr=>cases hy
  | wG=>cases hy
 |
  tree es k b o c r e p hF hb ho hc he hk hl ih =>
  obtain⟨rfl,hx1,hx2,hx3⟩:=EG hx
  generalize hw:Value.slice (some ⟨b,o,none⟩) es.length c=w at h'
  cases h' with
  | sc _ h'=>subst hw;cases h'
  | any=>cases hy
  | oP=>cases hw
  | agg=>cases hw
  | dQ=>cases hw
  |
   tree nU k' b' o' c' r' e' p' hF' vD ho' Vz he' hk' Cp =>
   obtain⟨rfl,hy1,hy2,hy3⟩:=EG hy
   injection hw with h1 h2 h3
   injection h1 with h1
   injection h1 with h1 h4
   subst h1 h3 h4
   rw[hb] at vD
   injection vD with vD
   injection vD with g1 g2 g3
   subst g1 g2 g3
   rw[←h2] at Cp
   rw[Vo he he' hx3 hy3 h2 (ih _ Cp (PV hx1) (PV hy1))]
  | dA=>cases hy
  | ref=>cases hy
  | ptr=>cases hy
  | wG=>cases hy
 | dA=>cases hx
 | ref=>cases hx
 | ptr=>cases hx
 | wG=>cases hx
 | nil=>rename_i h' _ _;cases h';rfl
 |
  cons x v xs vs _ _ ih Wr =>
  rename_i ys h' hx hy
  cases h' with
  |
   cons y _ ys _ h' hs' =>
   simp only[rE,Bool.and_eq_true] at hx hy
   rw[ih h' hx.1 hy.1,Wr _ hs' hx.2 hy.2]
end
end Go.PM
namespace Go.PM
section
variable {V:View} {lo fC:Nat}
theorem mT {α β:Type} {f:α→Option β} {x:α} {xs:List α} {r:List β} (h:(x::xs).mapM f=some r):∃y ys,f x=some y∧xs.mapM f=some ys∧r=y::ys:=by
 rw[List.mapM_cons] at h
 cases hx:f x with
 | none=>rw[hx] at h;cases h
 |
  some y =>
  rw[hx] at h
  cases hs:xs.mapM f with
  | none=>rw[hs] at h;cases h
  | some ys=>rw[hs] at h;cases h;exact⟨y,ys,rfl,rfl,rfl⟩
theorem pY {α β:Type} {f:α→Option β}:∀ {xs:List α} {r:List β},xs.mapM f=some r→r.length=xs.length
 | [],r,h=>by cases h;rfl
 |
  x::xs,r,h=>by
  obtain⟨y,ys,_,h2,rfl⟩:=mT h
  simp[pY h2]
theorem Yh {d:Nat} {H:aA} {x x':VV} (h:fz d H x=some x'):(∃cs Bt,x = .agg cs∧x' = .agg Bt∧Bt.length=cs.length)∨(aB x=[x]∧aB x'=[x']):=by
 cases d with
 | zero=>cases h
 |
  succ d =>
  unfold fz at h
  split at h
  ·cases h
   cases x with
   | agg cs=>exact .inl ⟨cs,cs,rfl,rfl,rfl⟩
   | _=>exact .inr ⟨rfl,rfl⟩
  ·split at h
   ·obtain⟨Bt,h1,rfl⟩:=cV h
    exact .inl ⟨_,_,rfl,rfl,pY h1⟩
   ·obtain⟨Bt,h1,rfl⟩:=cV h;exact .inr ⟨rfl,rfl⟩
   ·obtain⟨Bt,h1,rfl⟩:=cV h;exact .inr ⟨rfl,rfl⟩
   ·obtain⟨Bt,h1,rfl⟩:=cV h;exact .inr ⟨rfl,rfl⟩
   ·split at h
    ·split at h
     ·obtain⟨Bt,h1,rfl⟩:=cV h;exact .inr ⟨rfl,rfl⟩
     ·cases h
    ·cases h
   ·split at h
    ·split at h
     ·obtain⟨Bt,h1,rfl⟩:=cV h;exact .inr ⟨rfl,rfl⟩
     ·cases h
    ·cases h
   ·obtain⟨Bt,h1,rfl⟩:=cV h;exact .inr ⟨rfl,rfl⟩
   ·cases h
theorem Ru {d:Nat} {H:aA} {x x':VV} (h:fz d H x=some x'):(aB x').length=(aB x).length:=by
 rcases Yh h with⟨cs,Bt,rfl,rfl,h'⟩ | ⟨h1,h2⟩
 ·exact h'
 ·rw[h1,h2];rfl
def Qx (V:View) (G:Nat→Prop) (ids:List Nat):Prop:=∀i∈ids,∀g es e w,V.H[i]? = some (.row g es e w)→G (V.m i)
theorem Ny (hS:SR V lo fC) {G:Nat→Prop} (hG:∀q,V.F q→G q):∀(d:Nat) (v v':VV) (pv:Value),VR V v pv→fz d V.H v=some v'→Qx V G (iS d V.H v)→VR (bare G V.P) v' pv:=by
 have hFG:∀b,V.F b→(bare G V.P).F b∧(bare G V.P).P[b]? = V.P[b]? := fun b hb=>⟨hG b hb,rfl⟩
 intro d
 induction d with
 | zero=>intro v v' pv _ h;cases h
 |
  succ d ih =>
  have ihL:∀(xs Kh:List VV) (ps:List Value),VL V xs ps→xs.mapM (fz d V.H)=some Kh→Qx V G (xs.flatMap (iS d V.H))→VL (bare G V.P) Kh ps:=by
   intro xs
   induction xs with
   | nil=>intro Kh ps hl h _;cases h;cases hl;exact .nil
   |
    cons x xs ihx =>
    intro Kh ps hl h hi
    obtain⟨y,ys,h1,h2,rfl⟩:=mT h
    cases hl with
    |
     cons _ v _ vs hx Pa =>
     exact .cons _ _ _ _ (ih x y v hx h1 fun i nH=>hi i (by rw[List.flatMap_cons];exact List.mem_append_left _ nH)) (ihx ys vs Pa h2 fun i nH=>hi i (by rw[List.flatMap_cons];exact List.mem_append_right _ nH))
  have ihC:∀(x x':VV) (ps:List Value),VL V (aB x) ps→fz d V.H x=some x'→Qx V G (iS d V.H x)→VL (bare G V.P) (aB x') ps:=by
   intro x x' ps hl h hi
   rcases Yh h with⟨cs,Bt,rfl,rfl,oR⟩ | ⟨h1,h2⟩
   ·have:=ih _ _ (.agg ps.toArray) (.agg _ _ hl) h hi
    generalize hw:Value.agg ps.toArray=w at this
    cases this with
    |
     agg _ ps' Cp =>
     injection hw with hw
     have:ps=ps':=by simpa using hw
     subst this
     exact Cp
   ·rw[h1] at hl
    rw[h2]
    cases hl with
    |
     cons _ v _ vs hx Pa =>
     cases Pa
     exact .cons _ _ _ _ (ih _ _ _ hx h hi) .nil
  have ihF:∀(xs Kh:List VV) (ps:List Value),VL V (xs.flatMap aB) ps→xs.mapM (fz d V.H)=some Kh→Qx V G (xs.flatMap (iS d V.H))→VL (bare G V.P) (Kh.flatMap aB) ps:=by
   intro xs
   induction xs with
   | nil=>intro Kh ps hl h _;cases h;cases hl;exact .nil
   |
    cons x xs ihx =>
    intro Kh ps hl h hi
    obtain⟨y,ys,h1,h2,rfl⟩:=mT h
    rw[List.flatMap_cons] at hl ⊢
    have hlen:=hl.length
    have a1:=hl.take (aB x).length
    have a2:=hl.drop (aB x).length
    rw[List.take_left] at a1
    rw[List.drop_left] at a2
    rw[←List.take_append_drop (aB x).length ps]
    exact(ihC x y _ a1 h1 fun i nH=>hi i (by rw[List.flatMap_cons];exact List.mem_append_left _ nH)).append (ihx ys _ a2 h2 fun i nH=>hi i (by rw[List.flatMap_cons];exact List.mem_append_right _ nH))
  have avG:∀(xs Kh:List VV) (e:Nat),xs.mapM (fz d V.H)=some Kh→(∀x∈xs,(aB x).length=e)→∀x∈Kh,(aB x).length=e:=by
   intro xs
   induction xs with
   | nil=>intro Kh e h _ x hx;cases h;cases hx
   |
    cons x xs ihx =>
    intro Kh e h he z hz
    obtain⟨y,ys,h1,h2,rfl⟩:=mT h
    rcases List.mem_cons.1 hz with rfl | hz
    ·rw[Ru h1];exact he x List.mem_cons_self
    ·exact ihx ys e h2 (fun w hw=>he w (List.mem_cons_of_mem _ hw)) z hz
  intro v v' pv hv h hi
  unfold fz at h
  unfold iS at hi
  split at h
  ·rename_i hp
   cases h
   exact hv.pure hFG hp
  ·rename_i hp
   rw[if_neg hp] at hi
   split at h
   ·obtain⟨Bt,h1,rfl⟩:=cV h
    cases hv with
    | agg cs ps hl=>exact .agg _ _ (ihL _ _ _ hl h1 hi)
   ·obtain⟨Bt,h1,rfl⟩:=cV h
    cases hv with
    | dQ cs ps hl=>exact .dQ _ _ (ihL _ _ _ hl h1 hi)
   ·obtain⟨Bt,h1,rfl⟩:=cV h
    cases hv with
    | oP k hk=>cases h1;exact .oP _ (.inl rfl)
    |
     tree es k b o c r e p hF hb ho hc he hk hl =>
     have hlen:=pY h1
     have:=VR.tree (V:=bare G V.P) Bt .op b o c r e p (hG b hF) hb (by rw[hlen];exact ho) (by rw[hlen];exact hc) (avG _ _ _ h1 he) trivial (by rw[hlen];exact ihF _ _ _ hl h1 hi)
     rw[hlen] at this
     exact this
   ·obtain⟨x',h1,rfl⟩:=cV h
    cases hv with
    |
     dA x off b o r e p hF hb ho hl =>
     have hlen:=Ru h1
     exact .dA x' _ b o r e p (hG b hF) hb (by rw[hlen];exact ho) (by rw[hlen];exact ihC _ _ _ hl h1 hi)
   ·rename_i b g o n c
    split at h
    case h_2=>cases h
    rename_i es e w hr
    simp only[hr] at hi
    rw[cK] at hr
    split at h
    case isFalse=>cases h
    rename_i aAz
    obtain⟨hon,EB⟩:=aAz
    obtain⟨nU,h1,rfl⟩:=cV h
    obtain⟨r,p,k1,k2,k3⟩:=hS.row b g es e w hr
    have yX:=k3.length
    rw[lR k2] at yX
    cases hv with
    |
     ref b g o n c a n' c' bH hg ha hq =>
     obtain⟨rfl,rfl,rfl⟩:=ha _ _ _ hr
     have afI:∀x∈(es.drop o).take n',(aB x).length=e:=fun x hx=>k2 x (List.mem_of_mem_drop (List.mem_of_mem_take hx))
     have hn2:((es.drop o).take n').length=n':=by simp;omega
     have hlen:=pY h1
     rw[hn2] at hlen
     have hm:(o+n')*e≤es.length*e:=Nat.mul_le_mul_right _ hon
     rw[Nat.add_mul] at hm
     have hl:VL V (((es.drop o).take n').flatMap aB) ((r.drop (o*e)).take (n'*e)):=by
      have h4:=(k3.drop (o*e)).take (n'*e)
      rw[vJ k2,vV (fun x hx=>k2 x (List.mem_of_mem_drop hx))] at h4
      exact h4
     have hGb:G (V.m b):=hi b List.mem_cons_self _ _ _ _ hr
     have:=VR.tree (V:=bare G V.P) nU .op (V.m b) (o*e) c' r e p hGb k1 (by rw[hlen];omega) (by rw[hlen];exact EB) (avG _ _ _ h1 afI) trivial (by rw[hlen];exact ihF _ _ _ hl h1 fun i nH=>hi i (List.mem_cons_of_mem _ nH))
     rw[hlen] at this
     exact this
   ·rename_i b g j o
    split at h
    case h_2=>cases h
    rename_i es e w hr
    simp only[hr] at hi
    rw[cK] at hr
    split at h
    case h_2=>cases h
    rename_i x hx
    simp only[hx] at hi
    obtain⟨x',h1,rfl⟩:=cV h
    obtain⟨r,p,k1,k2,k3,k4⟩:=O2 hS hr hx
    cases hv with
    |
     ptr b g j off a bH hg ha hq =>
     have:=ha _ _ _ hr
     subst this
     have hlen:=Ru h1
     exact .dA x' o (V.m b) (j*e) r e p (hi b List.mem_cons_self _ _ _ _ hr) k1 (by rw[hlen];exact k3) (by rw[hlen];exact ihC _ _ _ k4 h1 fun i nH=>hi i (List.mem_cons_of_mem _ nH))
   ·obtain⟨Bt,h1,rfl⟩:=cV h
    cases hv with
    | wG f gL ps hl=>exact .wG _ _ _ (ihL _ _ _ hl h1 hi)
   ·cases h
theorem FE (hS:SR V lo fC) {G:Nat→Prop} (hG:∀q,V.F q→G q) {d:Nat}:∀ {xs Kh:List VV} {ps:List Value},VL V xs ps→xs.mapM (fz d V.H)=some Kh→Qx V G (xs.flatMap (iS d V.H))→VL (bare G V.P) Kh ps
 | [],Kh,ps,hl,h,_=>by cases h;cases hl;exact .nil
 |
  x::xs,Kh,ps,hl,h,hi=>by
  obtain⟨y,ys,h1,h2,rfl⟩:=mT h
  cases hl with
  |
   cons _ v _ vs hx Pa =>
   exact .cons _ _ _ _ (Ny hS hG d x y v hx h1 fun i nH=>hi i (by rw[List.flatMap_cons];exact List.mem_append_left _ nH)) (FE hS hG Pa h2 fun i nH=>hi i (by rw[List.flatMap_cons];exact List.mem_append_right _ nH))
def View.dI (V:View) (ids:List Nat):View:=ids.foldl View.freeze V
theorem xD:∀(ids:List Nat) {V:View},SR V lo fC→SR (V.dI ids) lo fC∧F4 lo V (V.dI ids)∧(V.dI ids).H=PM.dI V.H ids∧(V.dI ids).P=V.P∧(V.dI ids).m=V.m∧Qx V (V.dI ids).F ids
 | [],V,hS=>⟨hS,F4.refl _ _,rfl,rfl,rfl,fun i hi=>by cases hi⟩
 |
  i::ids,V,hS=>by
  obtain⟨h1,h2,h3⟩:=Rz hS i
  obtain⟨g1,g2,g3,g4,g5,g6⟩:=xD ids h1
  refine⟨g1,h2.trans g2,?_,g4.trans (aiM V i),g5.trans (Uh V i),?_⟩
  ·show ((V.freeze i).dI ids).H=_
   rw[g3,UB]
   rfl
  ·intro k hk g es e w hr
   show ((V.freeze i).dI ids).F (V.m k)
   rcases List.mem_cons.1 hk with rfl | hk
   ·exact g2.F _ (h3 _ _ _ _ hr)
   ·have Gs:∃g es e w,(V.freeze i).H[k]? = some (.row g es e w):=by
     rw[UB]
     unfold C3
     split
     ·rename_i g' nU e' w' hi
      by_cases hki:k=i
      ·subst hki
       exact⟨g',nU,e',false,List.getElem?_set_self (List.getElem?_eq_some_iff.1 hi).1⟩
      ·exact⟨g,es,e,w,by rw[List.getElem?_set_ne (Ne.symm hki)];exact hr⟩
     ·exact⟨g,es,e,w,hr⟩
    obtain⟨g',nU,e',w',Gs⟩:=Gs
    have:=g6 k hk _ _ _ _ Gs
    rw[Uh] at this
    exact this
end
end Go.PM