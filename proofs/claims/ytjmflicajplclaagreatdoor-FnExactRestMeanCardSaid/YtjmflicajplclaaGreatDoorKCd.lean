/- Texts of a claim, in one: part 4. -/
import Derived.Test.YtjmflicajplclaaGreatDoorKCc
open Bool renaming and_eq_true → aK5,false_eq_true → aK9
open List renaming all_cons → aLp,all_eq_true → aKL,append_nil → aLF,drop_drop → aLx,drop_eq_getElem_cons → aKC,drop_zero → aLJ,eq_of_mem_replicate → aLI,flatMap_append → aLB,flatMap_cons → aLl,flatMap_nil → aLE,getElem?_append_left → aKO,getElem?_eq_some_iff → aKw,getElem?_set_ne → aKW,getElem?_set_self → aKV,mem_append → aLt,mem_append_left → aLM,mem_append_right → aLN,mem_cons → aLL,mem_cons_of_mem → aK6,mem_cons_self → aK7,mem_flatMap → aLz,mem_of_getElem? → aLr,mem_of_mem_drop → aLv,mem_of_mem_take → aLu,mem_or_eq_of_mem_set → aLC,mem_singleton → aLD,replicate → aLn,replicate_succ → aLH,set_eq_take_append_cons_drop → aLs,take_append_drop → aLG,take_length → aLK,take_of_length_le → aLq,take_succ_cons → aLk,take_take → aLw
open Nat renaming add_assoc → aKJ,add_mul → aK2,le_refl → aKx,le_trans → aKy,lt_of_lt_of_le → aKz,min_eq_left → aLy,mul_le_mul_right → aKY,succ_mul → aLm,zero_mul → aLA
set_option linter.unusedSimpArgs false
set_option linter.unusedVariables false
namespace Go.PM
inductive TK where
 | op
 | cl (e:Nat)
 | nil
 deriving DecidableEq
inductive VV where
 | any
 | sc (v:Value)
 | agg (cs:List VV)
 | eG (vs:List VV)
 | tree (es:List VV) (k:TK)
 | cI (x:VV) (off:Nat)
 | ref (b g o n c:Nat)
 | ptr (b g j off:Nat)
 | xT (f:Nat) (gD:List VV)
 deriving Inhabited
inductive fN where
 | dead
 | row (g:Nat) (es:List VV) (e:Nat) (w:Bool)
 deriving Inhabited
abbrev aA:=List fN
abbrev cV:=Nat→VV
def tE:VV := .eG []
def qC:Value→Bool
 | .bool _ | .int _ _ | .string _ | .pointer none | .nilFunc | .nilIface=>true
 | _=>false
def kX:Value→VV
 | .slice none 0 0 => .tree [] .nil
 | v=>if qC v then .sc v else .any
def inj:Value→VV
 | .agg cs => .agg (cs.toList.map kX)
 | .tuple vs=>if vs.isEmpty then .eG [] else .any
 | v=>kX v
def fG (ρ:cV):Operand→VV
 | .tmp t=>ρ t
 | .const v=>inj v
 | .global _ => .any
 | .func f => .xT f []
def MX (ρ:cV):Option Nat→VV→cV
 | none,_=>ρ
 | some d,v=>fun k=>if k=d then v else ρ k
def aB:VV→List VV
 | .agg cs=>cs
 | v=>[v]
def elemOf:List VV→VV
 | [x]=>x
 | cs => .agg cs
def bO:VV→Bool
 | .any | .agg _ | .eG _=>false
 | _=>true
def uni:List VV→Bool
 | []=>true
 | x::xs=>xs.all fun y=>(aB y).length == (aB x).length
mutual
def aY:VV→Bool
 | .any=>false
 | .sc v=>qC v
 | .agg cs=>aO cs
 | .eG vs=>aO vs
 | .tree es k=>decide (k = .op)&&aO es&&uni es
 | .cI x _=>aY x
 | .ref .. => false
 | .ptr .. => false
 | .xT _ gD=>aO gD
def aO:List VV→Bool
 | []=>true
 | x::xs=>aY x&&aO xs
end
def CJ:VV→Bool
 | .agg [_]=>false
 | _=>true
mutual
def gZ:VV→Bool
 | .any=>false
 | .sc v=>qC v
 | .agg cs=>sK cs
 | .eG vs=>sK vs
 | .tree es k=>decide (k = .op)&&sK es&&uni es&&es.all CJ
 | .cI _ _=>false
 | .ref .. => false
 | .ptr .. => false
 | .xT _ _=>false
def sK:List VV→Bool
 | []=>true
 | x::xs=>gZ x&&sK xs
end
mutual
def Ja:VV→Bool
 | .sc v=>qC v
 | .agg cs=>Vs cs
 | .eG vs=>Vs vs
 | _=>false
def Vs:List VV→Bool
 | []=>true
 | x::xs=>Ja x&&Vs xs
end
mutual
def below (k:Nat):VV→Bool
 | .any=>true
 | .sc _=>true
 | .agg cs=>nQ k cs
 | .eG vs=>nQ k vs
 | .tree es _=>nQ k es
 | .cI x _=>below k x
 | .ref b _ _ _ _=>decide (b<k)
 | .ptr b _ _ _=>decide (b<k)
 | .xT _ gD=>nQ k gD
def nQ (k:Nat):List VV→Bool
 | []=>true
 | x::xs=>below k x&&nQ k xs
end
def ME (k:Nat) (v:VV):VV:=if below k v then v else .any
def aG (H:aA) (b g:Nat):Option (List VV×Nat×Bool) :=
 match H[b]? with
 | some (.row g' es e w)=>if g'=g then some (es,e,w) else none
 | _=>none
def tU:List CK→List VV→List VV→Option Bool
 | [],[],[]=>some true
 |
  k::ks,.sc x::xs,.sc y::ys=>match yQ k x y with
  | some true=>tU ks xs ys
  | some false=>some false
  | none=>none
 | _,_,_=>none
def dE (cs:List VV) (o:Nat) (new:List VV):List VV:=cs.take o++new++cs.drop (o+new.length)
def isAny:VV→Bool
 | .any=>true
 | _=>false
def AZ (places:List (Nat×Nat)) (cells:List VV):List (Nat×VV)→Option (List VV)
 | []=>some cells
 |
  (i,v)::rest =>
  match places[i]? with
  | none=>none
  |
   some (off,size) =>
   if (aB v).length=size∧off+size≤cells.length∧isAny v=false then
    AZ places (cells.take off++aB v++cells.drop (off+size)) rest
   else none
def zC (e:Nat) (es:List VV):List (Nat×VV)→Option (List VV)
 | []=>some es
 | (i,v)::rest=>if i<es.length∧(aB v).length=e∧(aB v).all bO then zC e (es.set i v) rest else none
def Ix:Option VV→Option (Option Value)
 | none=>some none
 | some (.sc v)=>some (some v)
 | some _=>none
def dO (agg:Bool) (size:Nat) (x:VV) (o:Nat):Option VV :=
 if agg then (if o+size≤(aB x).length then some (.agg (((aB x).drop o).take size)) else none) else (aB x)[o]?
structure Fl where
 bf:Bool
 lr:Bool
def bF (agg:Bool) (size:Nat) (p:VV) (H:aA):Option VV :=
 match p with
 | .cI x o=>dO agg size x o
 |
  .ptr b g j o=>match aG H b g with
  |
   some (es,_,_)=>match es[j]? with
   | some x=>dO agg size x o
   | none=>none
  | none=>none
 | _=>none
def bJ (size:Nat) (x i:VV) (H:aA):Option VV :=
 match x,i with
 |
  .tree es _,.sc (.int _ i)=>if 0≤i then match es[i.toNat]? with
  | some x=>if (aB x).length=size then some (.cI x 0) else none
  | none=>none
  else none
 |
  .ref b g o n _,.sc (.int _ i)=>match aG H b g with
  | some (_,e,_)=>if e=size∧0≤i∧i<n then some (.ptr b g (o+i.toNat) 0) else none
  | none=>none
 | _,_=>none
def Hf (size:Nat) (x:VV) (l h m:Option VV) (H:aA):Option VV :=
 match Ix l,Ix h,Ix m with
 |
  some lv,some hv,some mv =>
  match x with
  |
   .tree (y::ys) _ =>
   if (aB y).length=size then
    match fF mv (some (ys.length+1)) (ys.length+1) with
    | none=>none
    |
     some m=>match fF hv (if mv.isSome then none else some (ys.length+1)) m with
     | none=>none
     |
      some h=>match fF lv (some 0) h with
      | none=>none
      | some l=>if mv.isSome∧m=l then some (.tree [] (.cl size)) else some (.tree (((y::ys).drop l).take (h-l)) .op)
   else none
  |
   .ref b g o n c =>
   match aG H b g with
   |
    some (_,e,_) =>
    if e=size then
     match fF mv (some c) c with
     | none=>none
     |
      some m=>match fF hv (if mv.isSome then none else some n) m with
      | none=>none
      |
       some h=>match fF lv (some 0) h with
       | none=>none
       | some l=>if mv.isSome∧m=l then some (.tree [] (.cl size)) else some (.ref b g (o+l) (h-l) (m-l))
    else none
   | none=>none
  | _=>none
 | _,_,_=>none
def K2:List VV→Option (List UInt8)
 | []=>some []
 | .sc (.int .u8 n)::r=>(K2 r).map (UInt8.ofNat n.toNat :: ·)
 | _=>none
def cW (size:Nat) (y:VV) (H:aA):Option (List VV) :=
 match y with
 | .tree es _=>if es.all fun x=>(aB x).length == size&&(aB x).all bO then some es else none
 |
  .ref b g o n _=>match aG H b g with
  | some (es,e,_)=>if e=size∧o+n≤es.length∧(((es.drop o).take n).all fun x=>(aB x).all bO) then some ((es.drop o).take n) else none
  | none=>none
 | .sc (.string s)=>if size=1 then some (s.data.toList.map fun b => .sc (.int .u8 b.toNat)) else none
 | _=>none
def dP (lo size bytes:Nat) (x:VV) (new:List VV) (H:aA):Option (VV×aA) :=
 if 1≤bytes∧1≤size then
  match x with
  | .tree [] .nil=>if new.length=0 then some (x,H) else if new.length*bytes≤140737488355328 then some (.ref H.length 0 0 new.length new.length,H++[.row 0 new size true]) else none
  | .tree es (.cl e)=>if e=size then (if new.length=0 then some (x,H) else if (es.length+new.length)*bytes≤140737488355328 then some (.ref H.length 0 0 (es.length+new.length) (es.length+new.length),H++[.row 0 (es++new) size true]) else none) else none
  |
   .ref b g o n c=>match aG H b g with
   |
    some (es,e,true) =>
    if e=size∧lo≤b∧o+n≤es.length then
     if n+new.length≤c then
      if new.length=0 then some (x,H)
      else if o+n+new.length≤es.length then some (.ref b g o (n+new.length) c,H.set b (.row g (dE es (o+n) new) e true))
      else none
     else if (n+new.length)*bytes≤140737488355328 then some (.ref b (g+1) 0 (n+new.length) (n+new.length),H.set b (.row (g+1) ((es.drop o).take n++new) e true))
     else none
    else none
   | _=>none
  | _=>none
 else none
def bL (lo size:Nat) (p v:VV) (H:aA):Option aA :=
 match p with
 |
  .ptr b g j o=>match aG H b g with
  |
   some (es,e,true)=>match es[j]? with
   |
    some x =>
    if (aB v).length=size∧lo≤b∧(aB v).all bO then
     if o=0∧size=e then some (H.set b (.row g (es.set j v) e true))
     else if 2≤e∧o+size≤e then some (H.set b (.row g (es.set j (.agg (dE (aB x) o (aB v)))) e true))
     else none
    else none
   | none=>none
  | _=>none
 | _=>none
def BM (zero:List Value) (bytes:Nat) (l c:VV) (H:aA):Option (VV×aA) :=
 match l,c with
 | .sc (.int .i64 l),.sc (.int .i64 c)=>if 0≤l∧l≤c∧c*bytes≤281474976710656∧c≤9223372036854775807 then
  some (.ref H.length 0 0 l.toNat c.toNat,H++[.row 0 (aLn c.toNat (elemOf (zero.map kX))) zero.length true]) else none
 | _,_=>none
def mR (lr:Bool) (zero:List Value) (n:Nat) (parts:List (Nat×VV)) (H:aA):Option (VV×aA) :=
 match zC zero.length (aLn n (elemOf (zero.map kX))) parts with
 | some es=>if (zero.map kX).all bO then (if n=0∨lr=true then some (.ref H.length 0 0 n n,H++[.row 0 es zero.length true]) else some (.tree es (.cl zero.length),H)) else none
 | none=>none
def LP (lo size:Nat) (x y:VV) (H:aA):Option (VV×aA) :=
 match x,cW size y H with
 | .tree [] .nil,some _=>some (.sc (.int .i64 0),H)
 |
  .ref b g o d _,some new=>match aG H b g with
  | some (es,e,true)=>if e=size∧lo≤b∧o+(new.take d).length≤es.length then some (.sc (.int .i64 (new.take d).length),H.set b (.row g (dE es o (new.take d)) e true)) else none
  | _=>none
 | _,_=>none
def Sr (lo:Nat) (zero:List Value) (x:VV) (H:aA):Option aA :=
 match x with
 |
  .ref b g o n _=>match aG H b g with
  | some (es,e,true)=>if n=0 then some H else if e=zero.length∧lo≤b∧o+n≤es.length∧(zero.map kX).all bO then some (H.set b (.row g (dE es o (aLn n (elemOf (zero.map kX)))) e true)) else none
  | _=>none
 | _=>none
def Iz (neg:Bool) (x:VV) (H:aA):Option VV :=
 match x with
 | .tree [] .nil=>some (.sc (.bool (true != neg)))
 | .tree [] (.cl _)=>some (.sc (.bool (false != neg)))
 | .tree (_::_) _=>some (.sc (.bool (false != neg)))
 | .ref b g _ _ _=>(aG H b g).map fun _ => .sc (.bool (false != neg))
 | _=>none
def rW (x:VV) (H:aA):Option VV :=
 match x with
 | .tree es _=>some (.sc (.int .i64 es.length))
 | .ref b g _ n _=>(aG H b g).map fun _ => .sc (.int .i64 n)
 | _=>none
def yG (off:Nat) (x:VV) (H:aA):Option VV :=
 match x with
 | .cI x o=>some (.cI x (o+off))
 | .ptr b g j o=>(aG H b g).map fun _ => .ptr b g j (o+off)
 | _=>none
def MU (x:VV) (H:aA):Option VV :=
 match x with
 | .cI x o=>some (.cI x o)
 | .ptr b g j o=>(aG H b g).map fun _ => .ptr b g j o
 | _=>none
def zI (x:VV) (l h:Option VV):Option VV :=
 match x,Ix l,Ix h with
 |
  .sc (.string s),some lv,some hv=>match Ck lv hv s.size with
  | some (l,h)=>some (.sc (.string (s.extract l h)))
  | none=>none
 | _,_,_=>none
def apM (agg:Bool) (off size:Nat) (x:VV):Option VV :=
 match x with
 | .agg cs=>if agg then (if off+size≤cs.length then some (.agg ((cs.drop off).take size)) else none) else cs[off]?
 | _=>none
def P0 (f:Value→Option Value) (x:VV):Option VV :=
 match x with
 | .sc a=>(f a).map .sc
 | _=>none
def Ko (f:Value→Value→Option Value) (x y:VV):Option VV :=
 match x,y with
 | .sc a,.sc b=>(f a b).map .sc
 | _,_=>none
def V3 (c a b:VV):Option VV :=
 match c with
 | .sc (.bool t)=>some (if t then a else b)
 | _=>none
def ajA (i:Nat) (x:VV):Option VV :=
 match x with
 | .eG vs=>vs[i]?
 | _=>none
def XE (neg:Bool) (ks:List CK) (x y:VV):Option VV :=
 match x,y with
 | .agg a,.agg b=>(tU ks a b).map fun t => .sc (.bool (t != neg))
 | _,_=>none
def afC:Value→Option Value
 | .string s=>some (.string s)
 | _=>none
def Dl:Value→Option Value
 | .string s=>some (.int .i64 s.size)
 | _=>none
def I8:Value→Value→Option Value
 | .string s,.int _ i=>if 0≤i∧i<s.size then some (.int .u8 ((s.data.toList.getD i.toNat 0).toNat:Int)) else none
 | _,_=>none
def vop (fl:Fl) (lo:Nat) (o:qE) (ρ:cV) (H:aA):Option (VV×aA) :=
 match o with
 | .mv x=>some (fG ρ x,H)
 | .pick c a b=>(V3 (fG ρ c) (fG ρ a) (fG ρ b)).map (·,H)
 | .bin op x y=>(Ko (dK op) (fG ρ x) (fG ρ y)).map (·,H)
 | .eqb neg x y=>(Ko (Ol neg) (fG ρ x) (fG ρ y)).map (·,H)
 | .isnil neg x=>(Iz neg (fG ρ x) H).map (·,H)
 | .eqagg neg ks x y=>(XE neg ks (fG ρ x) (fG ρ y)).map (·,H)
 | .un op x=>(P0 (pun op) (fG ρ x)).map (·,H)
 | .cvt k x=>(P0 (Xo k) (fG ρ x)).map (·,H)
 | .cvs x=>(P0 afC (fG ρ x)).map (·,H)
 | .ext x i=>(ajA i (fG ρ x)).map (·,H)
 | .fld agg off size x=>(apM agg off size (fG ρ x)).map (·,H)
 | .build zero places parts=>(AZ places (zero.map kX) (parts.map fun(i,x)=>(i,fG ρ x))).map fun cs=>(.agg cs,H)
 | .chk x=>(MU (fG ρ x) H).map (·,H)
 | .faddr off x=>(yG off (fG ρ x) H).map (·,H)
 | .iaddr size x i=>(bJ size (fG ρ x) (fG ρ i) H).map (·,H)
 | .sidx x i=>(Ko I8 (fG ρ x) (fG ρ i)).map (·,H)
 | .ssub x l h=>(zI (fG ρ x) (l.map (fG ρ)) (h.map (fG ρ))).map (·,H)
 | .mkfn f gD=>some (.xT f (gD.map (fG ρ)),H)
 | .len x=>(rW (fG ρ x) H).map (·,H)
 | .slen x=>(P0 Dl (fG ρ x)).map (·,H)
 | .min x y=>(Ko Va (fG ρ x) (fG ρ y)).map (·,H)
 | .max x y=>(Ko WE (fG ρ x) (fG ρ y)).map (·,H)
 | .load agg size p=>(bF agg size (fG ρ p) H).map (·,H)
 | .sub size x l h m=>(Hf size (fG ρ x) (l.map (fG ρ)) (h.map (fG ρ)) (m.map (fG ρ)) H).map (·,H)
 |
  .b2s x=>match fG ρ x with
  | .sc _=>none
  |
   y=>match cW 1 y H with
   | some es=>(K2 es).map fun bs=>(.sc (.string ⟨bs.toArray⟩),H)
   | none=>none
 | .new zero=>if (zero.map kX).all bO then some (.ptr H.length 0 0 0,H++[.row 0 [elemOf (zero.map kX)] zero.length true]) else none
 | .box x=>if (aB (fG ρ x)).all bO then (if fl.bf then some (.cI (fG ρ x) 0,H) else some (.ptr H.length 0 0 0,H++[.row 0 [fG ρ x] (aB (fG ρ x)).length true])) else none
 | .make zero bytes l c=>if (zero.map kX).all bO then BM zero bytes (fG ρ l) (fG ρ c) H else none
 | .lit zero n parts=>mR fl.lr zero n (parts.map fun(i,x)=>(i,fG ρ x)) H
 | .store size p v=>(bL lo size (fG ρ p) (fG ρ v) H).map fun H'=>(tE,H')
 |
  .app size bytes x y=>match cW size (fG ρ y) H with
  | some new=>dP lo size bytes (fG ρ x) new H
  | none=>none
 |
  .appz zero bytes x n=>match fG ρ n with
  | .sc (.int .i64 n)=>if 0≤n∧n*bytes≤140737488355328∧(zero.map kX).all bO then dP lo zero.length bytes (fG ρ x) (aLn n.toNat (elemOf (zero.map kX))) H else none
  | _=>none
 | .copy size x y=>LP lo size (fG ρ x) (fG ρ y) H
 | .clear zero x=>(Sr lo zero (fG ρ x) H).map fun H'=>(tE,H')
 | _=>none
inductive VBx where
 | no
 | row (i:Nat) (w:Bool)
 | Ec (i:Nat)
 | tree
 | bad
def pN (H:aA):VV→VBx
 | .tree [] .nil => .no
 | .tree _ _ => .tree
 | .cI _ _ => .tree
 |
  .ref b g _ _ _=>match aG H b g with
  | some (_,_,w) => .row b w
  | none => .Ec b
 |
  .ptr b g _ _=>match aG H b g with
  | some (_,_,w) => .row b w
  | none => .Ec b
 | .any => .bad
 | _ => .no
def lO (H:aA) (x y:VV):Bool :=
 match pN H x,pN H y with
 | .bad,_=>false
 | _,.bad=>false
 | .no,_=>true
 | _,.no=>true
 | .row i _,.row j _=>i != j
 | .row i _,.Ec j=>i != j
 | .Ec i,.row j _=>i != j
 | .Ec _,.Ec _=>false
 | .Ec _,.tree=>false
 | .tree,.Ec _=>false
 | .row _ w,.tree=>w
 | .tree,.row _ w=>w
 | .tree,.tree=>false
def gP (ρ:cV) (H:aA) (c:Operand×Operand):Bool:=lO H (fG ρ c.1) (fG ρ c.2)
def D6 (g:Option (Nat×Bool)) (ρ:cV):Option Bool :=
 match g with
 | none=>some true
 |
  some (t,want)=>match ρ t with
  | .sc (.bool b)=>some (b == want)
  | .eG _=>some false
  | _=>none
def fz:Nat→aA→VV→Option VV
 | 0,_,_=>none
 |
  d+1,H,v =>
  if aY v then some v else
  match v with
  | .agg cs=>(cs.mapM (fz d H)).map .agg
  | .eG vs=>(vs.mapM (fz d H)).map .eG
  | .tree es _=>(es.mapM (fz d H)).map (.tree · .op)
  | .cI x o=>(fz d H x).map (.cI · o)
  |
   .ref b g o n c=>match aG H b g with
   | some (es,_,_)=>if o+n≤es.length∧n≤c then (((es.drop o).take n).mapM (fz d H)).map (.tree · .op) else none
   | none=>none
  |
   .ptr b g j o=>match aG H b g with
   |
    some (es,_,_)=>match es[j]? with
    | some x=>(fz d H x).map (.cI · o)
    | none=>none
   | none=>none
  | .xT f gD=>(gD.mapM (fz d H)).map (.xT f ·)
  | _=>none
def iT:Nat→aA→VV→List Nat
 | 0,_,_=>[]
 |
  d+1,H,v =>
  if aY v then [] else
  match v with
  | .agg cs=>cs.flatMap (iT d H)
  | .eG vs=>vs.flatMap (iT d H)
  | .tree es _=>es.flatMap (iT d H)
  | .cI x _=>iT d H x
  |
   .ref b g o n _=>match aG H b g with
   | some (es,_,_)=>b::((es.drop o).take n).flatMap (iT d H)
   | none=>[]
  |
   .ptr b g j _=>match aG H b g with
   |
    some (es,_,_)=>match es[j]? with
    | some x=>b::iT d H x
    | none=>[]
   | none=>[]
  | .xT _ gD=>gD.flatMap (iT d H)
  | _=>[]
def D7 (H:aA) (b:Nat):aA :=
 match H[b]? with
 | some (.row g es e _)=>H.set b (.row g es e false)
 | _=>H
def dA (H:aA) (ids:List Nat):aA:=ids.foldl D7 H
def depth:Nat:=8
end Go.PM
namespace Go.PM
structure View where
 m:Nat→Nat
 F:Nat→Prop
 H:aA
 P:aI
 base:Nat
def kindOk (k:TK) (n c e:Nat) (p:Bool):Prop :=
 match k with
 | .op=>True
 | .cl e'=>e'=e∧c=n∧p=false
 | .nil=>False
mutual
inductive VR (V:View):VV→Value→Prop
 | any (v:Value):VR V .any v
 | sc (v:Value) (h:qC v=true):VR V (.sc v) v
 | agg (cs:List VV) (ps:List Value) (h:VL V cs ps):VR V (.agg cs) (.agg ps.toArray)
 | eG (cs:List VV) (ps:List Value) (h:VL V cs ps):VR V (.eG cs) (.tuple ps.toArray)
 | pM (k:TK) (hk:k = .op∨k = .nil):VR V (.tree [] k) (.slice none 0 0)
 | tree (es:List VV) (k:TK) (b o c:Nat) (r:List Value) (e:Nat) (p:Bool) (hF:V.F b) (hb:V.P[b]? = some (.row r e p)) (ho:o+es.length*e≤r.length)
  (hc:es.length≤c) (he:∀x∈es,(aB x).length=e) (hk:kindOk k es.length c e p) (hl:VL V (es.flatMap aB) ((r.drop o).take (es.length*e))) :
  VR V (.tree es k) (.slice (some ⟨b,o,none⟩) es.length c)
 | cI (x:VV) (off b o:Nat) (r:List Value) (e:Nat) (p:Bool) (hF:V.F b) (hb:V.P[b]? = some (.row r e p)) (ho:o+(aB x).length≤r.length)
  (hl:VL V (aB x) ((r.drop o).take (aB x).length)):VR V (.cI x off) (.pointer (some ⟨b,o+off,none⟩))
 | ref (b g o n c:Nat) (a:Option Addr) (n' c':Nat) (bH:b<V.H.length) (hg:∀g' es e w,V.H[b]? = some (.row g' es e w)→g≤g')
  (h:∀es e w,V.H[b]? = some (.row g es e w)→a=some ⟨V.m b,o*e,none⟩∧n'=n∧c'=c)
  (hq:∀a0,a=some a0→V.base≤a0.block∧a0.block<V.P.length∧∀b' g' es e w,V.H[b']? = some (.row g' es e w)→b'≠b→V.m b'≠a0.block):VR V (.ref b g o n c) (.slice a n' c')
 | ptr (b g j off:Nat) (a:Option Addr) (bH:b<V.H.length) (hg:∀g' es e w,V.H[b]? = some (.row g' es e w)→g≤g')
  (h:∀es e w,V.H[b]? = some (.row g es e w)→a=some ⟨V.m b,j*e+off,none⟩)
  (hq:∀a0,a=some a0→V.base≤a0.block∧a0.block<V.P.length∧∀b' g' es e w,V.H[b']? = some (.row g' es e w)→b'≠b→V.m b'≠a0.block):VR V (.ptr b g j off) (.pointer a)
 | xT (f:Nat) (gD:List VV) (ps:List Value) (h:VL V gD ps):VR V (.xT f gD) (.func (.func f) #[] ps.toArray)
inductive VL (V:View):List VV→List Value→Prop
 | nil:VL V [] []
 | cons (x:VV) (v:Value) (xs:List VV) (vs:List Value) (h:VR V x v) (hs:VL V xs vs):VL V (x::xs) (v::vs)
end
structure Up (V V':View):Prop where
 F:∀b,V.F b→V'.F b
 P:∀b,V.F b→V'.P[b]? = V.P[b]?
 len:V.H.length≤V'.H.length
 row:∀b g' oQ e w',b<V.H.length→V'.H[b]? = some (.row g' oQ e w')→∃g es w,V.H[b]? = some (.row g es e w)∧g≤g'∧(g'=g→V'.m b=V.m b)
 NC:V'.base=V.base
 Hm:V.P.length≤V'.P.length
 Ec:∀b g es e w,V'.H[b]? = some (.row g es e w)→V'.m b<V.P.length→∃g0 es0 w0,V.H[b]? = some (.row g0 es0 e w0)∧V'.m b=V.m b∧(w=true→w0=true)
section
variable {V V' UY:View}
theorem Up.refl (V:View):Up V V:=⟨fun _ h=>h,fun _ _=>rfl,aKx _,fun b g es e w _ h=>⟨g,es,w,h,aKx _,fun _=>rfl⟩,rfl,aKx _,fun b g es e w h _=>⟨g,es,w,h,rfl,id⟩⟩
theorem Up.trans (h:Up V V') (h':Up V' UY):Up V UY :=
 ⟨fun b hb=>h'.F b (h.F b hb),fun b hb=>(h'.P b (h.F b hb)).trans (h.P b hb),aKy h.len h'.len,fun b g es e w hb hr=>by
  obtain⟨g1,EL,w1,h1,h2,h3⟩:=h'.row b g es e w (aKz hb h.len) hr
  obtain⟨g2,SN,w2,h4,h5,h6⟩:=h.row b g1 EL e w1 hb h1
  exact⟨g2,SN,w2,h4,aKy h5 h2,fun hg=>(h3 (by omega)).trans (h6 (by omega))⟩,h'.NC.trans h.NC,aKy h.Hm h'.Hm,fun b g es e w hb hm=>by
   obtain⟨g1,EL,w1,h1,h2,h3⟩:=h'.Ec b g es e w hb (aKz hm h.Hm)
   obtain⟨g2,SN,w2,h4,h5,h6⟩:=h.Ec b g1 EL e w1 h1 (by rw[←h2];exact hm)
   exact⟨g2,SN,w2,h4,h2.trans h5,fun hw=>h6 (h3 hw)⟩⟩
theorem Up.hq (u:Up V V') {b q:Nat} (h:V.base≤q∧q<V.P.length∧∀b' g' es e w,V.H[b']? = some (.row g' es e w)→b'≠b→V.m b'≠q):V'.base≤q∧q<V'.P.length∧∀b' g' es e w,V'.H[b']? = some (.row g' es e w)→b'≠b→V'.m b'≠q:=by
 refine⟨by rw[u.NC];exact h.1,aKz h.2.1 u.Hm,fun b' g' es e w hb fS hm => ?_⟩
 obtain⟨g0,es0,w0,h1,h2,_⟩:=u.Ec b' g' es e w hb (by rw[hm];exact h.2.1)
 exact h.2.2 b' _ _ _ _ h1 fS (h2.symm.trans hm)
theorem VR.mono (u:Up V V') {x:VV} {v:Value} (h:VR V x v):VR V' x v:=by
 induction h using VR.rec (motive_2:=fun xs vs _=>VL V' xs vs) with
 | any=>exact .any _
 | sc _ h=>exact .sc _ h
 | agg cs ps _ ih=>exact .agg _ _ ih
 | eG cs ps _ ih=>exact .eG _ _ ih
 | pM k hk=>exact .pM k hk
 | tree es k b o c r e p hF hb ho hc he hk _ ih=>exact .tree es k b o c r e p (u.F _ hF) (by rw[u.P _ hF];exact hb) ho hc he hk ih
 | cI x off b o r e p hF hb ho _ ih=>exact .cI x off b o r e p (u.F _ hF) (by rw[u.P _ hF];exact hb) ho ih
 |
  ref b g o n c a n' c' bH hg h hq =>
  refine .ref b g o n c a n' c' (aKz bH u.len) (fun g' es e w hr => ?_) (fun es e w hr => ?_) fun a0 ha=>u.hq (hq a0 ha)
  ·obtain⟨g1,EL,w1,h1,h2,_⟩:=u.row b g' es e w bH hr
   exact aKy (hg _ _ _ _ h1) h2
  ·obtain⟨g1,EL,w1,h1,h2,h3⟩:=u.row b g es e w bH hr
   have h4:=hg _ _ _ _ h1
   have h5:g=g1:=by omega
   subst h5
   rw[h3 rfl]
   exact h _ _ _ h1
 |
  ptr b g j off a bH hg h hq =>
  refine .ptr b g j off a (aKz bH u.len) (fun g' es e w hr => ?_) (fun es e w hr => ?_) fun a0 ha=>u.hq (hq a0 ha)
  ·obtain⟨g1,EL,w1,h1,h2,_⟩:=u.row b g' es e w bH hr
   exact aKy (hg _ _ _ _ h1) h2
  ·obtain⟨g1,EL,w1,h1,h2,h3⟩:=u.row b g es e w bH hr
   have h4:=hg _ _ _ _ h1
   have h5:g=g1:=by omega
   subst h5
   rw[h3 rfl]
   exact h _ _ _ h1
 | xT f gD ps _ ih=>exact .xT _ _ _ ih
 | nil=>exact .nil
 | cons x v xs vs _ _ ih Xb=>exact .cons _ _ _ _ ih Xb
theorem VL.mono (u:Up V V') {xs:List VV} {vs:List Value} (h:VL V xs vs):VL V' xs vs:=by
 induction xs generalizing vs with
 | nil=>cases h;exact .nil
 |
  cons x xs ih=>cases h with
  | cons _ v _ vs h hs=>exact .cons _ _ _ _ (h.mono u) (ih hs)
end
section
variable {V:View} {xs ys:List VV} {vs ws:List Value}
theorem VL.length:∀ {xs:List VV} {vs:List Value},VL V xs vs→vs.length=xs.length
 | _,_,.nil=>rfl
 | _,_,.cons _ _ _ _ _ hs=>by simp[hs.length]
theorem VL.append:∀ {xs:List VV} {vs:List Value},VL V xs vs→VL V ys ws→VL V (xs++ys) (vs++ws)
 | _,_,.nil,h'=>h'
 | _,_,.cons _ _ _ _ h hs,h' => .cons _ _ _ _ h (hs.append h')
theorem VL.take (n:Nat):∀ {xs:List VV} {vs:List Value} ,VL V xs vs→VL V (xs.take n) (vs.take n):=by
 induction n with
 | zero=>intro xs vs _;simp;exact .nil
 |
  succ n ih=>intro xs vs h;cases h with
  | nil=>simp;exact .nil
  | cons x v xs vs h hs=>exact .cons _ _ _ _ h (ih hs)
theorem VL.drop (n:Nat):∀ {xs:List VV} {vs:List Value} ,VL V xs vs→VL V (xs.drop n) (vs.drop n):=by
 induction n with
 | zero=>intro xs vs h;simpa using h
 |
  succ n ih=>intro xs vs h;cases h with
  | nil=>simp;exact .nil
  | cons x v xs vs h hs=>exact ih hs
theorem VL.get (h:VL V xs vs) {i:Nat} {x:VV} (hx:xs[i]? = some x):∃v,vs[i]? = some v∧VR V x v:=by
 induction i generalizing xs vs with
 |
  zero=>cases h with
  | nil=>cases hx
  | cons y v xs vs h hs=>simp at hx;subst hx;exact⟨v,rfl,h⟩
 |
  succ i ih=>cases h with
  | nil=>cases hx
  | cons y v xs vs h hs=>exact ih hs (by simpa using hx)
theorem VL.map {α:Type} {f:α→VV} {g:α→Value}:∀ {l:List α},(∀x∈l,VR V (f x) (g x))→VL V (l.map f) (l.map g)
 | [],_ => .nil
 | x::l,h => .cons _ _ _ _ (h x (by simp)) (VL.map fun y hy=>h y (by simp[hy]))
theorem VL.replicate {x:VV} {v:Value} (h:VR V x v):∀n,VL V (aLn n x) (aLn n v)
 | 0 => .nil
 | n+1 => .cons _ _ _ _ h (VL.replicate h n)
theorem VL.kI {cs new:List VV} {ps pn:List Value} (h:VL V cs ps) (hn:VL V new pn) (o:Nat):VL V (dE cs o new) (kI ps o pn):=by
 unfold dE PM.kI
 rw[←hn.length]
 exact((h.take o).append hn).append (h.drop _)
theorem VR.kX (v:Value):VR V (kX v) v:=by
 unfold PM.kX
 split
 ·exact .pM _ (.inr rfl)
 ·split
  ·rename_i h;exact .sc _ h
  ·exact .any _
theorem VR.inj (v:Value):VR V (inj v) v:=by
 unfold PM.inj
 split
 ·rename_i cs
  have:(Value.agg cs) = .agg cs.toList.toArray:=by simp
  rw[this]
  refine .agg _ _ ?_
  have:=VL.map (V:=V) (f:=PM.kX) (g:=id) (l:=cs.toList) fun x _=>VR.kX x
  simpa using this
 ·rename_i vs
  split
  ·rename_i h
   have:vs=[].toArray:=by simpa using h
   rw[this]
   exact .eG _ _ .nil
  ·exact .any _
 ·exact VR.kX _
theorem VL.zero (z:List Value):VL V (z.map PM.kX) z:=by
 have:=VL.map (V:=V) (f:=PM.kX) (g:=id) (l:=z) fun x _=>VR.kX x
 simpa using this
theorem VR.cells {x:VV} {v:Value} (h:VR V x v) (hx:x ≠ .any):VL V (aB x) (aV v):=by
 cases h with
 | any=>exact absurd rfl hx
 |
  sc v h =>
  have:aV v=[v]:=by cases v<;>first | rfl | cases h
  rw[this]
  exact .cons _ _ _ _ (.sc v h) .nil
 | agg cs ps h=>simpa[aB,aV] using h
 | eG cs ps h=>exact .cons _ _ _ _ (.eG _ _ h) .nil
 | pM k hk=>exact .cons _ _ _ _ (.pM k hk) .nil
 | tree es k b o c r e p hF hb ho hc he hk hl=>exact .cons _ _ _ _ (.tree es k b o c r e p hF hb ho hc he hk hl) .nil
 | cI x off b o r e p hF hb ho hl=>exact .cons _ _ _ _ (.cI x off b o r e p hF hb ho hl) .nil
 | ref b g o n c a n' c' bH hg h hq=>exact .cons _ _ _ _ (.ref b g o n c a n' c' bH hg h hq) .nil
 | ptr b g j off a bH hg h hq=>exact .cons _ _ _ _ (.ptr b g j off a bH hg h hq) .nil
 | xT f gD ps h=>exact .cons _ _ _ _ (.xT _ _ _ h) .nil
theorem VR.iP {x:VV} {v:Value} (h:VR V x v) (hx:bO x=true):iP v=true:=by
 cases h with
 | sc v h=>cases v<;>first | rfl | cases h
 | any=>cases hx
 | agg=>cases hx
 | eG=>cases hx
 | _=>rfl
theorem VL.iP:∀ {xs:List VV} {vs:List Value},VL V xs vs→xs.all bO=true→vs.all PM.iP=true
 | _,_,.nil,_=>rfl
 |
  _,_,.cons _ _ _ _ h hs,hx=>by
  rw[aLp,aK5] at hx ⊢
  exact⟨h.iP hx.1,hs.iP hx.2⟩
theorem XY {x:VV} (h:(aB x).all bO=true):x ≠ .any:=by
 rintro rfl
 cases h
theorem mK {es:List VV} {e:Nat} (he:∀x∈es,(aB x).length=e):(es.flatMap aB).length=es.length*e:=by
 induction es with
 | nil=>simp
 |
  cons x xs ih =>
  rw[aLl,List.length_append,ih fun y hy=>he y (aK6 _ hy),he x aK7,List.length_cons,aLm]
  omega
theorem yO {es:List VV} {e:Nat} (he:∀x∈es,(aB x).length=e) (i:Nat):(es.flatMap aB).drop (i*e)=(es.drop i).flatMap aB:=by
 induction i generalizing es with
 | zero=>simp
 |
  succ i ih =>
  cases es with
  | nil=>simp
  |
   cons x xs =>
   have hx:=he x aK7
   rw[aLl,List.drop_succ_cons,←ih fun y hy=>he y (aK6 _ hy),show (i+1)*e=(aB x).length+i*e by rw[hx,aLm];omega,List.drop_append]
   simp
theorem yA {es:List VV} {e:Nat} (he:∀x∈es,(aB x).length=e) (i:Nat):(es.flatMap aB).take (i*e)=(es.take i).flatMap aB:=by
 induction i generalizing es with
 | zero=>simp
 |
  succ i ih =>
  cases es with
  | nil=>simp
  |
   cons x xs =>
   have hx:=he x aK7
   rw[aLl,aLk,aLl,←ih fun y hy=>he y (aK6 _ hy),show (i+1)*e=(aB x).length+i*e by rw[hx,aLm];omega,List.take_append]
   simp
   exact aLq (by omega)
theorem OY {es:List VV} {e:Nat} (he:∀x∈es,(aB x).length=e) {j:Nat} {x:VV} (hx:es[j]? = some x):((es.flatMap aB).drop (j*e)).take e=aB x:=by
 obtain⟨bH,JK⟩:=aKw.1 hx
 rw[yO he,aKC bH,JK,aLl,List.take_append,←he x (aLr hx)]
 simp
theorem Ax {es new:List VV} {e:Nat} (he:∀x∈es,(aB x).length=e) (hn:∀x∈new,(aB x).length=e) (o:Nat):dE (es.flatMap aB) (o*e) (new.flatMap aB)=(dE es o new).flatMap aB:=by
 unfold dE
 rw[yA he,mK hn,show o*e+new.length*e=(o+new.length)*e by rw[aK2],yO he]
 simp
theorem Ma {es:List VV} {j:Nat} {x:VV} (hj:j<es.length):dE es j [x]=es.set j x:=by
 unfold dE
 rw[aLs,if_pos hj]
 simp
theorem Vg {cs new:List VV} {o:Nat} (h:o+new.length≤cs.length):(dE cs o new).length=cs.length:=by
 unfold dE
 simp
 omega
theorem L4 {cs new:List VV} {o:Nat} {x:VV} (h:x∈dE cs o new):x∈cs∨x∈new:=by
 unfold dE at h
 rw[aLt,aLt] at h
 rcases h with(h | h) | h
 ·exact .inl (aLu h)
 ·exact .inr h
 ·exact .inl (aLv h)
theorem pZ {cs:List VV} (h:cs.all bO=true):aB (elemOf cs)=cs:=by
 unfold elemOf
 split
 ·rename_i x
  simp only[aLp,List.all_nil,Bool.and_true] at h
  cases x<;>first | rfl | cases h
 ·rfl
theorem cB {H:aA} {b g:Nat} {es:List VV} {e:Nat} {w:Bool}:aG H b g=some (es,e,w)↔H[b]? = some (.row g es e w):=by
 unfold aG
 constructor
 ·intro h
  split at h
  ·rename_i hb
   split at h
   ·rename_i hg;subst hg;cases h;exact hb
   ·cases h
  ·cases h
 ·intro h
  rw[h]
  simp
end
structure SR (V:View) (lo fA:Nat):Prop where
 row:∀b g es e w,V.H[b]? = some (.row g es e w)→∃r p,V.P[V.m b]? = some (.row r e p)∧(∀x∈es,(aB x).length=e)∧VL V (es.flatMap aB) r
 wr:∀b g es e,V.H[b]? = some (.row g es e true)→¬V.F (V.m b)∧(lo≤b→fA≤V.m b)
 inj:∀a b g es e w g' oQ e' w',V.H[a]? = some (.row g es e w)→V.H[b]? = some (.row g' oQ e' w')→V.m a=V.m b→a=b
 fr:∀b,V.F b→b<V.P.length
 W3:fA≤V.P.length
 NC:V.base≤V.P.length
structure Hp (lo:Nat) (V V':View):Prop extends Up V V' where
 dC:∀q,q<V.P.length→(∀b g es e,V.H[b]? = some (.row g es e true)→lo≤b→V.m b≠q)→V'.P[q]? = V.P[q]?
 E5:∀q,V'.F q→V.F q∨V.P.length≤q∨∃b g es e w,V.H[b]? = some (.row g es e w)∧V.m b=q
section
variable {V V' UY:View} {lo:Nat}
theorem Hp.refl (lo:Nat) (V:View):Hp lo V V :=
 { Up.refl V with dC:=fun _ _ _=>rfl,E5:=fun _ h => .inl h }
theorem Hp.trans (h:Hp lo V V') (h':Hp lo V' UY):Hp lo V UY :=
 { Up.trans h.toUp h'.toUp with
  dC:=fun q hq hn=>by
   rw[h'.dC q (aKz hq h.Hm) ?_,h.dC q hq hn]
   intro b g es e hb hl hm
   obtain⟨g1,EL,w1,h1,h2,h3⟩:=h.Ec b g es e true hb (by rw[hm];exact hq)
   have:=h3 rfl
   subst this
   exact hn b g1 EL e h1 hl (h2.symm.trans hm)
  E5:=fun q hq=>by
   rcases h'.E5 q hq with h1 | h1 | ⟨b,g,es,e,w,h1,h2⟩
   ·exact h.E5 q h1
   ·exact .inr (.inl (aKy h.Hm h1))
   ·rcases Nat.lt_or_ge q V.P.length with hl | hl
    ·obtain⟨g1,EL,w1,h3,h4,_⟩:=h.Ec b g es e w h1 (by rw[h2];exact hl)
     exact .inr (.inr ⟨b,g1,EL,e,w1,h3,h4.symm.trans h2⟩)
    ·exact .inr (.inl hl) }
end
end Go.PM
namespace Go.PM
def upd (m:Nat→Nat) (b v:Nat):Nat→Nat:=fun k=>if k=b then v else m k
theorem oE {m:Nat→Nat} {b v:Nat}:upd m b v b=v:=by simp[upd]
theorem pD {m:Nat→Nat} {b v k:Nat} (h:k≠b):upd m b v k=m k:=by simp[upd,h]
section
variable {V:View} {lo fA:Nat}
theorem SR.mlt (hS:SR V lo fA) {b g e:Nat} {es:List VV} {w:Bool} (hb:V.H[b]? = some (.row g es e w)):V.m b<V.P.length:=by
 obtain⟨r,p,h,_⟩:=hS.row b g es e w hb
 exact(aKw.1 h).1
theorem D4 (hS:SR V lo fA) (x:Qv):SR { V with P:=V.P++[x],F:=fun q=>V.F q∨q=V.P.length } lo fA∧Hp lo V { V with P:=V.P++[x],F:=fun q=>V.F q∨q=V.P.length }:=by
 have hU:Up V { V with P:=V.P++[x],F:=fun q=>V.F q∨q=V.P.length }:=⟨fun _ h => .inl h,fun b hb=>aKO (hS.fr b hb),aKx _,fun b g es e w _ h=>⟨g,es,w,h,aKx _,fun _=>rfl⟩,rfl,by simp,fun b g es e w hb _=>⟨g,es,w,hb,rfl,id⟩⟩
 refine⟨⟨fun b g es e w hb => ?_,fun b g es e hb=>⟨fun hF => ?_,(hS.wr b g es e hb).2⟩,hS.inj,fun b hb => ?_,by have:=hS.W3;simp;omega,by have:=hS.NC;simp;omega⟩,{ hU with dC:=fun q hq _=>aKO hq,E5:=fun q hq => ?_ }⟩
 ·obtain⟨r,p,h1,h2,h3⟩:=hS.row b g es e w hb
  exact⟨r,p,by rw[←h1];exact aKO (hS.mlt hb),h2,h3.mono hU⟩
 ·rcases hF with hF | hF
  ·exact(hS.wr b g es e hb).1 hF
  ·have h1:V.m b=V.P.length:=hF
   have:=hS.mlt hb
   omega
 ·rcases hb with hb | hb
  ·have:=hS.fr b hb
   simp;omega
  ·subst hb;simp
 ·rcases hq with hq | hq
  ·exact .inl hq
  ·exact .inr (.inl (by omega))
theorem vE (hS:SR V lo fA) {es:List VV} {r:List Value} {e:Nat} (p:Bool) (he:∀x∈es,(aB x).length=e) (hl:VL V (es.flatMap aB) r) :
  SR { V with m:=upd V.m V.H.length V.P.length,H:=V.H++[.row 0 es e true],P:=V.P++[.row r e p] } lo fA∧Hp lo V { V with m:=upd V.m V.H.length V.P.length,H:=V.H++[.row 0 es e true],P:=V.P++[.row r e p] }:=by
 have Ec:∀b g oQ e' w,(V.H++[fN.row 0 es e true])[b]? = some (.row g oQ e' w)→(b=V.H.length∧g=0∧oQ=es∧e'=e∧w=true)∨(b≠V.H.length∧V.H[b]? = some (.row g oQ e' w)):=by
  intro b g oQ e' w hb
  rcases Nat.lt_trichotomy b V.H.length with h | h | h
  ·rw[aKO h] at hb
   exact .inr ⟨by omega,hb⟩
  ·subst h
   rw[List.getElem?_append_right (aKx _)] at hb
   simp at hb
   obtain⟨h1,h2,h3,h4⟩:=hb
   exact .inl ⟨rfl,h1.symm,h2.symm,h3.symm,h4⟩
  ·rw[List.getElem?_eq_none (by simp;omega)] at hb
   cases hb
 have hU:Up V { V with m:=upd V.m V.H.length V.P.length,H:=V.H++[.row 0 es e true],P:=V.P++[.row r e p] } :=
  ⟨fun _ h=>h,fun b hb=>aKO (hS.fr b hb),by simp,fun b g' oQ e' w' bH hb=>by
   rcases Ec b g' oQ e' w' hb with⟨h,_⟩ | ⟨h,hb⟩
   ·omega
   ·exact⟨g',oQ,w',hb,aKx _,fun _=>pD h⟩,rfl,by simp,fun b g oQ e' w hb hm=>by
   rcases Ec b g oQ e' w hb with⟨rfl,_⟩ | ⟨h,hb⟩
   ·simp only[oE] at hm
    omega
   ·exact⟨g,oQ,w,hb,pD h,id⟩⟩
 refine⟨⟨fun b g oQ e' w hb => ?_,fun b g oQ e' hb => ?_,fun a b g EL e1 w1 g' SN e2 w2 ha hb hm => ?_,fun b hb=>by have:=hS.fr b hb;simp;omega,by have:=hS.W3;simp;omega,by have:=hS.NC;simp;omega⟩,
  { hU with dC:=fun q hq _=>aKO hq,E5:=fun q hq => .inl hq }⟩
 ·rcases Ec b g oQ e' w hb with⟨rfl,rfl,rfl,rfl,rfl⟩ | ⟨h,hb⟩
  ·exact⟨r,p,by simp only[oE];simp,he,hl.mono hU⟩
  ·obtain⟨r1,p1,h1,h2,h3⟩:=hS.row b g oQ e' w hb
   refine⟨r1,p1,?_,h2,h3.mono hU⟩
   simp only[pD h]
   rw[aKO (hS.mlt hb)]
   exact h1
 ·rcases Ec b g oQ e' true hb with⟨rfl,_⟩ | ⟨h,hb⟩
  ·simp only[oE]
   exact⟨fun hF=>by have:=hS.fr _ hF;omega,fun _=>hS.W3⟩
  ·simp only[pD h]
   exact hS.wr b g oQ e' hb
 ·rcases Ec a g EL e1 w1 ha with⟨rfl,_⟩ | ⟨h,ha⟩
  ·rcases Ec b g' SN e2 w2 hb with⟨rfl,_⟩ | ⟨h',hb⟩
   ·rfl
   ·simp only[oE,pD h'] at hm
    have:=hS.mlt hb
    omega
  ·rcases Ec b g' SN e2 w2 hb with⟨rfl,_⟩ | ⟨h',hb⟩
   ·simp only[oE,pD h] at hm
    have:=hS.mlt ha
    omega
   ·simp only[pD h,pD h'] at hm
    exact hS.inj a b _ _ _ _ _ _ _ _ ha hb hm
theorem iG {H:aA} {b:Nat} {x:fN} (hb:b<H.length) {a:Nat} {y:fN} (h:(H.set b x)[a]? = some y):(a=b∧y=x)∨(a≠b∧H[a]? = some y):=by
 by_cases he:a=b
 ·subst he
  rw[aKV hb] at h
  cases h
  exact .inl ⟨rfl,rfl⟩
 ·rw[aKW (Ne.symm he)] at h
  exact .inr ⟨he,h⟩
theorem FL (hS:SR V lo fA) {b g e:Nat} {es oQ:List VV} {r':List Value} (hb:V.H[b]? = some (.row g es e true)) (dR:lo≤b) (he:∀x∈oQ,(aB x).length=e) (hl:VL V (oQ.flatMap aB) r') {r:List Value} {p:Bool} (hp:V.P[V.m b]? = some (.row r e p)) :
  SR { V with H:=V.H.set b (.row g oQ e true),P:=V.P.set (V.m b) (.row r' e p) } lo fA∧Hp lo V { V with H:=V.H.set b (.row g oQ e true),P:=V.P.set (V.m b) (.row r' e p) }:=by
 have zB:=(aKw.1 hb).1
 have Qa:=hS.mlt hb
 have hU:Up V { V with H:=V.H.set b (.row g oQ e true),P:=V.P.set (V.m b) (.row r' e p) } :=
  ⟨fun _ h=>h,fun q hq=>aKW (fun h=>(hS.wr b g es e hb).1 (by rw[h];exact hq)),by simp,fun a g' EL e1 w1 bH ha=>by
   rcases iG zB ha with⟨rfl,h⟩ | ⟨_,h⟩
   ·cases h
    exact⟨g,es,true,hb,aKx _,fun _=>rfl⟩
   ·exact⟨g',EL,w1,h,aKx _,fun _=>rfl⟩,rfl,by simp,fun a g1 EL e1 w1 ha _=>by
   rcases iG zB ha with⟨rfl,h⟩ | ⟨fS,h⟩
   ·cases h
    exact⟨g,es,true,hb,rfl,fun _=>rfl⟩
   ·exact⟨g1,EL,w1,h,rfl,id⟩⟩
 refine⟨⟨fun a g1 EL e1 w1 ha => ?_,fun a g1 EL e1 ha => ?_,fun a c g1 EL e1 w1 g2 SN e2 w2 ha hc hm => ?_,fun q hq=>by have:=hS.fr q hq;simp;omega,by have:=hS.W3;simp;omega,by have:=hS.NC;simp;omega⟩,
  { hU with dC:=fun q hq hn=>aKW (hn b g es e hb dR),E5:=fun q hq => .inl hq }⟩
 ·rcases iG zB ha with⟨rfl,h⟩ | ⟨fS,h⟩
  ·cases h
   exact⟨r',p,aKV Qa,he,hl.mono hU⟩
  ·obtain⟨r1,p1,h1,h2,h3⟩:=hS.row a g1 EL e1 w1 h
   exact⟨r1,p1,by rw[←h1];exact aKW (fun hm=>fS (hS.inj _ _ _ _ _ _ _ _ _ _ h hb hm.symm)),h2,h3.mono hU⟩
 ·rcases iG zB ha with⟨rfl,h⟩ | ⟨fS,h⟩
  ·cases h
   exact hS.wr _ _ _ _ hb
  ·exact hS.wr _ _ _ _ h
 ·rcases iG zB ha with⟨rfl,h⟩ | ⟨fS,h⟩<;>rcases iG zB hc with⟨rfl,h'⟩ | ⟨adW,h'⟩
  ·rfl
  ·exact hS.inj _ _ _ _ _ _ _ _ _ _ hb h' hm
  ·exact hS.inj _ _ _ _ _ _ _ _ _ _ h hb hm
  ·exact hS.inj _ _ _ _ _ _ _ _ _ _ h h' hm
theorem X3 (hS:SR V lo fA) {b g e:Nat} {es oQ:List VV} {r':List Value} (hb:V.H[b]? = some (.row g es e true)) (dR:lo≤b) (he:∀x∈oQ,(aB x).length=e) (hl:VL V (oQ.flatMap aB) r') {P1:aI} (hP:P1.length=V.P.length) (hk:∀q,q≠V.m b→P1[q]? = V.P[q]?) (p:Bool) :
  SR { V with m:=upd V.m b V.P.length,H:=V.H.set b (.row (g+1) oQ e true),P:=P1++[.row r' e p] } lo fA∧Hp lo V { V with m:=upd V.m b V.P.length,H:=V.H.set b (.row (g+1) oQ e true),P:=P1++[.row r' e p] }:=by
 have zB:=(aKw.1 hb).1
 have Qa:=hS.mlt hb
 have yR:∀q,q<V.P.length→q≠V.m b→(P1++[Qv.row r' e p])[q]? = V.P[q]? := fun q hq hn=>by rw[aKO (by omega)];exact hk q hn
 have hU:Up V { V with m:=upd V.m b V.P.length,H:=V.H.set b (.row (g+1) oQ e true),P:=P1++[.row r' e p] } :=
  ⟨fun _ h=>h,fun q hq=>yR q (hS.fr q hq) (fun h=>(hS.wr b g es e hb).1 (by rw[←h];exact hq)),by simp,fun a g' EL e1 w1 bH ha=>by
   rcases iG zB ha with⟨rfl,h⟩ | ⟨fS,h⟩
   ·cases h
    exact⟨g,es,true,hb,by omega,fun h=>by omega⟩
   ·exact⟨g',EL,w1,h,aKx _,fun _=>pD fS⟩,rfl,by simp;omega,fun a g1 EL e1 w1 ha hm=>by
   rcases iG zB ha with⟨rfl,h⟩ | ⟨fS,h⟩
   ·simp only[oE] at hm
    omega
   ·exact⟨g1,EL,w1,h,pD fS,id⟩⟩
 refine⟨⟨fun a g1 EL e1 w1 ha => ?_,fun a g1 EL e1 ha => ?_,fun a c g1 EL e1 w1 g2 SN e2 w2 ha hc hm => ?_,fun q hq=>by have:=hS.fr q hq;simp;omega,by have:=hS.W3;simp;omega,by have:=hS.NC;simp;omega⟩,
  { hU with dC:=fun q hq hn=>yR q hq (Ne.symm (hn b g es e hb dR)),E5:=fun q hq => .inl hq }⟩
 ·rcases iG zB ha with⟨rfl,h⟩ | ⟨fS,h⟩
  ·cases h
   refine⟨r',p,?_,he,hl.mono hU⟩
   simp only[oE]
   rw[←hP]
   simp
  ·obtain⟨r1,p1,h1,h2,h3⟩:=hS.row a g1 EL e1 w1 h
   refine⟨r1,p1,?_,h2,h3.mono hU⟩
   simp only[pD fS]
   rw[yR _ (hS.mlt h) (fun hm=>fS (hS.inj _ _ _ _ _ _ _ _ _ _ h hb hm))]
   exact h1
 ·rcases iG zB ha with⟨rfl,h⟩ | ⟨fS,h⟩
  ·cases h
   simp only[oE]
   exact⟨fun hF=>by have:=hS.fr _ hF;omega,fun _=>hS.W3⟩
  ·simp only[pD fS]
   exact hS.wr _ _ _ _ h
 ·rcases iG zB ha with⟨rfl,h⟩ | ⟨fS,h⟩<;>rcases iG zB hc with⟨rfl,h'⟩ | ⟨adW,h'⟩
  ·rfl
  ·simp only[oE,pD adW] at hm
   have:=hS.mlt h'
   omega
  ·simp only[oE,pD fS] at hm
   have:=hS.mlt h
   omega
  ·simp only[pD fS,pD adW] at hm
   exact hS.inj _ _ _ _ _ _ _ _ _ _ h h' hm
def View.freeze (V:View) (b:Nat):View :=
 match V.H[b]? with
 | some (.row _ _ _ _)=>{ V with H:=D7 V.H b,F:=fun q=>V.F q∨q=V.m b }
 | _=>V
theorem Vc (V:View) (b:Nat):(V.freeze b).H=D7 V.H b:=by
 unfold View.freeze D7
 cases h:V.H[b]? with
 | none=>rfl
 | some x=>cases x<;>rfl
theorem anH (V:View) (b:Nat):(V.freeze b).P=V.P:=by
 unfold View.freeze
 split<;>rfl
theorem Ws (V:View) (b:Nat):(V.freeze b).m=V.m:=by
 unfold View.freeze
 split<;>rfl
theorem TD (hS:SR V lo fA) (b:Nat):SR (V.freeze b) lo fA∧Hp lo V (V.freeze b)∧(∀g es e w,V.H[b]? = some (.row g es e w)→(V.freeze b).F (V.m b)):=by
 unfold View.freeze
 split
 case h_2 fS=>exact⟨hS,Hp.refl _ _,fun g es e w h=>absurd h (fS _ _ _ _)⟩
 rename_i g es e w hb
 have zB:=(aKw.1 hb).1
 have hf:D7 V.H b=V.H.set b (.row g es e false):=by unfold D7;rw[hb]
 rw[hf]
 have hU:Up V { V with H:=V.H.set b (.row g es e false),F:=fun q=>V.F q∨q=V.m b } :=
  ⟨fun _ h => .inl h,fun _ _=>rfl,by simp,fun a g' EL e1 w1 bH ha=>by
   rcases iG zB ha with⟨rfl,h⟩ | ⟨_,h⟩
   ·cases h
    exact⟨g,es,w,hb,aKx _,fun _=>rfl⟩
   ·exact⟨g',EL,w1,h,aKx _,fun _=>rfl⟩,rfl,aKx _,fun a g1 EL e1 w1 ha hm=>by
   rcases iG zB ha with⟨rfl,h⟩ | ⟨fS,h⟩
   ·cases h
    exact⟨g,es,w,hb,rfl,fun h=>by cases h⟩
   ·exact⟨g1,EL,w1,h,rfl,id⟩⟩
 refine⟨⟨fun a g1 EL e1 w1 ha => ?_,fun a g1 EL e1 ha => ?_,fun a c g1 EL e1 w1 g2 SN e2 w2 ha hc hm => ?_,fun q hq => ?_,hS.W3,hS.NC⟩,
  { hU with dC:=fun q hq hn=>rfl,E5:=fun q hq => ?_ },fun _ _ _ _ _ => .inr rfl⟩
 ·rcases iG zB ha with⟨rfl,h⟩ | ⟨fS,h⟩
  ·cases h
   obtain⟨r1,p1,h1,h2,h3⟩:=hS.row _ _ _ _ _ hb
   exact⟨r1,p1,h1,h2,h3.mono hU⟩
  ·obtain⟨r1,p1,h1,h2,h3⟩:=hS.row _ _ _ _ _ h
   exact⟨r1,p1,h1,h2,h3.mono hU⟩
 ·rcases iG zB ha with⟨rfl,h⟩ | ⟨fS,h⟩
  ·cases h
  ·refine⟨fun hF => ?_,(hS.wr _ _ _ _ h).2⟩
   rcases hF with hF | hF
   ·exact(hS.wr _ _ _ _ h).1 hF
   ·exact fS (hS.inj _ _ _ _ _ _ _ _ _ _ h hb hF)
 ·rcases iG zB ha with⟨rfl,h⟩ | ⟨fS,h⟩<;>rcases iG zB hc with⟨rfl,h'⟩ | ⟨adW,h'⟩
  ·rfl
  ·exact hS.inj _ _ _ _ _ _ _ _ _ _ hb h' hm
  ·exact hS.inj _ _ _ _ _ _ _ _ _ _ h hb hm
  ·exact hS.inj _ _ _ _ _ _ _ _ _ _ h h' hm
 ·rcases hq with hq | hq
  ·exact hS.fr q hq
  ·subst hq;exact hS.mlt hb
 ·rcases hq with hq | hq
  ·exact .inl hq
  ·exact .inr (.inr ⟨b,g,es,e,w,hb,hq.symm⟩)
end
end Go.PM
namespace Go.PM
section
variable {V:View} {lo fA:Nat} {ρ:cV} {mO:Env}
def ER (V:View) (ρ:cV) (mO:Env):Prop:=∀t,VR V (ρ t) (mO t)
theorem ER.mono {V':View} (u:Up V V') (h:ER V ρ mO):ER V' ρ mO:=fun t=>(h t).mono u
theorem ER.ev (h:ER V ρ mO) (x:Operand):VR V (fG ρ x) (ev mO x):=by
 cases x with
 | tmp t=>exact h t
 | const v=>exact VR.inj v
 | global g=>exact .any _
 | func f=>exact .xT f [] [] .nil
theorem ER.put {d:Option Nat} {x:VV} {v:Value} (h:ER V ρ mO) (hx:VR V x v):ER V (MX ρ d x) (put mO d v):=by
 cases d with
 | none=>exact h
 |
  some d =>
  intro t
  simp only[MX,PM.put]
  split
  ·exact hx
  ·exact h t
theorem ER.evs (h:ER V ρ mO) (xs:List Operand):VL V (xs.map (fG ρ)) (xs.map (PM.ev mO)):=VL.map fun x _=>h.ev x
def iQ (lo fA:Nat) (V:View) (r:Option (Value×aI)) (v:VV) (H':aA):Prop :=
 ∃pv V',r=some (pv,V'.P)∧V'.H=H'∧SR V' lo fA∧Hp lo V V'∧VR V' v pv
theorem iQ.pure (hS:SR V lo fA) {r:Option Value} {v:VV} {pv:Value} (h:r=some pv) (hv:VR V v pv):iQ lo fA V (r.map (·,V.P)) v V.H :=
 ⟨pv,V,by rw[h];rfl,rfl,hS,Hp.refl _ _,hv⟩
theorem iQ.of {V':View} {pv:Value} {v:VV} (h:SR V' lo fA∧Hp lo V V') (hv:VR V' v pv):iQ lo fA V (some (pv,V'.P)) v V'.H:=⟨pv,V',rfl,rfl,h.1,h.2,hv⟩
theorem iQ.same (hS:SR V lo fA) {v:VV} {pv:Value} (hv:VR V v pv):iQ lo fA V (some (pv,V.P)) v V.H :=
 ⟨pv,V,rfl,rfl,hS,Hp.refl _ _,hv⟩
theorem cR {α β:Type} {o:Option α} {f:α→β} {b:β} (h:o.map f=some b):∃a,o=some a∧f a=b:=by
 cases o with
 | none=>cases h
 | some a=>cases h;exact⟨a,rfl,rfl⟩
theorem uL {x:VV} {v u:Value} (h:VR V x u) (hx:x = .sc v):u=v∧qC v=true:=by
 subst hx
 cases h with
 | sc v h=>exact⟨rfl,h⟩
theorem ajP {op:BinOp} {a b c:Value} (h:dK op a b=some c):qC c=true:=by
 unfold dK at h
 split at h
 ·split at h<;>cases h;rfl
 ·split at h<;>cases h;rfl
 ·split at h
  ·split at h<;>first | (cases h;rfl) | (split at h<;>cases h<;>rfl) | cases h
  ·cases h
 ·split at h<;>first | (cases h;rfl) | (split at h<;>cases h<;>rfl) | cases h
 ·cases h
theorem arH {op:UnOp} {a c:Value} (h:pun op a=some c):qC c=true:=by
 unfold pun at h
 split at h<;>cases h<;>rfl
theorem agY {n:Bool} {a b c:Value} (h:Ol n a b=some c):qC c=true:=by
 unfold Ol at h
 split at h<;>cases h;rfl
theorem alX {k:IntKind} {a c:Value} (h:Xo k a=some c):qC c=true:=by
 unfold Xo at h
 split at h<;>cases h;rfl
theorem amV {a c:Value} (h:afC a=some c):qC c=true:=by
 unfold afC at h
 split at h<;>cases h;rfl
theorem adP {a c:Value} (h:Dl a=some c):qC c=true:=by
 unfold Dl at h
 split at h<;>cases h;rfl
theorem abU {a b c:Value} (h:I8 a b=some c):qC c=true:=by
 unfold I8 at h
 split at h
 ·split at h<;>cases h;rfl
 ·cases h
theorem amU {a b c:Value} (h:Va a b=some c):qC c=true:=by
 unfold Va at h
 split at h<;>cases h;rfl
theorem akO {a b c:Value} (h:WE a b=some c):qC c=true:=by
 unfold WE at h
 split at h<;>cases h;rfl
theorem GD (hS:SR V lo fA) {f:Value→Option Value} (hf:∀a c,f a=some c→qC c=true) {x v:VV} {u:Value} (hx:VR V x u) (h:P0 f x=some v):iQ lo fA V ((f u).map (·,V.P)) v V.H:=by
 unfold P0 at h
 split at h
 ·obtain⟨h1,_⟩:=uL hx rfl
  subst h1
  obtain⟨c,hc,rfl⟩:=cR h
  exact iQ.pure hS hc (.sc _ (hf _ _ hc))
 ·cases h
theorem DB (hS:SR V lo fA) {f:Value→Value→Option Value} (hf:∀a b c,f a b=some c→qC c=true) {x y v:VV} {u w:Value} (hx:VR V x u) (hy:VR V y w) (h:Ko f x y=some v):iQ lo fA V ((f u w).map (·,V.P)) v V.H:=by
 unfold Ko at h
 split at h
 ·obtain⟨h1,_⟩:=uL hx rfl
  obtain⟨h2,_⟩:=uL hy rfl
  subst h1 h2
  obtain⟨c,hc,rfl⟩:=cR h
  exact iQ.pure hS hc (.sc _ (hf _ _ _ hc))
 ·cases h
theorem Xx {α:Type} (l:List α) {o n a k:Nat} (h:a+k≤n):(((l.drop o).take n).drop a).take k=(l.drop (o+a)).take k:=by
 rw[List.drop_take,aLw,aLx,aLy (by omega)]
theorem T9 {x v:VV} {agg:Bool} {size off b o e:Nat} {r:List Value} {p:Bool} (hb:V.P[b]? = some (.row r e p)) (ho:o+(aB x).length≤r.length) (hl:VL V (aB x) ((r.drop o).take (aB x).length)) (h:dO agg size x off=some v) :
  ∃u,qP agg size (.pointer (some ⟨b,o+off,none⟩)) V.P=some u∧VR V v u:=by
 unfold dO at h
 cases agg with
 |
  true =>
  simp only[if_true] at h
  split at h
  ·rename_i hs
   cases h
   refine⟨.agg ((r.drop (o+off)).take size).toArray,?_,.agg _ _ ?_⟩
   ·simp only[qP,if_true,CV hb (show o+off+size≤r.length by omega)]
    rfl
   ·have:=(hl.drop off).take size
    rw[Xx _ hs] at this
    exact this
  ·cases h
 |
  false =>
  simp only[aK9,if_false] at h
  obtain⟨u,hu,hv⟩:=hl.get h
  have awL:=(aKw.1 h).1
  rw[List.getElem?_take,if_pos awL,List.getElem?_drop] at hu
  refine⟨u,?_,hv⟩
  have bH:=(aKw.1 hu).1
  simp only[qP,aK9,if_false,CV hb (show o+off+1≤r.length by omega)]
  rw[aKC bH]
  simp only[aLk,List.take_zero]
  rw[List.getElem?_eq_getElem bH] at hu
  injection hu with hu
  rw[hu]
theorem PG (hS:SR V lo fA) {b g e j:Nat} {es:List VV} {w:Bool} {x:VV} (hb:V.H[b]? = some (.row g es e w)) (hx:es[j]? = some x) :
  ∃r p,V.P[V.m b]? = some (.row r e p)∧(aB x).length=e∧j*e+(aB x).length≤r.length∧VL V (aB x) ((r.drop (j*e)).take (aB x).length):=by
 obtain⟨r,p,h1,h2,h3⟩:=hS.row b g es e w hb
 have hxe:=h2 x (aLr hx)
 have hj:=(aKw.1 hx).1
 have hlen:=h3.length
 rw[mK h2] at hlen
 have hm:(j+1)*e≤es.length*e:=aKY _ hj
 rw[aLm] at hm
 refine⟨r,p,h1,hxe,by omega,?_⟩
 have:=(h3.drop (j*e)).take e
 rw[OY h2 hx] at this
 rw[hxe]
 exact this
theorem PK (hS:SR V lo fA) {p v:VV} {u:Value} {agg:Bool} {size:Nat} (hp:VR V p u) (h:bF agg size p V.H=some v):∃w,qP agg size u V.P=some w∧VR V v w:=by
 unfold bF at h
 split at h
 ·cases hp with
  | cI x off b o r e p hF hb ho hl=>exact T9 hb ho hl h
 ·split at h
  ·rename_i es e w hr
   rw[cB] at hr
   split at h
   ·rename_i x hx
    cases hp with
    |
     ptr b g j off a bH hg ha hq =>
     have:=ha _ _ _ hr
     subst this
     obtain⟨r,p,h1,h2,h3,h4⟩:=PG hS hr hx
     exact T9 h1 h3 h4 h
   ·cases h
  ·cases h
 ·cases h
theorem U4 (hS:SR V lo fA) {x i v:VV} {u k:Value} {size:Nat} (hx:VR V x u) (hi:VR V i k) (h:bJ size x i V.H=some v):∃w,SV size u k=some w∧VR V v w:=by
 unfold bJ at h
 split at h
 ·rename_i es tk ik i
  obtain⟨rfl,_⟩:=uL hi rfl
  split at h
  ·rename_i h0
   split at h
   ·rename_i y hy
    split at h
    ·rename_i E4
     cases h
     have bH:=(aKw.1 hy).1
     cases hx with
     | pM=>simp at bH
     |
      tree es k b o c r e p hF hb ho hc he hk hl =>
      have hye:=he y (aLr hy)
      have QC:e=size:=by omega
      subst QC
      have hm:(i.toNat+1)*e≤es.length*e:=aKY _ bH
      rw[aLm] at hm
      refine⟨_,U5 h0 (by omega),?_⟩
      have h1:=(hl.drop (i.toNat*e)).take e
      rw[OY he hy,Xx _ (by omega)] at h1
      exact .cI y 0 b (o+i.toNat*e) r e p hF hb (by omega) (by rw[hye];exact h1)
    ·cases h
   ·cases h
  ·cases h
 ·rename_i b g o n c ik i
  obtain⟨rfl,_⟩:=uL hi rfl
  split at h
  ·rename_i es e w hr
   rw[cB] at hr
   split at h
   ·rename_i hc
    obtain⟨rfl,h0,h1⟩:=hc
    cases h
    cases hx with
    |
     ref b g o n c a n' c' bH hg ha hq =>
     obtain⟨rfl,rfl,rfl⟩:=ha _ _ _ hr
     refine⟨_,U5 h0 h1,.ptr b g (o+i.toNat) 0 _ bH hg (fun oQ e' w' Jc => ?_) fun a0 h=>by cases h;exact hq ⟨V.m b,o*e,none⟩ rfl⟩
     rw[hr] at Jc
     cases Jc
     rw[aK2,Nat.add_zero]
   ·cases h
  ·cases h
 ·cases h
theorem DI {l:Option Operand} {lv:Option Value} (hE:ER V ρ mO) (h:Ix (l.map (fG ρ))=some lv):l.map (ev mO)=lv:=by
 cases l with
 | none=>cases h;rfl
 |
  some x =>
  simp only[Option.map_some,Ix] at h
  split at h
  ·rename_i hv;cases hv
  ·rename_i v hv
   cases h
   injection hv with hv
   obtain⟨h1,_⟩:=uL (hE.ev x) hv
   rw[Option.map_some,h1]
  ·cases h
theorem KG {v:Option Value} {d:Option Nat} {t x:Nat} (hd:∀y,d=some y→y≤t) (h:fF v d t=some x):x≤t:=by
 unfold fF at h
 split at h
 ·exact hd _ h
 ·split at h
  ·cases h;omega
  ·cases h
 ·cases h
theorem QX {v:Option Value} {d d':Option Nat} {t t' x:Nat} (ht:t≤t') (hd:v=none→d=d') (h:fF v d t=some x):fF v d' t'=some x:=by
 unfold fF at h ⊢
 cases v with
 | none=>rw[←hd rfl];exact h
 |
  some v =>
  cases v with
  |
   int k i =>
   simp only at h ⊢
   split at h
   ·rename_i h1;rw[if_pos (by omega)];exact h
   ·cases h
  | _=>simp only at h ⊢;exact h
theorem Se (hS:SR V lo fA) (size:Nat):iQ lo fA V (some (.slice (some ⟨V.P.length,0,none⟩) 0 0,V.P++[.row [] size false])) (.tree [] (.cl size)) V.H:=by
 exact(iQ.of (D4 hS (.row [] size false)) (.tree [] (.cl size) V.P.length 0 0 [] size false (.inr rfl) (by simp) (by simp) (by simp) (fun x hx=>by cases hx) ⟨rfl,rfl,rfl⟩ (by simp;exact .nil)) :)
theorem acS (hS:SR V lo fA) (hE:ER V ρ mO) {x v:VV} {u:Value} {size:Nat} {l h m:Option Operand} (hx:VR V x u) (hv:Hf size x (l.map (fG ρ)) (h.map (fG ρ)) (m.map (fG ρ)) V.H=some v) :
  iQ lo fA V (Fc size u (l.map (ev mO)) (h.map (ev mO)) (m.map (ev mO)) V.P) v V.H:=by
 unfold Hf at hv
 split at hv
 case h_2=>cases hv
 rename_i lv hhv mv hl hh hm
 rw[DI hE hl,DI hE hh,DI hE hm]
 split at hv
 ·rename_i y ys tk
  split at hv
  case isFalse=>cases hv
  rename_i E4
  split at hv
  ·cases hv
  rename_i m0 hm0
  split at hv
  ·cases hv
  rename_i h0 hh0
  split at hv
  ·cases hv
  rename_i l0 Co
  cases hx with
  |
   tree es k b o c r e p hF hb ho hc he hk hl =>
   have QC:e=size:=by rw[←he y aK7];exact E4
   subst QC
   have hlen:(y::ys).length=ys.length+1:=rfl
   rw[hlen] at ho hc
   have b1:m0≤ys.length+1:=KG (fun z hz=>by injection hz with hz;omega) hm0
   have b2:h0≤m0:=by
    refine KG (fun z hz => ?_) hh0
    split at hz
    ·cases hz
    ·rename_i hmn
     injection hz with hz
     have:mv=none:=by cases mv<;>simp_all
     subst this
     simp[fF] at hm0
     omega
   have b3:l0≤h0:=KG (fun z hz=>by injection hz with hz;omega) Co
   have e1:fF mv (some c) c=some (if mv.isSome then m0 else c):=by
    cases mv with
    | none=>rfl
    | some q=>exact QX hc (fun hq=>by cases hq) hm0
   have e2:fF hhv (if mv.isSome then none else some (ys.length+1)) (if mv.isSome then m0 else c)=some h0:=by
    cases mv with
    |
     none =>
     simp only[Option.isSome_none,aK9,if_false] at hh0 ⊢
     exact QX (by omega) (fun _=>rfl) hh0
    | some q=>exact hh0
   unfold Fc
   simp only[hb,if_true]
   rw[e1]
   simp only
   rw[hlen,e2]
   simp only
   rw[Co]
   simp only
   by_cases mJ:mv.isSome=true∧m0=l0
   ·rw[if_pos mJ] at hv
    cases hv
    rw[if_pos ⟨mJ.1,by rw[if_pos mJ.1];exact mJ.2⟩]
    exact Se hS e
   ·rw[if_neg mJ] at hv
    cases hv
    rw[if_neg (fun hh=>mJ ⟨hh.1,by have:=hh.2;rw[if_pos hh.1] at this;exact this⟩)]
    have bH:(((y::ys).drop l0).take (h0-l0)).length=h0-l0:=by simp;omega
    have Qe:l0*e+(h0-l0)*e=h0*e:=by rw[←aK2];congr 1;omega
    have XR:h0*e≤(ys.length+1)*e:=aKY _ (by omega)
    have TY:h0-l0≤(if mv.isSome then m0 else c)-l0:=by split<;>omega
    have:=VR.tree (V:=V) (((y::ys).drop l0).take (h0-l0)) .op b (o+l0*e) ((if mv.isSome then m0 else c)-l0) r e p hF hb (by rw[bH];omega) (by rw[bH];exact TY) (fun z hz=>he z (aLv (aLu hz))) trivial (by
     rw[bH]
     have h1:=(hl.drop (l0*e)).take ((h0-l0)*e)
     rw[Xx _ (by rw[hlen];omega),yO he,yA (fun z hz=>he z (aLv hz))] at h1
     exact h1)
    rw[bH] at this
    exact iQ.same hS this
 ·rename_i b g o n c
  split at hv
  case h_2=>cases hv
  rename_i es e w hr
  rw[cB] at hr
  split at hv
  case isFalse=>cases hv
  rename_i E4
  subst E4
  split at hv
  ·cases hv
  rename_i m0 hm0
  split at hv
  ·cases hv
  rename_i h0 hh0
  split at hv
  ·cases hv
  rename_i l0 Co
  cases hx with
  |
   ref b g o n c a n' c' bH hg ha hq =>
   obtain⟨rfl,rfl,rfl⟩:=ha _ _ _ hr
   obtain⟨r,p,h1,_⟩:=hS.row b g es e w hr
   unfold Fc
   simp only[h1,if_true]
   rw[hm0]
   simp only
   rw[hh0]
   simp only
   rw[Co]
   simp only
   by_cases mJ:mv.isSome=true∧m0=l0
   ·rw[if_pos mJ] at hv
    cases hv
    rw[if_pos mJ]
    exact Se hS e
   ·rw[if_neg mJ] at hv
    cases hv
    rw[if_neg mJ]
    refine iQ.same hS (.ref b g (o+l0) _ _ _ _ _ bH hg (fun oQ e' w' Jc => ?_) fun a0 h=>by cases h;exact hq ⟨V.m b,o*e,none⟩ rfl)
    rw[hr] at Jc
    cases Jc
    exact⟨by rw[aK2],rfl,rfl⟩
 ·cases hv
theorem Dh {es:List VV} (h:(es.all fun x=>(aB x).all bO)=true):(es.flatMap aB).all bO=true:=by
 rw[aKL] at h ⊢
 intro x hx
 obtain⟨y,hy,CR⟩:=aLz.1 hx
 exact aKL.1 (h y hy) x CR
theorem AK (hS:SR V lo fA) {y:VV} {u:Value} {size:Nat} {new:List VV} (hy:VR V y u) (h:cW size y V.H=some new) :
  wT u=some new.length∧(∀x∈new,(aB x).length=size)∧(new.flatMap aB).all bO=true∧∀n,n≤new.length→∃pn,lA V.P size n u=some pn∧VL V ((new.take n).flatMap aB) pn:=by
 unfold cW at h
 split at h
 ·rename_i es tk
  split at h
  case isFalse=>cases h
  rename_i jW
  cases h
  have ajH:∀x∈new,(aB x).length=size∧(aB x).all bO=true:=fun x hx=>by
   have:=aKL.1 jW x hx
   simpa using this
  refine⟨?_,fun x hx=>(ajH x hx).1,Dh (aKL.2 fun x hx=>(ajH x hx).2),fun n hn => ?_⟩
  ·cases hy<;>rfl
  ·cases hy with
   |
    pM k hk =>
    have:n=0:=by simpa using hn
    subst this
    exact⟨[],rfl,by simp;exact .nil⟩
   |
    tree es k b o c r e p hF hb ho hc he hk hl =>
    cases QC:new with
    |
     nil =>
     rw[QC] at hn
     have:n=0:=by simpa using hn
     subst this
     refine⟨[],?_,by simp;exact .nil⟩
     simp only[lA,aLA]
     rw[CV hb (by omega)]
     simp
    |
     cons x xs =>
     have M3:e=size:=by rw[←he x (by rw[QC];exact aK7)];exact(ajH x (by rw[QC];exact aK7)).1
     subst M3
     have hm:n*e≤new.length*e:=aKY _ hn
     refine⟨_,by simp only[lA];exact CV hb (by omega),?_⟩
     rw[←QC,←yA he]
     have h1:=hl.take (n*e)
     rw[aLw,aLy hm] at h1
     exact h1
 ·rename_i b g o n c
  split at h
  case h_2=>cases h
  rename_i es e w hr
  rw[cB] at hr
  split at h
  case isFalse=>cases h
  rename_i hc
  obtain⟨rfl,hlen,jW⟩:=hc
  cases h
  obtain⟨r,p,h1,h2,h3⟩:=hS.row b g es e w hr
  have hn2:((es.drop o).take n).length=n:=by simp;omega
  have BY:=h3.length
  rw[mK h2] at BY
  cases hy with
  |
   ref b g o n c a n' c' bH hg ha hq =>
   obtain⟨rfl,rfl,rfl⟩:=ha _ _ _ hr
   have anG:∀x∈(es.drop o).take n',(aB x).length=e:=fun x hx=>h2 x (aLv (aLu hx))
   refine⟨by rw[hn2];rfl,anG,Dh jW,fun k hk => ?_⟩
   rw[hn2] at hk
   have hm:(o+k)*e≤es.length*e:=aKY _ (by omega)
   rw[aK2] at hm
   refine⟨_,by simp only[lA];exact CV h1 (by omega),?_⟩
   rw[aLw,aLy hk]
   have h4:=(h3.drop (o*e)).take (k*e)
   rw[yO h2,yA (fun x hx=>h2 x (aLv hx))] at h4
   exact h4
 ·rename_i s
  split at h
  case isFalse=>cases h
  rename_i hs
  subst hs
  cases h
  obtain⟨rfl,_⟩:=uL hy rfl
  have hlen:(s.data.toList.map fun b=>VV.sc (.int .u8 (b.toNat:Int))).length=s.size:=by simp
  refine⟨by rw[hlen];rfl,fun x hx => ?_,?_,fun n hn => ?_⟩
  ·obtain⟨b,_,rfl⟩:=List.mem_map.1 hx
   rfl
  ·refine Dh (aKL.2 fun x hx => ?_)
   obtain⟨b,_,rfl⟩:=List.mem_map.1 hx
   rfl
  ·refine⟨(s.data.toList.take n).map fun b=>Value.int .u8 (b.toNat:Int),by simp only[lA,if_true],?_⟩
   rw[←List.map_take,List.flatMap_map]
   have:((s.data.toList.take n).flatMap fun a=>aB (VV.sc (.int .u8 (a.toNat:Int))))=(s.data.toList.take n).map fun a=>VV.sc (.int .u8 (a.toNat:Int)):=by
    generalize s.data.toList.take n=l
    induction l with
    | nil=>rfl
    | cons a l ih=>rw[aLl,ih];rfl
   rw[this]
   exact VL.map fun b _ => .sc _ rfl
 ·cases h
end
end Go.PM
namespace Go.PM
section
variable {V:View} {lo fA:Nat} {ρ:cV} {mO:Env}
theorem NF (hS:SR V lo fA) {es:List VV} {r:List Value} {e n c:Nat} {p:Bool}:VR { V with m:=upd V.m V.H.length V.P.length,H:=V.H++[.row 0 es e true],P:=V.P++[.row r e p] } (.ref V.H.length 0 0 n c) (.slice (some ⟨V.P.length,0,none⟩) n c):=by
 refine .ref _ _ _ _ _ _ _ _ (by simp) (fun g' es e w _=>Nat.zero_le _) (fun oQ e' w' h=>⟨?_,rfl,rfl⟩) fun a0 ha => ?_
 ·simp only[oE,aLA]
 ·cases ha
  refine⟨hS.NC,by simp,fun b' g' oQ e' w' hb fS hm => ?_⟩
  have xF:(V.H++[fN.row 0 es e true])[b']? = some (.row g' oQ e' w'):=hb
  have bH:b'<V.H.length:=by
   have:=(aKw.1 xF).1
   simp at this
   omega
  rw[aKO bH] at xF
  have h2:=hS.mlt xF
  simp only[pD (show b'≠V.H.length by omega)] at hm
  omega
theorem Z8 (hS:SR V lo fA) {es:List VV} {r:List Value} {e:Nat} {p:Bool}:VR { V with m:=upd V.m V.H.length V.P.length,H:=V.H++[.row 0 es e true],P:=V.P++[.row r e p] } (.ptr V.H.length 0 0 0) (.pointer (some ⟨V.P.length,0,none⟩)):=by
 refine .ptr _ _ _ _ _ (by simp) (fun g' es e w _=>Nat.zero_le _) (fun oQ e' w' h => ?_) fun a0 ha => ?_
 ·simp only[oE,aLA]
 ·cases ha
  refine⟨hS.NC,by simp,fun b' g' oQ e' w' hb fS hm => ?_⟩
  have xF:(V.H++[fN.row 0 es e true])[b']? = some (.row g' oQ e' w'):=hb
  have bH:b'<V.H.length:=by
   have:=(aKw.1 xF).1
   simp at this
   omega
  rw[aKO bH] at xF
  have h2:=hS.mlt xF
  simp only[pD (show b'≠V.H.length by omega)] at hm
  omega
theorem J2 (hS:SR V lo fA) {x v:VV} {u:Value} {size bytes:Nat} {nw:List VV} {pn:List Value} {H':aA} (hx:VR V x u) (hn:∀x∈nw,(aB x).length=size) (EI:(nw.flatMap aB).all bO=true) (hl:VL V (nw.flatMap aB) pn) (h:dP lo size bytes x nw V.H=some (v,H')) :
  iQ lo fA V (fL fA size bytes u nw.length pn V.P) v H':=by
 unfold dP at h
 split at h
 case isFalse=>cases h
 rename_i hbs
 have Qa:pn.length=nw.length*size:=by rw[hl.length,mK hn]
 unfold fL
 rw[if_pos ⟨hbs.1,hbs.2,hl.iP EI,Qa⟩]
 split at h
 ·cases hx with
  | tree es k b o c r e p hF hb ho hc he hk hl=>exact hk.elim
  |
   pM =>
   simp only[and_self,if_true]
   split at h
   ·rename_i h0
    cases h
    rw[if_pos h0]
    exact iQ.same hS (.pM _ (.inr rfl))
   ·rename_i h0
    split at h
    case isFalse=>cases h
    rename_i h1
    cases h
    rw[if_neg h0,if_pos h1]
    exact(iQ.of (vE hS (es:=nw) (r:=pn) (e:=size) true hn hl) (NF hS) :)
 ·rename_i es e
  split at h
  case isFalse=>cases h
  rename_i QC
  subst QC
  cases hx with
  | pM k hk=>rcases hk with hk | hk<;>cases hk
  |
   tree es k b o c r e' p hF hb ho hc he hk Ge =>
   obtain⟨h1,h2,h3⟩:=hk
   subst h1 h2 h3
   simp only[hb]
   rw[if_pos ⟨trivial,ho⟩]
   split at h
   ·rename_i h0
    cases h
    rw[if_pos (by omega),if_pos h0]
    exact iQ.same hS (.tree es _ b o _ r e false hF hb ho hc he ⟨rfl,rfl,rfl⟩ Ge)
   ·rename_i h0
    split at h
    case isFalse=>cases h
    rename_i E4
    cases h
    rw[if_neg (by omega),if_pos E4]
    simp only[aK9,if_false]
    have jW:∀x∈es++nw,(aB x).length=e:=fun x hx=>by
     rcases aLt.1 hx with h | h
     ·exact he x h
     ·exact hn x h
    exact(iQ.of (vE hS (es:=es++nw) (r:=(r.drop o).take (es.length*e)++pn) (e:=e) true jW (by rw[aLB];exact Ge.append hl)) (NF hS) :)
 ·rename_i b g o n c
  split at h
  case h_2=>cases h
  rename_i es e hr
  rw[cB] at hr
  split at h
  case isFalse=>cases h
  rename_i hc
  obtain⟨rfl,dR,hon⟩:=hc
  obtain⟨r,p,h1,h2,h3⟩:=hS.row b g es e true hr
  have BY:=h3.length
  rw[mK h2] at BY
  have Hy:=(hS.wr b g es e hr).2 dR
  cases hx with
  |
   ref b g o n c a n' c' bH hg ha hq =>
   obtain⟨rfl,rfl,rfl⟩:=ha _ _ _ hr
   have hm:(o+n')*e≤es.length*e:=aKY _ hon
   rw[aK2] at hm
   simp only[h1]
   rw[if_pos ⟨trivial,by omega⟩]
   split at h
   ·rename_i hnc
    rw[if_pos hnc]
    split at h
    ·rename_i h0
     cases h
     rw[if_pos h0]
     exact iQ.same hS (.ref _ _ _ _ _ _ _ _ bH hg ha hq)
    ·rename_i h0
     split at h
     case isFalse=>cases h
     rename_i xB
     cases h
     rw[if_neg h0]
     have XR:(o+n'+nw.length)*e≤es.length*e:=aKY _ xB
     rw[aK2,aK2] at XR
     have jW:∀x∈dE es (o+n') nw,(aB x).length=e:=fun x hx=>by
      rcases L4 hx with h | h
      ·exact h2 x h
      ·exact hn x h
     have HC:VL V ((dE es (o+n') nw).flatMap aB) (kI r (o*e+n'*e) pn):=by
      rw[←Ax h2 hn,aK2]
      exact h3.kI hl _
     obtain⟨g1,g2⟩:=FL hS hr dR jW HC h1
     refine⟨.slice (some ⟨V.m b,o*e,none⟩) (n'+nw.length) c',{ V with H:=V.H.set b (.row g (dE es (o+n') nw) e true),P:=V.P.set (V.m b) (.row (kI r (o*e+n'*e) pn) e p) },?_,rfl,g1,g2,?_⟩
     ·unfold aI.write
      simp only[h1]
      rw[if_pos ⟨Hy,by omega,hl.iP EI⟩]
      rfl
     ·refine .ref _ _ _ _ _ _ _ _ (by simpa using bH) (fun g' oQ e' w' Jc => ?_) (fun oQ e' w' Jc => ?_) fun a0 h=>by cases h;exact g2.toUp.hq (hq _ rfl)
      ·rcases iG bH Jc with⟨_,h⟩ | ⟨h,_⟩
       ·cases h;exact aKx _
       ·exact absurd rfl h
      ·rcases iG bH Jc with⟨_,h⟩ | ⟨h,_⟩
       ·cases h;exact⟨rfl,rfl,rfl⟩
       ·exact absurd rfl h
   ·rename_i hnc
    split at h
    case isFalse=>cases h
    rename_i E4
    cases h
    rw[if_neg hnc,if_pos E4]
    have jW:∀x∈(es.drop o).take n'++nw,(aB x).length=e:=fun x hx=>by
     rcases aLt.1 hx with h | h
     ·exact h2 x (aLv (aLu h))
     ·exact hn x h
    have HC:VL V (((es.drop o).take n'++nw).flatMap aB) ((r.drop (o*e)).take (n'*e)++pn):=by
     rw[aLB]
     refine VL.append ?_ hl
     have h4:=(h3.drop (o*e)).take (n'*e)
     rw[yO h2,yA (fun x hx=>h2 x (aLv hx))] at h4
     exact h4
    have fin:∀P1:aI,P1.length=V.P.length→(∀q,q≠V.m b→P1[q]? = V.P[q]?) →
      iQ lo fA V (some (.slice (some ⟨V.P.length,0,none⟩) (n'+nw.length) (n'+nw.length),P1++[.row ((r.drop (o*e)).take (n'*e)++pn) e true])) (.ref b (g+1) 0 (n'+nw.length) (n'+nw.length)) (V.H.set b (.row (g+1) ((es.drop o).take n'++nw) e true)):=by
     intro P1 hP hk
     refine(iQ.of (X3 hS hr dR jW HC hP hk true) ?_ :)
     refine .ref _ _ _ _ _ _ _ _ (by simpa using bH) (fun g' oQ e' w' Jc => ?_) (fun oQ e' w' Jc => ?_) fun a0 h => ?_
     ·rcases iG bH Jc with⟨_,h⟩ | ⟨h,_⟩
      ·cases h;exact aKx _
      ·exact absurd rfl h
     ·rcases iG bH Jc with⟨_,h⟩ | ⟨h,_⟩
      ·cases h;exact⟨by simp only[oE,aLA],rfl,rfl⟩
      ·exact absurd rfl h
     ·cases h
      refine⟨hS.NC,by simp[hP],fun b' g' oQ e' w' hb fS hm => ?_⟩
      rcases iG bH hb with⟨h,_⟩ | ⟨_,h⟩
      ·exact fS h
      ·simp only[pD fS] at hm
       have:=hS.mlt h
       omega
    cases p with
    |
     true =>
     simp only[if_true,Hy]
     exact fin (V.P.set (V.m b) .dead) (by simp) fun q hq=>aKW (Ne.symm hq)
    |
     false =>
     simp only[aK9,if_false]
     exact fin V.P rfl fun _ _=>rfl
 ·cases h
theorem UH (hS:SR V lo fA) {p v:VV} {u w:Value} {size:Nat} {H':aA} (hp:VR V p u) (hv:VR V v w) (h:bL lo size p v V.H=some H'):iQ lo fA V (H7 fA size u w V.P) tE H':=by
 unfold bL at h
 split at h
 case h_2=>cases h
 rename_i b g j o
 split at h
 case h_2=>cases h
 rename_i es e hr
 rw[cB] at hr
 split at h
 case h_2=>cases h
 rename_i x hx
 split at h
 case isFalse=>cases h
 rename_i hc
 obtain⟨E4,dR,EI⟩:=hc
 obtain⟨r,q,h1,h2,h3⟩:=hS.row b g es e true hr
 have BY:=h3.length
 rw[mK h2] at BY
 have Hy:=(hS.wr b g es e hr).2 dR
 have hj:=(aKw.1 hx).1
 have hxe:=h2 x (aLr hx)
 have hm:(j+1)*e≤es.length*e:=aKY _ hj
 rw[aLm] at hm
 have mJ:=hv.cells (XY EI)
 have hwl:(aV w).length=size:=by rw[mJ.length,E4]
 cases hp with
 |
  ptr b g j off a bH hg ha hq =>
  have:=ha _ _ _ hr
  subst this
  have fin:∀y:VV,(aB y).length=e→o+size≤e→aB y=dE (aB x) o (aB v)→H'=V.H.set b (.row g (es.set j y) e true)→iQ lo fA V (H7 fA size (.pointer (some ⟨V.m b,j*e+o,none⟩)) w V.P) tE H':=by
   intro y hy ho hye hH
   subst hH
   have jW:∀z∈es.set j y,(aB z).length=e:=fun z hz=>by
    rcases aLC hz with h | h
    ·exact h2 z h
    ·subst h;exact hy
   have HC:VL V ((es.set j y).flatMap aB) (kI r (j*e+o) (aV w)):=by
    have e1:(es.set j y).flatMap aB=dE (es.flatMap aB) (j*e+o) (aB v):=by
     rw[←Ma hj,←Ax h2 (new:=[y]) (fun z hz=>by rw[aLD] at hz;subst hz;exact hy)]
     simp only[aLl,aLE,aLF]
     rw[hye]
     have hx2:=OY h2 hx
     unfold dE
     have t1:(es.flatMap aB).take (j*e+o)=(es.flatMap aB).take (j*e)++(aB x).take o:=by
      rw[List.take_add,←hx2,aLw,aLy (by omega)]
     have t2:(es.flatMap aB).drop (j*e+o+(aB v).length)=(aB x).drop (o+(aB v).length)++(es.flatMap aB).drop (j*e+e):=by
      have t0:(es.flatMap aB).drop (j*e+e)=((es.flatMap aB).drop (j*e+(o+(aB v).length))).drop (e-(o+(aB v).length)):=by
       rw[aLx]
       congr 1
       omega
      rw[←hx2,List.drop_take,aLx,t0,aLG,aKJ]
     rw[t1,t2]
     have t3:(List.take o (aB x)++aB v++List.drop (o+(aB v).length) (aB x)).length=e:=by
      simp;omega
     rw[t3]
     simp only[List.append_assoc]
    rw[e1]
    exact h3.kI mJ _
   obtain⟨g1,g2⟩:=FL hS hr dR jW HC h1
   refine⟨undef,{ V with H:=V.H.set b (.row g (es.set j y) e true),P:=V.P.set (V.m b) (.row (kI r (j*e+o) (aV w)) e q) },?_,rfl,g1,g2,.eG [] [] .nil⟩
   unfold H7
   simp only[hwl,if_true]
   unfold aI.write
   simp only[h1]
   rw[if_pos ⟨Hy,by omega,mJ.iP EI⟩]
   rfl
  split at h
  ·rename_i ho
   obtain⟨rfl,rfl⟩:=ho
   cases h
   refine fin v E4 (by omega) ?_ rfl
   unfold dE
   rw[Nat.zero_add,List.take_zero,List.nil_append,List.drop_of_length_le (by omega),aLF]
  ·split at h
   case isFalse=>cases h
   rename_i ho
   cases h
   have Wt:(dE (aB x) o (aB v)).length=e:=by rw[Vg (by omega)];exact hxe
   exact fin (.agg (dE (aB x) o (aB v))) Wt (by omega) rfl rfl
theorem F1 {z:List Value} (hz:(z.map kX).all bO=true):(aB (elemOf (z.map kX))).length=z.length:=by
 rw[pZ hz,List.length_map]
theorem Eh {z:List Value} (hz:(z.map kX).all bO=true):∀n,VL V ((aLn n (elemOf (z.map kX))).flatMap aB) (dF n z):=by
 intro n
 have EI:z.all iP=true:=(VL.zero (V:=V) z).iP hz
 have alB:dF n z=(aLn n ()).flatMap fun _=>z:=by
  rcases Nat.eq_zero_or_pos z.length with h0 | kZ
  ·have:z=[]:=List.length_eq_zero_iff.1 h0
   subst this
   simp[dF]
  ·exact Wr (enc:=fun(_:Unit)=>z) (gR:=z.length) (x:=()) ⟨fun _=>rfl,fun _=>EI,kZ⟩
 rw[alB]
 clear alB
 induction n with
 | zero=>exact .nil
 |
  succ n ih =>
  rw[aLH,aLH,aLl,aLl,pZ hz]
  exact(VL.zero z).append ih
theorem X8 (hS:SR V lo fA) {z:List Value} {bytes:Nat} {l c v:VV} {u w:Value} {H':aA} (hz:(z.map kX).all bO=true) (hl:VR V l u) (hc:VR V c w) (h:BM z bytes l c V.H=some (v,H')):iQ lo fA V (ZQ z bytes u w V.P) v H':=by
 unfold BM at h
 split at h
 case h_2=>cases h
 obtain⟨rfl,_⟩:=uL hl rfl
 obtain⟨rfl,_⟩:=uL hc rfl
 split at h
 case isFalse=>cases h
 rename_i Uv
 cases h
 unfold ZQ
 simp only[if_pos Uv]
 exact(iQ.of (vE hS (e:=z.length) false (fun x hx=>by rw[aLI hx];exact F1 hz) (Eh hz _)) (NF hS) :)
theorem abX (hS:SR V lo fA) {z:List Value} (hz:(z.map kX).all bO=true):iQ lo fA V (some (.pointer (some ⟨V.P.length,0,none⟩),V.P++[.row z z.length false])) (.ptr V.H.length 0 0 0) (V.H++[.row 0 [elemOf (z.map kX)] z.length true]):=by
 exact(iQ.of (vE hS (es:=[elemOf (z.map kX)]) (r:=z) (e:=z.length) false (fun x hx=>by rw[aLD] at hx;subst hx;exact F1 hz) (by simp only[aLl,aLE,aLF,pZ hz];exact VL.zero z)) (Z8 hS) :)
theorem abP (hS:SR V lo fA) {x v:VV} {u:Value} {H':aA} {bf:Bool} (hx:VR V x u) (hs:(aB x).all bO=true) (h:(if bf=true then some (VV.cI x 0,V.H) else some (VV.ptr V.H.length 0 0 0,V.H++[fN.row 0 [x] (aB x).length true]))=some (v,H')) :
  iQ lo fA V (if (aV u).all iP then some (.pointer (some ⟨V.P.length,0,none⟩),V.P++[.row (aV u) (aV u).length false]) else none) v H':=by
 have hc:=hx.cells (XY hs)
 rw[if_pos (hc.iP hs)]
 split at h
 ·cases h
  have g:=D4 hS (.row (aV u) (aV u).length false)
  refine(iQ.of g ?_ :)
  have hm:=hc.mono g.2.toUp
  refine .cI x 0 V.P.length 0 (aV u) (aV u).length false (.inr rfl) (by simp) (by rw[hc.length];omega) ?_
  rw[aLJ,aLq (by rw[hc.length];exact aKx _)]
  exact hm
 ·cases h
  rw[hc.length]
  exact(iQ.of (vE hS (es:=[x]) (r:=aV u) (e:=(aB x).length) false (fun y hy=>by rw[aLD] at hy;subst hy;rfl) (by simpa using hc)) (Z8 hS) :)
theorem take_set {α:Type} {l:List α} {i:Nat} {x:α} (h:i<l.length):l.set i x=l.take i++x::l.drop (i+1):=by
 rw[aLs,if_pos h]
inductive YN (V:View):List (Nat×VV)→List (Nat×Value)→Prop
 | nil:YN V [] []
 | cons {i:Nat} {x:VV} {v:Value} {xs:List (Nat×VV)} {vs:List (Nat×Value)} (h:VR V x v) (hs:YN V xs vs):YN V ((i,x)::xs) ((i,v)::vs)
theorem HS {e n:Nat}:∀ {parts:List (Nat×VV)} {CB:List (Nat×Value)} {es oQ:List VV} {r:List Value},es.length=n→(∀x∈es,(aB x).length=e)→VL V (es.flatMap aB) r →
  YN V parts CB→zC e es parts=some oQ→oQ.length=n∧(∀x∈oQ,(aB x).length=e)∧∃r',Au ((List.range n).map fun i=>(i*e,e)) r CB=some r'∧VL V (oQ.flatMap aB) r'
 |
  [],_,es,oQ,r,hn,he,hl,.nil,h=>by
  cases h
  exact⟨hn,he,r,rfl,hl⟩
 |
  (i,v)::parts,(_,w)::CB,es,oQ,r,hn,he,hl,.cons hv hps,h=>by
  unfold zC at h
  split at h
  case isFalse=>cases h
  rename_i hc
  obtain⟨hi,hve,EI⟩:=hc
  have mJ:=hv.cells (XY EI)
  have hwl:(aV w).length=e:=by rw[mJ.length,hve]
  have BY:=hl.length
  rw[mK he] at BY
  have hm:(i+1)*e≤es.length*e:=aKY _ hi
  rw[aLm] at hm
  have jW:∀x∈es.set i v,(aB x).length=e:=fun x hx=>by
   rcases aLC hx with h | h
   ·exact he x h
   ·subst h;exact hve
  have HC:VL V ((es.set i v).flatMap aB) (r.take (i*e)++aV w++r.drop (i*e+e)):=by
   have h1:=hl.kI mJ (i*e)
   have h2:=Ax he (new:=[v]) (fun z hz=>by rw[aLD] at hz;subst hz;exact hve) i
   simp only[aLl,aLE,aLF] at h2
   rw[h2,Ma hi] at h1
   unfold kI at h1
   rw[hwl] at h1
   exact h1
  obtain⟨g1,g2,r',g3,g4⟩:=HS (n:=n) (by rw[List.length_set];exact hn) jW HC hps h
  refine⟨g1,g2,r',?_,g4⟩
  unfold Au
  have hr:((List.range n).map fun i=>(i*e,e))[i]? = some (i*e,e):=by simp[List.getElem?_range (show i<n by omega)]
  simp only[hr]
  rw[if_pos ⟨hwl,by omega⟩]
  exact g3
theorem Lg (hE:ER V ρ mO):∀parts:List (Nat×Operand),YN V (parts.map fun(i,x)=>(i,fG ρ x)) (parts.map fun(i,x)=>(i,ev mO x))
 | [] => .nil
 | (i,x)::parts => .cons (hE.ev x) (Lg hE parts)
theorem JX {e:Nat}:∀ {parts:List (Nat×VV)} {es oQ:List VV},(es.all fun x=>(aB x).all bO)=true→zC e es parts=some oQ→(oQ.all fun x=>(aB x).all bO)=true
 | [],es,oQ,h,hf=>by cases hf;exact h
 |
  (i,v)::parts,es,oQ,h,hf=>by
  unfold zC at hf
  split at hf
  case isFalse=>cases hf
  rename_i hc
  refine JX ?_ hf
  rw[aKL] at h ⊢
  intro x hx
  rcases aLC hx with h1 | h1
  ·exact h x h1
  ·subst h1;exact hc.2.2
theorem afK (hS:SR V lo fA) {lr:Bool} {z:List Value} {n:Nat} {parts:List (Nat×VV)} {CB:List (Nat×Value)} {v:VV} {H':aA} (hp:YN V parts CB) (h:mR lr z n parts V.H=some (v,H')):iQ lo fA V (atD z n CB V.P) v H':=by
 unfold mR at h
 split at h
 case h_2=>cases h
 rename_i es QC
 split at h
 case isFalse=>cases h
 rename_i hz
 obtain⟨g1,g2,r',g3,g4⟩:=HS (V:=V) (n:=n) (by simp) (fun x hx=>by rw[aLI hx];exact F1 hz) (Eh hz n) hp QC
 have EI:=JX (by
  rw[aKL]
  intro x hx
  rw[aLI hx,pZ hz]
  exact hz) QC
 unfold atD
 simp only[g3]
 rw[if_pos (g4.iP (Dh EI))]
 split at h
 ·cases h
  exact(iQ.of (vE hS (e:=z.length) false g2 g4) (NF hS) :)
 ·cases h
  have k:=D4 hS (.row r' z.length false)
  refine(iQ.of k ?_ :)
  have hm:=g4.mono k.2.toUp
  have BY:=g4.length
  rw[mK g2] at BY
  subst g1
  refine .tree es _ V.P.length 0 es.length r' z.length false (.inr rfl) (by simp) (by omega) (aKx _) g2 ⟨rfl,rfl,rfl⟩ ?_
  rw[aLJ,aLq (by omega)]
  exact hm
theorem QU (hS:SR V lo fA) {b g e o:Nat} {es nw:List VV} {pn:List Value} (hr:V.H[b]? = some (.row g es e true)) (dR:lo≤b) (xB:o+nw.length≤es.length) (hn:∀x∈nw,(aB x).length=e) (EI:(nw.flatMap aB).all bO=true) (hl:VL V (nw.flatMap aB) pn) :
  ∃V',V.P.write fA (V.m b) (o*e) pn=some V'.P∧V'.H=V.H.set b (.row g (dE es o nw) e true)∧SR V' lo fA∧Hp lo V V':=by
 obtain⟨r,q,h1,h2,h3⟩:=hS.row b g es e true hr
 have BY:=h3.length
 rw[mK h2] at BY
 have Hy:=(hS.wr b g es e hr).2 dR
 have Qa:=hl.length
 rw[mK hn] at Qa
 have hm:(o+nw.length)*e≤es.length*e:=aKY _ xB
 rw[aK2] at hm
 have jW:∀x∈dE es o nw,(aB x).length=e:=fun x hx=>by
  rcases L4 hx with h | h
  ·exact h2 x h
  ·exact hn x h
 have HC:VL V ((dE es o nw).flatMap aB) (kI r (o*e) pn):=by
  rw[←Ax h2 hn]
  exact h3.kI hl _
 obtain⟨g1,g2⟩:=FL hS hr dR jW HC h1
 refine⟨{ V with H:=V.H.set b (.row g (dE es o nw) e true),P:=V.P.set (V.m b) (.row (kI r (o*e) pn) e q) },?_,rfl,g1,g2⟩
 unfold aI.write
 simp only[h1]
 rw[if_pos ⟨Hy,by omega,hl.iP EI⟩]
theorem X6 (hS:SR V lo fA) {x y v:VV} {u w:Value} {size:Nat} {H':aA} (hx:VR V x u) (hy:VR V y w) (h:LP lo size x y V.H=some (v,H')):iQ lo fA V (copyV fA size u w V.P) v H':=by
 unfold LP at h
 split at h
 ·rename_i new hs
  obtain⟨h1,_⟩:=AK hS hy hs
  cases h
  cases hx with
  | tree es k b o c r e p hF hb ho hc he hk hl=>exact hk.elim
  |
   pM =>
   unfold copyV
   simp only[h1]
   exact iQ.same hS (.sc _ rfl)
 ·rename_i b g o d c new hs
  obtain⟨h1,h2,h3,h4⟩:=AK hS hy hs
  split at h
  case h_2=>cases h
  rename_i es e hr
  rw[cB] at hr
  split at h
  case isFalse=>cases h
  rename_i hc
  obtain⟨rfl,dR,xB⟩:=hc
  cases h
  cases hx with
  |
   ref b g o n c a n' c' bH hg ha hq =>
   obtain⟨rfl,rfl,rfl⟩:=ha _ _ _ hr
   have arM:(new.take n').length=Nat.min new.length n':=by rw[List.length_take];exact Nat.min_comm _ _
   obtain⟨pn,h5,h6⟩:=h4 (Nat.min new.length n') (Nat.min_le_left _ _)
   have ht:new.take (Nat.min new.length n')=new.take n':=by
    rw[←arM,List.length_take,←aLw,aLK]
   rw[ht] at h6
   have Om:∀x∈new.take n',(aB x).length=e:=fun x hx=>h2 x (aLu hx)
   have EI:((new.take n').flatMap aB).all bO=true:=by
    rw[aKL] at h3 ⊢
    intro x hx
    obtain⟨y,hy,CR⟩:=aLz.1 hx
    exact h3 x (aLz.2 ⟨y,aLu hy,CR⟩)
   obtain⟨V',k1,k2,k3,k4⟩:=QU hS hr dR xB Om EI h6
   refine⟨.int .i64 (Nat.min new.length n'),V',?_,k2,k3,k4,?_⟩
   ·unfold copyV
    simp only[h1,h5,k1]
    rfl
   ·rw[arM]
    exact .sc _ rfl
 ·cases h
theorem Ua (hS:SR V lo fA) {x:VV} {u:Value} {z:List Value} {H':aA} (hx:VR V x u) (h:Sr lo z x V.H=some H'):iQ lo fA V (TB fA z u V.P) tE H':=by
 unfold Sr at h
 split at h
 case h_2=>cases h
 rename_i b g o n c
 split at h
 case h_2=>cases h
 rename_i es e hr
 rw[cB] at hr
 cases hx with
 |
  ref b g o n c a n' c' bH hg ha hq =>
  obtain⟨rfl,rfl,rfl⟩:=ha _ _ _ hr
  unfold TB
  simp only
  split at h
  ·rename_i h0
   cases h
   rw[if_pos h0]
   exact iQ.same hS (.eG [] [] .nil)
  ·rename_i h0
   rw[if_neg h0]
   split at h
   case isFalse=>cases h
   rename_i hc
   obtain⟨rfl,dR,xB,hz⟩:=hc
   cases h
   have Om:∀x∈aLn n' (elemOf (z.map kX)),(aB x).length=z.length:=fun x hx=>by rw[aLI hx];exact F1 hz
   obtain⟨V',k1,k2,k3,k4⟩:=QU hS hr dR (nw:=aLn n' (elemOf (z.map kX))) (by simpa using xB) Om (Dh (by
    rw[aKL]
    intro x hx
    rw[aLI hx,pZ hz]
    exact hz)) (Eh hz n')
   refine⟨undef,V',?_,k2,k3,k4,.eG [] [] .nil⟩
   rw[k1]
   rfl
end
end Go.PM
namespace Go.PM
section
variable {V:View} {lo fA:Nat} {ρ:cV} {mO:Env}
theorem UP {x v:VV} {u:Value} {neg:Bool} (hx:VR V x u) (h:Iz neg x V.H=some v):∃w,ajJ neg u=some w∧VR V v w:=by
 unfold Iz at h
 split at h
 ·cases h
  cases hx with
  | tree es k b o c r e p hF hb ho hc he hk hl=>exact hk.elim
  | pM=>exact⟨_,rfl,.sc _ rfl⟩
 ·cases h
  cases hx with
  | pM k hk=>rcases hk with hk | hk<;>cases hk
  | tree=>exact⟨_,rfl,.sc _ rfl⟩
 ·cases h
  cases hx with
  | tree=>exact⟨_,rfl,.sc _ rfl⟩
 ·obtain⟨⟨es,e,w⟩,hr,rfl⟩:=cR h
  rw[cB] at hr
  cases hx with
  |
   ref b g o n c a n' c' bH hg ha hq =>
   obtain⟨rfl,rfl,rfl⟩:=ha _ _ _ hr
   exact⟨_,rfl,.sc _ rfl⟩
 ·cases h
theorem afB {x v:VV} {u:Value} (hx:VR V x u) (h:rW x V.H=some v):∃w,aAb u=some w∧VR V v w:=by
 unfold rW at h
 split at h
 ·cases h
  cases hx<;>exact⟨_,rfl,.sc _ rfl⟩
 ·obtain⟨⟨es,e,w⟩,hr,rfl⟩:=cR h
  rw[cB] at hr
  cases hx with
  |
   ref b g o n c a n' c' bH hg ha hq =>
   obtain⟨rfl,rfl,rfl⟩:=ha _ _ _ hr
   exact⟨_,rfl,.sc _ rfl⟩
 ·cases h
theorem Uu {x v:VV} {u:Value} {off:Nat} (hx:VR V x u) (h:yG off x V.H=some v):∃w,ajF off u=some w∧VR V v w:=by
 unfold yG at h
 split at h
 ·cases h
  cases hx with
  | cI x off b o r e p hF hb ho hl=>exact⟨_,rfl,by rw[aKJ];exact .cI _ _ b o r e p hF hb ho hl⟩
 ·obtain⟨⟨es,e,w⟩,hr,rfl⟩:=cR h
  rw[cB] at hr
  cases hx with
  |
   ptr b g j off a bH hg ha hq =>
   have:=ha _ _ _ hr
   subst this
   refine⟨_,rfl,.ptr _ _ _ _ _ bH hg (fun oQ e' w' Jc => ?_) fun a0 h=>by cases h;have:=hq _ rfl;exact this⟩
   rw[hr] at Jc
   cases Jc
   rw[aKJ]
 ·cases h
theorem acH {x v:VV} {u:Value} (hx:VR V x u) (h:MU x V.H=some v):∃w,aAL u=some w∧VR V v w:=by
 unfold MU at h
 split at h
 ·cases h
  cases hx with
  | cI x off b o r e p hF hb ho hl=>exact⟨_,rfl,.cI _ _ b o r e p hF hb ho hl⟩
 ·obtain⟨⟨es,e,w⟩,hr,rfl⟩:=cR h
  rw[cB] at hr
  cases hx with
  |
   ptr b g j off a bH hg ha hq =>
   have:=ha _ _ _ hr
   subst this
   exact⟨_,rfl,.ptr _ _ _ _ _ bH hg ha hq⟩
 ·cases h
theorem Yk {c a b v:VV} {u x y:Value} (hc:VR V c u) (ha:VR V a x) (hb:VR V b y) (h:V3 c a b=some v):∃t,u = .bool t∧VR V v (if t then x else y):=by
 unfold V3 at h
 split at h
 ·rename_i t
  cases h
  obtain⟨rfl,_⟩:=uL hc rfl
  refine⟨t,rfl,?_⟩
  cases t
  ·exact hb
  ·exact ha
 ·cases h
theorem aeZ {x v:VV} {u:Value} {i:Nat} (hx:VR V x u) (h:ajA i x=some v):∃w,axG i u=some w∧VR V v w:=by
 unfold ajA at h
 split at h
 ·cases hx with
  |
   eG cs ps hl =>
   obtain⟨w,hw,hv⟩:=hl.get h
   exact⟨w,by simpa[axG] using hw,hv⟩
 ·cases h
theorem acO {x v:VV} {u:Value} {agg:Bool} {off size:Nat} (hx:VR V x u) (h:apM agg off size x=some v):∃w,aqX agg off size u=some w∧VR V v w:=by
 unfold apM at h
 split at h
 ·rename_i cs
  cases hx with
  |
   agg cs ps hl =>
   split at h
   ·rename_i ha
    split at h
    ·rename_i hs
     cases h
     refine⟨.agg ((ps.drop off).take size).toArray,?_,.agg _ _ ((hl.drop off).take size)⟩
     unfold aqX
     simp only[ha,if_true]
     rw[if_pos (by simpa[hl.length] using hs)]
     congr 2
     apply Array.ext'
     simp[List.extract_eq_take_drop]
    ·cases h
   ·rename_i ha
    obtain⟨w,hw,hv⟩:=hl.get h
    refine⟨w,?_,hv⟩
    unfold aqX
    simp only[ha]
    simpa using hw
 ·cases h
theorem Qq {ks:List CK}:∀ {xs ys:List VV} {us ws:List Value} {t:Bool},VL V xs us→VL V ys ws→tU ks xs ys=some t→sR ks us ws=some t:=by
 induction ks with
 |
  nil =>
  intro xs ys us ws t h1 h2 h
  cases h1 with
  |
   nil=>cases h2 with
   | nil=>exact h
   | cons=>simp[tU] at h
  | cons=>simp[tU] at h
 |
  cons k ks ih =>
  intro xs ys us ws t h1 h2 h
  cases h1 with
  | nil=>simp[tU] at h
  |
   cons x u xs us hx M3=>cases h2 with
   | nil=>cases x<;>simp[tU] at h
   |
    cons y w ys ws hy hys =>
    cases hx with
    |
     sc _ _=>cases hy with
     |
      sc _ _ =>
      simp only[tU] at h
      simp only[sR]
      split at h
      ·rename_i h1
       rw[h1]
       exact ih M3 hys h
      ·rename_i h1
       rw[h1]
       exact h
      ·cases h
     | _=>simp[tU] at h
    | _=>simp[tU] at h
theorem NZ {places:List (Nat×Nat)}:∀ {parts:List (Nat×VV)} {CB:List (Nat×Value)} {cs CN:List VV} {r:List Value},VL V cs r→YN V parts CB→AZ places cs parts=some CN →
  ∃r',Au places r CB=some r'∧VL V CN r'
 | [],_,cs,CN,r,hl,.nil,h=>by cases h;exact⟨r,rfl,hl⟩
 |
  (i,v)::parts,(_,w)::CB,cs,CN,r,hl,.cons hv hps,h=>by
  unfold AZ at h
  unfold Au
  split at h
  ·cases h
  ·rename_i off size Qa
   simp only[Qa]
   split at h
   case isFalse=>cases h
   rename_i hc
   have mJ:=hv.cells (fun e=>by subst e;cases hc.2.2)
   rw[if_pos ⟨by rw[mJ.length];exact hc.1,by rw[hl.length];exact hc.2.1⟩]
   exact NZ (((hl.take off).append mJ).append (hl.drop _)) hps h
theorem MH:∀ {es:List VV} {r:List Value} {bs:List UInt8},VL V (es.flatMap aB) r→K2 es=some bs→xP r=some bs
 | [],_,bs,.nil,h=>h
 |
  x::es,r,bs,hl,h=>by
  unfold K2 at h
  split at h
  ·rename_i e;cases e
  ·rename_i n r' e
   cases e
   obtain⟨t,ht,rfl⟩:=cR h
   rw[aLl] at hl
   cases hl with
   |
    cons _ u _ us hu hus =>
    obtain⟨rfl,_⟩:=uL hu rfl
    unfold xP
    rw[MH hus ht]
    rfl
  ·cases h
theorem lift {r:Option VV} {v:VV} {H':aA} {s:Option (Value×aI)} (h:r.map (·,V.H)=some (v,H')) (k:r=some v→iQ lo fA V s v V.H):iQ lo fA V s v H':=by
 obtain⟨a,ha,he⟩:=cR h
 cases he
 exact k ha
theorem adG (hS:SR V lo fA) (hE:ER V ρ mO) {fl:Fl} {o:qE} {v:VV} {H':aA} {q:Bool} (h:vop fl lo o ρ V.H=some (v,H')):iQ lo fA V (lI fA q o mO V.P) v H':=by
 cases o<;>simp only[vop] at h
 case mv x=>cases h;rw[arL];exact iQ.same hS (hE.ev x)
 case pick c a b =>
  refine lift h fun h => ?_
  obtain⟨t,ht,hv⟩:=Yk (hE.ev c) (hE.ev a) (hE.ev b) h
  rw[aeR,ht]
  exact iQ.same hS hv
 case bin op x y=>rw[alW];exact lift h fun h=>DB (f:=dK op) hS (fun _ _ _=>ajP) (hE.ev x) (hE.ev y) h
 case eqb neg x y=>rw[anF];exact lift h fun h=>DB (f:=Ol neg) hS (fun _ _ _=>agY) (hE.ev x) (hE.ev y) h
 case isnil neg x =>
  rw[YB]
  refine lift h fun h => ?_
  obtain⟨w,h1,h2⟩:=UP (hE.ev x) h
  exact iQ.pure hS h1 h2
 case eqagg neg ks x y =>
  rw[Xz]
  refine lift h fun h => ?_
  unfold XE at h
  split at h
  case h_2=>cases h
  rename_i a b hx hy
  obtain⟨t,ht,rfl⟩:=cR h
  have h1:=hE.ev x
  have h2:=hE.ev y
  rw[hx] at h1
  rw[hy] at h2
  generalize ev mO x=u at h1 ⊢
  generalize ev mO y=w at h2 ⊢
  cases h1 with
  |
   agg cs ps h1=>cases h2 with
   |
    agg CN ps' h2 =>
    refine iQ.pure hS (pv := .bool (t != neg)) ?_ (.sc _ rfl)
    unfold akV
    simp only
    rw[Qq h1 h2 ht]
    rfl
 case un op x=>rw[apF];exact lift h fun h=>GD (f:=pun op) hS (fun _ _=>arH) (hE.ev x) h
 case cvt k x=>rw[akQ];exact lift h fun h=>GD (f:=Xo k) hS (fun _ _=>alX) (hE.ev x) h
 case cvs x =>
  have e:lI fA q (.cvs x) mO V.P=(afC (ev mO x)).map (·,V.P):=dW rfl
  rw[e];exact lift h fun h=>GD (f:=afC) hS (fun _ _=>amV) (hE.ev x) h
 case ext x i =>
  rw[ahW]
  refine lift h fun h => ?_
  obtain⟨w,h1,h2⟩:=aeZ (hE.ev x) h
  exact iQ.pure hS h1 h2
 case fld agg off size x =>
  rw[amN]
  refine lift h fun h => ?_
  obtain⟨w,h1,h2⟩:=acO (hE.ev x) h
  exact iQ.pure hS h1 h2
 case build zero places parts =>
  obtain⟨cs,PO,he⟩:=cR h
  cases he
  obtain⟨r,h1,h2⟩:=NZ (VL.zero zero) (Lg hE parts) PO
  rw[YO,h1]
  exact iQ.same hS (.agg _ _ h2)
 case chk x =>
  rw[amT]
  refine lift h fun h => ?_
  obtain⟨w,h1,h2⟩:=acH (hE.ev x) h
  exact iQ.pure hS h1 h2
 case faddr off x =>
  rw[Xf]
  refine lift h fun h => ?_
  obtain⟨w,h1,h2⟩:=Uu (hE.ev x) h
  exact iQ.pure hS h1 h2
 case iaddr size x i =>
  rw[YG]
  refine lift h fun h => ?_
  obtain⟨w,h1,h2⟩:=U4 hS (hE.ev x) (hE.ev i) h
  exact iQ.pure hS h1 h2
 case sidx x i =>
  have e:lI fA q (.sidx x i) mO V.P=(I8 (ev mO x) (ev mO i)).map (·,V.P):=dW rfl
  rw[e];exact lift h fun h=>DB (f:=I8) hS (fun _ _ _=>abU) (hE.ev x) (hE.ev i) h
 case ssub x l h' =>
  refine lift h fun h => ?_
  unfold zI at h
  split at h
  case h_2=>cases h
  rename_i s lv hv hx h1 h2
  split at h
  case h_2=>cases h
  rename_i a b IS
  cases h
  obtain⟨e1,_⟩:=uL (hE.ev x) hx
  have e:lI fA q (.ssub x l h') mO V.P=some (.string (s.extract a b),V.P):=by
   rw[dW rfl]
   simp only[kC,e1]
   rw[DI hE h1,DI hE h2,IS]
   rfl
  rw[e]
  exact iQ.same hS (.sc _ rfl)
 case mkfn f gD =>
  cases h
  rw[abS]
  exact iQ.same hS (.xT _ _ _ (hE.evs gD))
 case len x =>
  rw[aiK]
  refine lift h fun h => ?_
  obtain⟨w,h1,h2⟩:=afB (hE.ev x) h
  exact iQ.pure hS h1 h2
 case slen x =>
  have e:lI fA q (.slen x) mO V.P=(Dl (ev mO x)).map (·,V.P):=dW rfl
  rw[e];exact lift h fun h=>GD (f:=Dl) hS (fun _ _=>adP) (hE.ev x) h
 case min x y=>rw[ahX];exact lift h fun h=>DB (f:=Va) hS (fun _ _ _=>amU) (hE.ev x) (hE.ev y) h
 case max x y=>rw[agP];exact lift h fun h=>DB (f:=WE) hS (fun _ _ _=>akO) (hE.ev x) (hE.ev y) h
 case load agg size p =>
  rw[acT]
  refine lift h fun h => ?_
  obtain⟨w,h1,h2⟩:=PK hS (hE.ev p) h
  exact iQ.pure hS h1 h2
 case sub size x l hh m =>
  rw[alM]
  exact lift h fun h=>acS hS hE (hE.ev x) h
 case b2s x =>
  split at h
  ·cases h
  rename_i y fS
  split at h
  case h_2=>cases h
  rename_i es QC
  obtain⟨bs,hbs,he⟩:=cR h
  cases he
  obtain⟨h1,h2,h3,h4⟩:=AK hS (hE.ev x) QC
  obtain⟨pn,h5,h6⟩:=h4 es.length (aKx _)
  rw[aLK] at h6
  have hb:=MH h6 hbs
  have hx:=hE.ev x
  have e:lI fA q (.b2s x) mO V.P=some (.string ⟨bs.toArray⟩,V.P):=by
   apply sY
   simp only[pop]
   generalize ev mO x=u at *
   cases u<;>first | (exfalso;simp[wT] at h1;done) | skip
   case string s =>
    generalize fG ρ x=y at *
    cases hx with
    | any=>simp[cW] at QC
    | sc _ _=>exact absurd rfl (fS _)
   case slice a n c =>
    injection h1 with h1
    subst h1
    cases a with
    |
     none =>
     simp only[lA] at h5
     split at h5
     ·cases h5
      cases hb
      rfl
     ·cases h5
    |
     some a =>
     obtain⟨b,o,sp⟩:=a
     cases sp with
     | some s=>simp[lA] at h5
     |
      none =>
      simp only[lA,Nat.mul_one] at h5
      simp only[h5,hb]
      rfl
  rw[e]
  exact iQ.same hS (.sc _ rfl)
 case new zero =>
  split at h
  case isFalse=>cases h
  rename_i hz
  cases h
  rw[anX]
  exact abX hS hz
 case box x =>
  split at h
  case isFalse=>cases h
  rename_i hs
  rw[akA]
  exact abP hS (hE.ev x) hs h
 case make zero bytes l c =>
  split at h
  case isFalse=>cases h
  rename_i hz
  rw[afG]
  exact X8 hS hz (hE.ev l) (hE.ev c) h
 case lit zero n parts =>
  rw[alZ]
  exact afK hS (Lg hE parts) h
 case store size p x =>
  obtain⟨a,ha,he⟩:=cR h
  cases he
  rw[Ym]
  exact UH hS (hE.ev p) (hE.ev x) ha
 case app size bytes x y =>
  split at h
  case h_2=>cases h
  rename_i new hn
  obtain⟨h1,h2,h3,h4⟩:=AK hS (hE.ev y) hn
  obtain⟨pn,h5,h6⟩:=h4 new.length (aKx _)
  rw[aLK] at h6
  rw[amF]
  unfold azE
  simp only[h1,h5]
  exact J2 hS (hE.ev x) h2 h3 h6 h
 case appz zero bytes x n =>
  split at h
  case h_2=>cases h
  rename_i k hk
  split at h
  case isFalse=>cases h
  rename_i hc
  obtain⟨e1,_⟩:=uL (hE.ev n) hk
  have Om:∀x∈aLn k.toNat (elemOf (zero.map kX)),(aB x).length=zero.length:=fun x hx=>by rw[aLI hx];exact F1 hc.2.2
  have:=J2 hS (hE.ev x) Om (Dh (by
    rw[aKL]
    intro x hx
    rw[aLI hx,pZ hc.2.2]
    exact hc.2.2)) (Eh hc.2.2 _) h
  rw[List.length_replicate] at this
  rw[adU]
  unfold akY
  rw[e1]
  simp only[if_pos (show 0≤k∧k*(bytes:Int)≤140737488355328 from⟨hc.1,hc.2.1⟩)]
  exact this
 case copy size x y =>
  rw[afQ]
  exact X6 hS (hE.ev x) (hE.ev y) h
 case clear zero x =>
  obtain⟨a,ha,he⟩:=cR h
  cases he
  rw[XJ]
  exact Ua hS (hE.ev x) ha
 all_goals cases h
end
end Go.PM
namespace Go.PM
def bare (F:Nat→Prop) (P:aI):View:=⟨fun _=>0,F,[],P,0⟩
theorem CX {es:List VV}:aO es=true↔∀x∈es,aY x=true:=by
 induction es with
 | nil=>simp[aO]
 | cons x xs ih=>simp[aO,ih]
theorem FG {x:VV} (h:aY x=true):aO (aB x)=true:=by
 unfold aB
 split
 ·simpa[aY] using h
 ·simp[aO,h]
theorem On {es:List VV} (h:aO es=true):aO (es.flatMap aB)=true:=by
 rw[CX] at h ⊢
 intro x hx
 obtain⟨y,hy,CR⟩:=aLz.1 hx
 exact CX.1 (FG (h y hy)) x CR
theorem K1 {es:List VV} {k:TK} (h:aY (.tree es k)=true):k = .op∧aO es=true∧uni es=true:=by
 simp only[aY,aK5,decide_eq_true_eq] at h
 exact⟨h.1.1,h.1.2,h.2⟩
theorem LJ {x:VV} (h:aY x=true):x ≠ .any:=by
 rintro rfl
 cases h
theorem arB {es:List VV} (h:uni es=true):∃e,∀x∈es,(aB x).length=e:=by
 cases es with
 | nil=>exact⟨0,fun x hx=>by cases hx⟩
 |
  cons x xs =>
  refine⟨(aB x).length,fun y hy => ?_⟩
  rcases aLL.1 hy with rfl | hy
  ·rfl
  ·have:=aKL.1 h y hy
   simpa using this
section
variable {V V':View}
theorem VR.pure {x:VV} {v:Value} (hF:∀b,V.F b→V'.F b∧V'.P[b]? = V.P[b]?) (h:VR V x v):aY x=true→VR V' x v:=by
 induction h using VR.rec (motive_2:=fun xs vs _=>aO xs=true→VL V' xs vs) with
 | any=>intro hp;cases hp
 | sc _ h=>intro _;exact .sc _ h
 | agg cs ps _ ih=>intro hp;exact .agg _ _ (ih hp)
 | eG cs ps _ ih=>intro hp;exact .eG _ _ (ih hp)
 | pM k hk=>intro _;exact .pM k hk
 | tree es k b o c r e p Yc hb ho hc he hk _ ih=>intro hp;exact .tree es k b o c r e p (hF _ Yc).1 (by rw[(hF _ Yc).2];exact hb) ho hc he hk (ih (On (K1 hp).2.1))
 | cI x off b o r e p Yc hb ho _ ih=>intro hp;exact .cI x off b o r e p (hF _ Yc).1 (by rw[(hF _ Yc).2];exact hb) ho (ih (FG hp))
 | ref=>intro hp;cases hp
 | ptr=>intro hp;cases hp
 | xT f gD ps _ ih=>intro hp;exact .xT _ _ _ (ih hp)
 | nil=>exact .nil
 |
  cons x v xs vs _ _ ih Xb =>
  rename_i hp
  simp only[aO,aK5] at hp
  exact .cons _ _ _ _ (ih hp.1) (Xb hp.2)
theorem VL.pure {xs:List VV} {vs:List Value} (hF:∀b,V.F b→V'.F b∧V'.P[b]? = V.P[b]?) (h:VL V xs vs) (hp:aO xs=true):VL V' xs vs:=by
 induction xs generalizing vs with
 | nil=>cases h;exact .nil
 |
  cons x xs ih=>cases h with
  |
   cons _ v _ vs h hs =>
   simp only[aO,aK5] at hp
   exact .cons _ _ _ _ (h.pure hF hp.1) (ih hs hp.2)
theorem VL.flatten {es:List VV} {ps:List Value} (h:VL V es ps) (hp:aO es=true):VL V (es.flatMap aB) (ps.flatMap aV):=by
 induction es generalizing ps with
 | nil=>cases h;exact .nil
 |
  cons x xs ih =>
  cases h with
  |
   cons _ v _ vs h hs =>
   simp only[aO,aK5] at hp
   rw[aLl,aLl]
   exact(h.cells (LJ hp.1)).append (ih hs hp.2)
theorem Tn {P P':aI} (h:P <+: P'):∀b,(bare (· < P.length) P).F b→(bare (· < P'.length) P').F b∧(bare (· < P'.length) P').P[b]? = (bare (· < P.length) P).P[b]? := by
 intro b hb
 obtain⟨L,rfl⟩:=h
 have xF:b<P.length:=hb
 exact⟨by show b<(P++L).length;simp;omega,aKO xF⟩
mutual
theorem real (x:VV) (hp:aY x=true) (P:aI):∃P' pv,P <+: P'∧VR (bare (· < P'.length) P') x pv:=by
 cases x with
 | any=>cases hp
 | sc v=>exact⟨P,v,List.prefix_refl _,.sc v hp⟩
 |
  agg cs =>
  obtain⟨P',ps,h1,h2⟩:=R1 cs hp P
  exact⟨P',_,h1,.agg _ _ h2⟩
 |
  eG cs =>
  obtain⟨P',ps,h1,h2⟩:=R1 cs hp P
  exact⟨P',_,h1,.eG _ _ h2⟩
 |
  tree es k =>
  obtain⟨rfl,h1,h2⟩:=K1 hp
  obtain⟨P',ps,h3,h4⟩:=R1 es h1 P
  obtain⟨e,he⟩:=arB h2
  have h5:=h4.flatten h1
  have hl:=h5.length
  rw[mK he] at hl
  have DL:P' <+: P'++[Qv.row (ps.flatMap aV) e false]:=List.prefix_append _ _
  refine⟨_,.slice (some ⟨P'.length,0,none⟩) es.length es.length,h3.trans DL,?_⟩
  refine .tree es .op P'.length 0 es.length (ps.flatMap aV) e false (show P'.length<(P'++[Qv.row (ps.flatMap aV) e false]).length by simp) (by show (P'++[Qv.row (ps.flatMap aV) e false])[P'.length]? = _;simp) (by omega) (aKx _) he trivial ?_
  rw[aLJ,aLq (by omega)]
  exact VL.pure (Tn DL) h5 (On h1)
 |
  cI x off =>
  obtain⟨P',pv,h3,h4⟩:=real x hp P
  have h5:=h4.cells (LJ hp)
  have DL:P' <+: P'++[Qv.row (aV pv) (aV pv).length false]:=List.prefix_append _ _
  refine⟨_,.pointer (some ⟨P'.length,0+off,none⟩),h3.trans DL,?_⟩
  refine .cI x off P'.length 0 (aV pv) (aV pv).length false (show P'.length<(P'++[Qv.row (aV pv) (aV pv).length false]).length by simp) (by show (P'++[Qv.row (aV pv) (aV pv).length false])[P'.length]? = _;simp) (by rw[h5.length];omega) ?_
  rw[aLJ,aLq (by rw[h5.length];exact aKx _)]
  exact VL.pure (Tn DL) h5 (FG hp)
 | ref=>cases hp
 | ptr=>cases hp
 |
  xT f gD =>
  obtain⟨P',ps,h1,h2⟩:=R1 gD hp P
  exact⟨P',_,h1,.xT _ _ _ h2⟩
theorem R1 (xs:List VV) (hp:aO xs=true) (P:aI):∃P' ps,P <+: P'∧VL (bare (· < P'.length) P') xs ps:=by
 cases xs with
 | nil=>exact⟨P,[],List.prefix_refl _,.nil⟩
 |
  cons x xs =>
  simp only[aO,aK5] at hp
  obtain⟨P1,pv,h1,h2⟩:=real x hp.1 P
  obtain⟨P2,ps,h3,h4⟩:=R1 xs hp.2 P1
  exact⟨P2,pv::ps,h1.trans h3,.cons _ _ _ _ (h2.pure (Tn h3) hp.1) h4⟩
end
theorem PS {es:List VV}:sK es=true↔∀x∈es,gZ x=true:=by
 induction es with
 | nil=>simp[sK]
 | cons x xs ih=>simp[sK,ih]
theorem FY {es:List VV} {k:TK} (h:gZ (.tree es k)=true):k = .op∧sK es=true∧uni es=true∧es.all CJ=true:=by
 simp only[gZ,aK5,decide_eq_true_eq] at h
 exact⟨h.1.1.1,h.1.1.2,h.1.2,h.2⟩
theorem XS {x:VV} (h:gZ x=true):sK (aB x)=true:=by
 unfold aB
 split
 ·simpa[gZ] using h
 ·simp[sK,h]
theorem RT {es:List VV} (h:sK es=true):sK (es.flatMap aB)=true:=by
 rw[PS] at h ⊢
 intro x hx
 obtain⟨y,hy,CR⟩:=aLz.1 hx
 exact PS.1 (XS (h y hy)) x CR
mutual
theorem VE (x:VV) (h:gZ x=true):aY x=true:=by
 cases x with
 | sc v=>exact h
 | agg cs=>exact GO cs h
 | eG cs=>exact GO cs h
 |
  tree es k =>
  obtain⟨h1,h2,h3,_⟩:=FY h
  simp[aY,h1,GO es h2,h3]
 | any=>cases h
 | cI=>cases h
 | ref=>cases h
 | ptr=>cases h
 | xT=>cases h
theorem GO (xs:List VV) (h:sK xs=true):aO xs=true:=by
 cases xs with
 | nil=>rfl
 |
  cons x xs =>
  simp only[sK,aK5] at h
  simp[aO,VE x h.1,GO xs h.2]
end
theorem Vp {e:Nat}:∀ {es oQ:List VV},(∀x∈es,(aB x).length=e)→(∀x∈oQ,(aB x).length=e)→es.all CJ=true→oQ.all CJ=true→es.length=oQ.length→es.flatMap aB=oQ.flatMap aB→es=oQ
 | [],[],_,_,_,_,_,_=>rfl
 |
  x::es,y::oQ,h1,h2,h3,h4,hl,h=>by
  rw[aLl,aLl] at h
  have hx:=h1 x aK7
  have hy:=h2 y aK7
  obtain⟨e1,e2⟩:=List.append_inj h (by omega)
  simp only[aLp,aK5] at h3 h4
  have CR:x=y:=by
   have g1:=h3.1
   have g2:=h4.1
   unfold aB at e1
   split at e1<;>split at e1
   ·rw[e1]
   ·rename_i cs _ _
    subst e1
    cases g1
   ·rename_i cs
    subst e1
    cases g2
   ·injection e1
  rw[CR,Vp (fun z hz=>h1 z (aK6 _ hz)) (fun z hz=>h2 z (aK6 _ hz)) h3.2 h4.2 (by simpa using hl) e2]
theorem VR.uniq {x y:VV} {v:Value} (h:VR V x v) (h':VR V y v) (hx:gZ x=true) (hy:gZ y=true):x=y:=by
 induction h using VR.rec (motive_2:=fun xs vs _=>∀ys,VL V ys vs→sK xs=true→sK ys=true→xs=ys) generalizing y with
 | any=>cases hx
 |
  sc _ h=>cases h' with
  | sc _ _=>rfl
  | any=>cases hy
  | agg=>cases h
  | eG=>cases h
  | pM=>cases h
  | tree=>cases h
  | cI=>cases hy
  | ref=>cases hy
  | ptr=>cases hy
  | xT=>cases hy
 |
  agg cs ps h ih=>generalize hw:Value.agg ps.toArray=w at h';cases h' with
  | sc _ h'=>subst hw;cases h'
  | any=>cases hy
  |
   agg CN ps' h' =>
   injection hw with hw
   have:ps=ps':=by simpa using hw
   subst this
   rw[ih _ h' hx hy]
  | eG=>cases hw
  | pM=>cases hw
  | tree=>cases hw
  | cI=>cases hy
  | ref=>cases hy
  | ptr=>cases hy
  | xT=>cases hy
 |
  eG cs ps h ih=>generalize hw:Value.tuple ps.toArray=w at h';cases h' with
  | sc _ h'=>subst hw;cases h'
  | any=>cases hy
  |
   eG CN ps' h' =>
   injection hw with hw
   have:ps=ps':=by simpa using hw
   subst this
   rw[ih _ h' hx hy]
  | agg=>cases hw
  | pM=>cases hw
  | tree=>cases hw
  | cI=>cases hy
  | ref=>cases hy
  | ptr=>cases hy
  | xT=>cases hy
 |
  pM k hk =>
  obtain⟨rfl,_⟩:=FY hx
  generalize hw:Value.slice none 0 0=w at h'
  cases h' with
  | sc _ h'=>subst hw;cases h'
  | any=>cases hy
  | pM k' hk'=>obtain⟨rfl,_⟩:=FY hy;rfl
  | agg=>cases hw
  | eG=>cases hw
  | tree=>cases hw
  | cI=>cases hy
  | ref=>cases hy
  | ptr=>cases hy
  | xT=>cases hy
 |
  tree es k b o c r e p hF hb ho hc he hk hl ih =>
  obtain⟨rfl,hx1,hx2,hx3⟩:=FY hx
  generalize hw:Value.slice (some ⟨b,o,none⟩) es.length c=w at h'
  cases h' with
  | sc _ h'=>subst hw;cases h'
  | any=>cases hy
  | pM=>cases hw
  | agg=>cases hw
  | eG=>cases hw
  |
   tree oQ k' b' o' c' r' e' p' hF' xF ho' hc' he' hk' Ge =>
   obtain⟨rfl,hy1,hy2,hy3⟩:=FY hy
   injection hw with h1 h2 h3
   injection h1 with h1
   injection h1 with h1 h4
   subst h1 h3 h4
   rw[hb] at xF
   injection xF with xF
   injection xF with g1 g2 g3
   subst g1 g2 g3
   rw[←h2] at Ge
   rw[Vp he he' hx3 hy3 h2 (ih _ Ge (RT hx1) (RT hy1))]
  | cI=>cases hy
  | ref=>cases hy
  | ptr=>cases hy
  | xT=>cases hy
 | cI=>cases hx
 | ref=>cases hx
 | ptr=>cases hx
 | xT=>cases hx
 | nil=>rename_i h' _ _;cases h';rfl
 |
  cons x v xs vs _ _ ih Xb =>
  rename_i ys h' hx hy
  cases h' with
  |
   cons y _ ys _ h' hs' =>
   simp only[sK,aK5] at hx hy
   rw[ih h' hx.1 hy.1,Xb _ hs' hx.2 hy.2]
end
end Go.PM
namespace Go.PM
section
variable {V:View} {lo fA:Nat}
theorem sB {α β:Type} {f:α→Option β} {x:α} {xs:List α} {r:List β} (h:(x::xs).mapM f=some r):∃y ys,f x=some y∧xs.mapM f=some ys∧r=y::ys:=by
 rw[List.mapM_cons] at h
 cases hx:f x with
 | none=>rw[hx] at h;cases h
 |
  some y =>
  rw[hx] at h
  cases hs:xs.mapM f with
  | none=>rw[hs] at h;cases h
  | some ys=>rw[hs] at h;cases h;exact⟨y,ys,rfl,rfl,rfl⟩
theorem A9 {α β:Type} {f:α→Option β}:∀ {xs:List α} {r:List β},xs.mapM f=some r→r.length=xs.length
 | [],r,h=>by cases h;rfl
 |
  x::xs,r,h=>by
  obtain⟨y,ys,_,h2,rfl⟩:=sB h
  simp[A9 h2]
theorem abA {d:Nat} {H:aA} {x x':VV} (h:fz d H x=some x'):(∃cs CN,x = .agg cs∧x' = .agg CN∧CN.length=cs.length)∨(aB x=[x]∧aB x'=[x']):=by
 cases d with
 | zero=>cases h
 |
  succ d =>
  unfold fz at h
  split at h
  ·cases h
   cases x with
   | agg cs=>exact .inl ⟨cs,cs,rfl,rfl,rfl⟩
   | _=>exact .inr ⟨rfl,rfl⟩
  ·split at h
   ·obtain⟨CN,h1,rfl⟩:=cR h
    exact .inl ⟨_,_,rfl,rfl,A9 h1⟩
   ·obtain⟨CN,h1,rfl⟩:=cR h;exact .inr ⟨rfl,rfl⟩
   ·obtain⟨CN,h1,rfl⟩:=cR h;exact .inr ⟨rfl,rfl⟩
   ·obtain⟨CN,h1,rfl⟩:=cR h;exact .inr ⟨rfl,rfl⟩
   ·split at h
    ·split at h
     ·obtain⟨CN,h1,rfl⟩:=cR h;exact .inr ⟨rfl,rfl⟩
     ·cases h
    ·cases h
   ·split at h
    ·split at h
     ·obtain⟨CN,h1,rfl⟩:=cR h;exact .inr ⟨rfl,rfl⟩
     ·cases h
    ·cases h
   ·obtain⟨CN,h1,rfl⟩:=cR h;exact .inr ⟨rfl,rfl⟩
   ·cases h
theorem Tm {d:Nat} {H:aA} {x x':VV} (h:fz d H x=some x'):(aB x').length=(aB x).length:=by
 rcases abA h with⟨cs,CN,rfl,rfl,h'⟩ | ⟨h1,h2⟩
 ·exact h'
 ·rw[h1,h2];rfl
def R4 (V:View) (G:Nat→Prop) (ids:List Nat):Prop:=∀i∈ids,∀g es e w,V.H[i]? = some (.row g es e w)→G (V.m i)
theorem PV (hS:SR V lo fA) {G:Nat→Prop} (hG:∀q,V.F q→G q):∀(d:Nat) (v v':VV) (pv:Value),VR V v pv→fz d V.H v=some v'→R4 V G (iT d V.H v)→VR (bare G V.P) v' pv:=by
 have hFG:∀b,V.F b→(bare G V.P).F b∧(bare G V.P).P[b]? = V.P[b]? := fun b hb=>⟨hG b hb,rfl⟩
 intro d
 induction d with
 | zero=>intro v v' pv _ h;cases h
 |
  succ d ih =>
  have ihL:∀(xs Lz:List VV) (ps:List Value),VL V xs ps→xs.mapM (fz d V.H)=some Lz→R4 V G (xs.flatMap (iT d V.H))→VL (bare G V.P) Lz ps:=by
   intro xs
   induction xs with
   | nil=>intro Lz ps hl h _;cases h;cases hl;exact .nil
   |
    cons x xs ihx =>
    intro Lz ps hl h hi
    obtain⟨y,ys,h1,h2,rfl⟩:=sB h
    cases hl with
    |
     cons _ v _ vs hx M3 =>
     exact .cons _ _ _ _ (ih x y v hx h1 fun i qI=>hi i (by rw[aLl];exact aLM _ qI)) (ihx ys vs M3 h2 fun i qI=>hi i (by rw[aLl];exact aLN _ qI))
  have ihC:∀(x x':VV) (ps:List Value),VL V (aB x) ps→fz d V.H x=some x'→R4 V G (iT d V.H x)→VL (bare G V.P) (aB x') ps:=by
   intro x x' ps hl h hi
   rcases abA h with⟨cs,CN,rfl,rfl,mJ⟩ | ⟨h1,h2⟩
   ·have:=ih _ _ (.agg ps.toArray) (.agg _ _ hl) h hi
    generalize hw:Value.agg ps.toArray=w at this
    cases this with
    |
     agg _ ps' Ge =>
     injection hw with hw
     have:ps=ps':=by simpa using hw
     subst this
     exact Ge
   ·rw[h1] at hl
    rw[h2]
    cases hl with
    |
     cons _ v _ vs hx M3 =>
     cases M3
     exact .cons _ _ _ _ (ih _ _ _ hx h hi) .nil
  have ihF:∀(xs Lz:List VV) (ps:List Value),VL V (xs.flatMap aB) ps→xs.mapM (fz d V.H)=some Lz→R4 V G (xs.flatMap (iT d V.H))→VL (bare G V.P) (Lz.flatMap aB) ps:=by
   intro xs
   induction xs with
   | nil=>intro Lz ps hl h _;cases h;cases hl;exact .nil
   |
    cons x xs ihx =>
    intro Lz ps hl h hi
    obtain⟨y,ys,h1,h2,rfl⟩:=sB h
    rw[aLl] at hl ⊢
    have hlen:=hl.length
    have a1:=hl.take (aB x).length
    have a2:=hl.drop (aB x).length
    rw[List.take_left] at a1
    rw[List.drop_left] at a2
    rw[←aLG (aB x).length ps]
    exact(ihC x y _ a1 h1 fun i qI=>hi i (by rw[aLl];exact aLM _ qI)).append (ihx ys _ a2 h2 fun i qI=>hi i (by rw[aLl];exact aLN _ qI))
  have aBL:∀(xs Lz:List VV) (e:Nat),xs.mapM (fz d V.H)=some Lz→(∀x∈xs,(aB x).length=e)→∀x∈Lz,(aB x).length=e:=by
   intro xs
   induction xs with
   | nil=>intro Lz e h _ x hx;cases h;cases hx
   |
    cons x xs ihx =>
    intro Lz e h he z hz
    obtain⟨y,ys,h1,h2,rfl⟩:=sB h
    rcases aLL.1 hz with rfl | hz
    ·rw[Tm h1];exact he x aK7
    ·exact ihx ys e h2 (fun w hw=>he w (aK6 _ hw)) z hz
  intro v v' pv hv h hi
  unfold fz at h
  unfold iT at hi
  split at h
  ·rename_i hp
   cases h
   exact hv.pure hFG hp
  ·rename_i hp
   rw[if_neg hp] at hi
   split at h
   ·obtain⟨CN,h1,rfl⟩:=cR h
    cases hv with
    | agg cs ps hl=>exact .agg _ _ (ihL _ _ _ hl h1 hi)
   ·obtain⟨CN,h1,rfl⟩:=cR h
    cases hv with
    | eG cs ps hl=>exact .eG _ _ (ihL _ _ _ hl h1 hi)
   ·obtain⟨CN,h1,rfl⟩:=cR h
    cases hv with
    | pM k hk=>cases h1;exact .pM _ (.inl rfl)
    |
     tree es k b o c r e p hF hb ho hc he hk hl =>
     have hlen:=A9 h1
     have:=VR.tree (V:=bare G V.P) CN .op b o c r e p (hG b hF) hb (by rw[hlen];exact ho) (by rw[hlen];exact hc) (aBL _ _ _ h1 he) trivial (by rw[hlen];exact ihF _ _ _ hl h1 hi)
     rw[hlen] at this
     exact this
   ·obtain⟨x',h1,rfl⟩:=cR h
    cases hv with
    |
     cI x off b o r e p hF hb ho hl =>
     have hlen:=Tm h1
     exact .cI x' _ b o r e p (hG b hF) hb (by rw[hlen];exact ho) (by rw[hlen];exact ihC _ _ _ hl h1 hi)
   ·rename_i b g o n c
    split at h
    case h_2=>cases h
    rename_i es e w hr
    simp only[hr] at hi
    rw[cB] at hr
    split at h
    case isFalse=>cases h
    rename_i aEd
    obtain⟨hon,Fs⟩:=aEd
    obtain⟨oQ,h1,rfl⟩:=cR h
    obtain⟨r,p,k1,k2,k3⟩:=hS.row b g es e w hr
    have BY:=k3.length
    rw[mK k2] at BY
    cases hv with
    |
     ref b g o n c a n' c' bH hg ha hq =>
     obtain⟨rfl,rfl,rfl⟩:=ha _ _ _ hr
     have anG:∀x∈(es.drop o).take n',(aB x).length=e:=fun x hx=>k2 x (aLv (aLu hx))
     have hn2:((es.drop o).take n').length=n':=by simp;omega
     have hlen:=A9 h1
     rw[hn2] at hlen
     have hm:(o+n')*e≤es.length*e:=aKY _ hon
     rw[aK2] at hm
     have hl:VL V (((es.drop o).take n').flatMap aB) ((r.drop (o*e)).take (n'*e)):=by
      have h4:=(k3.drop (o*e)).take (n'*e)
      rw[yO k2,yA (fun x hx=>k2 x (aLv hx))] at h4
      exact h4
     have hGb:G (V.m b):=hi b aK7 _ _ _ _ hr
     have:=VR.tree (V:=bare G V.P) oQ .op (V.m b) (o*e) c' r e p hGb k1 (by rw[hlen];omega) (by rw[hlen];exact Fs) (aBL _ _ _ h1 anG) trivial (by rw[hlen];exact ihF _ _ _ hl h1 fun i qI=>hi i (aK6 _ qI))
     rw[hlen] at this
     exact this
   ·rename_i b g j o
    split at h
    case h_2=>cases h
    rename_i es e w hr
    simp only[hr] at hi
    rw[cB] at hr
    split at h
    case h_2=>cases h
    rename_i x hx
    simp only[hx] at hi
    obtain⟨x',h1,rfl⟩:=cR h
    obtain⟨r,p,k1,k2,k3,k4⟩:=PG hS hr hx
    cases hv with
    |
     ptr b g j off a bH hg ha hq =>
     have:=ha _ _ _ hr
     subst this
     have hlen:=Tm h1
     exact .cI x' o (V.m b) (j*e) r e p (hi b aK7 _ _ _ _ hr) k1 (by rw[hlen];exact k3) (by rw[hlen];exact ihC _ _ _ k4 h1 fun i qI=>hi i (aK6 _ qI))
   ·obtain⟨CN,h1,rfl⟩:=cR h
    cases hv with
    | xT f gD ps hl=>exact .xT _ _ _ (ihL _ _ _ hl h1 hi)
   ·cases h
theorem GM (hS:SR V lo fA) {G:Nat→Prop} (hG:∀q,V.F q→G q) {d:Nat}:∀ {xs Lz:List VV} {ps:List Value},VL V xs ps→xs.mapM (fz d V.H)=some Lz→R4 V G (xs.flatMap (iT d V.H))→VL (bare G V.P) Lz ps
 | [],Lz,ps,hl,h,_=>by cases h;cases hl;exact .nil
 |
  x::xs,Lz,ps,hl,h,hi=>by
  obtain⟨y,ys,h1,h2,rfl⟩:=sB h
  cases hl with
  |
   cons _ v _ vs hx M3 =>
   exact .cons _ _ _ _ (PV hS hG d x y v hx h1 fun i qI=>hi i (by rw[aLl];exact aLM _ qI)) (GM hS hG M3 h2 fun i qI=>hi i (by rw[aLl];exact aLN _ qI))
def View.dA (V:View) (ids:List Nat):View:=ids.foldl View.freeze V
theorem Ah:∀(ids:List Nat) {V:View},SR V lo fA→SR (V.dA ids) lo fA∧Hp lo V (V.dA ids)∧(V.dA ids).H=PM.dA V.H ids∧(V.dA ids).P=V.P∧(V.dA ids).m=V.m∧R4 V (V.dA ids).F ids
 | [],V,hS=>⟨hS,Hp.refl _ _,rfl,rfl,rfl,fun i hi=>by cases hi⟩
 |
  i::ids,V,hS=>by
  obtain⟨h1,h2,h3⟩:=TD hS i
  obtain⟨g1,g2,g3,g4,g5,g6⟩:=Ah ids h1
  refine⟨g1,h2.trans g2,?_,g4.trans (anH V i),g5.trans (Ws V i),?_⟩
  ·show ((V.freeze i).dA ids).H=_
   rw[g3,Vc]
   rfl
  ·intro k hk g es e w hr
   show ((V.freeze i).dA ids).F (V.m k)
   rcases aLL.1 hk with rfl | hk
   ·exact g2.F _ (h3 _ _ _ _ hr)
   ·have Jc:∃g es e w,(V.freeze i).H[k]? = some (.row g es e w):=by
     rw[Vc]
     unfold D7
     split
     ·rename_i g' oQ e' w' hi
      by_cases hki:k=i
      ·subst hki
       exact⟨g',oQ,e',false,aKV (aKw.1 hi).1⟩
      ·exact⟨g,es,e,w,by rw[aKW (Ne.symm hki)];exact hr⟩
     ·exact⟨g,es,e,w,hr⟩
    obtain⟨g',oQ,e',w',Jc⟩:=Jc
    have:=g6 k hk _ _ _ _ Jc
    rw[Ws] at this
    exact this
end
end Go.PM