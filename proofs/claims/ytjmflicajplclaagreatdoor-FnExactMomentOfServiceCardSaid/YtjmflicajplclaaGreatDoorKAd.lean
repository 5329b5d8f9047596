/- Texts of a claim, in one: part 4. -/
import Derived.Test.YtjmflicajplclaaGreatDoorKAc
open Bool renaming and_eq_true → aLc,false_eq_true → aLg
open List renaming all_cons → aLw,all_eq_true → aKS,append_nil → aLM,drop_drop → aLE,drop_eq_getElem_cons → aKJ,drop_zero → aLQ,eq_of_mem_replicate → aLP,flatMap_append → aLI,flatMap_cons → aLs,flatMap_nil → aLL,getElem?_append_left → aKV,getElem?_eq_some_iff → aKD,getElem?_set_ne → aK3,getElem?_set_self → aK2,mem_append → aLA,mem_append_left → aLT,mem_append_right → aLU,mem_cons → aLS,mem_cons_of_mem → aLd,mem_cons_self → aLe,mem_flatMap → aLG,mem_of_getElem? → aLy,mem_of_mem_drop → aLC,mem_of_mem_take → aLB,mem_or_eq_of_mem_set → aLJ,mem_singleton → aLK,replicate → aLu,replicate_succ → aLO,set_eq_take_append_cons_drop → aLz,take_append_drop → aLN,take_length → aLR,take_of_length_le → aLx,take_succ_cons → aLr,take_take → aLD
open Nat renaming add_assoc → aKQ,add_mul → aK9,le_refl → aKE,le_trans → aKF,lt_of_lt_of_le → aKG,min_eq_left → aLF,mul_le_mul_right → aK5,succ_mul → aLt,zero_mul → aLH
set_option linter.unusedSimpArgs false
set_option linter.unusedVariables false
namespace Go.PM
inductive TK where
 | op
 | cl (e:Nat)
 | nil
 deriving DecidableEq
inductive VV where
 | any
 | sc (v:Value)
 | agg (cs:List VV)
 | dW (vs:List VV)
 | tree (es:List VV) (k:TK)
 | cG (x:VV) (off:Nat)
 | ref (b g o n c:Nat)
 | ptr (b g j off:Nat)
 | xZ (f:Nat) (gB:List VV)
 deriving Inhabited
inductive fO where
 | dead
 | row (g:Nat) (es:List VV) (e:Nat) (w:Bool)
 deriving Inhabited
abbrev aA:=List fO
abbrev cV:=Nat→VV
def tI:VV := .dW []
def qH:Value→Bool
 | .bool _ | .int _ _ | .string _ | .pointer none | .nilFunc | .nilIface=>true
 | _=>false
def kW:Value→VV
 | .slice none 0 0 => .tree [] .nil
 | v=>if qH v then .sc v else .any
def inj:Value→VV
 | .agg cs => .agg (cs.toList.map kW)
 | .tuple vs=>if vs.isEmpty then .dW [] else .any
 | v=>kW v
def fJ (ρ:cV):Operand→VV
 | .tmp t=>ρ t
 | .const v=>inj v
 | .global _ => .any
 | .func f => .xZ f []
def Nh (ρ:cV):Option Nat→VV→cV
 | none,_=>ρ
 | some d,v=>fun k=>if k=d then v else ρ k
def aB:VV→List VV
 | .agg cs=>cs
 | v=>[v]
def elemOf:List VV→VV
 | [x]=>x
 | cs => .agg cs
def bP:VV→Bool
 | .any | .agg _ | .dW _=>false
 | _=>true
def uni:List VV→Bool
 | []=>true
 | x::xs=>xs.all fun y=>(aB y).length == (aB x).length
mutual
def aY:VV→Bool
 | .any=>false
 | .sc v=>qH v
 | .agg cs=>aO cs
 | .dW vs=>aO vs
 | .tree es k=>decide (k = .op)&&aO es&&uni es
 | .cG x _=>aY x
 | .ref .. => false
 | .ptr .. => false
 | .xZ _ gB=>aO gB
def aO:List VV→Bool
 | []=>true
 | x::xs=>aY x&&aO xs
end
def Cr:VV→Bool
 | .agg [_]=>false
 | _=>true
mutual
def gU:VV→Bool
 | .any=>false
 | .sc v=>qH v
 | .agg cs=>sO cs
 | .dW vs=>sO vs
 | .tree es k=>decide (k = .op)&&sO es&&uni es&&es.all Cr
 | .cG _ _=>false
 | .ref .. => false
 | .ptr .. => false
 | .xZ _ _=>false
def sO:List VV→Bool
 | []=>true
 | x::xs=>gU x&&sO xs
end
mutual
def Jh:VV→Bool
 | .sc v=>qH v
 | .agg cs=>Wn cs
 | .dW vs=>Wn vs
 | _=>false
def Wn:List VV→Bool
 | []=>true
 | x::xs=>Jh x&&Wn xs
end
mutual
def below (k:Nat):VV→Bool
 | .any=>true
 | .sc _=>true
 | .agg cs=>oK k cs
 | .dW vs=>oK k vs
 | .tree es _=>oK k es
 | .cG x _=>below k x
 | .ref b _ _ _ _=>decide (b<k)
 | .ptr b _ _ _=>decide (b<k)
 | .xZ _ gB=>oK k gB
def oK (k:Nat):List VV→Bool
 | []=>true
 | x::xs=>below k x&&oK k xs
end
def MI (k:Nat) (v:VV):VV:=if below k v then v else .any
def aG (H:aA) (b g:Nat):Option (List VV×Nat×Bool) :=
 match H[b]? with
 | some (.row g' es e w)=>if g'=g then some (es,e,w) else none
 | _=>none
def tW:List CK→List VV→List VV→Option Bool
 | [],[],[]=>some true
 |
  k::ks,.sc x::xs,.sc y::ys=>match xS k x y with
  | some true=>tW ks xs ys
  | some false=>some false
  | none=>none
 | _,_,_=>none
def dE (cs:List VV) (o:Nat) (new:List VV):List VV:=cs.take o++new++cs.drop (o+new.length)
def isAny:VV→Bool
 | .any=>true
 | _=>false
def BC (places:List (Nat×Nat)) (cells:List VV):List (Nat×VV)→Option (List VV)
 | []=>some cells
 |
  (i,v)::rest =>
  match places[i]? with
  | none=>none
  |
   some (off,size) =>
   if (aB v).length=size∧off+size≤cells.length∧isAny v=false then
    BC places (cells.take off++aB v++cells.drop (off+size)) rest
   else none
def yW (e:Nat) (es:List VV):List (Nat×VV)→Option (List VV)
 | []=>some es
 | (i,v)::rest=>if i<es.length∧(aB v).length=e∧(aB v).all bP then yW e (es.set i v) rest else none
def IH:Option VV→Option (Option Value)
 | none=>some none
 | some (.sc v)=>some (some v)
 | some _=>none
def dQ (agg:Bool) (size:Nat) (x:VV) (o:Nat):Option VV :=
 if agg then (if o+size≤(aB x).length then some (.agg (((aB x).drop o).take size)) else none) else (aB x)[o]?
structure Fl where
 bf:Bool
 lr:Bool
def bF (agg:Bool) (size:Nat) (p:VV) (H:aA):Option VV :=
 match p with
 | .cG x o=>dQ agg size x o
 |
  .ptr b g j o=>match aG H b g with
  |
   some (es,_,_)=>match es[j]? with
   | some x=>dQ agg size x o
   | none=>none
  | none=>none
 | _=>none
def bJ (size:Nat) (x i:VV) (H:aA):Option VV :=
 match x,i with
 |
  .tree es _,.sc (.int _ i)=>if 0≤i then match es[i.toNat]? with
  | some x=>if (aB x).length=size then some (.cG x 0) else none
  | none=>none
  else none
 |
  .ref b g o n _,.sc (.int _ i)=>match aG H b g with
  | some (_,e,_)=>if e=size∧0≤i∧i<n then some (.ptr b g (o+i.toNat) 0) else none
  | none=>none
 | _,_=>none
def Hl (size:Nat) (x:VV) (l h m:Option VV) (H:aA):Option VV :=
 match IH l,IH h,IH m with
 |
  some lv,some hv,some mv =>
  match x with
  |
   .tree (y::ys) _ =>
   if (aB y).length=size then
    match fC mv (some (ys.length+1)) (ys.length+1) with
    | none=>none
    |
     some m=>match fC hv (if mv.isSome then none else some (ys.length+1)) m with
     | none=>none
     |
      some h=>match fC lv (some 0) h with
      | none=>none
      | some l=>if mv.isSome∧m=l then some (.tree [] (.cl size)) else some (.tree (((y::ys).drop l).take (h-l)) .op)
   else none
  |
   .ref b g o n c =>
   match aG H b g with
   |
    some (_,e,_) =>
    if e=size then
     match fC mv (some c) c with
     | none=>none
     |
      some m=>match fC hv (if mv.isSome then none else some n) m with
      | none=>none
      |
       some h=>match fC lv (some 0) h with
       | none=>none
       | some l=>if mv.isSome∧m=l then some (.tree [] (.cl size)) else some (.ref b g (o+l) (h-l) (m-l))
    else none
   | none=>none
  | _=>none
 | _,_,_=>none
def Lv:List VV→Option (List UInt8)
 | []=>some []
 | .sc (.int .u8 n)::r=>(Lv r).map (UInt8.ofNat n.toNat :: ·)
 | _=>none
def cW (size:Nat) (y:VV) (H:aA):Option (List VV) :=
 match y with
 | .tree es _=>if es.all fun x=>(aB x).length == size&&(aB x).all bP then some es else none
 |
  .ref b g o n _=>match aG H b g with
  | some (es,e,_)=>if e=size∧o+n≤es.length∧(((es.drop o).take n).all fun x=>(aB x).all bP) then some ((es.drop o).take n) else none
  | none=>none
 | .sc (.string s)=>if size=1 then some (s.data.toList.map fun b => .sc (.int .u8 b.toNat)) else none
 | _=>none
def dO (lo size bytes:Nat) (x:VV) (new:List VV) (H:aA):Option (VV×aA) :=
 if 1≤bytes∧1≤size then
  match x with
  | .tree [] .nil=>if new.length=0 then some (x,H) else if new.length*bytes≤140737488355328 then some (.ref H.length 0 0 new.length new.length,H++[.row 0 new size true]) else none
  | .tree es (.cl e)=>if e=size then (if new.length=0 then some (x,H) else if (es.length+new.length)*bytes≤140737488355328 then some (.ref H.length 0 0 (es.length+new.length) (es.length+new.length),H++[.row 0 (es++new) size true]) else none) else none
  |
   .ref b g o n c=>match aG H b g with
   |
    some (es,e,true) =>
    if e=size∧lo≤b∧o+n≤es.length then
     if n+new.length≤c then
      if new.length=0 then some (x,H)
      else if o+n+new.length≤es.length then some (.ref b g o (n+new.length) c,H.set b (.row g (dE es (o+n) new) e true))
      else none
     else if (n+new.length)*bytes≤140737488355328 then some (.ref b (g+1) 0 (n+new.length) (n+new.length),H.set b (.row (g+1) ((es.drop o).take n++new) e true))
     else none
    else none
   | _=>none
  | _=>none
 else none
def bL (lo size:Nat) (p v:VV) (H:aA):Option aA :=
 match p with
 |
  .ptr b g j o=>match aG H b g with
  |
   some (es,e,true)=>match es[j]? with
   |
    some x =>
    if (aB v).length=size∧lo≤b∧(aB v).all bP then
     if o=0∧size=e then some (H.set b (.row g (es.set j v) e true))
     else if 2≤e∧o+size≤e then some (H.set b (.row g (es.set j (.agg (dE (aB x) o (aB v)))) e true))
     else none
    else none
   | none=>none
  | _=>none
 | _=>none
def Bc (zero:List Value) (bytes:Nat) (l c:VV) (H:aA):Option (VV×aA) :=
 match l,c with
 | .sc (.int .i64 l),.sc (.int .i64 c)=>if 0≤l∧l≤c∧c*bytes≤281474976710656∧c≤9223372036854775807 then
  some (.ref H.length 0 0 l.toNat c.toNat,H++[.row 0 (aLu c.toNat (elemOf (zero.map kW))) zero.length true]) else none
 | _,_=>none
def mV (lr:Bool) (zero:List Value) (n:Nat) (parts:List (Nat×VV)) (H:aA):Option (VV×aA) :=
 match yW zero.length (aLu n (elemOf (zero.map kW))) parts with
 | some es=>if (zero.map kW).all bP then (if n=0∨lr=true then some (.ref H.length 0 0 n n,H++[.row 0 es zero.length true]) else some (.tree es (.cl zero.length),H)) else none
 | none=>none
def LH (lo size:Nat) (x y:VV) (H:aA):Option (VV×aA) :=
 match x,cW size y H with
 | .tree [] .nil,some _=>some (.sc (.int .i64 0),H)
 |
  .ref b g o d _,some new=>match aG H b g with
  | some (es,e,true)=>if e=size∧lo≤b∧o+(new.take d).length≤es.length then some (.sc (.int .i64 (new.take d).length),H.set b (.row g (dE es o (new.take d)) e true)) else none
  | _=>none
 | _,_=>none
def Ta (lo:Nat) (zero:List Value) (x:VV) (H:aA):Option aA :=
 match x with
 |
  .ref b g o n _=>match aG H b g with
  | some (es,e,true)=>if n=0 then some H else if e=zero.length∧lo≤b∧o+n≤es.length∧(zero.map kW).all bP then some (H.set b (.row g (dE es o (aLu n (elemOf (zero.map kW)))) e true)) else none
  | _=>none
 | _=>none
def Ie (neg:Bool) (x:VV) (H:aA):Option VV :=
 match x with
 | .tree [] .nil=>some (.sc (.bool (true != neg)))
 | .tree [] (.cl _)=>some (.sc (.bool (false != neg)))
 | .tree (_::_) _=>some (.sc (.bool (false != neg)))
 | .ref b g _ _ _=>(aG H b g).map fun _ => .sc (.bool (false != neg))
 | _=>none
def sE (x:VV) (H:aA):Option VV :=
 match x with
 | .tree es _=>some (.sc (.int .i64 es.length))
 | .ref b g _ n _=>(aG H b g).map fun _ => .sc (.int .i64 n)
 | _=>none
def yP (off:Nat) (x:VV) (H:aA):Option VV :=
 match x with
 | .cG x o=>some (.cG x (o+off))
 | .ptr b g j o=>(aG H b g).map fun _ => .ptr b g j (o+off)
 | _=>none
def MV (x:VV) (H:aA):Option VV :=
 match x with
 | .cG x o=>some (.cG x o)
 | .ptr b g j o=>(aG H b g).map fun _ => .ptr b g j o
 | _=>none
def zO (x:VV) (l h:Option VV):Option VV :=
 match x,IH l,IH h with
 |
  .sc (.string s),some lv,some hv=>match Co lv hv s.size with
  | some (l,h)=>some (.sc (.string (s.extract l h)))
  | none=>none
 | _,_,_=>none
def arD (agg:Bool) (off size:Nat) (x:VV):Option VV :=
 match x with
 | .agg cs=>if agg then (if off+size≤cs.length then some (.agg ((cs.drop off).take size)) else none) else cs[off]?
 | _=>none
def Po (f:Value→Option Value) (x:VV):Option VV :=
 match x with
 | .sc a=>(f a).map .sc
 | _=>none
def KB (f:Value→Value→Option Value) (x y:VV):Option VV :=
 match x,y with
 | .sc a,.sc b=>(f a b).map .sc
 | _,_=>none
def Wx (c a b:VV):Option VV :=
 match c with
 | .sc (.bool t)=>some (if t then a else b)
 | _=>none
def aiM (i:Nat) (x:VV):Option VV :=
 match x with
 | .dW vs=>vs[i]?
 | _=>none
def X0 (neg:Bool) (ks:List CK) (x y:VV):Option VV :=
 match x,y with
 | .agg a,.agg b=>(tW ks a b).map fun t => .sc (.bool (t != neg))
 | _,_=>none
def acB:Value→Option Value
 | .string s=>some (.string s)
 | _=>none
def DE:Value→Option Value
 | .string s=>some (.int .i64 s.size)
 | _=>none
def Ke:Value→Value→Option Value
 | .string s,.int _ i=>if 0≤i∧i<s.size then some (.int .u8 ((s.data.toList.getD i.toNat 0).toNat:Int)) else none
 | _,_=>none
def vop (fl:Fl) (lo:Nat) (o:qK) (ρ:cV) (H:aA):Option (VV×aA) :=
 match o with
 | .mv x=>some (fJ ρ x,H)
 | .pick c a b=>(Wx (fJ ρ c) (fJ ρ a) (fJ ρ b)).map (·,H)
 | .bin op x y=>(KB (dK op) (fJ ρ x) (fJ ρ y)).map (·,H)
 | .eqb neg x y=>(KB (OO neg) (fJ ρ x) (fJ ρ y)).map (·,H)
 | .isnil neg x=>(Ie neg (fJ ρ x) H).map (·,H)
 | .eqagg neg ks x y=>(X0 neg ks (fJ ρ x) (fJ ρ y)).map (·,H)
 | .un op x=>(Po (pun op) (fJ ρ x)).map (·,H)
 | .cvt k x=>(Po (Xg k) (fJ ρ x)).map (·,H)
 | .cvs x=>(Po acB (fJ ρ x)).map (·,H)
 | .ext x i=>(aiM i (fJ ρ x)).map (·,H)
 | .fld agg off size x=>(arD agg off size (fJ ρ x)).map (·,H)
 | .build zero places parts=>(BC places (zero.map kW) (parts.map fun(i,x)=>(i,fJ ρ x))).map fun cs=>(.agg cs,H)
 | .chk x=>(MV (fJ ρ x) H).map (·,H)
 | .faddr off x=>(yP off (fJ ρ x) H).map (·,H)
 | .iaddr size x i=>(bJ size (fJ ρ x) (fJ ρ i) H).map (·,H)
 | .sidx x i=>(KB Ke (fJ ρ x) (fJ ρ i)).map (·,H)
 | .ssub x l h=>(zO (fJ ρ x) (l.map (fJ ρ)) (h.map (fJ ρ))).map (·,H)
 | .mkfn f gB=>some (.xZ f (gB.map (fJ ρ)),H)
 | .len x=>(sE (fJ ρ x) H).map (·,H)
 | .slen x=>(Po DE (fJ ρ x)).map (·,H)
 | .min x y=>(KB WE (fJ ρ x) (fJ ρ y)).map (·,H)
 | .max x y=>(KB V8 (fJ ρ x) (fJ ρ y)).map (·,H)
 | .load agg size p=>(bF agg size (fJ ρ p) H).map (·,H)
 | .sub size x l h m=>(Hl size (fJ ρ x) (l.map (fJ ρ)) (h.map (fJ ρ)) (m.map (fJ ρ)) H).map (·,H)
 |
  .b2s x=>match fJ ρ x with
  | .sc _=>none
  |
   y=>match cW 1 y H with
   | some es=>(Lv es).map fun bs=>(.sc (.string ⟨bs.toArray⟩),H)
   | none=>none
 | .new zero=>if (zero.map kW).all bP then some (.ptr H.length 0 0 0,H++[.row 0 [elemOf (zero.map kW)] zero.length true]) else none
 | .box x=>if (aB (fJ ρ x)).all bP then (if fl.bf then some (.cG (fJ ρ x) 0,H) else some (.ptr H.length 0 0 0,H++[.row 0 [fJ ρ x] (aB (fJ ρ x)).length true])) else none
 | .make zero bytes l c=>if (zero.map kW).all bP then Bc zero bytes (fJ ρ l) (fJ ρ c) H else none
 | .lit zero n parts=>mV fl.lr zero n (parts.map fun(i,x)=>(i,fJ ρ x)) H
 | .store size p v=>(bL lo size (fJ ρ p) (fJ ρ v) H).map fun H'=>(tI,H')
 |
  .app size bytes x y=>match cW size (fJ ρ y) H with
  | some new=>dO lo size bytes (fJ ρ x) new H
  | none=>none
 |
  .appz zero bytes x n=>match fJ ρ n with
  | .sc (.int .i64 n)=>if 0≤n∧n*bytes≤140737488355328∧(zero.map kW).all bP then dO lo zero.length bytes (fJ ρ x) (aLu n.toNat (elemOf (zero.map kW))) H else none
  | _=>none
 | .copy size x y=>LH lo size (fJ ρ x) (fJ ρ y) H
 | .clear zero x=>(Ta lo zero (fJ ρ x) H).map fun H'=>(tI,H')
 | _=>none
inductive VBx where
 | no
 | row (i:Nat) (w:Bool)
 | D3 (i:Nat)
 | tree
 | bad
def pS (H:aA):VV→VBx
 | .tree [] .nil => .no
 | .tree _ _ => .tree
 | .cG _ _ => .tree
 |
  .ref b g _ _ _=>match aG H b g with
  | some (_,_,w) => .row b w
  | none => .D3 b
 |
  .ptr b g _ _=>match aG H b g with
  | some (_,_,w) => .row b w
  | none => .D3 b
 | .any => .bad
 | _ => .no
def lY (H:aA) (x y:VV):Bool :=
 match pS H x,pS H y with
 | .bad,_=>false
 | _,.bad=>false
 | .no,_=>true
 | _,.no=>true
 | .row i _,.row j _=>i != j
 | .row i _,.D3 j=>i != j
 | .D3 i,.row j _=>i != j
 | .D3 _,.D3 _=>false
 | .D3 _,.tree=>false
 | .tree,.D3 _=>false
 | .row _ w,.tree=>w
 | .tree,.row _ w=>w
 | .tree,.tree=>false
def gN (ρ:cV) (H:aA) (c:Operand×Operand):Bool:=lY H (fJ ρ c.1) (fJ ρ c.2)
def Eg (g:Option (Nat×Bool)) (ρ:cV):Option Bool :=
 match g with
 | none=>some true
 |
  some (t,want)=>match ρ t with
  | .sc (.bool b)=>some (b == want)
  | .dW _=>some false
  | _=>none
def fz:Nat→aA→VV→Option VV
 | 0,_,_=>none
 |
  d+1,H,v =>
  if aY v then some v else
  match v with
  | .agg cs=>(cs.mapM (fz d H)).map .agg
  | .dW vs=>(vs.mapM (fz d H)).map .dW
  | .tree es _=>(es.mapM (fz d H)).map (.tree · .op)
  | .cG x o=>(fz d H x).map (.cG · o)
  |
   .ref b g o n c=>match aG H b g with
   | some (es,_,_)=>if o+n≤es.length∧n≤c then (((es.drop o).take n).mapM (fz d H)).map (.tree · .op) else none
   | none=>none
  |
   .ptr b g j o=>match aG H b g with
   |
    some (es,_,_)=>match es[j]? with
    | some x=>(fz d H x).map (.cG · o)
    | none=>none
   | none=>none
  | .xZ f gB=>(gB.mapM (fz d H)).map (.xZ f ·)
  | _=>none
def iT:Nat→aA→VV→List Nat
 | 0,_,_=>[]
 |
  d+1,H,v =>
  if aY v then [] else
  match v with
  | .agg cs=>cs.flatMap (iT d H)
  | .dW vs=>vs.flatMap (iT d H)
  | .tree es _=>es.flatMap (iT d H)
  | .cG x _=>iT d H x
  |
   .ref b g o n _=>match aG H b g with
   | some (es,_,_)=>b::((es.drop o).take n).flatMap (iT d H)
   | none=>[]
  |
   .ptr b g j _=>match aG H b g with
   |
    some (es,_,_)=>match es[j]? with
    | some x=>b::iT d H x
    | none=>[]
   | none=>[]
  | .xZ _ gB=>gB.flatMap (iT d H)
  | _=>[]
def DW (H:aA) (b:Nat):aA :=
 match H[b]? with
 | some (.row g es e _)=>H.set b (.row g es e false)
 | _=>H
def dC (H:aA) (ids:List Nat):aA:=ids.foldl DW H
def depth:Nat:=8
end Go.PM
namespace Go.PM
structure View where
 m:Nat→Nat
 F:Nat→Prop
 H:aA
 P:aI
 base:Nat
def kindOk (k:TK) (n c e:Nat) (p:Bool):Prop :=
 match k with
 | .op=>True
 | .cl e'=>e'=e∧c=n∧p=false
 | .nil=>False
mutual
inductive VR (V:View):VV→Value→Prop
 | any (v:Value):VR V .any v
 | sc (v:Value) (h:qH v=true):VR V (.sc v) v
 | agg (cs:List VV) (ps:List Value) (h:VL V cs ps):VR V (.agg cs) (.agg ps.toArray)
 | dW (cs:List VV) (ps:List Value) (h:VL V cs ps):VR V (.dW cs) (.tuple ps.toArray)
 | pT (k:TK) (hk:k = .op∨k = .nil):VR V (.tree [] k) (.slice none 0 0)
 | tree (es:List VV) (k:TK) (b o c:Nat) (r:List Value) (e:Nat) (p:Bool) (hF:V.F b) (hb:V.P[b]? = some (.row r e p)) (ho:o+es.length*e≤r.length)
  (hc:es.length≤c) (he:∀x∈es,(aB x).length=e) (hk:kindOk k es.length c e p) (hl:VL V (es.flatMap aB) ((r.drop o).take (es.length*e))) :
  VR V (.tree es k) (.slice (some ⟨b,o,none⟩) es.length c)
 | cG (x:VV) (off b o:Nat) (r:List Value) (e:Nat) (p:Bool) (hF:V.F b) (hb:V.P[b]? = some (.row r e p)) (ho:o+(aB x).length≤r.length)
  (hl:VL V (aB x) ((r.drop o).take (aB x).length)):VR V (.cG x off) (.pointer (some ⟨b,o+off,none⟩))
 | ref (b g o n c:Nat) (a:Option Addr) (n' c':Nat) (bI:b<V.H.length) (hg:∀g' es e w,V.H[b]? = some (.row g' es e w)→g≤g')
  (h:∀es e w,V.H[b]? = some (.row g es e w)→a=some ⟨V.m b,o*e,none⟩∧n'=n∧c'=c)
  (hq:∀a0,a=some a0→V.base≤a0.block∧a0.block<V.P.length∧∀b' g' es e w,V.H[b']? = some (.row g' es e w)→b'≠b→V.m b'≠a0.block):VR V (.ref b g o n c) (.slice a n' c')
 | ptr (b g j off:Nat) (a:Option Addr) (bI:b<V.H.length) (hg:∀g' es e w,V.H[b]? = some (.row g' es e w)→g≤g')
  (h:∀es e w,V.H[b]? = some (.row g es e w)→a=some ⟨V.m b,j*e+off,none⟩)
  (hq:∀a0,a=some a0→V.base≤a0.block∧a0.block<V.P.length∧∀b' g' es e w,V.H[b']? = some (.row g' es e w)→b'≠b→V.m b'≠a0.block):VR V (.ptr b g j off) (.pointer a)
 | xZ (f:Nat) (gB:List VV) (ps:List Value) (h:VL V gB ps):VR V (.xZ f gB) (.func (.func f) #[] ps.toArray)
inductive VL (V:View):List VV→List Value→Prop
 | nil:VL V [] []
 | cons (x:VV) (v:Value) (xs:List VV) (vs:List Value) (h:VR V x v) (hs:VL V xs vs):VL V (x::xs) (v::vs)
end
structure Up (V V':View):Prop where
 F:∀b,V.F b→V'.F b
 P:∀b,V.F b→V'.P[b]? = V.P[b]?
 len:V.H.length≤V'.H.length
 row:∀b g' pK e w',b<V.H.length→V'.H[b]? = some (.row g' pK e w')→∃g es w,V.H[b]? = some (.row g es e w)∧g≤g'∧(g'=g→V'.m b=V.m b)
 NG:V'.base=V.base
 Hr:V.P.length≤V'.P.length
 D3:∀b g es e w,V'.H[b]? = some (.row g es e w)→V'.m b<V.P.length→∃g0 es0 w0,V.H[b]? = some (.row g0 es0 e w0)∧V'.m b=V.m b∧(w=true→w0=true)
section
variable {V V' UL:View}
theorem Up.refl (V:View):Up V V:=⟨fun _ h=>h,fun _ _=>rfl,aKE _,fun b g es e w _ h=>⟨g,es,w,h,aKE _,fun _=>rfl⟩,rfl,aKE _,fun b g es e w h _=>⟨g,es,w,h,rfl,id⟩⟩
theorem Up.trans (h:Up V V') (h':Up V' UL):Up V UL :=
 ⟨fun b hb=>h'.F b (h.F b hb),fun b hb=>(h'.P b (h.F b hb)).trans (h.P b hb),aKF h.len h'.len,fun b g es e w hb hr=>by
  obtain⟨g1,EI,w1,h1,h2,h3⟩:=h'.row b g es e w (aKG hb h.len) hr
  obtain⟨g2,SE,w2,h4,h5,h6⟩:=h.row b g1 EI e w1 hb h1
  exact⟨g2,SE,w2,h4,aKF h5 h2,fun hg=>(h3 (by omega)).trans (h6 (by omega))⟩,h'.NG.trans h.NG,aKF h.Hr h'.Hr,fun b g es e w hb hm=>by
   obtain⟨g1,EI,w1,h1,h2,h3⟩:=h'.D3 b g es e w hb (aKG hm h.Hr)
   obtain⟨g2,SE,w2,h4,h5,h6⟩:=h.D3 b g1 EI e w1 h1 (by rw[←h2];exact hm)
   exact⟨g2,SE,w2,h4,h2.trans h5,fun hw=>h6 (h3 hw)⟩⟩
theorem Up.hq (u:Up V V') {b q:Nat} (h:V.base≤q∧q<V.P.length∧∀b' g' es e w,V.H[b']? = some (.row g' es e w)→b'≠b→V.m b'≠q):V'.base≤q∧q<V'.P.length∧∀b' g' es e w,V'.H[b']? = some (.row g' es e w)→b'≠b→V'.m b'≠q:=by
 refine⟨by rw[u.NG];exact h.1,aKG h.2.1 u.Hr,fun b' g' es e w hb gF hm => ?_⟩
 obtain⟨g0,es0,w0,h1,h2,_⟩:=u.D3 b' g' es e w hb (by rw[hm];exact h.2.1)
 exact h.2.2 b' _ _ _ _ h1 gF (h2.symm.trans hm)
theorem VR.mono (u:Up V V') {x:VV} {v:Value} (h:VR V x v):VR V' x v:=by
 induction h using VR.rec (motive_2:=fun xs vs _=>VL V' xs vs) with
 | any=>exact .any _
 | sc _ h=>exact .sc _ h
 | agg cs ps _ ih=>exact .agg _ _ ih
 | dW cs ps _ ih=>exact .dW _ _ ih
 | pT k hk=>exact .pT k hk
 | tree es k b o c r e p hF hb ho hc he hk _ ih=>exact .tree es k b o c r e p (u.F _ hF) (by rw[u.P _ hF];exact hb) ho hc he hk ih
 | cG x off b o r e p hF hb ho _ ih=>exact .cG x off b o r e p (u.F _ hF) (by rw[u.P _ hF];exact hb) ho ih
 |
  ref b g o n c a n' c' bI hg h hq =>
  refine .ref b g o n c a n' c' (aKG bI u.len) (fun g' es e w hr => ?_) (fun es e w hr => ?_) fun a0 ha=>u.hq (hq a0 ha)
  ·obtain⟨g1,EI,w1,h1,h2,_⟩:=u.row b g' es e w bI hr
   exact aKF (hg _ _ _ _ h1) h2
  ·obtain⟨g1,EI,w1,h1,h2,h3⟩:=u.row b g es e w bI hr
   have h4:=hg _ _ _ _ h1
   have h5:g=g1:=by omega
   subst h5
   rw[h3 rfl]
   exact h _ _ _ h1
 |
  ptr b g j off a bI hg h hq =>
  refine .ptr b g j off a (aKG bI u.len) (fun g' es e w hr => ?_) (fun es e w hr => ?_) fun a0 ha=>u.hq (hq a0 ha)
  ·obtain⟨g1,EI,w1,h1,h2,_⟩:=u.row b g' es e w bI hr
   exact aKF (hg _ _ _ _ h1) h2
  ·obtain⟨g1,EI,w1,h1,h2,h3⟩:=u.row b g es e w bI hr
   have h4:=hg _ _ _ _ h1
   have h5:g=g1:=by omega
   subst h5
   rw[h3 rfl]
   exact h _ _ _ h1
 | xZ f gB ps _ ih=>exact .xZ _ _ _ ih
 | nil=>exact .nil
 | cons x v xs vs _ _ ih Yw=>exact .cons _ _ _ _ ih Yw
theorem VL.mono (u:Up V V') {xs:List VV} {vs:List Value} (h:VL V xs vs):VL V' xs vs:=by
 induction xs generalizing vs with
 | nil=>cases h;exact .nil
 |
  cons x xs ih=>cases h with
  | cons _ v _ vs h hs=>exact .cons _ _ _ _ (h.mono u) (ih hs)
end
section
variable {V:View} {xs ys:List VV} {vs ws:List Value}
theorem VL.length:∀ {xs:List VV} {vs:List Value},VL V xs vs→vs.length=xs.length
 | _,_,.nil=>rfl
 | _,_,.cons _ _ _ _ _ hs=>by simp[hs.length]
theorem VL.append:∀ {xs:List VV} {vs:List Value},VL V xs vs→VL V ys ws→VL V (xs++ys) (vs++ws)
 | _,_,.nil,h'=>h'
 | _,_,.cons _ _ _ _ h hs,h' => .cons _ _ _ _ h (hs.append h')
theorem VL.take (n:Nat):∀ {xs:List VV} {vs:List Value} ,VL V xs vs→VL V (xs.take n) (vs.take n):=by
 induction n with
 | zero=>intro xs vs _;simp;exact .nil
 |
  succ n ih=>intro xs vs h;cases h with
  | nil=>simp;exact .nil
  | cons x v xs vs h hs=>exact .cons _ _ _ _ h (ih hs)
theorem VL.drop (n:Nat):∀ {xs:List VV} {vs:List Value} ,VL V xs vs→VL V (xs.drop n) (vs.drop n):=by
 induction n with
 | zero=>intro xs vs h;simpa using h
 |
  succ n ih=>intro xs vs h;cases h with
  | nil=>simp;exact .nil
  | cons x v xs vs h hs=>exact ih hs
theorem VL.get (h:VL V xs vs) {i:Nat} {x:VV} (hx:xs[i]? = some x):∃v,vs[i]? = some v∧VR V x v:=by
 induction i generalizing xs vs with
 |
  zero=>cases h with
  | nil=>cases hx
  | cons y v xs vs h hs=>simp at hx;subst hx;exact⟨v,rfl,h⟩
 |
  succ i ih=>cases h with
  | nil=>cases hx
  | cons y v xs vs h hs=>exact ih hs (by simpa using hx)
theorem VL.map {α:Type} {f:α→VV} {g:α→Value}:∀ {l:List α},(∀x∈l,VR V (f x) (g x))→VL V (l.map f) (l.map g)
 | [],_ => .nil
 | x::l,h => .cons _ _ _ _ (h x (by simp)) (VL.map fun y hy=>h y (by simp[hy]))
theorem VL.replicate {x:VV} {v:Value} (h:VR V x v):∀n,VL V (aLu n x) (aLu n v)
 | 0 => .nil
 | n+1 => .cons _ _ _ _ h (VL.replicate h n)
theorem VL.kL {cs new:List VV} {ps pn:List Value} (h:VL V cs ps) (hn:VL V new pn) (o:Nat):VL V (dE cs o new) (kL ps o pn):=by
 unfold dE PM.kL
 rw[←hn.length]
 exact((h.take o).append hn).append (h.drop _)
theorem VR.kW (v:Value):VR V (kW v) v:=by
 unfold PM.kW
 split
 ·exact .pT _ (.inr rfl)
 ·split
  ·rename_i h;exact .sc _ h
  ·exact .any _
theorem VR.inj (v:Value):VR V (inj v) v:=by
 unfold PM.inj
 split
 ·rename_i cs
  have:(Value.agg cs) = .agg cs.toList.toArray:=by simp
  rw[this]
  refine .agg _ _ ?_
  have:=VL.map (V:=V) (f:=PM.kW) (g:=id) (l:=cs.toList) fun x _=>VR.kW x
  simpa using this
 ·rename_i vs
  split
  ·rename_i h
   have:vs=[].toArray:=by simpa using h
   rw[this]
   exact .dW _ _ .nil
  ·exact .any _
 ·exact VR.kW _
theorem VL.zero (z:List Value):VL V (z.map PM.kW) z:=by
 have:=VL.map (V:=V) (f:=PM.kW) (g:=id) (l:=z) fun x _=>VR.kW x
 simpa using this
theorem VR.cells {x:VV} {v:Value} (h:VR V x v) (hx:x ≠ .any):VL V (aB x) (aV v):=by
 cases h with
 | any=>exact absurd rfl hx
 |
  sc v h =>
  have:aV v=[v]:=by cases v<;>first | rfl | cases h
  rw[this]
  exact .cons _ _ _ _ (.sc v h) .nil
 | agg cs ps h=>simpa[aB,aV] using h
 | dW cs ps h=>exact .cons _ _ _ _ (.dW _ _ h) .nil
 | pT k hk=>exact .cons _ _ _ _ (.pT k hk) .nil
 | tree es k b o c r e p hF hb ho hc he hk hl=>exact .cons _ _ _ _ (.tree es k b o c r e p hF hb ho hc he hk hl) .nil
 | cG x off b o r e p hF hb ho hl=>exact .cons _ _ _ _ (.cG x off b o r e p hF hb ho hl) .nil
 | ref b g o n c a n' c' bI hg h hq=>exact .cons _ _ _ _ (.ref b g o n c a n' c' bI hg h hq) .nil
 | ptr b g j off a bI hg h hq=>exact .cons _ _ _ _ (.ptr b g j off a bI hg h hq) .nil
 | xZ f gB ps h=>exact .cons _ _ _ _ (.xZ _ _ _ h) .nil
theorem VR.iQ {x:VV} {v:Value} (h:VR V x v) (hx:bP x=true):iQ v=true:=by
 cases h with
 | sc v h=>cases v<;>first | rfl | cases h
 | any=>cases hx
 | agg=>cases hx
 | dW=>cases hx
 | _=>rfl
theorem VL.iQ:∀ {xs:List VV} {vs:List Value},VL V xs vs→xs.all bP=true→vs.all PM.iQ=true
 | _,_,.nil,_=>rfl
 |
  _,_,.cons _ _ _ _ h hs,hx=>by
  rw[aLw,aLc] at hx ⊢
  exact⟨h.iQ hx.1,hs.iQ hx.2⟩
theorem XX {x:VV} (h:(aB x).all bP=true):x ≠ .any:=by
 rintro rfl
 cases h
theorem mO {es:List VV} {e:Nat} (he:∀x∈es,(aB x).length=e):(es.flatMap aB).length=es.length*e:=by
 induction es with
 | nil=>simp
 |
  cons x xs ih =>
  rw[aLs,List.length_append,ih fun y hy=>he y (aLd _ hy),he x aLe,List.length_cons,aLt]
  omega
theorem yC {es:List VV} {e:Nat} (he:∀x∈es,(aB x).length=e) (i:Nat):(es.flatMap aB).drop (i*e)=(es.drop i).flatMap aB:=by
 induction i generalizing es with
 | zero=>simp
 |
  succ i ih =>
  cases es with
  | nil=>simp
  |
   cons x xs =>
   have hx:=he x aLe
   rw[aLs,List.drop_succ_cons,←ih fun y hy=>he y (aLd _ hy),show (i+1)*e=(aB x).length+i*e by rw[hx,aLt];omega,List.drop_append]
   simp
theorem yB {es:List VV} {e:Nat} (he:∀x∈es,(aB x).length=e) (i:Nat):(es.flatMap aB).take (i*e)=(es.take i).flatMap aB:=by
 induction i generalizing es with
 | zero=>simp
 |
  succ i ih =>
  cases es with
  | nil=>simp
  |
   cons x xs =>
   have hx:=he x aLe
   rw[aLs,aLr,aLs,←ih fun y hy=>he y (aLd _ hy),show (i+1)*e=(aB x).length+i*e by rw[hx,aLt];omega,List.take_append]
   simp
   exact aLx (by omega)
theorem OG {es:List VV} {e:Nat} (he:∀x∈es,(aB x).length=e) {j:Nat} {x:VV} (hx:es[j]? = some x):((es.flatMap aB).drop (j*e)).take e=aB x:=by
 obtain⟨bI,I4⟩:=aKD.1 hx
 rw[yC he,aKJ bI,I4,aLs,List.take_append,←he x (aLy hx)]
 simp
theorem AK {es new:List VV} {e:Nat} (he:∀x∈es,(aB x).length=e) (hn:∀x∈new,(aB x).length=e) (o:Nat):dE (es.flatMap aB) (o*e) (new.flatMap aB)=(dE es o new).flatMap aB:=by
 unfold dE
 rw[yB he,mO hn,show o*e+new.length*e=(o+new.length)*e by rw[aK9],yC he]
 simp
theorem LW {es:List VV} {j:Nat} {x:VV} (hj:j<es.length):dE es j [x]=es.set j x:=by
 unfold dE
 rw[aLz,if_pos hj]
 simp
theorem U0 {cs new:List VV} {o:Nat} (h:o+new.length≤cs.length):(dE cs o new).length=cs.length:=by
 unfold dE
 simp
 omega
theorem ME {cs new:List VV} {o:Nat} {x:VV} (h:x∈dE cs o new):x∈cs∨x∈new:=by
 unfold dE at h
 rw[aLA,aLA] at h
 rcases h with(h | h) | h
 ·exact .inl (aLB h)
 ·exact .inr h
 ·exact .inl (aLC h)
theorem qE {cs:List VV} (h:cs.all bP=true):aB (elemOf cs)=cs:=by
 unfold elemOf
 split
 ·rename_i x
  simp only[aLw,List.all_nil,Bool.and_true] at h
  cases x<;>first | rfl | cases h
 ·rfl
theorem cB {H:aA} {b g:Nat} {es:List VV} {e:Nat} {w:Bool}:aG H b g=some (es,e,w)↔H[b]? = some (.row g es e w):=by
 unfold aG
 constructor
 ·intro h
  split at h
  ·rename_i hb
   split at h
   ·rename_i hg;subst hg;cases h;exact hb
   ·cases h
  ·cases h
 ·intro h
  rw[h]
  simp
end
structure SR (V:View) (lo fB:Nat):Prop where
 row:∀b g es e w,V.H[b]? = some (.row g es e w)→∃r p,V.P[V.m b]? = some (.row r e p)∧(∀x∈es,(aB x).length=e)∧VL V (es.flatMap aB) r
 wr:∀b g es e,V.H[b]? = some (.row g es e true)→¬V.F (V.m b)∧(lo≤b→fB≤V.m b)
 inj:∀a b g es e w g' pK e' w',V.H[a]? = some (.row g es e w)→V.H[b]? = some (.row g' pK e' w')→V.m a=V.m b→a=b
 fr:∀b,V.F b→b<V.P.length
 W5:fB≤V.P.length
 NG:V.base≤V.P.length
structure HL (lo:Nat) (V V':View):Prop extends Up V V' where
 dB:∀q,q<V.P.length→(∀b g es e,V.H[b]? = some (.row g es e true)→lo≤b→V.m b≠q)→V'.P[q]? = V.P[q]?
 Fc:∀q,V'.F q→V.F q∨V.P.length≤q∨∃b g es e w,V.H[b]? = some (.row g es e w)∧V.m b=q
section
variable {V V' UL:View} {lo:Nat}
theorem HL.refl (lo:Nat) (V:View):HL lo V V :=
 { Up.refl V with dB:=fun _ _ _=>rfl,Fc:=fun _ h => .inl h }
theorem HL.trans (h:HL lo V V') (h':HL lo V' UL):HL lo V UL :=
 { Up.trans h.toUp h'.toUp with
  dB:=fun q hq hn=>by
   rw[h'.dB q (aKG hq h.Hr) ?_,h.dB q hq hn]
   intro b g es e hb hl hm
   obtain⟨g1,EI,w1,h1,h2,h3⟩:=h.D3 b g es e true hb (by rw[hm];exact hq)
   have:=h3 rfl
   subst this
   exact hn b g1 EI e h1 hl (h2.symm.trans hm)
  Fc:=fun q hq=>by
   rcases h'.Fc q hq with h1 | h1 | ⟨b,g,es,e,w,h1,h2⟩
   ·exact h.Fc q h1
   ·exact .inr (.inl (aKF h.Hr h1))
   ·rcases Nat.lt_or_ge q V.P.length with hl | hl
    ·obtain⟨g1,EI,w1,h3,h4,_⟩:=h.D3 b g es e w h1 (by rw[h2];exact hl)
     exact .inr (.inr ⟨b,g1,EI,e,w1,h3,h4.symm.trans h2⟩)
    ·exact .inr (.inl hl) }
end
end Go.PM
namespace Go.PM
def upd (m:Nat→Nat) (b v:Nat):Nat→Nat:=fun k=>if k=b then v else m k
theorem nX {m:Nat→Nat} {b v:Nat}:upd m b v b=v:=by simp[upd]
theorem pF {m:Nat→Nat} {b v k:Nat} (h:k≠b):upd m b v k=m k:=by simp[upd,h]
section
variable {V:View} {lo fB:Nat}
theorem SR.mlt (hS:SR V lo fB) {b g e:Nat} {es:List VV} {w:Bool} (hb:V.H[b]? = some (.row g es e w)):V.m b<V.P.length:=by
 obtain⟨r,p,h,_⟩:=hS.row b g es e w hb
 exact(aKD.1 h).1
theorem DR (hS:SR V lo fB) (x:Qc):SR { V with P:=V.P++[x],F:=fun q=>V.F q∨q=V.P.length } lo fB∧HL lo V { V with P:=V.P++[x],F:=fun q=>V.F q∨q=V.P.length }:=by
 have hU:Up V { V with P:=V.P++[x],F:=fun q=>V.F q∨q=V.P.length }:=⟨fun _ h => .inl h,fun b hb=>aKV (hS.fr b hb),aKE _,fun b g es e w _ h=>⟨g,es,w,h,aKE _,fun _=>rfl⟩,rfl,by simp,fun b g es e w hb _=>⟨g,es,w,hb,rfl,id⟩⟩
 refine⟨⟨fun b g es e w hb => ?_,fun b g es e hb=>⟨fun hF => ?_,(hS.wr b g es e hb).2⟩,hS.inj,fun b hb => ?_,by have:=hS.W5;simp;omega,by have:=hS.NG;simp;omega⟩,{ hU with dB:=fun q hq _=>aKV hq,Fc:=fun q hq => ?_ }⟩
 ·obtain⟨r,p,h1,h2,h3⟩:=hS.row b g es e w hb
  exact⟨r,p,by rw[←h1];exact aKV (hS.mlt hb),h2,h3.mono hU⟩
 ·rcases hF with hF | hF
  ·exact(hS.wr b g es e hb).1 hF
  ·have h1:V.m b=V.P.length:=hF
   have:=hS.mlt hb
   omega
 ·rcases hb with hb | hb
  ·have:=hS.fr b hb
   simp;omega
  ·subst hb;simp
 ·rcases hq with hq | hq
  ·exact .inl hq
  ·exact .inr (.inl (by omega))
theorem vH (hS:SR V lo fB) {es:List VV} {r:List Value} {e:Nat} (p:Bool) (he:∀x∈es,(aB x).length=e) (hl:VL V (es.flatMap aB) r) :
  SR { V with m:=upd V.m V.H.length V.P.length,H:=V.H++[.row 0 es e true],P:=V.P++[.row r e p] } lo fB∧HL lo V { V with m:=upd V.m V.H.length V.P.length,H:=V.H++[.row 0 es e true],P:=V.P++[.row r e p] }:=by
 have D3:∀b g pK e' w,(V.H++[fO.row 0 es e true])[b]? = some (.row g pK e' w)→(b=V.H.length∧g=0∧pK=es∧e'=e∧w=true)∨(b≠V.H.length∧V.H[b]? = some (.row g pK e' w)):=by
  intro b g pK e' w hb
  rcases Nat.lt_trichotomy b V.H.length with h | h | h
  ·rw[aKV h] at hb
   exact .inr ⟨by omega,hb⟩
  ·subst h
   rw[List.getElem?_append_right (aKE _)] at hb
   simp at hb
   obtain⟨h1,h2,h3,h4⟩:=hb
   exact .inl ⟨rfl,h1.symm,h2.symm,h3.symm,h4⟩
  ·rw[List.getElem?_eq_none (by simp;omega)] at hb
   cases hb
 have hU:Up V { V with m:=upd V.m V.H.length V.P.length,H:=V.H++[.row 0 es e true],P:=V.P++[.row r e p] } :=
  ⟨fun _ h=>h,fun b hb=>aKV (hS.fr b hb),by simp,fun b g' pK e' w' bI hb=>by
   rcases D3 b g' pK e' w' hb with⟨h,_⟩ | ⟨h,hb⟩
   ·omega
   ·exact⟨g',pK,w',hb,aKE _,fun _=>pF h⟩,rfl,by simp,fun b g pK e' w hb hm=>by
   rcases D3 b g pK e' w hb with⟨rfl,_⟩ | ⟨h,hb⟩
   ·simp only[nX] at hm
    omega
   ·exact⟨g,pK,w,hb,pF h,id⟩⟩
 refine⟨⟨fun b g pK e' w hb => ?_,fun b g pK e' hb => ?_,fun a b g EI e1 w1 g' SE e2 w2 ha hb hm => ?_,fun b hb=>by have:=hS.fr b hb;simp;omega,by have:=hS.W5;simp;omega,by have:=hS.NG;simp;omega⟩,
  { hU with dB:=fun q hq _=>aKV hq,Fc:=fun q hq => .inl hq }⟩
 ·rcases D3 b g pK e' w hb with⟨rfl,rfl,rfl,rfl,rfl⟩ | ⟨h,hb⟩
  ·exact⟨r,p,by simp only[nX];simp,he,hl.mono hU⟩
  ·obtain⟨r1,p1,h1,h2,h3⟩:=hS.row b g pK e' w hb
   refine⟨r1,p1,?_,h2,h3.mono hU⟩
   simp only[pF h]
   rw[aKV (hS.mlt hb)]
   exact h1
 ·rcases D3 b g pK e' true hb with⟨rfl,_⟩ | ⟨h,hb⟩
  ·simp only[nX]
   exact⟨fun hF=>by have:=hS.fr _ hF;omega,fun _=>hS.W5⟩
  ·simp only[pF h]
   exact hS.wr b g pK e' hb
 ·rcases D3 a g EI e1 w1 ha with⟨rfl,_⟩ | ⟨h,ha⟩
  ·rcases D3 b g' SE e2 w2 hb with⟨rfl,_⟩ | ⟨h',hb⟩
   ·rfl
   ·simp only[nX,pF h'] at hm
    have:=hS.mlt hb
    omega
  ·rcases D3 b g' SE e2 w2 hb with⟨rfl,_⟩ | ⟨h',hb⟩
   ·simp only[nX,pF h] at hm
    have:=hS.mlt ha
    omega
   ·simp only[pF h,pF h'] at hm
    exact hS.inj a b _ _ _ _ _ _ _ _ ha hb hm
theorem hJ {H:aA} {b:Nat} {x:fO} (hb:b<H.length) {a:Nat} {y:fO} (h:(H.set b x)[a]? = some y):(a=b∧y=x)∨(a≠b∧H[a]? = some y):=by
 by_cases he:a=b
 ·subst he
  rw[aK2 hb] at h
  cases h
  exact .inl ⟨rfl,rfl⟩
 ·rw[aK3 (Ne.symm he)] at h
  exact .inr ⟨he,h⟩
theorem Gm (hS:SR V lo fB) {b g e:Nat} {es pK:List VV} {r':List Value} (hb:V.H[b]? = some (.row g es e true)) (dS:lo≤b) (he:∀x∈pK,(aB x).length=e) (hl:VL V (pK.flatMap aB) r') {r:List Value} {p:Bool} (hp:V.P[V.m b]? = some (.row r e p)) :
  SR { V with H:=V.H.set b (.row g pK e true),P:=V.P.set (V.m b) (.row r' e p) } lo fB∧HL lo V { V with H:=V.H.set b (.row g pK e true),P:=V.P.set (V.m b) (.row r' e p) }:=by
 have zD:=(aKD.1 hb).1
 have Qa:=hS.mlt hb
 have hU:Up V { V with H:=V.H.set b (.row g pK e true),P:=V.P.set (V.m b) (.row r' e p) } :=
  ⟨fun _ h=>h,fun q hq=>aK3 (fun h=>(hS.wr b g es e hb).1 (by rw[h];exact hq)),by simp,fun a g' EI e1 w1 bI ha=>by
   rcases hJ zD ha with⟨rfl,h⟩ | ⟨_,h⟩
   ·cases h
    exact⟨g,es,true,hb,aKE _,fun _=>rfl⟩
   ·exact⟨g',EI,w1,h,aKE _,fun _=>rfl⟩,rfl,by simp,fun a g1 EI e1 w1 ha _=>by
   rcases hJ zD ha with⟨rfl,h⟩ | ⟨gF,h⟩
   ·cases h
    exact⟨g,es,true,hb,rfl,fun _=>rfl⟩
   ·exact⟨g1,EI,w1,h,rfl,id⟩⟩
 refine⟨⟨fun a g1 EI e1 w1 ha => ?_,fun a g1 EI e1 ha => ?_,fun a c g1 EI e1 w1 g2 SE e2 w2 ha hc hm => ?_,fun q hq=>by have:=hS.fr q hq;simp;omega,by have:=hS.W5;simp;omega,by have:=hS.NG;simp;omega⟩,
  { hU with dB:=fun q hq hn=>aK3 (hn b g es e hb dS),Fc:=fun q hq => .inl hq }⟩
 ·rcases hJ zD ha with⟨rfl,h⟩ | ⟨gF,h⟩
  ·cases h
   exact⟨r',p,aK2 Qa,he,hl.mono hU⟩
  ·obtain⟨r1,p1,h1,h2,h3⟩:=hS.row a g1 EI e1 w1 h
   exact⟨r1,p1,by rw[←h1];exact aK3 (fun hm=>gF (hS.inj _ _ _ _ _ _ _ _ _ _ h hb hm.symm)),h2,h3.mono hU⟩
 ·rcases hJ zD ha with⟨rfl,h⟩ | ⟨gF,h⟩
  ·cases h
   exact hS.wr _ _ _ _ hb
  ·exact hS.wr _ _ _ _ h
 ·rcases hJ zD ha with⟨rfl,h⟩ | ⟨gF,h⟩<;>rcases hJ zD hc with⟨rfl,h'⟩ | ⟨aeT,h'⟩
  ·rfl
  ·exact hS.inj _ _ _ _ _ _ _ _ _ _ hb h' hm
  ·exact hS.inj _ _ _ _ _ _ _ _ _ _ h hb hm
  ·exact hS.inj _ _ _ _ _ _ _ _ _ _ h h' hm
theorem YF (hS:SR V lo fB) {b g e:Nat} {es pK:List VV} {r':List Value} (hb:V.H[b]? = some (.row g es e true)) (dS:lo≤b) (he:∀x∈pK,(aB x).length=e) (hl:VL V (pK.flatMap aB) r') {P1:aI} (hP:P1.length=V.P.length) (hk:∀q,q≠V.m b→P1[q]? = V.P[q]?) (p:Bool) :
  SR { V with m:=upd V.m b V.P.length,H:=V.H.set b (.row (g+1) pK e true),P:=P1++[.row r' e p] } lo fB∧HL lo V { V with m:=upd V.m b V.P.length,H:=V.H.set b (.row (g+1) pK e true),P:=P1++[.row r' e p] }:=by
 have zD:=(aKD.1 hb).1
 have Qa:=hS.mlt hb
 have xQ:∀q,q<V.P.length→q≠V.m b→(P1++[Qc.row r' e p])[q]? = V.P[q]? := fun q hq hn=>by rw[aKV (by omega)];exact hk q hn
 have hU:Up V { V with m:=upd V.m b V.P.length,H:=V.H.set b (.row (g+1) pK e true),P:=P1++[.row r' e p] } :=
  ⟨fun _ h=>h,fun q hq=>xQ q (hS.fr q hq) (fun h=>(hS.wr b g es e hb).1 (by rw[←h];exact hq)),by simp,fun a g' EI e1 w1 bI ha=>by
   rcases hJ zD ha with⟨rfl,h⟩ | ⟨gF,h⟩
   ·cases h
    exact⟨g,es,true,hb,by omega,fun h=>by omega⟩
   ·exact⟨g',EI,w1,h,aKE _,fun _=>pF gF⟩,rfl,by simp;omega,fun a g1 EI e1 w1 ha hm=>by
   rcases hJ zD ha with⟨rfl,h⟩ | ⟨gF,h⟩
   ·simp only[nX] at hm
    omega
   ·exact⟨g1,EI,w1,h,pF gF,id⟩⟩
 refine⟨⟨fun a g1 EI e1 w1 ha => ?_,fun a g1 EI e1 ha => ?_,fun a c g1 EI e1 w1 g2 SE e2 w2 ha hc hm => ?_,fun q hq=>by have:=hS.fr q hq;simp;omega,by have:=hS.W5;simp;omega,by have:=hS.NG;simp;omega⟩,
  { hU with dB:=fun q hq hn=>xQ q hq (Ne.symm (hn b g es e hb dS)),Fc:=fun q hq => .inl hq }⟩
 ·rcases hJ zD ha with⟨rfl,h⟩ | ⟨gF,h⟩
  ·cases h
   refine⟨r',p,?_,he,hl.mono hU⟩
   simp only[nX]
   rw[←hP]
   simp
  ·obtain⟨r1,p1,h1,h2,h3⟩:=hS.row a g1 EI e1 w1 h
   refine⟨r1,p1,?_,h2,h3.mono hU⟩
   simp only[pF gF]
   rw[xQ _ (hS.mlt h) (fun hm=>gF (hS.inj _ _ _ _ _ _ _ _ _ _ h hb hm))]
   exact h1
 ·rcases hJ zD ha with⟨rfl,h⟩ | ⟨gF,h⟩
  ·cases h
   simp only[nX]
   exact⟨fun hF=>by have:=hS.fr _ hF;omega,fun _=>hS.W5⟩
  ·simp only[pF gF]
   exact hS.wr _ _ _ _ h
 ·rcases hJ zD ha with⟨rfl,h⟩ | ⟨gF,h⟩<;>rcases hJ zD hc with⟨rfl,h'⟩ | ⟨aeT,h'⟩
  ·rfl
  ·simp only[nX,pF aeT] at hm
   have:=hS.mlt h'
   omega
  ·simp only[nX,pF gF] at hm
   have:=hS.mlt h
   omega
  ·simp only[pF gF,pF aeT] at hm
   exact hS.inj _ _ _ _ _ _ _ _ _ _ h h' hm
def View.freeze (V:View) (b:Nat):View :=
 match V.H[b]? with
 | some (.row _ _ _ _)=>{ V with H:=DW V.H b,F:=fun q=>V.F q∨q=V.m b }
 | _=>V
theorem Wh (V:View) (b:Nat):(V.freeze b).H=DW V.H b:=by
 unfold View.freeze DW
 cases h:V.H[b]? with
 | none=>rfl
 | some x=>cases x<;>rfl
theorem ahV (V:View) (b:Nat):(V.freeze b).P=V.P:=by
 unfold View.freeze
 split<;>rfl
theorem Uy (V:View) (b:Nat):(V.freeze b).m=V.m:=by
 unfold View.freeze
 split<;>rfl
theorem SN (hS:SR V lo fB) (b:Nat):SR (V.freeze b) lo fB∧HL lo V (V.freeze b)∧(∀g es e w,V.H[b]? = some (.row g es e w)→(V.freeze b).F (V.m b)):=by
 unfold View.freeze
 split
 case h_2 gF=>exact⟨hS,HL.refl _ _,fun g es e w h=>absurd h (gF _ _ _ _)⟩
 rename_i g es e w hb
 have zD:=(aKD.1 hb).1
 have hf:DW V.H b=V.H.set b (.row g es e false):=by unfold DW;rw[hb]
 rw[hf]
 have hU:Up V { V with H:=V.H.set b (.row g es e false),F:=fun q=>V.F q∨q=V.m b } :=
  ⟨fun _ h => .inl h,fun _ _=>rfl,by simp,fun a g' EI e1 w1 bI ha=>by
   rcases hJ zD ha with⟨rfl,h⟩ | ⟨_,h⟩
   ·cases h
    exact⟨g,es,w,hb,aKE _,fun _=>rfl⟩
   ·exact⟨g',EI,w1,h,aKE _,fun _=>rfl⟩,rfl,aKE _,fun a g1 EI e1 w1 ha hm=>by
   rcases hJ zD ha with⟨rfl,h⟩ | ⟨gF,h⟩
   ·cases h
    exact⟨g,es,w,hb,rfl,fun h=>by cases h⟩
   ·exact⟨g1,EI,w1,h,rfl,id⟩⟩
 refine⟨⟨fun a g1 EI e1 w1 ha => ?_,fun a g1 EI e1 ha => ?_,fun a c g1 EI e1 w1 g2 SE e2 w2 ha hc hm => ?_,fun q hq => ?_,hS.W5,hS.NG⟩,
  { hU with dB:=fun q hq hn=>rfl,Fc:=fun q hq => ?_ },fun _ _ _ _ _ => .inr rfl⟩
 ·rcases hJ zD ha with⟨rfl,h⟩ | ⟨gF,h⟩
  ·cases h
   obtain⟨r1,p1,h1,h2,h3⟩:=hS.row _ _ _ _ _ hb
   exact⟨r1,p1,h1,h2,h3.mono hU⟩
  ·obtain⟨r1,p1,h1,h2,h3⟩:=hS.row _ _ _ _ _ h
   exact⟨r1,p1,h1,h2,h3.mono hU⟩
 ·rcases hJ zD ha with⟨rfl,h⟩ | ⟨gF,h⟩
  ·cases h
  ·refine⟨fun hF => ?_,(hS.wr _ _ _ _ h).2⟩
   rcases hF with hF | hF
   ·exact(hS.wr _ _ _ _ h).1 hF
   ·exact gF (hS.inj _ _ _ _ _ _ _ _ _ _ h hb hF)
 ·rcases hJ zD ha with⟨rfl,h⟩ | ⟨gF,h⟩<;>rcases hJ zD hc with⟨rfl,h'⟩ | ⟨aeT,h'⟩
  ·rfl
  ·exact hS.inj _ _ _ _ _ _ _ _ _ _ hb h' hm
  ·exact hS.inj _ _ _ _ _ _ _ _ _ _ h hb hm
  ·exact hS.inj _ _ _ _ _ _ _ _ _ _ h h' hm
 ·rcases hq with hq | hq
  ·exact hS.fr q hq
  ·subst hq;exact hS.mlt hb
 ·rcases hq with hq | hq
  ·exact .inl hq
  ·exact .inr (.inr ⟨b,g,es,e,w,hb,hq.symm⟩)
end
end Go.PM
namespace Go.PM
section
variable {V:View} {lo fB:Nat} {ρ:cV} {mN:Env}
def ER (V:View) (ρ:cV) (mN:Env):Prop:=∀t,VR V (ρ t) (mN t)
theorem ER.mono {V':View} (u:Up V V') (h:ER V ρ mN):ER V' ρ mN:=fun t=>(h t).mono u
theorem ER.ev (h:ER V ρ mN) (x:Operand):VR V (fJ ρ x) (ev mN x):=by
 cases x with
 | tmp t=>exact h t
 | const v=>exact VR.inj v
 | global g=>exact .any _
 | func f=>exact .xZ f [] [] .nil
theorem ER.put {d:Option Nat} {x:VV} {v:Value} (h:ER V ρ mN) (hx:VR V x v):ER V (Nh ρ d x) (put mN d v):=by
 cases d with
 | none=>exact h
 |
  some d =>
  intro t
  simp only[Nh,PM.put]
  split
  ·exact hx
  ·exact h t
theorem ER.evs (h:ER V ρ mN) (xs:List Operand):VL V (xs.map (fJ ρ)) (xs.map (PM.ev mN)):=VL.map fun x _=>h.ev x
def iP (lo fB:Nat) (V:View) (r:Option (Value×aI)) (v:VV) (H':aA):Prop :=
 ∃pv V',r=some (pv,V'.P)∧V'.H=H'∧SR V' lo fB∧HL lo V V'∧VR V' v pv
theorem iP.pure (hS:SR V lo fB) {r:Option Value} {v:VV} {pv:Value} (h:r=some pv) (hv:VR V v pv):iP lo fB V (r.map (·,V.P)) v V.H :=
 ⟨pv,V,by rw[h];rfl,rfl,hS,HL.refl _ _,hv⟩
theorem iP.of {V':View} {pv:Value} {v:VV} (h:SR V' lo fB∧HL lo V V') (hv:VR V' v pv):iP lo fB V (some (pv,V'.P)) v V'.H:=⟨pv,V',rfl,rfl,h.1,h.2,hv⟩
theorem iP.same (hS:SR V lo fB) {v:VV} {pv:Value} (hv:VR V v pv):iP lo fB V (some (pv,V.P)) v V.H :=
 ⟨pv,V,rfl,rfl,hS,HL.refl _ _,hv⟩
theorem cR {α β:Type} {o:Option α} {f:α→β} {b:β} (h:o.map f=some b):∃a,o=some a∧f a=b:=by
 cases o with
 | none=>cases h
 | some a=>cases h;exact⟨a,rfl,rfl⟩
theorem uS {x:VV} {v u:Value} (h:VR V x u) (hx:x = .sc v):u=v∧qH v=true:=by
 subst hx
 cases h with
 | sc v h=>exact⟨rfl,h⟩
theorem ahX {op:BinOp} {a b c:Value} (h:dK op a b=some c):qH c=true:=by
 unfold dK at h
 split at h
 ·split at h<;>cases h;rfl
 ·split at h<;>cases h;rfl
 ·split at h
  ·split at h<;>first | (cases h;rfl) | (split at h<;>cases h<;>rfl) | cases h
  ·cases h
 ·split at h<;>first | (cases h;rfl) | (split at h<;>cases h<;>rfl) | cases h
 ·cases h
theorem atK {op:UnOp} {a c:Value} (h:pun op a=some c):qH c=true:=by
 unfold pun at h
 split at h<;>cases h<;>rfl
theorem agW {n:Bool} {a b c:Value} (h:OO n a b=some c):qH c=true:=by
 unfold OO at h
 split at h<;>cases h;rfl
theorem ahD {k:IntKind} {a c:Value} (h:Xg k a=some c):qH c=true:=by
 unfold Xg at h
 split at h<;>cases h;rfl
theorem ajN {a c:Value} (h:acB a=some c):qH c=true:=by
 unfold acB at h
 split at h<;>cases h;rfl
theorem abY {a c:Value} (h:DE a=some c):qH c=true:=by
 unfold DE at h
 split at h<;>cases h;rfl
theorem afD {a b c:Value} (h:Ke a b=some c):qH c=true:=by
 unfold Ke at h
 split at h
 ·split at h<;>cases h;rfl
 ·cases h
theorem anI {a b c:Value} (h:WE a b=some c):qH c=true:=by
 unfold WE at h
 split at h<;>cases h;rfl
theorem akX {a b c:Value} (h:V8 a b=some c):qH c=true:=by
 unfold V8 at h
 split at h<;>cases h;rfl
theorem Gz (hS:SR V lo fB) {f:Value→Option Value} (hf:∀a c,f a=some c→qH c=true) {x v:VV} {u:Value} (hx:VR V x u) (h:Po f x=some v):iP lo fB V ((f u).map (·,V.P)) v V.H:=by
 unfold Po at h
 split at h
 ·obtain⟨h1,_⟩:=uS hx rfl
  subst h1
  obtain⟨c,hc,rfl⟩:=cR h
  exact iP.pure hS hc (.sc _ (hf _ _ hc))
 ·cases h
theorem Dz (hS:SR V lo fB) {f:Value→Value→Option Value} (hf:∀a b c,f a b=some c→qH c=true) {x y v:VV} {u w:Value} (hx:VR V x u) (hy:VR V y w) (h:KB f x y=some v):iP lo fB V ((f u w).map (·,V.P)) v V.H:=by
 unfold KB at h
 split at h
 ·obtain⟨h1,_⟩:=uS hx rfl
  obtain⟨h2,_⟩:=uS hy rfl
  subst h1 h2
  obtain⟨c,hc,rfl⟩:=cR h
  exact iP.pure hS hc (.sc _ (hf _ _ _ hc))
 ·cases h
theorem Yx {α:Type} (l:List α) {o n a k:Nat} (h:a+k≤n):(((l.drop o).take n).drop a).take k=(l.drop (o+a)).take k:=by
 rw[List.drop_take,aLD,aLE,aLF (by omega)]
theorem UJ {x v:VV} {agg:Bool} {size off b o e:Nat} {r:List Value} {p:Bool} (hb:V.P[b]? = some (.row r e p)) (ho:o+(aB x).length≤r.length) (hl:VL V (aB x) ((r.drop o).take (aB x).length)) (h:dQ agg size x off=some v) :
  ∃u,rA agg size (.pointer (some ⟨b,o+off,none⟩)) V.P=some u∧VR V v u:=by
 unfold dQ at h
 cases agg with
 |
  true =>
  simp only[if_true] at h
  split at h
  ·rename_i hs
   cases h
   refine⟨.agg ((r.drop (o+off)).take size).toArray,?_,.agg _ _ ?_⟩
   ·simp only[rA,if_true,CT hb (show o+off+size≤r.length by omega)]
    rfl
   ·have:=(hl.drop off).take size
    rw[Yx _ hs] at this
    exact this
  ·cases h
 |
  false =>
  simp only[aLg,if_false] at h
  obtain⟨u,hu,hv⟩:=hl.get h
  have axW:=(aKD.1 h).1
  rw[List.getElem?_take,if_pos axW,List.getElem?_drop] at hu
  refine⟨u,?_,hv⟩
  have bI:=(aKD.1 hu).1
  simp only[rA,aLg,if_false,CT hb (show o+off+1≤r.length by omega)]
  rw[aKJ bI]
  simp only[aLr,List.take_zero]
  rw[List.getElem?_eq_getElem bI] at hu
  injection hu with hu
  rw[hu]
theorem Pe (hS:SR V lo fB) {b g e j:Nat} {es:List VV} {w:Bool} {x:VV} (hb:V.H[b]? = some (.row g es e w)) (hx:es[j]? = some x) :
  ∃r p,V.P[V.m b]? = some (.row r e p)∧(aB x).length=e∧j*e+(aB x).length≤r.length∧VL V (aB x) ((r.drop (j*e)).take (aB x).length):=by
 obtain⟨r,p,h1,h2,h3⟩:=hS.row b g es e w hb
 have hxe:=h2 x (aLy hx)
 have hj:=(aKD.1 hx).1
 have hlen:=h3.length
 rw[mO h2] at hlen
 have hm:(j+1)*e≤es.length*e:=aK5 _ hj
 rw[aLt] at hm
 refine⟨r,p,h1,hxe,by omega,?_⟩
 have:=(h3.drop (j*e)).take e
 rw[OG h2 hx] at this
 rw[hxe]
 exact this
theorem Oz (hS:SR V lo fB) {p v:VV} {u:Value} {agg:Bool} {size:Nat} (hp:VR V p u) (h:bF agg size p V.H=some v):∃w,rA agg size u V.P=some w∧VR V v w:=by
 unfold bF at h
 split at h
 ·cases hp with
  | cG x off b o r e p hF hb ho hl=>exact UJ hb ho hl h
 ·split at h
  ·rename_i es e w hr
   rw[cB] at hr
   split at h
   ·rename_i x hx
    cases hp with
    |
     ptr b g j off a bI hg ha hq =>
     have:=ha _ _ _ hr
     subst this
     obtain⟨r,p,h1,h2,h3,h4⟩:=Pe hS hr hx
     exact UJ h1 h3 h4 h
   ·cases h
  ·cases h
 ·cases h
theorem Ve (hS:SR V lo fB) {x i v:VV} {u k:Value} {size:Nat} (hx:VR V x u) (hi:VR V i k) (h:bJ size x i V.H=some v):∃w,TJ size u k=some w∧VR V v w:=by
 unfold bJ at h
 split at h
 ·rename_i es tk ik i
  obtain⟨rfl,_⟩:=uS hi rfl
  split at h
  ·rename_i h0
   split at h
   ·rename_i y hy
    split at h
    ·rename_i E7
     cases h
     have bI:=(aKD.1 hy).1
     cases hx with
     | pT=>simp at bI
     |
      tree es k b o c r e p hF hb ho hc he hk hl =>
      have hye:=he y (aLy hy)
      have QB:e=size:=by omega
      subst QB
      have hm:(i.toNat+1)*e≤es.length*e:=aK5 _ bI
      rw[aLt] at hm
      refine⟨_,Wk h0 (by omega),?_⟩
      have h1:=(hl.drop (i.toNat*e)).take e
      rw[OG he hy,Yx _ (by omega)] at h1
      exact .cG y 0 b (o+i.toNat*e) r e p hF hb (by omega) (by rw[hye];exact h1)
    ·cases h
   ·cases h
  ·cases h
 ·rename_i b g o n c ik i
  obtain⟨rfl,_⟩:=uS hi rfl
  split at h
  ·rename_i es e w hr
   rw[cB] at hr
   split at h
   ·rename_i hc
    obtain⟨rfl,h0,h1⟩:=hc
    cases h
    cases hx with
    |
     ref b g o n c a n' c' bI hg ha hq =>
     obtain⟨rfl,rfl,rfl⟩:=ha _ _ _ hr
     refine⟨_,Wk h0 h1,.ptr b g (o+i.toNat) 0 _ bI hg (fun pK e' w' JC => ?_) fun a0 h=>by cases h;exact hq ⟨V.m b,o*e,none⟩ rfl⟩
     rw[hr] at JC
     cases JC
     rw[aK9,Nat.add_zero]
   ·cases h
  ·cases h
 ·cases h
theorem DL {l:Option Operand} {lv:Option Value} (hE:ER V ρ mN) (h:IH (l.map (fJ ρ))=some lv):l.map (ev mN)=lv:=by
 cases l with
 | none=>cases h;rfl
 |
  some x =>
  simp only[Option.map_some,IH] at h
  split at h
  ·rename_i hv;cases hv
  ·rename_i v hv
   cases h
   injection hv with hv
   obtain⟨h1,_⟩:=uS (hE.ev x) hv
   rw[Option.map_some,h1]
  ·cases h
theorem KD {v:Option Value} {d:Option Nat} {t x:Nat} (hd:∀y,d=some y→y≤t) (h:fC v d t=some x):x≤t:=by
 unfold fC at h
 split at h
 ·exact hd _ h
 ·split at h
  ·cases h;omega
  ·cases h
 ·cases h
theorem QQ {v:Option Value} {d d':Option Nat} {t t' x:Nat} (ht:t≤t') (hd:v=none→d=d') (h:fC v d t=some x):fC v d' t'=some x:=by
 unfold fC at h ⊢
 cases v with
 | none=>rw[←hd rfl];exact h
 |
  some v =>
  cases v with
  |
   int k i =>
   simp only at h ⊢
   split at h
   ·rename_i h1;rw[if_pos (by omega)];exact h
   ·cases h
  | _=>simp only at h ⊢;exact h
theorem Rv (hS:SR V lo fB) (size:Nat):iP lo fB V (some (.slice (some ⟨V.P.length,0,none⟩) 0 0,V.P++[.row [] size false])) (.tree [] (.cl size)) V.H:=by
 exact(iP.of (DR hS (.row [] size false)) (.tree [] (.cl size) V.P.length 0 0 [] size false (.inr rfl) (by simp) (by simp) (by simp) (fun x hx=>by cases hx) ⟨rfl,rfl,rfl⟩ (by simp;exact .nil)) :)
theorem abI (hS:SR V lo fB) (hE:ER V ρ mN) {x v:VV} {u:Value} {size:Nat} {l h m:Option Operand} (hx:VR V x u) (hv:Hl size x (l.map (fJ ρ)) (h.map (fJ ρ)) (m.map (fJ ρ)) V.H=some v) :
  iP lo fB V (E6 size u (l.map (ev mN)) (h.map (ev mN)) (m.map (ev mN)) V.P) v V.H:=by
 unfold Hl at hv
 split at hv
 case h_2=>cases hv
 rename_i lv hhv mv hl hh hm
 rw[DL hE hl,DL hE hh,DL hE hm]
 split at hv
 ·rename_i y ys tk
  split at hv
  case isFalse=>cases hv
  rename_i E7
  split at hv
  ·cases hv
  rename_i m0 hm0
  split at hv
  ·cases hv
  rename_i h0 hh0
  split at hv
  ·cases hv
  rename_i l0 Ci
  cases hx with
  |
   tree es k b o c r e p hF hb ho hc he hk hl =>
   have QB:e=size:=by rw[←he y aLe];exact E7
   subst QB
   have hlen:(y::ys).length=ys.length+1:=rfl
   rw[hlen] at ho hc
   have b1:m0≤ys.length+1:=KD (fun z hz=>by injection hz with hz;omega) hm0
   have b2:h0≤m0:=by
    refine KD (fun z hz => ?_) hh0
    split at hz
    ·cases hz
    ·rename_i hmn
     injection hz with hz
     have:mv=none:=by cases mv<;>simp_all
     subst this
     simp[fC] at hm0
     omega
   have b3:l0≤h0:=KD (fun z hz=>by injection hz with hz;omega) Ci
   have e1:fC mv (some c) c=some (if mv.isSome then m0 else c):=by
    cases mv with
    | none=>rfl
    | some q=>exact QQ hc (fun hq=>by cases hq) hm0
   have e2:fC hhv (if mv.isSome then none else some (ys.length+1)) (if mv.isSome then m0 else c)=some h0:=by
    cases mv with
    |
     none =>
     simp only[Option.isSome_none,aLg,if_false] at hh0 ⊢
     exact QQ (by omega) (fun _=>rfl) hh0
    | some q=>exact hh0
   unfold E6
   simp only[hb,if_true]
   rw[e1]
   simp only
   rw[hlen,e2]
   simp only
   rw[Ci]
   simp only
   by_cases mM:mv.isSome=true∧m0=l0
   ·rw[if_pos mM] at hv
    cases hv
    rw[if_pos ⟨mM.1,by rw[if_pos mM.1];exact mM.2⟩]
    exact Rv hS e
   ·rw[if_neg mM] at hv
    cases hv
    rw[if_neg (fun hh=>mM ⟨hh.1,by have:=hh.2;rw[if_pos hh.1] at this;exact this⟩)]
    have bI:(((y::ys).drop l0).take (h0-l0)).length=h0-l0:=by simp;omega
    have Qo:l0*e+(h0-l0)*e=h0*e:=by rw[←aK9];congr 1;omega
    have Yv:h0*e≤(ys.length+1)*e:=aK5 _ (by omega)
    have TX:h0-l0≤(if mv.isSome then m0 else c)-l0:=by split<;>omega
    have:=VR.tree (V:=V) (((y::ys).drop l0).take (h0-l0)) .op b (o+l0*e) ((if mv.isSome then m0 else c)-l0) r e p hF hb (by rw[bI];omega) (by rw[bI];exact TX) (fun z hz=>he z (aLC (aLB hz))) trivial (by
     rw[bI]
     have h1:=(hl.drop (l0*e)).take ((h0-l0)*e)
     rw[Yx _ (by rw[hlen];omega),yC he,yB (fun z hz=>he z (aLC hz))] at h1
     exact h1)
    rw[bI] at this
    exact iP.same hS this
 ·rename_i b g o n c
  split at hv
  case h_2=>cases hv
  rename_i es e w hr
  rw[cB] at hr
  split at hv
  case isFalse=>cases hv
  rename_i E7
  subst E7
  split at hv
  ·cases hv
  rename_i m0 hm0
  split at hv
  ·cases hv
  rename_i h0 hh0
  split at hv
  ·cases hv
  rename_i l0 Ci
  cases hx with
  |
   ref b g o n c a n' c' bI hg ha hq =>
   obtain⟨rfl,rfl,rfl⟩:=ha _ _ _ hr
   obtain⟨r,p,h1,_⟩:=hS.row b g es e w hr
   unfold E6
   simp only[h1,if_true]
   rw[hm0]
   simp only
   rw[hh0]
   simp only
   rw[Ci]
   simp only
   by_cases mM:mv.isSome=true∧m0=l0
   ·rw[if_pos mM] at hv
    cases hv
    rw[if_pos mM]
    exact Rv hS e
   ·rw[if_neg mM] at hv
    cases hv
    rw[if_neg mM]
    refine iP.same hS (.ref b g (o+l0) _ _ _ _ _ bI hg (fun pK e' w' JC => ?_) fun a0 h=>by cases h;exact hq ⟨V.m b,o*e,none⟩ rfl)
    rw[hr] at JC
    cases JC
    exact⟨by rw[aK9],rfl,rfl⟩
 ·cases hv
theorem Dd {es:List VV} (h:(es.all fun x=>(aB x).all bP)=true):(es.flatMap aB).all bP=true:=by
 rw[aKS] at h ⊢
 intro x hx
 obtain⟨y,hy,CQ⟩:=aLG.1 hx
 exact aKS.1 (h y hy) x CQ
theorem Ay (hS:SR V lo fB) {y:VV} {u:Value} {size:Nat} {new:List VV} (hy:VR V y u) (h:cW size y V.H=some new) :
  wP u=some new.length∧(∀x∈new,(aB x).length=size)∧(new.flatMap aB).all bP=true∧∀n,n≤new.length→∃pn,kY V.P size n u=some pn∧VL V ((new.take n).flatMap aB) pn:=by
 unfold cW at h
 split at h
 ·rename_i es tk
  split at h
  case isFalse=>cases h
  rename_i jO
  cases h
  have aiN:∀x∈new,(aB x).length=size∧(aB x).all bP=true:=fun x hx=>by
   have:=aKS.1 jO x hx
   simpa using this
  refine⟨?_,fun x hx=>(aiN x hx).1,Dd (aKS.2 fun x hx=>(aiN x hx).2),fun n hn => ?_⟩
  ·cases hy<;>rfl
  ·cases hy with
   |
    pT k hk =>
    have:n=0:=by simpa using hn
    subst this
    exact⟨[],rfl,by simp;exact .nil⟩
   |
    tree es k b o c r e p hF hb ho hc he hk hl =>
    cases QB:new with
    |
     nil =>
     rw[QB] at hn
     have:n=0:=by simpa using hn
     subst this
     refine⟨[],?_,by simp;exact .nil⟩
     simp only[kY,aLH]
     rw[CT hb (by omega)]
     simp
    |
     cons x xs =>
     have MY:e=size:=by rw[←he x (by rw[QB];exact aLe)];exact(aiN x (by rw[QB];exact aLe)).1
     subst MY
     have hm:n*e≤new.length*e:=aK5 _ hn
     refine⟨_,by simp only[kY];exact CT hb (by omega),?_⟩
     rw[←QB,←yB he]
     have h1:=hl.take (n*e)
     rw[aLD,aLF hm] at h1
     exact h1
 ·rename_i b g o n c
  split at h
  case h_2=>cases h
  rename_i es e w hr
  rw[cB] at hr
  split at h
  case isFalse=>cases h
  rename_i hc
  obtain⟨rfl,hlen,jO⟩:=hc
  cases h
  obtain⟨r,p,h1,h2,h3⟩:=hS.row b g es e w hr
  have hn2:((es.drop o).take n).length=n:=by simp;omega
  have BZ:=h3.length
  rw[mO h2] at BZ
  cases hy with
  |
   ref b g o n c a n' c' bI hg ha hq =>
   obtain⟨rfl,rfl,rfl⟩:=ha _ _ _ hr
   have akZ:∀x∈(es.drop o).take n',(aB x).length=e:=fun x hx=>h2 x (aLC (aLB hx))
   refine⟨by rw[hn2];rfl,akZ,Dd jO,fun k hk => ?_⟩
   rw[hn2] at hk
   have hm:(o+k)*e≤es.length*e:=aK5 _ (by omega)
   rw[aK9] at hm
   refine⟨_,by simp only[kY];exact CT h1 (by omega),?_⟩
   rw[aLD,aLF hk]
   have h4:=(h3.drop (o*e)).take (k*e)
   rw[yC h2,yB (fun x hx=>h2 x (aLC hx))] at h4
   exact h4
 ·rename_i s
  split at h
  case isFalse=>cases h
  rename_i hs
  subst hs
  cases h
  obtain⟨rfl,_⟩:=uS hy rfl
  have hlen:(s.data.toList.map fun b=>VV.sc (.int .u8 (b.toNat:Int))).length=s.size:=by simp
  refine⟨by rw[hlen];rfl,fun x hx => ?_,?_,fun n hn => ?_⟩
  ·obtain⟨b,_,rfl⟩:=List.mem_map.1 hx
   rfl
  ·refine Dd (aKS.2 fun x hx => ?_)
   obtain⟨b,_,rfl⟩:=List.mem_map.1 hx
   rfl
  ·refine⟨(s.data.toList.take n).map fun b=>Value.int .u8 (b.toNat:Int),by simp only[kY,if_true],?_⟩
   rw[←List.map_take,List.flatMap_map]
   have:((s.data.toList.take n).flatMap fun a=>aB (VV.sc (.int .u8 (a.toNat:Int))))=(s.data.toList.take n).map fun a=>VV.sc (.int .u8 (a.toNat:Int)):=by
    generalize s.data.toList.take n=l
    induction l with
    | nil=>rfl
    | cons a l ih=>rw[aLs,ih];rfl
   rw[this]
   exact VL.map fun b _ => .sc _ rfl
 ·cases h
end
end Go.PM
namespace Go.PM
section
variable {V:View} {lo fB:Nat} {ρ:cV} {mN:Env}
theorem Nt (hS:SR V lo fB) {es:List VV} {r:List Value} {e n c:Nat} {p:Bool}:VR { V with m:=upd V.m V.H.length V.P.length,H:=V.H++[.row 0 es e true],P:=V.P++[.row r e p] } (.ref V.H.length 0 0 n c) (.slice (some ⟨V.P.length,0,none⟩) n c):=by
 refine .ref _ _ _ _ _ _ _ _ (by simp) (fun g' es e w _=>Nat.zero_le _) (fun pK e' w' h=>⟨?_,rfl,rfl⟩) fun a0 ha => ?_
 ·simp only[nX,aLH]
 ·cases ha
  refine⟨hS.NG,by simp,fun b' g' pK e' w' hb gF hm => ?_⟩
  have xM:(V.H++[fO.row 0 es e true])[b']? = some (.row g' pK e' w'):=hb
  have bI:b'<V.H.length:=by
   have:=(aKD.1 xM).1
   simp at this
   omega
  rw[aKV bI] at xM
  have h2:=hS.mlt xM
  simp only[pF (show b'≠V.H.length by omega)] at hm
  omega
theorem Zs (hS:SR V lo fB) {es:List VV} {r:List Value} {e:Nat} {p:Bool}:VR { V with m:=upd V.m V.H.length V.P.length,H:=V.H++[.row 0 es e true],P:=V.P++[.row r e p] } (.ptr V.H.length 0 0 0) (.pointer (some ⟨V.P.length,0,none⟩)):=by
 refine .ptr _ _ _ _ _ (by simp) (fun g' es e w _=>Nat.zero_le _) (fun pK e' w' h => ?_) fun a0 ha => ?_
 ·simp only[nX,aLH]
 ·cases ha
  refine⟨hS.NG,by simp,fun b' g' pK e' w' hb gF hm => ?_⟩
  have xM:(V.H++[fO.row 0 es e true])[b']? = some (.row g' pK e' w'):=hb
  have bI:b'<V.H.length:=by
   have:=(aKD.1 xM).1
   simp at this
   omega
  rw[aKV bI] at xM
  have h2:=hS.mlt xM
  simp only[pF (show b'≠V.H.length by omega)] at hm
  omega
theorem JJ (hS:SR V lo fB) {x v:VV} {u:Value} {size bytes:Nat} {nw:List VV} {pn:List Value} {H':aA} (hx:VR V x u) (hn:∀x∈nw,(aB x).length=size) (EM:(nw.flatMap aB).all bP=true) (hl:VL V (nw.flatMap aB) pn) (h:dO lo size bytes x nw V.H=some (v,H')) :
  iP lo fB V (fK fB size bytes u nw.length pn V.P) v H':=by
 unfold dO at h
 split at h
 case isFalse=>cases h
 rename_i hbs
 have Qa:pn.length=nw.length*size:=by rw[hl.length,mO hn]
 unfold fK
 rw[if_pos ⟨hbs.1,hbs.2,hl.iQ EM,Qa⟩]
 split at h
 ·cases hx with
  | tree es k b o c r e p hF hb ho hc he hk hl=>exact hk.elim
  |
   pT =>
   simp only[and_self,if_true]
   split at h
   ·rename_i h0
    cases h
    rw[if_pos h0]
    exact iP.same hS (.pT _ (.inr rfl))
   ·rename_i h0
    split at h
    case isFalse=>cases h
    rename_i h1
    cases h
    rw[if_neg h0,if_pos h1]
    exact(iP.of (vH hS (es:=nw) (r:=pn) (e:=size) true hn hl) (Nt hS) :)
 ·rename_i es e
  split at h
  case isFalse=>cases h
  rename_i QB
  subst QB
  cases hx with
  | pT k hk=>rcases hk with hk | hk<;>cases hk
  |
   tree es k b o c r e' p hF hb ho hc he hk Gd =>
   obtain⟨h1,h2,h3⟩:=hk
   subst h1 h2 h3
   simp only[hb]
   rw[if_pos ⟨trivial,ho⟩]
   split at h
   ·rename_i h0
    cases h
    rw[if_pos (by omega),if_pos h0]
    exact iP.same hS (.tree es _ b o _ r e false hF hb ho hc he ⟨rfl,rfl,rfl⟩ Gd)
   ·rename_i h0
    split at h
    case isFalse=>cases h
    rename_i E7
    cases h
    rw[if_neg (by omega),if_pos E7]
    simp only[aLg,if_false]
    have jO:∀x∈es++nw,(aB x).length=e:=fun x hx=>by
     rcases aLA.1 hx with h | h
     ·exact he x h
     ·exact hn x h
    exact(iP.of (vH hS (es:=es++nw) (r:=(r.drop o).take (es.length*e)++pn) (e:=e) true jO (by rw[aLI];exact Gd.append hl)) (Nt hS) :)
 ·rename_i b g o n c
  split at h
  case h_2=>cases h
  rename_i es e hr
  rw[cB] at hr
  split at h
  case isFalse=>cases h
  rename_i hc
  obtain⟨rfl,dS,hon⟩:=hc
  obtain⟨r,p,h1,h2,h3⟩:=hS.row b g es e true hr
  have BZ:=h3.length
  rw[mO h2] at BZ
  have HM:=(hS.wr b g es e hr).2 dS
  cases hx with
  |
   ref b g o n c a n' c' bI hg ha hq =>
   obtain⟨rfl,rfl,rfl⟩:=ha _ _ _ hr
   have hm:(o+n')*e≤es.length*e:=aK5 _ hon
   rw[aK9] at hm
   simp only[h1]
   rw[if_pos ⟨trivial,by omega⟩]
   split at h
   ·rename_i hnc
    rw[if_pos hnc]
    split at h
    ·rename_i h0
     cases h
     rw[if_pos h0]
     exact iP.same hS (.ref _ _ _ _ _ _ _ _ bI hg ha hq)
    ·rename_i h0
     split at h
     case isFalse=>cases h
     rename_i xE
     cases h
     rw[if_neg h0]
     have Yv:(o+n'+nw.length)*e≤es.length*e:=aK5 _ xE
     rw[aK9,aK9] at Yv
     have jO:∀x∈dE es (o+n') nw,(aB x).length=e:=fun x hx=>by
      rcases ME hx with h | h
      ·exact h2 x h
      ·exact hn x h
     have HF:VL V ((dE es (o+n') nw).flatMap aB) (kL r (o*e+n'*e) pn):=by
      rw[←AK h2 hn,aK9]
      exact h3.kL hl _
     obtain⟨g1,g2⟩:=Gm hS hr dS jO HF h1
     refine⟨.slice (some ⟨V.m b,o*e,none⟩) (n'+nw.length) c',{ V with H:=V.H.set b (.row g (dE es (o+n') nw) e true),P:=V.P.set (V.m b) (.row (kL r (o*e+n'*e) pn) e p) },?_,rfl,g1,g2,?_⟩
     ·unfold aI.write
      simp only[h1]
      rw[if_pos ⟨HM,by omega,hl.iQ EM⟩]
      rfl
     ·refine .ref _ _ _ _ _ _ _ _ (by simpa using bI) (fun g' pK e' w' JC => ?_) (fun pK e' w' JC => ?_) fun a0 h=>by cases h;exact g2.toUp.hq (hq _ rfl)
      ·rcases hJ bI JC with⟨_,h⟩ | ⟨h,_⟩
       ·cases h;exact aKE _
       ·exact absurd rfl h
      ·rcases hJ bI JC with⟨_,h⟩ | ⟨h,_⟩
       ·cases h;exact⟨rfl,rfl,rfl⟩
       ·exact absurd rfl h
   ·rename_i hnc
    split at h
    case isFalse=>cases h
    rename_i E7
    cases h
    rw[if_neg hnc,if_pos E7]
    have jO:∀x∈(es.drop o).take n'++nw,(aB x).length=e:=fun x hx=>by
     rcases aLA.1 hx with h | h
     ·exact h2 x (aLC (aLB h))
     ·exact hn x h
    have HF:VL V (((es.drop o).take n'++nw).flatMap aB) ((r.drop (o*e)).take (n'*e)++pn):=by
     rw[aLI]
     refine VL.append ?_ hl
     have h4:=(h3.drop (o*e)).take (n'*e)
     rw[yC h2,yB (fun x hx=>h2 x (aLC hx))] at h4
     exact h4
    have fin:∀P1:aI,P1.length=V.P.length→(∀q,q≠V.m b→P1[q]? = V.P[q]?) →
      iP lo fB V (some (.slice (some ⟨V.P.length,0,none⟩) (n'+nw.length) (n'+nw.length),P1++[.row ((r.drop (o*e)).take (n'*e)++pn) e true])) (.ref b (g+1) 0 (n'+nw.length) (n'+nw.length)) (V.H.set b (.row (g+1) ((es.drop o).take n'++nw) e true)):=by
     intro P1 hP hk
     refine(iP.of (YF hS hr dS jO HF hP hk true) ?_ :)
     refine .ref _ _ _ _ _ _ _ _ (by simpa using bI) (fun g' pK e' w' JC => ?_) (fun pK e' w' JC => ?_) fun a0 h => ?_
     ·rcases hJ bI JC with⟨_,h⟩ | ⟨h,_⟩
      ·cases h;exact aKE _
      ·exact absurd rfl h
     ·rcases hJ bI JC with⟨_,h⟩ | ⟨h,_⟩
      ·cases h;exact⟨by simp only[nX,aLH],rfl,rfl⟩
      ·exact absurd rfl h
     ·cases h
      refine⟨hS.NG,by simp[hP],fun b' g' pK e' w' hb gF hm => ?_⟩
      rcases hJ bI hb with⟨h,_⟩ | ⟨_,h⟩
      ·exact gF h
      ·simp only[pF gF] at hm
       have:=hS.mlt h
       omega
    cases p with
    |
     true =>
     simp only[if_true,HM]
     exact fin (V.P.set (V.m b) .dead) (by simp) fun q hq=>aK3 (Ne.symm hq)
    |
     false =>
     simp only[aLg,if_false]
     exact fin V.P rfl fun _ _=>rfl
 ·cases h
theorem Vs (hS:SR V lo fB) {p v:VV} {u w:Value} {size:Nat} {H':aA} (hp:VR V p u) (hv:VR V v w) (h:bL lo size p v V.H=some H'):iP lo fB V (IT fB size u w V.P) tI H':=by
 unfold bL at h
 split at h
 case h_2=>cases h
 rename_i b g j o
 split at h
 case h_2=>cases h
 rename_i es e hr
 rw[cB] at hr
 split at h
 case h_2=>cases h
 rename_i x hx
 split at h
 case isFalse=>cases h
 rename_i hc
 obtain⟨E7,dS,EM⟩:=hc
 obtain⟨r,q,h1,h2,h3⟩:=hS.row b g es e true hr
 have BZ:=h3.length
 rw[mO h2] at BZ
 have HM:=(hS.wr b g es e hr).2 dS
 have hj:=(aKD.1 hx).1
 have hxe:=h2 x (aLy hx)
 have hm:(j+1)*e≤es.length*e:=aK5 _ hj
 rw[aLt] at hm
 have mM:=hv.cells (XX EM)
 have hwl:(aV w).length=size:=by rw[mM.length,E7]
 cases hp with
 |
  ptr b g j off a bI hg ha hq =>
  have:=ha _ _ _ hr
  subst this
  have fin:∀y:VV,(aB y).length=e→o+size≤e→aB y=dE (aB x) o (aB v)→H'=V.H.set b (.row g (es.set j y) e true)→iP lo fB V (IT fB size (.pointer (some ⟨V.m b,j*e+o,none⟩)) w V.P) tI H':=by
   intro y hy ho hye hH
   subst hH
   have jO:∀z∈es.set j y,(aB z).length=e:=fun z hz=>by
    rcases aLJ hz with h | h
    ·exact h2 z h
    ·subst h;exact hy
   have HF:VL V ((es.set j y).flatMap aB) (kL r (j*e+o) (aV w)):=by
    have e1:(es.set j y).flatMap aB=dE (es.flatMap aB) (j*e+o) (aB v):=by
     rw[←LW hj,←AK h2 (new:=[y]) (fun z hz=>by rw[aLK] at hz;subst hz;exact hy)]
     simp only[aLs,aLL,aLM]
     rw[hye]
     have hx2:=OG h2 hx
     unfold dE
     have t1:(es.flatMap aB).take (j*e+o)=(es.flatMap aB).take (j*e)++(aB x).take o:=by
      rw[List.take_add,←hx2,aLD,aLF (by omega)]
     have t2:(es.flatMap aB).drop (j*e+o+(aB v).length)=(aB x).drop (o+(aB v).length)++(es.flatMap aB).drop (j*e+e):=by
      have t0:(es.flatMap aB).drop (j*e+e)=((es.flatMap aB).drop (j*e+(o+(aB v).length))).drop (e-(o+(aB v).length)):=by
       rw[aLE]
       congr 1
       omega
      rw[←hx2,List.drop_take,aLE,t0,aLN,aKQ]
     rw[t1,t2]
     have t3:(List.take o (aB x)++aB v++List.drop (o+(aB v).length) (aB x)).length=e:=by
      simp;omega
     rw[t3]
     simp only[List.append_assoc]
    rw[e1]
    exact h3.kL mM _
   obtain⟨g1,g2⟩:=Gm hS hr dS jO HF h1
   refine⟨undef,{ V with H:=V.H.set b (.row g (es.set j y) e true),P:=V.P.set (V.m b) (.row (kL r (j*e+o) (aV w)) e q) },?_,rfl,g1,g2,.dW [] [] .nil⟩
   unfold IT
   simp only[hwl,if_true]
   unfold aI.write
   simp only[h1]
   rw[if_pos ⟨HM,by omega,mM.iQ EM⟩]
   rfl
  split at h
  ·rename_i ho
   obtain⟨rfl,rfl⟩:=ho
   cases h
   refine fin v E7 (by omega) ?_ rfl
   unfold dE
   rw[Nat.zero_add,List.take_zero,List.nil_append,List.drop_of_length_le (by omega),aLM]
  ·split at h
   case isFalse=>cases h
   rename_i ho
   cases h
   have Ud:(dE (aB x) o (aB v)).length=e:=by rw[U0 (by omega)];exact hxe
   exact fin (.agg (dE (aB x) o (aB v))) Ud (by omega) rfl rfl
theorem Fo {z:List Value} (hz:(z.map kW).all bP=true):(aB (elemOf (z.map kW))).length=z.length:=by
 rw[qE hz,List.length_map]
theorem Em {z:List Value} (hz:(z.map kW).all bP=true):∀n,VL V ((aLu n (elemOf (z.map kW))).flatMap aB) (dF n z):=by
 intro n
 have EM:z.all iQ=true:=(VL.zero (V:=V) z).iQ hz
 have agX:dF n z=(aLu n ()).flatMap fun _=>z:=by
  rcases Nat.eq_zero_or_pos z.length with h0 | lR
  ·have:z=[]:=List.length_eq_zero_iff.1 h0
   subst this
   simp[dF]
  ·exact VJ (enc:=fun(_:Unit)=>z) (gR:=z.length) (x:=()) ⟨fun _=>rfl,fun _=>EM,lR⟩
 rw[agX]
 clear agX
 induction n with
 | zero=>exact .nil
 |
  succ n ih =>
  rw[aLO,aLO,aLs,aLs,qE hz]
  exact(VL.zero z).append ih
theorem XN (hS:SR V lo fB) {z:List Value} {bytes:Nat} {l c v:VV} {u w:Value} {H':aA} (hz:(z.map kW).all bP=true) (hl:VR V l u) (hc:VR V c w) (h:Bc z bytes l c V.H=some (v,H')):iP lo fB V (ZI z bytes u w V.P) v H':=by
 unfold Bc at h
 split at h
 case h_2=>cases h
 obtain⟨rfl,_⟩:=uS hl rfl
 obtain⟨rfl,_⟩:=uS hc rfl
 split at h
 case isFalse=>cases h
 rename_i Vc
 cases h
 unfold ZI
 simp only[if_pos Vc]
 exact(iP.of (vH hS (e:=z.length) false (fun x hx=>by rw[aLP hx];exact Fo hz) (Em hz _)) (Nt hS) :)
theorem adW (hS:SR V lo fB) {z:List Value} (hz:(z.map kW).all bP=true):iP lo fB V (some (.pointer (some ⟨V.P.length,0,none⟩),V.P++[.row z z.length false])) (.ptr V.H.length 0 0 0) (V.H++[.row 0 [elemOf (z.map kW)] z.length true]):=by
 exact(iP.of (vH hS (es:=[elemOf (z.map kW)]) (r:=z) (e:=z.length) false (fun x hx=>by rw[aLK] at hx;subst hx;exact Fo hz) (by simp only[aLs,aLL,aLM,qE hz];exact VL.zero z)) (Zs hS) :)
theorem acG (hS:SR V lo fB) {x v:VV} {u:Value} {H':aA} {bf:Bool} (hx:VR V x u) (hs:(aB x).all bP=true) (h:(if bf=true then some (VV.cG x 0,V.H) else some (VV.ptr V.H.length 0 0 0,V.H++[fO.row 0 [x] (aB x).length true]))=some (v,H')) :
  iP lo fB V (if (aV u).all iQ then some (.pointer (some ⟨V.P.length,0,none⟩),V.P++[.row (aV u) (aV u).length false]) else none) v H':=by
 have hc:=hx.cells (XX hs)
 rw[if_pos (hc.iQ hs)]
 split at h
 ·cases h
  have g:=DR hS (.row (aV u) (aV u).length false)
  refine(iP.of g ?_ :)
  have hm:=hc.mono g.2.toUp
  refine .cG x 0 V.P.length 0 (aV u) (aV u).length false (.inr rfl) (by simp) (by rw[hc.length];omega) ?_
  rw[aLQ,aLx (by rw[hc.length];exact aKE _)]
  exact hm
 ·cases h
  rw[hc.length]
  exact(iP.of (vH hS (es:=[x]) (r:=aV u) (e:=(aB x).length) false (fun y hy=>by rw[aLK] at hy;subst hy;rfl) (by simpa using hc)) (Zs hS) :)
theorem take_set {α:Type} {l:List α} {i:Nat} {x:α} (h:i<l.length):l.set i x=l.take i++x::l.drop (i+1):=by
 rw[aLz,if_pos h]
inductive Yg (V:View):List (Nat×VV)→List (Nat×Value)→Prop
 | nil:Yg V [] []
 | cons {i:Nat} {x:VV} {v:Value} {xs:List (Nat×VV)} {vs:List (Nat×Value)} (h:VR V x v) (hs:Yg V xs vs):Yg V ((i,x)::xs) ((i,v)::vs)
theorem HE {e n:Nat}:∀ {parts:List (Nat×VV)} {Cw:List (Nat×Value)} {es pK:List VV} {r:List Value},es.length=n→(∀x∈es,(aB x).length=e)→VL V (es.flatMap aB) r →
  Yg V parts Cw→yW e es parts=some pK→pK.length=n∧(∀x∈pK,(aB x).length=e)∧∃r',Aw ((List.range n).map fun i=>(i*e,e)) r Cw=some r'∧VL V (pK.flatMap aB) r'
 |
  [],_,es,pK,r,hn,he,hl,.nil,h=>by
  cases h
  exact⟨hn,he,r,rfl,hl⟩
 |
  (i,v)::parts,(_,w)::Cw,es,pK,r,hn,he,hl,.cons hv hps,h=>by
  unfold yW at h
  split at h
  case isFalse=>cases h
  rename_i hc
  obtain⟨hi,hve,EM⟩:=hc
  have mM:=hv.cells (XX EM)
  have hwl:(aV w).length=e:=by rw[mM.length,hve]
  have BZ:=hl.length
  rw[mO he] at BZ
  have hm:(i+1)*e≤es.length*e:=aK5 _ hi
  rw[aLt] at hm
  have jO:∀x∈es.set i v,(aB x).length=e:=fun x hx=>by
   rcases aLJ hx with h | h
   ·exact he x h
   ·subst h;exact hve
  have HF:VL V ((es.set i v).flatMap aB) (r.take (i*e)++aV w++r.drop (i*e+e)):=by
   have h1:=hl.kL mM (i*e)
   have h2:=AK he (new:=[v]) (fun z hz=>by rw[aLK] at hz;subst hz;exact hve) i
   simp only[aLs,aLL,aLM] at h2
   rw[h2,LW hi] at h1
   unfold kL at h1
   rw[hwl] at h1
   exact h1
  obtain⟨g1,g2,r',g3,g4⟩:=HE (n:=n) (by rw[List.length_set];exact hn) jO HF hps h
  refine⟨g1,g2,r',?_,g4⟩
  unfold Aw
  have hr:((List.range n).map fun i=>(i*e,e))[i]? = some (i*e,e):=by simp[List.getElem?_range (show i<n by omega)]
  simp only[hr]
  rw[if_pos ⟨hwl,by omega⟩]
  exact g3
theorem Lu (hE:ER V ρ mN):∀parts:List (Nat×Operand),Yg V (parts.map fun(i,x)=>(i,fJ ρ x)) (parts.map fun(i,x)=>(i,ev mN x))
 | [] => .nil
 | (i,x)::parts => .cons (hE.ev x) (Lu hE parts)
theorem Jp {e:Nat}:∀ {parts:List (Nat×VV)} {es pK:List VV},(es.all fun x=>(aB x).all bP)=true→yW e es parts=some pK→(pK.all fun x=>(aB x).all bP)=true
 | [],es,pK,h,hf=>by cases hf;exact h
 |
  (i,v)::parts,es,pK,h,hf=>by
  unfold yW at hf
  split at hf
  case isFalse=>cases hf
  rename_i hc
  refine Jp ?_ hf
  rw[aKS] at h ⊢
  intro x hx
  rcases aLJ hx with h1 | h1
  ·exact h x h1
  ·subst h1;exact hc.2.2
theorem aeZ (hS:SR V lo fB) {lr:Bool} {z:List Value} {n:Nat} {parts:List (Nat×VV)} {Cw:List (Nat×Value)} {v:VV} {H':aA} (hp:Yg V parts Cw) (h:mV lr z n parts V.H=some (v,H')):iP lo fB V (atF z n Cw V.P) v H':=by
 unfold mV at h
 split at h
 case h_2=>cases h
 rename_i es QB
 split at h
 case isFalse=>cases h
 rename_i hz
 obtain⟨g1,g2,r',g3,g4⟩:=HE (V:=V) (n:=n) (by simp) (fun x hx=>by rw[aLP hx];exact Fo hz) (Em hz n) hp QB
 have EM:=Jp (by
  rw[aKS]
  intro x hx
  rw[aLP hx,qE hz]
  exact hz) QB
 unfold atF
 simp only[g3]
 rw[if_pos (g4.iQ (Dd EM))]
 split at h
 ·cases h
  exact(iP.of (vH hS (e:=z.length) false g2 g4) (Nt hS) :)
 ·cases h
  have k:=DR hS (.row r' z.length false)
  refine(iP.of k ?_ :)
  have hm:=g4.mono k.2.toUp
  have BZ:=g4.length
  rw[mO g2] at BZ
  subst g1
  refine .tree es _ V.P.length 0 es.length r' z.length false (.inr rfl) (by simp) (by omega) (aKE _) g2 ⟨rfl,rfl,rfl⟩ ?_
  rw[aLQ,aLx (by omega)]
  exact hm
theorem R3 (hS:SR V lo fB) {b g e o:Nat} {es nw:List VV} {pn:List Value} (hr:V.H[b]? = some (.row g es e true)) (dS:lo≤b) (xE:o+nw.length≤es.length) (hn:∀x∈nw,(aB x).length=e) (EM:(nw.flatMap aB).all bP=true) (hl:VL V (nw.flatMap aB) pn) :
  ∃V',V.P.write fB (V.m b) (o*e) pn=some V'.P∧V'.H=V.H.set b (.row g (dE es o nw) e true)∧SR V' lo fB∧HL lo V V':=by
 obtain⟨r,q,h1,h2,h3⟩:=hS.row b g es e true hr
 have BZ:=h3.length
 rw[mO h2] at BZ
 have HM:=(hS.wr b g es e hr).2 dS
 have Qa:=hl.length
 rw[mO hn] at Qa
 have hm:(o+nw.length)*e≤es.length*e:=aK5 _ xE
 rw[aK9] at hm
 have jO:∀x∈dE es o nw,(aB x).length=e:=fun x hx=>by
  rcases ME hx with h | h
  ·exact h2 x h
  ·exact hn x h
 have HF:VL V ((dE es o nw).flatMap aB) (kL r (o*e) pn):=by
  rw[←AK h2 hn]
  exact h3.kL hl _
 obtain⟨g1,g2⟩:=Gm hS hr dS jO HF h1
 refine⟨{ V with H:=V.H.set b (.row g (dE es o nw) e true),P:=V.P.set (V.m b) (.row (kL r (o*e) pn) e q) },?_,rfl,g1,g2⟩
 unfold aI.write
 simp only[h1]
 rw[if_pos ⟨HM,by omega,hl.iQ EM⟩]
theorem Ym (hS:SR V lo fB) {x y v:VV} {u w:Value} {size:Nat} {H':aA} (hx:VR V x u) (hy:VR V y w) (h:LH lo size x y V.H=some (v,H')):iP lo fB V (copyV fB size u w V.P) v H':=by
 unfold LH at h
 split at h
 ·rename_i new hs
  obtain⟨h1,_⟩:=Ay hS hy hs
  cases h
  cases hx with
  | tree es k b o c r e p hF hb ho hc he hk hl=>exact hk.elim
  |
   pT =>
   unfold copyV
   simp only[h1]
   exact iP.same hS (.sc _ rfl)
 ·rename_i b g o d c new hs
  obtain⟨h1,h2,h3,h4⟩:=Ay hS hy hs
  split at h
  case h_2=>cases h
  rename_i es e hr
  rw[cB] at hr
  split at h
  case isFalse=>cases h
  rename_i hc
  obtain⟨rfl,dS,xE⟩:=hc
  cases h
  cases hx with
  |
   ref b g o n c a n' c' bI hg ha hq =>
   obtain⟨rfl,rfl,rfl⟩:=ha _ _ _ hr
   have asN:(new.take n').length=Nat.min new.length n':=by rw[List.length_take];exact Nat.min_comm _ _
   obtain⟨pn,h5,h6⟩:=h4 (Nat.min new.length n') (Nat.min_le_left _ _)
   have ht:new.take (Nat.min new.length n')=new.take n':=by
    rw[←asN,List.length_take,←aLD,aLR]
   rw[ht] at h6
   have Px:∀x∈new.take n',(aB x).length=e:=fun x hx=>h2 x (aLB hx)
   have EM:((new.take n').flatMap aB).all bP=true:=by
    rw[aKS] at h3 ⊢
    intro x hx
    obtain⟨y,hy,CQ⟩:=aLG.1 hx
    exact h3 x (aLG.2 ⟨y,aLB hy,CQ⟩)
   obtain⟨V',k1,k2,k3,k4⟩:=R3 hS hr dS xE Px EM h6
   refine⟨.int .i64 (Nat.min new.length n'),V',?_,k2,k3,k4,?_⟩
   ·unfold copyV
    simp only[h1,h5,k1]
    rfl
   ·rw[asN]
    exact .sc _ rfl
 ·cases h
theorem UX (hS:SR V lo fB) {x:VV} {u:Value} {z:List Value} {H':aA} (hx:VR V x u) (h:Ta lo z x V.H=some H'):iP lo fB V (So fB z u V.P) tI H':=by
 unfold Ta at h
 split at h
 case h_2=>cases h
 rename_i b g o n c
 split at h
 case h_2=>cases h
 rename_i es e hr
 rw[cB] at hr
 cases hx with
 |
  ref b g o n c a n' c' bI hg ha hq =>
  obtain⟨rfl,rfl,rfl⟩:=ha _ _ _ hr
  unfold So
  simp only
  split at h
  ·rename_i h0
   cases h
   rw[if_pos h0]
   exact iP.same hS (.dW [] [] .nil)
  ·rename_i h0
   rw[if_neg h0]
   split at h
   case isFalse=>cases h
   rename_i hc
   obtain⟨rfl,dS,xE,hz⟩:=hc
   cases h
   have Px:∀x∈aLu n' (elemOf (z.map kW)),(aB x).length=z.length:=fun x hx=>by rw[aLP hx];exact Fo hz
   obtain⟨V',k1,k2,k3,k4⟩:=R3 hS hr dS (nw:=aLu n' (elemOf (z.map kW))) (by simpa using xE) Px (Dd (by
    rw[aKS]
    intro x hx
    rw[aLP hx,qE hz]
    exact hz)) (Em hz n')
   refine⟨undef,V',?_,k2,k3,k4,.dW [] [] .nil⟩
   rw[k1]
   rfl
end
end Go.PM
namespace Go.PM
section
variable {V:View} {lo fB:Nat} {ρ:cV} {mN:Env}
theorem UT {x v:VV} {u:Value} {neg:Bool} (hx:VR V x u) (h:Ie neg x V.H=some v):∃w,alA neg u=some w∧VR V v w:=by
 unfold Ie at h
 split at h
 ·cases h
  cases hx with
  | tree es k b o c r e p hF hb ho hc he hk hl=>exact hk.elim
  | pT=>exact⟨_,rfl,.sc _ rfl⟩
 ·cases h
  cases hx with
  | pT k hk=>rcases hk with hk | hk<;>cases hk
  | tree=>exact⟨_,rfl,.sc _ rfl⟩
 ·cases h
  cases hx with
  | tree=>exact⟨_,rfl,.sc _ rfl⟩
 ·obtain⟨⟨es,e,w⟩,hr,rfl⟩:=cR h
  rw[cB] at hr
  cases hx with
  |
   ref b g o n c a n' c' bI hg ha hq =>
   obtain⟨rfl,rfl,rfl⟩:=ha _ _ _ hr
   exact⟨_,rfl,.sc _ rfl⟩
 ·cases h
theorem aeR {x v:VV} {u:Value} (hx:VR V x u) (h:sE x V.H=some v):∃w,azZ u=some w∧VR V v w:=by
 unfold sE at h
 split at h
 ·cases h
  cases hx<;>exact⟨_,rfl,.sc _ rfl⟩
 ·obtain⟨⟨es,e,w⟩,hr,rfl⟩:=cR h
  rw[cB] at hr
  cases hx with
  |
   ref b g o n c a n' c' bI hg ha hq =>
   obtain⟨rfl,rfl,rfl⟩:=ha _ _ _ hr
   exact⟨_,rfl,.sc _ rfl⟩
 ·cases h
theorem Wu {x v:VV} {u:Value} {off:Nat} (hx:VR V x u) (h:yP off x V.H=some v):∃w,anE off u=some w∧VR V v w:=by
 unfold yP at h
 split at h
 ·cases h
  cases hx with
  | cG x off b o r e p hF hb ho hl=>exact⟨_,rfl,by rw[aKQ];exact .cG _ _ b o r e p hF hb ho hl⟩
 ·obtain⟨⟨es,e,w⟩,hr,rfl⟩:=cR h
  rw[cB] at hr
  cases hx with
  |
   ptr b g j off a bI hg ha hq =>
   have:=ha _ _ _ hr
   subst this
   refine⟨_,rfl,.ptr _ _ _ _ _ bI hg (fun pK e' w' JC => ?_) fun a0 h=>by cases h;have:=hq _ rfl;exact this⟩
   rw[hr] at JC
   cases JC
   rw[aKQ]
 ·cases h
theorem abS {x v:VV} {u:Value} (hx:VR V x u) (h:MV x V.H=some v):∃w,aA7 u=some w∧VR V v w:=by
 unfold MV at h
 split at h
 ·cases h
  cases hx with
  | cG x off b o r e p hF hb ho hl=>exact⟨_,rfl,.cG _ _ b o r e p hF hb ho hl⟩
 ·obtain⟨⟨es,e,w⟩,hr,rfl⟩:=cR h
  rw[cB] at hr
  cases hx with
  |
   ptr b g j off a bI hg ha hq =>
   have:=ha _ _ _ hr
   subst this
   exact⟨_,rfl,.ptr _ _ _ _ _ bI hg ha hq⟩
 ·cases h
theorem Yc {c a b v:VV} {u x y:Value} (hc:VR V c u) (ha:VR V a x) (hb:VR V b y) (h:Wx c a b=some v):∃t,u = .bool t∧VR V v (if t then x else y):=by
 unfold Wx at h
 split at h
 ·rename_i t
  cases h
  obtain⟨rfl,_⟩:=uS hc rfl
  refine⟨t,rfl,?_⟩
  cases t
  ·exact hb
  ·exact ha
 ·cases h
theorem afQ {x v:VV} {u:Value} {i:Nat} (hx:VR V x u) (h:aiM i x=some v):∃w,awA i u=some w∧VR V v w:=by
 unfold aiM at h
 split at h
 ·cases hx with
  |
   dW cs ps hl =>
   obtain⟨w,hw,hv⟩:=hl.get h
   exact⟨w,by simpa[awA] using hw,hv⟩
 ·cases h
theorem afI {x v:VV} {u:Value} {agg:Bool} {off size:Nat} (hx:VR V x u) (h:arD agg off size x=some v):∃w,atB agg off size u=some w∧VR V v w:=by
 unfold arD at h
 split at h
 ·rename_i cs
  cases hx with
  |
   agg cs ps hl =>
   split at h
   ·rename_i ha
    split at h
    ·rename_i hs
     cases h
     refine⟨.agg ((ps.drop off).take size).toArray,?_,.agg _ _ ((hl.drop off).take size)⟩
     unfold atB
     simp only[ha,if_true]
     rw[if_pos (by simpa[hl.length] using hs)]
     congr 2
     apply Array.ext'
     simp[List.extract_eq_take_drop]
    ·cases h
   ·rename_i ha
    obtain⟨w,hw,hv⟩:=hl.get h
    refine⟨w,?_,hv⟩
    unfold atB
    simp only[ha]
    simpa using hw
 ·cases h
theorem QH {ks:List CK}:∀ {xs ys:List VV} {us ws:List Value} {t:Bool},VL V xs us→VL V ys ws→tW ks xs ys=some t→sK ks us ws=some t:=by
 induction ks with
 |
  nil =>
  intro xs ys us ws t h1 h2 h
  cases h1 with
  |
   nil=>cases h2 with
   | nil=>exact h
   | cons=>simp[tW] at h
  | cons=>simp[tW] at h
 |
  cons k ks ih =>
  intro xs ys us ws t h1 h2 h
  cases h1 with
  | nil=>simp[tW] at h
  |
   cons x u xs us hx MY=>cases h2 with
   | nil=>cases x<;>simp[tW] at h
   |
    cons y w ys ws hy hys =>
    cases hx with
    |
     sc _ _=>cases hy with
     |
      sc _ _ =>
      simp only[tW] at h
      simp only[sK]
      split at h
      ·rename_i h1
       rw[h1]
       exact ih MY hys h
      ·rename_i h1
       rw[h1]
       exact h
      ·cases h
     | _=>simp[tW] at h
    | _=>simp[tW] at h
theorem P0 {places:List (Nat×Nat)}:∀ {parts:List (Nat×VV)} {Cw:List (Nat×Value)} {cs Cx:List VV} {r:List Value},VL V cs r→Yg V parts Cw→BC places cs parts=some Cx →
  ∃r',Aw places r Cw=some r'∧VL V Cx r'
 | [],_,cs,Cx,r,hl,.nil,h=>by cases h;exact⟨r,rfl,hl⟩
 |
  (i,v)::parts,(_,w)::Cw,cs,Cx,r,hl,.cons hv hps,h=>by
  unfold BC at h
  unfold Aw
  split at h
  ·cases h
  ·rename_i off size Qa
   simp only[Qa]
   split at h
   case isFalse=>cases h
   rename_i hc
   have mM:=hv.cells (fun e=>by subst e;cases hc.2.2)
   rw[if_pos ⟨by rw[mM.length];exact hc.1,by rw[hl.length];exact hc.2.1⟩]
   exact P0 (((hl.take off).append mM).append (hl.drop _)) hps h
theorem MK:∀ {es:List VV} {r:List Value} {bs:List UInt8},VL V (es.flatMap aB) r→Lv es=some bs→xT r=some bs
 | [],_,bs,.nil,h=>h
 |
  x::es,r,bs,hl,h=>by
  unfold Lv at h
  split at h
  ·rename_i e;cases e
  ·rename_i n r' e
   cases e
   obtain⟨t,ht,rfl⟩:=cR h
   rw[aLs] at hl
   cases hl with
   |
    cons _ u _ us hu hus =>
    obtain⟨rfl,_⟩:=uS hu rfl
    unfold xT
    rw[MK hus ht]
    rfl
  ·cases h
theorem lift {r:Option VV} {v:VV} {H':aA} {s:Option (Value×aI)} (h:r.map (·,V.H)=some (v,H')) (k:r=some v→iP lo fB V s v V.H):iP lo fB V s v H':=by
 obtain⟨a,ha,he⟩:=cR h
 cases he
 exact k ha
theorem aeA (hS:SR V lo fB) (hE:ER V ρ mN) {fl:Fl} {o:qK} {v:VV} {H':aA} {q:Bool} (h:vop fl lo o ρ V.H=some (v,H')):iP lo fB V (lM fB q o mN V.P) v H':=by
 cases o<;>simp only[vop] at h
 case mv x=>cases h;rw[arO];exact iP.same hS (hE.ev x)
 case pick c a b =>
  refine lift h fun h => ?_
  obtain⟨t,ht,hv⟩:=Yc (hE.ev c) (hE.ev a) (hE.ev b) h
  rw[aeX,ht]
  exact iP.same hS hv
 case bin op x y=>rw[ajD];exact lift h fun h=>Dz (f:=dK op) hS (fun _ _ _=>ahX) (hE.ev x) (hE.ev y) h
 case eqb neg x y=>rw[amN];exact lift h fun h=>Dz (f:=OO neg) hS (fun _ _ _=>agW) (hE.ev x) (hE.ev y) h
 case isnil neg x =>
  rw[X8]
  refine lift h fun h => ?_
  obtain⟨w,h1,h2⟩:=UT (hE.ev x) h
  exact iP.pure hS h1 h2
 case eqagg neg ks x y =>
  rw[Yj]
  refine lift h fun h => ?_
  unfold X0 at h
  split at h
  case h_2=>cases h
  rename_i a b hx hy
  obtain⟨t,ht,rfl⟩:=cR h
  have h1:=hE.ev x
  have h2:=hE.ev y
  rw[hx] at h1
  rw[hy] at h2
  generalize ev mN x=u at h1 ⊢
  generalize ev mN y=w at h2 ⊢
  cases h1 with
  |
   agg cs ps h1=>cases h2 with
   |
    agg Cx ps' h2 =>
    refine iP.pure hS (pv := .bool (t != neg)) ?_ (.sc _ rfl)
    unfold agT
    simp only
    rw[QH h1 h2 ht]
    rfl
 case un op x=>rw[aqV];exact lift h fun h=>Gz (f:=pun op) hS (fun _ _=>atK) (hE.ev x) h
 case cvt k x=>rw[ajZ];exact lift h fun h=>Gz (f:=Xg k) hS (fun _ _=>ahD) (hE.ev x) h
 case cvs x =>
  have e:lM fB q (.cvs x) mN V.P=(acB (ev mN x)).map (·,V.P):=dZ rfl
  rw[e];exact lift h fun h=>Gz (f:=acB) hS (fun _ _=>ajN) (hE.ev x) h
 case ext x i =>
  rw[ajC]
  refine lift h fun h => ?_
  obtain⟨w,h1,h2⟩:=afQ (hE.ev x) h
  exact iP.pure hS h1 h2
 case fld agg off size x =>
  rw[aiY]
  refine lift h fun h => ?_
  obtain⟨w,h1,h2⟩:=afI (hE.ev x) h
  exact iP.pure hS h1 h2
 case build zero places parts =>
  obtain⟨cs,OR,he⟩:=cR h
  cases he
  obtain⟨r,h1,h2⟩:=P0 (VL.zero zero) (Lu hE parts) OR
  rw[Xj,h1]
  exact iP.same hS (.agg _ _ h2)
 case chk x =>
  rw[anP]
  refine lift h fun h => ?_
  obtain⟨w,h1,h2⟩:=abS (hE.ev x) h
  exact iP.pure hS h1 h2
 case faddr off x =>
  rw[Yn]
  refine lift h fun h => ?_
  obtain⟨w,h1,h2⟩:=Wu (hE.ev x) h
  exact iP.pure hS h1 h2
 case iaddr size x i =>
  rw[YN]
  refine lift h fun h => ?_
  obtain⟨w,h1,h2⟩:=Ve hS (hE.ev x) (hE.ev i) h
  exact iP.pure hS h1 h2
 case sidx x i =>
  have e:lM fB q (.sidx x i) mN V.P=(Ke (ev mN x) (ev mN i)).map (·,V.P):=dZ rfl
  rw[e];exact lift h fun h=>Dz (f:=Ke) hS (fun _ _ _=>afD) (hE.ev x) (hE.ev i) h
 case ssub x l h' =>
  refine lift h fun h => ?_
  unfold zO at h
  split at h
  case h_2=>cases h
  rename_i s lv hv hx h1 h2
  split at h
  case h_2=>cases h
  rename_i a b IW
  cases h
  obtain⟨e1,_⟩:=uS (hE.ev x) hx
  have e:lM fB q (.ssub x l h') mN V.P=some (.string (s.extract a b),V.P):=by
   rw[dZ rfl]
   simp only[kH,e1]
   rw[DL hE h1,DL hE h2,IW]
   rfl
  rw[e]
  exact iP.same hS (.sc _ rfl)
 case mkfn f gB =>
  cases h
  rw[aeN]
  exact iP.same hS (.xZ _ _ _ (hE.evs gB))
 case len x =>
  rw[amL]
  refine lift h fun h => ?_
  obtain⟨w,h1,h2⟩:=aeR (hE.ev x) h
  exact iP.pure hS h1 h2
 case slen x =>
  have e:lM fB q (.slen x) mN V.P=(DE (ev mN x)).map (·,V.P):=dZ rfl
  rw[e];exact lift h fun h=>Gz (f:=DE) hS (fun _ _=>abY) (hE.ev x) h
 case min x y=>rw[amG];exact lift h fun h=>Dz (f:=WE) hS (fun _ _ _=>anI) (hE.ev x) (hE.ev y) h
 case max x y=>rw[ahL];exact lift h fun h=>Dz (f:=V8) hS (fun _ _ _=>akX) (hE.ev x) (hE.ev y) h
 case load agg size p =>
  rw[aeC]
  refine lift h fun h => ?_
  obtain⟨w,h1,h2⟩:=Oz hS (hE.ev p) h
  exact iP.pure hS h1 h2
 case sub size x l hh m =>
  rw[agS]
  exact lift h fun h=>abI hS hE (hE.ev x) h
 case b2s x =>
  split at h
  ·cases h
  rename_i y gF
  split at h
  case h_2=>cases h
  rename_i es QB
  obtain⟨bs,hbs,he⟩:=cR h
  cases he
  obtain⟨h1,h2,h3,h4⟩:=Ay hS (hE.ev x) QB
  obtain⟨pn,h5,h6⟩:=h4 es.length (aKE _)
  rw[aLR] at h6
  have hb:=MK h6 hbs
  have hx:=hE.ev x
  have e:lM fB q (.b2s x) mN V.P=some (.string ⟨bs.toArray⟩,V.P):=by
   apply sR
   simp only[pop]
   generalize ev mN x=u at *
   cases u<;>first | (exfalso;simp[wP] at h1;done) | skip
   case string s =>
    generalize fJ ρ x=y at *
    cases hx with
    | any=>simp[cW] at QB
    | sc _ _=>exact absurd rfl (gF _)
   case slice a n c =>
    injection h1 with h1
    subst h1
    cases a with
    |
     none =>
     simp only[kY] at h5
     split at h5
     ·cases h5
      cases hb
      rfl
     ·cases h5
    |
     some a =>
     obtain⟨b,o,sp⟩:=a
     cases sp with
     | some s=>simp[kY] at h5
     |
      none =>
      simp only[kY,Nat.mul_one] at h5
      simp only[h5,hb]
      rfl
  rw[e]
  exact iP.same hS (.sc _ rfl)
 case new zero =>
  split at h
  case isFalse=>cases h
  rename_i hz
  cases h
  rw[alJ]
  exact adW hS hz
 case box x =>
  split at h
  case isFalse=>cases h
  rename_i hs
  rw[aiF]
  exact acG hS (hE.ev x) hs h
 case make zero bytes l c =>
  split at h
  case isFalse=>cases h
  rename_i hz
  rw[acQ]
  exact XN hS hz (hE.ev l) (hE.ev c) h
 case lit zero n parts =>
  rw[alF]
  exact aeZ hS (Lu hE parts) h
 case store size p x =>
  obtain⟨a,ha,he⟩:=cR h
  cases he
  rw[X4]
  exact Vs hS (hE.ev p) (hE.ev x) ha
 case app size bytes x y =>
  split at h
  case h_2=>cases h
  rename_i new hn
  obtain⟨h1,h2,h3,h4⟩:=Ay hS (hE.ev y) hn
  obtain⟨pn,h5,h6⟩:=h4 new.length (aKE _)
  rw[aLR] at h6
  rw[anN]
  unfold awB
  simp only[h1,h5]
  exact JJ hS (hE.ev x) h2 h3 h6 h
 case appz zero bytes x n =>
  split at h
  case h_2=>cases h
  rename_i k hk
  split at h
  case isFalse=>cases h
  rename_i hc
  obtain⟨e1,_⟩:=uS (hE.ev n) hk
  have Px:∀x∈aLu k.toNat (elemOf (zero.map kW)),(aB x).length=zero.length:=fun x hx=>by rw[aLP hx];exact Fo hc.2.2
  have:=JJ hS (hE.ev x) Px (Dd (by
    rw[aKS]
    intro x hx
    rw[aLP hx,qE hc.2.2]
    exact hc.2.2)) (Em hc.2.2 _) h
  rw[List.length_replicate] at this
  rw[adQ]
  unfold akN
  rw[e1]
  simp only[if_pos (show 0≤k∧k*(bytes:Int)≤140737488355328 from⟨hc.1,hc.2.1⟩)]
  exact this
 case copy size x y =>
  rw[acY]
  exact Ym hS (hE.ev x) (hE.ev y) h
 case clear zero x =>
  obtain⟨a,ha,he⟩:=cR h
  cases he
  rw[YP]
  exact UX hS (hE.ev x) ha
 all_goals cases h
end
end Go.PM
namespace Go.PM
def bare (F:Nat→Prop) (P:aI):View:=⟨fun _=>0,F,[],P,0⟩
theorem Ds {es:List VV}:aO es=true↔∀x∈es,aY x=true:=by
 induction es with
 | nil=>simp[aO]
 | cons x xs ih=>simp[aO,ih]
theorem Fp {x:VV} (h:aY x=true):aO (aB x)=true:=by
 unfold aB
 split
 ·simpa[aY] using h
 ·simp[aO,h]
theorem PU {es:List VV} (h:aO es=true):aO (es.flatMap aB)=true:=by
 rw[Ds] at h ⊢
 intro x hx
 obtain⟨y,hy,CQ⟩:=aLG.1 hx
 exact Ds.1 (Fp (h y hy)) x CQ
theorem KW {es:List VV} {k:TK} (h:aY (.tree es k)=true):k = .op∧aO es=true∧uni es=true:=by
 simp only[aY,aLc,decide_eq_true_eq] at h
 exact⟨h.1.1,h.1.2,h.2⟩
theorem MJ {x:VV} (h:aY x=true):x ≠ .any:=by
 rintro rfl
 cases h
theorem asU {es:List VV} (h:uni es=true):∃e,∀x∈es,(aB x).length=e:=by
 cases es with
 | nil=>exact⟨0,fun x hx=>by cases hx⟩
 |
  cons x xs =>
  refine⟨(aB x).length,fun y hy => ?_⟩
  rcases aLS.1 hy with rfl | hy
  ·rfl
  ·have:=aKS.1 h y hy
   simpa using this
section
variable {V V':View}
theorem VR.pure {x:VV} {v:Value} (hF:∀b,V.F b→V'.F b∧V'.P[b]? = V.P[b]?) (h:VR V x v):aY x=true→VR V' x v:=by
 induction h using VR.rec (motive_2:=fun xs vs _=>aO xs=true→VL V' xs vs) with
 | any=>intro hp;cases hp
 | sc _ h=>intro _;exact .sc _ h
 | agg cs ps _ ih=>intro hp;exact .agg _ _ (ih hp)
 | dW cs ps _ ih=>intro hp;exact .dW _ _ (ih hp)
 | pT k hk=>intro _;exact .pT k hk
 | tree es k b o c r e p Xu hb ho hc he hk _ ih=>intro hp;exact .tree es k b o c r e p (hF _ Xu).1 (by rw[(hF _ Xu).2];exact hb) ho hc he hk (ih (PU (KW hp).2.1))
 | cG x off b o r e p Xu hb ho _ ih=>intro hp;exact .cG x off b o r e p (hF _ Xu).1 (by rw[(hF _ Xu).2];exact hb) ho (ih (Fp hp))
 | ref=>intro hp;cases hp
 | ptr=>intro hp;cases hp
 | xZ f gB ps _ ih=>intro hp;exact .xZ _ _ _ (ih hp)
 | nil=>exact .nil
 |
  cons x v xs vs _ _ ih Yw =>
  rename_i hp
  simp only[aO,aLc] at hp
  exact .cons _ _ _ _ (ih hp.1) (Yw hp.2)
theorem VL.pure {xs:List VV} {vs:List Value} (hF:∀b,V.F b→V'.F b∧V'.P[b]? = V.P[b]?) (h:VL V xs vs) (hp:aO xs=true):VL V' xs vs:=by
 induction xs generalizing vs with
 | nil=>cases h;exact .nil
 |
  cons x xs ih=>cases h with
  |
   cons _ v _ vs h hs =>
   simp only[aO,aLc] at hp
   exact .cons _ _ _ _ (h.pure hF hp.1) (ih hs hp.2)
theorem VL.flatten {es:List VV} {ps:List Value} (h:VL V es ps) (hp:aO es=true):VL V (es.flatMap aB) (ps.flatMap aV):=by
 induction es generalizing ps with
 | nil=>cases h;exact .nil
 |
  cons x xs ih =>
  cases h with
  |
   cons _ v _ vs h hs =>
   simp only[aO,aLc] at hp
   rw[aLs,aLs]
   exact(h.cells (MJ hp.1)).append (ih hs hp.2)
theorem TS {P P':aI} (h:P <+: P'):∀b,(bare (· < P.length) P).F b→(bare (· < P'.length) P').F b∧(bare (· < P'.length) P').P[b]? = (bare (· < P.length) P).P[b]? := by
 intro b hb
 obtain⟨L,rfl⟩:=h
 have xM:b<P.length:=hb
 exact⟨by show b<(P++L).length;simp;omega,aKV xM⟩
mutual
theorem real (x:VV) (hp:aY x=true) (P:aI):∃P' pv,P <+: P'∧VR (bare (· < P'.length) P') x pv:=by
 cases x with
 | any=>cases hp
 | sc v=>exact⟨P,v,List.prefix_refl _,.sc v hp⟩
 |
  agg cs =>
  obtain⟨P',ps,h1,h2⟩:=Q5 cs hp P
  exact⟨P',_,h1,.agg _ _ h2⟩
 |
  dW cs =>
  obtain⟨P',ps,h1,h2⟩:=Q5 cs hp P
  exact⟨P',_,h1,.dW _ _ h2⟩
 |
  tree es k =>
  obtain⟨rfl,h1,h2⟩:=KW hp
  obtain⟨P',ps,h3,h4⟩:=Q5 es h1 P
  obtain⟨e,he⟩:=asU h2
  have h5:=h4.flatten h1
  have hl:=h5.length
  rw[mO he] at hl
  have Dq:P' <+: P'++[Qc.row (ps.flatMap aV) e false]:=List.prefix_append _ _
  refine⟨_,.slice (some ⟨P'.length,0,none⟩) es.length es.length,h3.trans Dq,?_⟩
  refine .tree es .op P'.length 0 es.length (ps.flatMap aV) e false (show P'.length<(P'++[Qc.row (ps.flatMap aV) e false]).length by simp) (by show (P'++[Qc.row (ps.flatMap aV) e false])[P'.length]? = _;simp) (by omega) (aKE _) he trivial ?_
  rw[aLQ,aLx (by omega)]
  exact VL.pure (TS Dq) h5 (PU h1)
 |
  cG x off =>
  obtain⟨P',pv,h3,h4⟩:=real x hp P
  have h5:=h4.cells (MJ hp)
  have Dq:P' <+: P'++[Qc.row (aV pv) (aV pv).length false]:=List.prefix_append _ _
  refine⟨_,.pointer (some ⟨P'.length,0+off,none⟩),h3.trans Dq,?_⟩
  refine .cG x off P'.length 0 (aV pv) (aV pv).length false (show P'.length<(P'++[Qc.row (aV pv) (aV pv).length false]).length by simp) (by show (P'++[Qc.row (aV pv) (aV pv).length false])[P'.length]? = _;simp) (by rw[h5.length];omega) ?_
  rw[aLQ,aLx (by rw[h5.length];exact aKE _)]
  exact VL.pure (TS Dq) h5 (Fp hp)
 | ref=>cases hp
 | ptr=>cases hp
 |
  xZ f gB =>
  obtain⟨P',ps,h1,h2⟩:=Q5 gB hp P
  exact⟨P',_,h1,.xZ _ _ _ h2⟩
theorem Q5 (xs:List VV) (hp:aO xs=true) (P:aI):∃P' ps,P <+: P'∧VL (bare (· < P'.length) P') xs ps:=by
 cases xs with
 | nil=>exact⟨P,[],List.prefix_refl _,.nil⟩
 |
  cons x xs =>
  simp only[aO,aLc] at hp
  obtain⟨P1,pv,h1,h2⟩:=real x hp.1 P
  obtain⟨P2,ps,h3,h4⟩:=Q5 xs hp.2 P1
  exact⟨P2,pv::ps,h1.trans h3,.cons _ _ _ _ (h2.pure (TS h3) hp.1) h4⟩
end
theorem NU {es:List VV}:sO es=true↔∀x∈es,gU x=true:=by
 induction es with
 | nil=>simp[sO]
 | cons x xs ih=>simp[sO,ih]
theorem F8 {es:List VV} {k:TK} (h:gU (.tree es k)=true):k = .op∧sO es=true∧uni es=true∧es.all Cr=true:=by
 simp only[gU,aLc,decide_eq_true_eq] at h
 exact⟨h.1.1.1,h.1.1.2,h.1.2,h.2⟩
theorem Xb {x:VV} (h:gU x=true):sO (aB x)=true:=by
 unfold aB
 split
 ·simpa[gU] using h
 ·simp[sO,h]
theorem Q4 {es:List VV} (h:sO es=true):sO (es.flatMap aB)=true:=by
 rw[NU] at h ⊢
 intro x hx
 obtain⟨y,hy,CQ⟩:=aLG.1 hx
 exact NU.1 (Xb (h y hy)) x CQ
mutual
theorem Uw (x:VV) (h:gU x=true):aY x=true:=by
 cases x with
 | sc v=>exact h
 | agg cs=>exact G0 cs h
 | dW cs=>exact G0 cs h
 |
  tree es k =>
  obtain⟨h1,h2,h3,_⟩:=F8 h
  simp[aY,h1,G0 es h2,h3]
 | any=>cases h
 | cG=>cases h
 | ref=>cases h
 | ptr=>cases h
 | xZ=>cases h
theorem G0 (xs:List VV) (h:sO xs=true):aO xs=true:=by
 cases xs with
 | nil=>rfl
 |
  cons x xs =>
  simp only[sO,aLc] at h
  simp[aO,Uw x h.1,G0 xs h.2]
end
theorem T5 {e:Nat}:∀ {es pK:List VV},(∀x∈es,(aB x).length=e)→(∀x∈pK,(aB x).length=e)→es.all Cr=true→pK.all Cr=true→es.length=pK.length→es.flatMap aB=pK.flatMap aB→es=pK
 | [],[],_,_,_,_,_,_=>rfl
 |
  x::es,y::pK,h1,h2,h3,h4,hl,h=>by
  rw[aLs,aLs] at h
  have hx:=h1 x aLe
  have hy:=h2 y aLe
  obtain⟨e1,e2⟩:=List.append_inj h (by omega)
  simp only[aLw,aLc] at h3 h4
  have CQ:x=y:=by
   have g1:=h3.1
   have g2:=h4.1
   unfold aB at e1
   split at e1<;>split at e1
   ·rw[e1]
   ·rename_i cs _ _
    subst e1
    cases g1
   ·rename_i cs
    subst e1
    cases g2
   ·injection e1
  rw[CQ,T5 (fun z hz=>h1 z (aLd _ hz)) (fun z hz=>h2 z (aLd _ hz)) h3.2 h4.2 (by simpa using hl) e2]
theorem VR.uniq {x y:VV} {v:Value} (h:VR V x v) (h':VR V y v) (hx:gU x=true) (hy:gU y=true):x=y:=by
 induction h using VR.rec (motive_2:=fun xs vs _=>∀ys,VL V ys vs→sO xs=true→sO ys=true→xs=ys) generalizing y with
 | any=>cases hx
 |
  sc _ h=>cases h' with
  | sc _ _=>rfl
  | any=>cases hy
  | agg=>cases h
  | dW=>cases h
  | pT=>cases h
  | tree=>cases h
  | cG=>cases hy
  | ref=>cases hy
  | ptr=>cases hy
  | xZ=>cases hy
 |
  agg cs ps h ih=>generalize hw:Value.agg ps.toArray=w at h';cases h' with
  | sc _ h'=>subst hw;cases h'
  | any=>cases hy
  |
   agg Cx ps' h' =>
   injection hw with hw
   have:ps=ps':=by simpa using hw
   subst this
   rw[ih _ h' hx hy]
  | dW=>cases hw
  | pT=>cases hw
  | tree=>cases hw
  | cG=>cases hy
  | ref=>cases hy
  | ptr=>cases hy
  | xZ=>cases hy
 |
  dW cs ps h ih=>generalize hw:Value.tuple ps.toArray=w at h';cases h' with
  | sc _ h'=>subst hw;cases h'
  | any=>cases hy
  |
   dW Cx ps' h' =>
   injection hw with hw
   have:ps=ps':=by simpa using hw
   subst this
   rw[ih _ h' hx hy]
  | agg=>cases hw
  | pT=>cases hw
  | tree=>cases hw
  | cG=>cases hy
  | ref=>cases hy
  | ptr=>cases hy
  | xZ=>cases hy
 |
  pT k hk =>
  obtain⟨rfl,_⟩:=F8 hx
  generalize hw:Value.slice none 0 0=w at h'
  cases h' with
  | sc _ h'=>subst hw;cases h'
  | any=>cases hy
  | pT k' hk'=>obtain⟨rfl,_⟩:=F8 hy;rfl
  | agg=>cases hw
  | dW=>cases hw
  | tree=>cases hw
  | cG=>cases hy
  | ref=>cases hy
  | ptr=>cases hy
  | xZ=>cases hy
 |
  tree es k b o c r e p hF hb ho hc he hk hl ih =>
  obtain⟨rfl,hx1,hx2,hx3⟩:=F8 hx
  generalize hw:Value.slice (some ⟨b,o,none⟩) es.length c=w at h'
  cases h' with
  | sc _ h'=>subst hw;cases h'
  | any=>cases hy
  | pT=>cases hw
  | agg=>cases hw
  | dW=>cases hw
  |
   tree pK k' b' o' c' r' e' p' hF' xM ho' hc' he' hk' Gd =>
   obtain⟨rfl,hy1,hy2,hy3⟩:=F8 hy
   injection hw with h1 h2 h3
   injection h1 with h1
   injection h1 with h1 h4
   subst h1 h3 h4
   rw[hb] at xM
   injection xM with xM
   injection xM with g1 g2 g3
   subst g1 g2 g3
   rw[←h2] at Gd
   rw[T5 he he' hx3 hy3 h2 (ih _ Gd (Q4 hx1) (Q4 hy1))]
  | cG=>cases hy
  | ref=>cases hy
  | ptr=>cases hy
  | xZ=>cases hy
 | cG=>cases hx
 | ref=>cases hx
 | ptr=>cases hx
 | xZ=>cases hx
 | nil=>rename_i h' _ _;cases h';rfl
 |
  cons x v xs vs _ _ ih Yw =>
  rename_i ys h' hx hy
  cases h' with
  |
   cons y _ ys _ h' hs' =>
   simp only[sO,aLc] at hx hy
   rw[ih h' hx.1 hy.1,Yw _ hs' hx.2 hy.2]
end
end Go.PM
namespace Go.PM
section
variable {V:View} {lo fB:Nat}
theorem rO {α β:Type} {f:α→Option β} {x:α} {xs:List α} {r:List β} (h:(x::xs).mapM f=some r):∃y ys,f x=some y∧xs.mapM f=some ys∧r=y::ys:=by
 rw[List.mapM_cons] at h
 cases hx:f x with
 | none=>rw[hx] at h;cases h
 |
  some y =>
  rw[hx] at h
  cases hs:xs.mapM f with
  | none=>rw[hs] at h;cases h
  | some ys=>rw[hs] at h;cases h;exact⟨y,ys,rfl,rfl,rfl⟩
theorem Bt {α β:Type} {f:α→Option β}:∀ {xs:List α} {r:List β},xs.mapM f=some r→r.length=xs.length
 | [],r,h=>by cases h;rfl
 |
  x::xs,r,h=>by
  obtain⟨y,ys,_,h2,rfl⟩:=rO h
  simp[Bt h2]
theorem ZP {d:Nat} {H:aA} {x x':VV} (h:fz d H x=some x'):(∃cs Cx,x = .agg cs∧x' = .agg Cx∧Cx.length=cs.length)∨(aB x=[x]∧aB x'=[x']):=by
 cases d with
 | zero=>cases h
 |
  succ d =>
  unfold fz at h
  split at h
  ·cases h
   cases x with
   | agg cs=>exact .inl ⟨cs,cs,rfl,rfl,rfl⟩
   | _=>exact .inr ⟨rfl,rfl⟩
  ·split at h
   ·obtain⟨Cx,h1,rfl⟩:=cR h
    exact .inl ⟨_,_,rfl,rfl,Bt h1⟩
   ·obtain⟨Cx,h1,rfl⟩:=cR h;exact .inr ⟨rfl,rfl⟩
   ·obtain⟨Cx,h1,rfl⟩:=cR h;exact .inr ⟨rfl,rfl⟩
   ·obtain⟨Cx,h1,rfl⟩:=cR h;exact .inr ⟨rfl,rfl⟩
   ·split at h
    ·split at h
     ·obtain⟨Cx,h1,rfl⟩:=cR h;exact .inr ⟨rfl,rfl⟩
     ·cases h
    ·cases h
   ·split at h
    ·split at h
     ·obtain⟨Cx,h1,rfl⟩:=cR h;exact .inr ⟨rfl,rfl⟩
     ·cases h
    ·cases h
   ·obtain⟨Cx,h1,rfl⟩:=cR h;exact .inr ⟨rfl,rfl⟩
   ·cases h
theorem TE {d:Nat} {H:aA} {x x':VV} (h:fz d H x=some x'):(aB x').length=(aB x).length:=by
 rcases ZP h with⟨cs,Cx,rfl,rfl,h'⟩ | ⟨h1,h2⟩
 ·exact h'
 ·rw[h1,h2];rfl
def Rh (V:View) (G:Nat→Prop) (ids:List Nat):Prop:=∀i∈ids,∀g es e w,V.H[i]? = some (.row g es e w)→G (V.m i)
theorem OY (hS:SR V lo fB) {G:Nat→Prop} (hG:∀q,V.F q→G q):∀(d:Nat) (v v':VV) (pv:Value),VR V v pv→fz d V.H v=some v'→Rh V G (iT d V.H v)→VR (bare G V.P) v' pv:=by
 have hFG:∀b,V.F b→(bare G V.P).F b∧(bare G V.P).P[b]? = V.P[b]? := fun b hb=>⟨hG b hb,rfl⟩
 intro d
 induction d with
 | zero=>intro v v' pv _ h;cases h
 |
  succ d ih =>
  have ihL:∀(xs KF:List VV) (ps:List Value),VL V xs ps→xs.mapM (fz d V.H)=some KF→Rh V G (xs.flatMap (iT d V.H))→VL (bare G V.P) KF ps:=by
   intro xs
   induction xs with
   | nil=>intro KF ps hl h _;cases h;cases hl;exact .nil
   |
    cons x xs ihx =>
    intro KF ps hl h hi
    obtain⟨y,ys,h1,h2,rfl⟩:=rO h
    cases hl with
    |
     cons _ v _ vs hx MY =>
     exact .cons _ _ _ _ (ih x y v hx h1 fun i qQ=>hi i (by rw[aLs];exact aLT _ qQ)) (ihx ys vs MY h2 fun i qQ=>hi i (by rw[aLs];exact aLU _ qQ))
  have ihC:∀(x x':VV) (ps:List Value),VL V (aB x) ps→fz d V.H x=some x'→Rh V G (iT d V.H x)→VL (bare G V.P) (aB x') ps:=by
   intro x x' ps hl h hi
   rcases ZP h with⟨cs,Cx,rfl,rfl,mM⟩ | ⟨h1,h2⟩
   ·have:=ih _ _ (.agg ps.toArray) (.agg _ _ hl) h hi
    generalize hw:Value.agg ps.toArray=w at this
    cases this with
    |
     agg _ ps' Gd =>
     injection hw with hw
     have:ps=ps':=by simpa using hw
     subst this
     exact Gd
   ·rw[h1] at hl
    rw[h2]
    cases hl with
    |
     cons _ v _ vs hx MY =>
     cases MY
     exact .cons _ _ _ _ (ih _ _ _ hx h hi) .nil
  have ihF:∀(xs KF:List VV) (ps:List Value),VL V (xs.flatMap aB) ps→xs.mapM (fz d V.H)=some KF→Rh V G (xs.flatMap (iT d V.H))→VL (bare G V.P) (KF.flatMap aB) ps:=by
   intro xs
   induction xs with
   | nil=>intro KF ps hl h _;cases h;cases hl;exact .nil
   |
    cons x xs ihx =>
    intro KF ps hl h hi
    obtain⟨y,ys,h1,h2,rfl⟩:=rO h
    rw[aLs] at hl ⊢
    have hlen:=hl.length
    have a1:=hl.take (aB x).length
    have a2:=hl.drop (aB x).length
    rw[List.take_left] at a1
    rw[List.drop_left] at a2
    rw[←aLN (aB x).length ps]
    exact(ihC x y _ a1 h1 fun i qQ=>hi i (by rw[aLs];exact aLT _ qQ)).append (ihx ys _ a2 h2 fun i qQ=>hi i (by rw[aLs];exact aLU _ qQ))
  have aBh:∀(xs KF:List VV) (e:Nat),xs.mapM (fz d V.H)=some KF→(∀x∈xs,(aB x).length=e)→∀x∈KF,(aB x).length=e:=by
   intro xs
   induction xs with
   | nil=>intro KF e h _ x hx;cases h;cases hx
   |
    cons x xs ihx =>
    intro KF e h he z hz
    obtain⟨y,ys,h1,h2,rfl⟩:=rO h
    rcases aLS.1 hz with rfl | hz
    ·rw[TE h1];exact he x aLe
    ·exact ihx ys e h2 (fun w hw=>he w (aLd _ hw)) z hz
  intro v v' pv hv h hi
  unfold fz at h
  unfold iT at hi
  split at h
  ·rename_i hp
   cases h
   exact hv.pure hFG hp
  ·rename_i hp
   rw[if_neg hp] at hi
   split at h
   ·obtain⟨Cx,h1,rfl⟩:=cR h
    cases hv with
    | agg cs ps hl=>exact .agg _ _ (ihL _ _ _ hl h1 hi)
   ·obtain⟨Cx,h1,rfl⟩:=cR h
    cases hv with
    | dW cs ps hl=>exact .dW _ _ (ihL _ _ _ hl h1 hi)
   ·obtain⟨Cx,h1,rfl⟩:=cR h
    cases hv with
    | pT k hk=>cases h1;exact .pT _ (.inl rfl)
    |
     tree es k b o c r e p hF hb ho hc he hk hl =>
     have hlen:=Bt h1
     have:=VR.tree (V:=bare G V.P) Cx .op b o c r e p (hG b hF) hb (by rw[hlen];exact ho) (by rw[hlen];exact hc) (aBh _ _ _ h1 he) trivial (by rw[hlen];exact ihF _ _ _ hl h1 hi)
     rw[hlen] at this
     exact this
   ·obtain⟨x',h1,rfl⟩:=cR h
    cases hv with
    |
     cG x off b o r e p hF hb ho hl =>
     have hlen:=TE h1
     exact .cG x' _ b o r e p (hG b hF) hb (by rw[hlen];exact ho) (by rw[hlen];exact ihC _ _ _ hl h1 hi)
   ·rename_i b g o n c
    split at h
    case h_2=>cases h
    rename_i es e w hr
    simp only[hr] at hi
    rw[cB] at hr
    split at h
    case isFalse=>cases h
    rename_i aDM
    obtain⟨hon,FH⟩:=aDM
    obtain⟨pK,h1,rfl⟩:=cR h
    obtain⟨r,p,k1,k2,k3⟩:=hS.row b g es e w hr
    have BZ:=k3.length
    rw[mO k2] at BZ
    cases hv with
    |
     ref b g o n c a n' c' bI hg ha hq =>
     obtain⟨rfl,rfl,rfl⟩:=ha _ _ _ hr
     have akZ:∀x∈(es.drop o).take n',(aB x).length=e:=fun x hx=>k2 x (aLC (aLB hx))
     have hn2:((es.drop o).take n').length=n':=by simp;omega
     have hlen:=Bt h1
     rw[hn2] at hlen
     have hm:(o+n')*e≤es.length*e:=aK5 _ hon
     rw[aK9] at hm
     have hl:VL V (((es.drop o).take n').flatMap aB) ((r.drop (o*e)).take (n'*e)):=by
      have h4:=(k3.drop (o*e)).take (n'*e)
      rw[yC k2,yB (fun x hx=>k2 x (aLC hx))] at h4
      exact h4
     have hGb:G (V.m b):=hi b aLe _ _ _ _ hr
     have:=VR.tree (V:=bare G V.P) pK .op (V.m b) (o*e) c' r e p hGb k1 (by rw[hlen];omega) (by rw[hlen];exact FH) (aBh _ _ _ h1 akZ) trivial (by rw[hlen];exact ihF _ _ _ hl h1 fun i qQ=>hi i (aLd _ qQ))
     rw[hlen] at this
     exact this
   ·rename_i b g j o
    split at h
    case h_2=>cases h
    rename_i es e w hr
    simp only[hr] at hi
    rw[cB] at hr
    split at h
    case h_2=>cases h
    rename_i x hx
    simp only[hx] at hi
    obtain⟨x',h1,rfl⟩:=cR h
    obtain⟨r,p,k1,k2,k3,k4⟩:=Pe hS hr hx
    cases hv with
    |
     ptr b g j off a bI hg ha hq =>
     have:=ha _ _ _ hr
     subst this
     have hlen:=TE h1
     exact .cG x' o (V.m b) (j*e) r e p (hi b aLe _ _ _ _ hr) k1 (by rw[hlen];exact k3) (by rw[hlen];exact ihC _ _ _ k4 h1 fun i qQ=>hi i (aLd _ qQ))
   ·obtain⟨Cx,h1,rfl⟩:=cR h
    cases hv with
    | xZ f gB ps hl=>exact .xZ _ _ _ (ihL _ _ _ hl h1 hi)
   ·cases h
theorem Gt (hS:SR V lo fB) {G:Nat→Prop} (hG:∀q,V.F q→G q) {d:Nat}:∀ {xs KF:List VV} {ps:List Value},VL V xs ps→xs.mapM (fz d V.H)=some KF→Rh V G (xs.flatMap (iT d V.H))→VL (bare G V.P) KF ps
 | [],KF,ps,hl,h,_=>by cases h;cases hl;exact .nil
 |
  x::xs,KF,ps,hl,h,hi=>by
  obtain⟨y,ys,h1,h2,rfl⟩:=rO h
  cases hl with
  |
   cons _ v _ vs hx MY =>
   exact .cons _ _ _ _ (OY hS hG d x y v hx h1 fun i qQ=>hi i (by rw[aLs];exact aLT _ qQ)) (Gt hS hG MY h2 fun i qQ=>hi i (by rw[aLs];exact aLU _ qQ))
def View.dC (V:View) (ids:List Nat):View:=ids.foldl View.freeze V
theorem Ag:∀(ids:List Nat) {V:View},SR V lo fB→SR (V.dC ids) lo fB∧HL lo V (V.dC ids)∧(V.dC ids).H=PM.dC V.H ids∧(V.dC ids).P=V.P∧(V.dC ids).m=V.m∧Rh V (V.dC ids).F ids
 | [],V,hS=>⟨hS,HL.refl _ _,rfl,rfl,rfl,fun i hi=>by cases hi⟩
 |
  i::ids,V,hS=>by
  obtain⟨h1,h2,h3⟩:=SN hS i
  obtain⟨g1,g2,g3,g4,g5,g6⟩:=Ag ids h1
  refine⟨g1,h2.trans g2,?_,g4.trans (ahV V i),g5.trans (Uy V i),?_⟩
  ·show ((V.freeze i).dC ids).H=_
   rw[g3,Wh]
   rfl
  ·intro k hk g es e w hr
   show ((V.freeze i).dC ids).F (V.m k)
   rcases aLS.1 hk with rfl | hk
   ·exact g2.F _ (h3 _ _ _ _ hr)
   ·have JC:∃g es e w,(V.freeze i).H[k]? = some (.row g es e w):=by
     rw[Wh]
     unfold DW
     split
     ·rename_i g' pK e' w' hi
      by_cases hki:k=i
      ·subst hki
       exact⟨g',pK,e',false,aK2 (aKD.1 hi).1⟩
      ·exact⟨g,es,e,w,by rw[aK3 (Ne.symm hki)];exact hr⟩
     ·exact⟨g,es,e,w,hr⟩
    obtain⟨g',pK,e',w',JC⟩:=JC
    have:=g6 k hk _ _ _ _ JC
    rw[Uy] at this
    exact this
end
end Go.PM