/- Texts of a claim, in one: part 4. -/
import Derived.Test.YtjmflicajplclaaGreatDoorKBc
open Bool renaming and_eq_true → aK9,false_eq_true → aLd
open List renaming all_cons → aLt,all_eq_true → aKP,append_nil → aLJ,drop_drop → aLB,drop_eq_getElem_cons → aKG,drop_zero → aLN,eq_of_mem_replicate → aLM,flatMap_append → aLF,flatMap_cons → aLp,flatMap_nil → aLI,getElem?_append_left → aKS,getElem?_eq_some_iff → aKA,getElem?_set_ne → aK0,getElem?_set_self → aKZ,mem_append → aLx,mem_append_left → aLQ,mem_append_right → aLR,mem_cons → aLP,mem_cons_of_mem → aLa,mem_cons_self → aLb,mem_flatMap → aLD,mem_of_getElem? → aLv,mem_of_mem_drop → aLz,mem_of_mem_take → aLy,mem_or_eq_of_mem_set → aLG,mem_singleton → aLH,replicate → aLr,replicate_succ → aLL,set_eq_take_append_cons_drop → aLw,take_append_drop → aLK,take_length → aLO,take_of_length_le → aLu,take_succ_cons → aLo,take_take → aLA
open Nat renaming add_assoc → aKN,add_mul → aK6,le_refl → aKB,le_trans → aKC,lt_of_lt_of_le → aKD,min_eq_left → aLC,mul_le_mul_right → aK2,succ_mul → aLq,zero_mul → aLE
set_option linter.unusedSimpArgs false
set_option linter.unusedVariables false
namespace Go.PM
inductive TK where
 | op
 | cl (e:Nat)
 | nil
 deriving DecidableEq
inductive VV where
 | any
 | sc (v:Value)
 | agg (cs:List VV)
 | eJ (vs:List VV)
 | tree (es:List VV) (k:TK)
 | cJ (x:VV) (off:Nat)
 | ref (b g o n c:Nat)
 | ptr (b g j off:Nat)
 | xU (f:Nat) (gG:List VV)
 deriving Inhabited
inductive fC where
 | dead
 | row (g:Nat) (es:List VV) (e:Nat) (w:Bool)
 deriving Inhabited
abbrev aA:=List fC
abbrev cW:=Nat→VV
def tK:VV := .eJ []
def qE:Value→Bool
 | .bool _ | .int _ _ | .string _ | .pointer none | .nilFunc | .nilIface=>true
 | _=>false
def kX:Value→VV
 | .slice none 0 0 => .tree [] .nil
 | v=>if qE v then .sc v else .any
def inj:Value→VV
 | .agg cs => .agg (cs.toList.map kX)
 | .tuple vs=>if vs.isEmpty then .eJ [] else .any
 | v=>kX v
def fN (ρ:cW):Operand→VV
 | .tmp t=>ρ t
 | .const v=>inj v
 | .global _ => .any
 | .func f => .xU f []
def Nh (ρ:cW):Option Nat→VV→cW
 | none,_=>ρ
 | some d,v=>fun k=>if k=d then v else ρ k
def aB:VV→List VV
 | .agg cs=>cs
 | v=>[v]
def elemOf:List VV→VV
 | [x]=>x
 | cs => .agg cs
def bN:VV→Bool
 | .any | .agg _ | .eJ _=>false
 | _=>true
def uni:List VV→Bool
 | []=>true
 | x::xs=>xs.all fun y=>(aB y).length == (aB x).length
mutual
def bA:VV→Bool
 | .any=>false
 | .sc v=>qE v
 | .agg cs=>aO cs
 | .eJ vs=>aO vs
 | .tree es k=>decide (k = .op)&&aO es&&uni es
 | .cJ x _=>bA x
 | .ref .. => false
 | .ptr .. => false
 | .xU _ gG=>aO gG
def aO:List VV→Bool
 | []=>true
 | x::xs=>bA x&&aO xs
end
def CM:VV→Bool
 | .agg [_]=>false
 | _=>true
mutual
def hJ:VV→Bool
 | .any=>false
 | .sc v=>qE v
 | .agg cs=>sR cs
 | .eJ vs=>sR vs
 | .tree es k=>decide (k = .op)&&sR es&&uni es&&es.all CM
 | .cJ _ _=>false
 | .ref .. => false
 | .ptr .. => false
 | .xU _ _=>false
def sR:List VV→Bool
 | []=>true
 | x::xs=>hJ x&&sR xs
end
mutual
def Js:VV→Bool
 | .sc v=>qE v
 | .agg cs=>Uh cs
 | .eJ vs=>Uh vs
 | _=>false
def Uh:List VV→Bool
 | []=>true
 | x::xs=>Js x&&Uh xs
end
mutual
def below (k:Nat):VV→Bool
 | .any=>true
 | .sc _=>true
 | .agg cs=>oG k cs
 | .eJ vs=>oG k vs
 | .tree es _=>oG k es
 | .cJ x _=>below k x
 | .ref b _ _ _ _=>decide (b<k)
 | .ptr b _ _ _=>decide (b<k)
 | .xU _ gG=>oG k gG
def oG (k:Nat):List VV→Bool
 | []=>true
 | x::xs=>below k x&&oG k xs
end
def MJ (k:Nat) (v:VV):VV:=if below k v then v else .any
def aG (H:aA) (b g:Nat):Option (List VV×Nat×Bool) :=
 match H[b]? with
 | some (.row g' es e w)=>if g'=g then some (es,e,w) else none
 | _=>none
def tL:List CK→List VV→List VV→Option Bool
 | [],[],[]=>some true
 |
  k::ks,.sc x::xs,.sc y::ys=>match yA k x y with
  | some true=>tL ks xs ys
  | some false=>some false
  | none=>none
 | _,_,_=>none
def dF (cs:List VV) (o:Nat) (new:List VV):List VV:=cs.take o++new++cs.drop (o+new.length)
def isAny:VV→Bool
 | .any=>true
 | _=>false
def AX (places:List (Nat×Nat)) (cells:List VV):List (Nat×VV)→Option (List VV)
 | []=>some cells
 |
  (i,v)::rest =>
  match places[i]? with
  | none=>none
  |
   some (off,size) =>
   if (aB v).length=size∧off+size≤cells.length∧isAny v=false then
    AX places (cells.take off++aB v++cells.drop (off+size)) rest
   else none
def yW (e:Nat) (es:List VV):List (Nat×VV)→Option (List VV)
 | []=>some es
 | (i,v)::rest=>if i<es.length∧(aB v).length=e∧(aB v).all bN then yW e (es.set i v) rest else none
def IA:Option VV→Option (Option Value)
 | none=>some none
 | some (.sc v)=>some (some v)
 | some _=>none
def dP (agg:Bool) (size:Nat) (x:VV) (o:Nat):Option VV :=
 if agg then (if o+size≤(aB x).length then some (.agg (((aB x).drop o).take size)) else none) else (aB x)[o]?
structure Fl where
 bf:Bool
 lr:Bool
def bH (agg:Bool) (size:Nat) (p:VV) (H:aA):Option VV :=
 match p with
 | .cJ x o=>dP agg size x o
 |
  .ptr b g j o=>match aG H b g with
  |
   some (es,_,_)=>match es[j]? with
   | some x=>dP agg size x o
   | none=>none
  | none=>none
 | _=>none
def bK (size:Nat) (x i:VV) (H:aA):Option VV :=
 match x,i with
 |
  .tree es _,.sc (.int _ i)=>if 0≤i then match es[i.toNat]? with
  | some x=>if (aB x).length=size then some (.cJ x 0) else none
  | none=>none
  else none
 |
  .ref b g o n _,.sc (.int _ i)=>match aG H b g with
  | some (_,e,_)=>if e=size∧0≤i∧i<n then some (.ptr b g (o+i.toNat) 0) else none
  | none=>none
 | _,_=>none
def Hq (size:Nat) (x:VV) (l h m:Option VV) (H:aA):Option VV :=
 match IA l,IA h,IA m with
 |
  some lv,some hv,some mv =>
  match x with
  |
   .tree (y::ys) _ =>
   if (aB y).length=size then
    match fG mv (some (ys.length+1)) (ys.length+1) with
    | none=>none
    |
     some m=>match fG hv (if mv.isSome then none else some (ys.length+1)) m with
     | none=>none
     |
      some h=>match fG lv (some 0) h with
      | none=>none
      | some l=>if mv.isSome∧m=l then some (.tree [] (.cl size)) else some (.tree (((y::ys).drop l).take (h-l)) .op)
   else none
  |
   .ref b g o n c =>
   match aG H b g with
   |
    some (_,e,_) =>
    if e=size then
     match fG mv (some c) c with
     | none=>none
     |
      some m=>match fG hv (if mv.isSome then none else some n) m with
      | none=>none
      |
       some h=>match fG lv (some 0) h with
       | none=>none
       | some l=>if mv.isSome∧m=l then some (.tree [] (.cl size)) else some (.ref b g (o+l) (h-l) (m-l))
    else none
   | none=>none
  | _=>none
 | _,_,_=>none
def KD:List VV→Option (List UInt8)
 | []=>some []
 | .sc (.int .u8 n)::r=>(KD r).map (UInt8.ofNat n.toNat :: ·)
 | _=>none
def cZ (size:Nat) (y:VV) (H:aA):Option (List VV) :=
 match y with
 | .tree es _=>if es.all fun x=>(aB x).length == size&&(aB x).all bN then some es else none
 |
  .ref b g o n _=>match aG H b g with
  | some (es,e,_)=>if e=size∧o+n≤es.length∧(((es.drop o).take n).all fun x=>(aB x).all bN) then some ((es.drop o).take n) else none
  | none=>none
 | .sc (.string s)=>if size=1 then some (s.data.toList.map fun b => .sc (.int .u8 b.toNat)) else none
 | _=>none
def dR (lo size bytes:Nat) (x:VV) (new:List VV) (H:aA):Option (VV×aA) :=
 if 1≤bytes∧1≤size then
  match x with
  | .tree [] .nil=>if new.length=0 then some (x,H) else if new.length*bytes≤140737488355328 then some (.ref H.length 0 0 new.length new.length,H++[.row 0 new size true]) else none
  | .tree es (.cl e)=>if e=size then (if new.length=0 then some (x,H) else if (es.length+new.length)*bytes≤140737488355328 then some (.ref H.length 0 0 (es.length+new.length) (es.length+new.length),H++[.row 0 (es++new) size true]) else none) else none
  |
   .ref b g o n c=>match aG H b g with
   |
    some (es,e,true) =>
    if e=size∧lo≤b∧o+n≤es.length then
     if n+new.length≤c then
      if new.length=0 then some (x,H)
      else if o+n+new.length≤es.length then some (.ref b g o (n+new.length) c,H.set b (.row g (dF es (o+n) new) e true))
      else none
     else if (n+new.length)*bytes≤140737488355328 then some (.ref b (g+1) 0 (n+new.length) (n+new.length),H.set b (.row (g+1) ((es.drop o).take n++new) e true))
     else none
    else none
   | _=>none
  | _=>none
 else none
def bL (lo size:Nat) (p v:VV) (H:aA):Option aA :=
 match p with
 |
  .ptr b g j o=>match aG H b g with
  |
   some (es,e,true)=>match es[j]? with
   |
    some x =>
    if (aB v).length=size∧lo≤b∧(aB v).all bN then
     if o=0∧size=e then some (H.set b (.row g (es.set j v) e true))
     else if 2≤e∧o+size≤e then some (H.set b (.row g (es.set j (.agg (dF (aB x) o (aB v)))) e true))
     else none
    else none
   | none=>none
  | _=>none
 | _=>none
def BA (zero:List Value) (bytes:Nat) (l c:VV) (H:aA):Option (VV×aA) :=
 match l,c with
 | .sc (.int .i64 l),.sc (.int .i64 c)=>if 0≤l∧l≤c∧c*bytes≤281474976710656∧c≤9223372036854775807 then
  some (.ref H.length 0 0 l.toNat c.toNat,H++[.row 0 (aLr c.toNat (elemOf (zero.map kX))) zero.length true]) else none
 | _,_=>none
def mW (lr:Bool) (zero:List Value) (n:Nat) (parts:List (Nat×VV)) (H:aA):Option (VV×aA) :=
 match yW zero.length (aLr n (elemOf (zero.map kX))) parts with
 | some es=>if (zero.map kX).all bN then (if n=0∨lr=true then some (.ref H.length 0 0 n n,H++[.row 0 es zero.length true]) else some (.tree es (.cl zero.length),H)) else none
 | none=>none
def MU (lo size:Nat) (x y:VV) (H:aA):Option (VV×aA) :=
 match x,cZ size y H with
 | .tree [] .nil,some _=>some (.sc (.int .i64 0),H)
 |
  .ref b g o d _,some new=>match aG H b g with
  | some (es,e,true)=>if e=size∧lo≤b∧o+(new.take d).length≤es.length then some (.sc (.int .i64 (new.take d).length),H.set b (.row g (dF es o (new.take d)) e true)) else none
  | _=>none
 | _,_=>none
def Tz (lo:Nat) (zero:List Value) (x:VV) (H:aA):Option aA :=
 match x with
 |
  .ref b g o n _=>match aG H b g with
  | some (es,e,true)=>if n=0 then some H else if e=zero.length∧lo≤b∧o+n≤es.length∧(zero.map kX).all bN then some (H.set b (.row g (dF es o (aLr n (elemOf (zero.map kX)))) e true)) else none
  | _=>none
 | _=>none
def IW (neg:Bool) (x:VV) (H:aA):Option VV :=
 match x with
 | .tree [] .nil=>some (.sc (.bool (true != neg)))
 | .tree [] (.cl _)=>some (.sc (.bool (false != neg)))
 | .tree (_::_) _=>some (.sc (.bool (false != neg)))
 | .ref b g _ _ _=>(aG H b g).map fun _ => .sc (.bool (false != neg))
 | _=>none
def rL (x:VV) (H:aA):Option VV :=
 match x with
 | .tree es _=>some (.sc (.int .i64 es.length))
 | .ref b g _ n _=>(aG H b g).map fun _ => .sc (.int .i64 n)
 | _=>none
def xW (off:Nat) (x:VV) (H:aA):Option VV :=
 match x with
 | .cJ x o=>some (.cJ x (o+off))
 | .ptr b g j o=>(aG H b g).map fun _ => .ptr b g j (o+off)
 | _=>none
def Nx (x:VV) (H:aA):Option VV :=
 match x with
 | .cJ x o=>some (.cJ x o)
 | .ptr b g j o=>(aG H b g).map fun _ => .ptr b g j o
 | _=>none
def zU (x:VV) (l h:Option VV):Option VV :=
 match x,IA l,IA h with
 |
  .sc (.string s),some lv,some hv=>match Cc lv hv s.size with
  | some (l,h)=>some (.sc (.string (s.extract l h)))
  | none=>none
 | _,_,_=>none
def arN (agg:Bool) (off size:Nat) (x:VV):Option VV :=
 match x with
 | .agg cs=>if agg then (if off+size≤cs.length then some (.agg ((cs.drop off).take size)) else none) else cs[off]?
 | _=>none
def PX (f:Value→Option Value) (x:VV):Option VV :=
 match x with
 | .sc a=>(f a).map .sc
 | _=>none
def Lk (f:Value→Value→Option Value) (x y:VV):Option VV :=
 match x,y with
 | .sc a,.sc b=>(f a b).map .sc
 | _,_=>none
def UC (c a b:VV):Option VV :=
 match c with
 | .sc (.bool t)=>some (if t then a else b)
 | _=>none
def amQ (i:Nat) (x:VV):Option VV :=
 match x with
 | .eJ vs=>vs[i]?
 | _=>none
def XR (neg:Bool) (ks:List CK) (x y:VV):Option VV :=
 match x,y with
 | .agg a,.agg b=>(tL ks a b).map fun t => .sc (.bool (t != neg))
 | _,_=>none
def acX:Value→Option Value
 | .string s=>some (.string s)
 | _=>none
def Dk:Value→Option Value
 | .string s=>some (.int .i64 s.size)
 | _=>none
def Kf:Value→Value→Option Value
 | .string s,.int _ i=>if 0≤i∧i<s.size then some (.int .u8 ((s.data.toList.getD i.toNat 0).toNat:Int)) else none
 | _,_=>none
def vop (fl:Fl) (lo:Nat) (o:qH) (ρ:cW) (H:aA):Option (VV×aA) :=
 match o with
 | .mv x=>some (fN ρ x,H)
 | .pick c a b=>(UC (fN ρ c) (fN ρ a) (fN ρ b)).map (·,H)
 | .bin op x y=>(Lk (dK op) (fN ρ x) (fN ρ y)).map (·,H)
 | .eqb neg x y=>(Lk (Oc neg) (fN ρ x) (fN ρ y)).map (·,H)
 | .isnil neg x=>(IW neg (fN ρ x) H).map (·,H)
 | .eqagg neg ks x y=>(XR neg ks (fN ρ x) (fN ρ y)).map (·,H)
 | .un op x=>(PX (pun op) (fN ρ x)).map (·,H)
 | .cvt k x=>(PX (Xx k) (fN ρ x)).map (·,H)
 | .cvs x=>(PX acX (fN ρ x)).map (·,H)
 | .ext x i=>(amQ i (fN ρ x)).map (·,H)
 | .fld agg off size x=>(arN agg off size (fN ρ x)).map (·,H)
 | .build zero places parts=>(AX places (zero.map kX) (parts.map fun(i,x)=>(i,fN ρ x))).map fun cs=>(.agg cs,H)
 | .chk x=>(Nx (fN ρ x) H).map (·,H)
 | .faddr off x=>(xW off (fN ρ x) H).map (·,H)
 | .iaddr size x i=>(bK size (fN ρ x) (fN ρ i) H).map (·,H)
 | .sidx x i=>(Lk Kf (fN ρ x) (fN ρ i)).map (·,H)
 | .ssub x l h=>(zU (fN ρ x) (l.map (fN ρ)) (h.map (fN ρ))).map (·,H)
 | .mkfn f gG=>some (.xU f (gG.map (fN ρ)),H)
 | .len x=>(rL (fN ρ x) H).map (·,H)
 | .slen x=>(PX Dk (fN ρ x)).map (·,H)
 | .min x y=>(Lk WY (fN ρ x) (fN ρ y)).map (·,H)
 | .max x y=>(Lk Wo (fN ρ x) (fN ρ y)).map (·,H)
 | .load agg size p=>(bH agg size (fN ρ p) H).map (·,H)
 | .sub size x l h m=>(Hq size (fN ρ x) (l.map (fN ρ)) (h.map (fN ρ)) (m.map (fN ρ)) H).map (·,H)
 |
  .b2s x=>match fN ρ x with
  | .sc _=>none
  |
   y=>match cZ 1 y H with
   | some es=>(KD es).map fun bs=>(.sc (.string ⟨bs.toArray⟩),H)
   | none=>none
 | .new zero=>if (zero.map kX).all bN then some (.ptr H.length 0 0 0,H++[.row 0 [elemOf (zero.map kX)] zero.length true]) else none
 | .box x=>if (aB (fN ρ x)).all bN then (if fl.bf then some (.cJ (fN ρ x) 0,H) else some (.ptr H.length 0 0 0,H++[.row 0 [fN ρ x] (aB (fN ρ x)).length true])) else none
 | .make zero bytes l c=>if (zero.map kX).all bN then BA zero bytes (fN ρ l) (fN ρ c) H else none
 | .lit zero n parts=>mW fl.lr zero n (parts.map fun(i,x)=>(i,fN ρ x)) H
 | .store size p v=>(bL lo size (fN ρ p) (fN ρ v) H).map fun H'=>(tK,H')
 |
  .app size bytes x y=>match cZ size (fN ρ y) H with
  | some new=>dR lo size bytes (fN ρ x) new H
  | none=>none
 |
  .appz zero bytes x n=>match fN ρ n with
  | .sc (.int .i64 n)=>if 0≤n∧n*bytes≤140737488355328∧(zero.map kX).all bN then dR lo zero.length bytes (fN ρ x) (aLr n.toNat (elemOf (zero.map kX))) H else none
  | _=>none
 | .copy size x y=>MU lo size (fN ρ x) (fN ρ y) H
 | .clear zero x=>(Tz lo zero (fN ρ x) H).map fun H'=>(tK,H')
 | _=>none
inductive VBx where
 | no
 | row (i:Nat) (w:Bool)
 | Es (i:Nat)
 | tree
 | bad
def nR (H:aA):VV→VBx
 | .tree [] .nil => .no
 | .tree _ _ => .tree
 | .cJ _ _ => .tree
 |
  .ref b g _ _ _=>match aG H b g with
  | some (_,_,w) => .row b w
  | none => .Es b
 |
  .ptr b g _ _=>match aG H b g with
  | some (_,_,w) => .row b w
  | none => .Es b
 | .any => .bad
 | _ => .no
def kA (H:aA) (x y:VV):Bool :=
 match nR H x,nR H y with
 | .bad,_=>false
 | _,.bad=>false
 | .no,_=>true
 | _,.no=>true
 | .row i _,.row j _=>i != j
 | .row i _,.Es j=>i != j
 | .Es i,.row j _=>i != j
 | .Es _,.Es _=>false
 | .Es _,.tree=>false
 | .tree,.Es _=>false
 | .row _ w,.tree=>w
 | .tree,.row _ w=>w
 | .tree,.tree=>false
def fI (ρ:cW) (H:aA) (c:Operand×Operand):Bool:=kA H (fN ρ c.1) (fN ρ c.2)
def Eh (g:Option (Nat×Bool)) (ρ:cW):Option Bool :=
 match g with
 | none=>some true
 |
  some (t,want)=>match ρ t with
  | .sc (.bool b)=>some (b == want)
  | .eJ _=>some false
  | _=>none
def fz:Nat→aA→VV→Option VV
 | 0,_,_=>none
 |
  d+1,H,v =>
  if bA v then some v else
  match v with
  | .agg cs=>(cs.mapM (fz d H)).map .agg
  | .eJ vs=>(vs.mapM (fz d H)).map .eJ
  | .tree es _=>(es.mapM (fz d H)).map (.tree · .op)
  | .cJ x o=>(fz d H x).map (.cJ · o)
  |
   .ref b g o n c=>match aG H b g with
   | some (es,_,_)=>if o+n≤es.length∧n≤c then (((es.drop o).take n).mapM (fz d H)).map (.tree · .op) else none
   | none=>none
  |
   .ptr b g j o=>match aG H b g with
   |
    some (es,_,_)=>match es[j]? with
    | some x=>(fz d H x).map (.cJ · o)
    | none=>none
   | none=>none
  | .xU f gG=>(gG.mapM (fz d H)).map (.xU f ·)
  | _=>none
def iW:Nat→aA→VV→List Nat
 | 0,_,_=>[]
 |
  d+1,H,v =>
  if bA v then [] else
  match v with
  | .agg cs=>cs.flatMap (iW d H)
  | .eJ vs=>vs.flatMap (iW d H)
  | .tree es _=>es.flatMap (iW d H)
  | .cJ x _=>iW d H x
  |
   .ref b g o n _=>match aG H b g with
   | some (es,_,_)=>b::((es.drop o).take n).flatMap (iW d H)
   | none=>[]
  |
   .ptr b g j _=>match aG H b g with
   |
    some (es,_,_)=>match es[j]? with
    | some x=>b::iW d H x
    | none=>[]
   | none=>[]
  | .xU _ gG=>gG.flatMap (iW d H)
  | _=>[]
def Ey (H:aA) (b:Nat):aA :=
 match H[b]? with
 | some (.row g es e _)=>H.set b (.row g es e false)
 | _=>H
def dD (H:aA) (ids:List Nat):aA:=ids.foldl Ey H
def depth:Nat:=8
end Go.PM
namespace Go.PM
structure View where
 m:Nat→Nat
 F:Nat→Prop
 H:aA
 P:aJ
 base:Nat
def kindOk (k:TK) (n c e:Nat) (p:Bool):Prop :=
 match k with
 | .op=>True
 | .cl e'=>e'=e∧c=n∧p=false
 | .nil=>False
mutual
inductive VR (V:View):VV→Value→Prop
 | any (v:Value):VR V .any v
 | sc (v:Value) (h:qE v=true):VR V (.sc v) v
 | agg (cs:List VV) (ps:List Value) (h:VL V cs ps):VR V (.agg cs) (.agg ps.toArray)
 | eJ (cs:List VV) (ps:List Value) (h:VL V cs ps):VR V (.eJ cs) (.tuple ps.toArray)
 | pP (k:TK) (hk:k = .op∨k = .nil):VR V (.tree [] k) (.slice none 0 0)
 | tree (es:List VV) (k:TK) (b o c:Nat) (r:List Value) (e:Nat) (p:Bool) (hF:V.F b) (hb:V.P[b]? = some (.row r e p)) (ho:o+es.length*e≤r.length)
  (hc:es.length≤c) (he:∀x∈es,(aB x).length=e) (hk:kindOk k es.length c e p) (hl:VL V (es.flatMap aB) ((r.drop o).take (es.length*e))) :
  VR V (.tree es k) (.slice (some ⟨b,o,none⟩) es.length c)
 | cJ (x:VV) (off b o:Nat) (r:List Value) (e:Nat) (p:Bool) (hF:V.F b) (hb:V.P[b]? = some (.row r e p)) (ho:o+(aB x).length≤r.length)
  (hl:VL V (aB x) ((r.drop o).take (aB x).length)):VR V (.cJ x off) (.pointer (some ⟨b,o+off,none⟩))
 | ref (b g o n c:Nat) (a:Option Addr) (n' c':Nat) (bI:b<V.H.length) (hg:∀g' es e w,V.H[b]? = some (.row g' es e w)→g≤g')
  (h:∀es e w,V.H[b]? = some (.row g es e w)→a=some ⟨V.m b,o*e,none⟩∧n'=n∧c'=c)
  (hq:∀a0,a=some a0→V.base≤a0.block∧a0.block<V.P.length∧∀b' g' es e w,V.H[b']? = some (.row g' es e w)→b'≠b→V.m b'≠a0.block):VR V (.ref b g o n c) (.slice a n' c')
 | ptr (b g j off:Nat) (a:Option Addr) (bI:b<V.H.length) (hg:∀g' es e w,V.H[b]? = some (.row g' es e w)→g≤g')
  (h:∀es e w,V.H[b]? = some (.row g es e w)→a=some ⟨V.m b,j*e+off,none⟩)
  (hq:∀a0,a=some a0→V.base≤a0.block∧a0.block<V.P.length∧∀b' g' es e w,V.H[b']? = some (.row g' es e w)→b'≠b→V.m b'≠a0.block):VR V (.ptr b g j off) (.pointer a)
 | xU (f:Nat) (gG:List VV) (ps:List Value) (h:VL V gG ps):VR V (.xU f gG) (.func (.func f) #[] ps.toArray)
inductive VL (V:View):List VV→List Value→Prop
 | nil:VL V [] []
 | cons (x:VV) (v:Value) (xs:List VV) (vs:List Value) (h:VR V x v) (hs:VL V xs vs):VL V (x::xs) (v::vs)
end
structure Up (V V':View):Prop where
 F:∀b,V.F b→V'.F b
 P:∀b,V.F b→V'.P[b]? = V.P[b]?
 len:V.H.length≤V'.H.length
 row:∀b g' oZ e w',b<V.H.length→V'.H[b]? = some (.row g' oZ e w')→∃g es w,V.H[b]? = some (.row g es e w)∧g≤g'∧(g'=g→V'.m b=V.m b)
 NG:V'.base=V.base
 Hm:V.P.length≤V'.P.length
 Es:∀b g es e w,V'.H[b]? = some (.row g es e w)→V'.m b<V.P.length→∃g0 es0 w0,V.H[b]? = some (.row g0 es0 e w0)∧V'.m b=V.m b∧(w=true→w0=true)
section
variable {V V' V5:View}
theorem Up.refl (V:View):Up V V:=⟨fun _ h=>h,fun _ _=>rfl,aKB _,fun b g es e w _ h=>⟨g,es,w,h,aKB _,fun _=>rfl⟩,rfl,aKB _,fun b g es e w h _=>⟨g,es,w,h,rfl,id⟩⟩
theorem Up.trans (h:Up V V') (h':Up V' V5):Up V V5 :=
 ⟨fun b hb=>h'.F b (h.F b hb),fun b hb=>(h'.P b (h.F b hb)).trans (h.P b hb),aKC h.len h'.len,fun b g es e w hb hr=>by
  obtain⟨g1,E4,w1,h1,h2,h3⟩:=h'.row b g es e w (aKD hb h.len) hr
  obtain⟨g2,Su,w2,h4,h5,h6⟩:=h.row b g1 E4 e w1 hb h1
  exact⟨g2,Su,w2,h4,aKC h5 h2,fun hg=>(h3 (by omega)).trans (h6 (by omega))⟩,h'.NG.trans h.NG,aKC h.Hm h'.Hm,fun b g es e w hb hm=>by
   obtain⟨g1,E4,w1,h1,h2,h3⟩:=h'.Es b g es e w hb (aKD hm h.Hm)
   obtain⟨g2,Su,w2,h4,h5,h6⟩:=h.Es b g1 E4 e w1 h1 (by rw[←h2];exact hm)
   exact⟨g2,Su,w2,h4,h2.trans h5,fun hw=>h6 (h3 hw)⟩⟩
theorem Up.hq (u:Up V V') {b q:Nat} (h:V.base≤q∧q<V.P.length∧∀b' g' es e w,V.H[b']? = some (.row g' es e w)→b'≠b→V.m b'≠q):V'.base≤q∧q<V'.P.length∧∀b' g' es e w,V'.H[b']? = some (.row g' es e w)→b'≠b→V'.m b'≠q:=by
 refine⟨by rw[u.NG];exact h.1,aKD h.2.1 u.Hm,fun b' g' es e w hb fW hm => ?_⟩
 obtain⟨g0,es0,w0,h1,h2,_⟩:=u.Es b' g' es e w hb (by rw[hm];exact h.2.1)
 exact h.2.2 b' _ _ _ _ h1 fW (h2.symm.trans hm)
theorem VR.mono (u:Up V V') {x:VV} {v:Value} (h:VR V x v):VR V' x v:=by
 induction h using VR.rec (motive_2:=fun xs vs _=>VL V' xs vs) with
 | any=>exact .any _
 | sc _ h=>exact .sc _ h
 | agg cs ps _ ih=>exact .agg _ _ ih
 | eJ cs ps _ ih=>exact .eJ _ _ ih
 | pP k hk=>exact .pP k hk
 | tree es k b o c r e p hF hb ho hc he hk _ ih=>exact .tree es k b o c r e p (u.F _ hF) (by rw[u.P _ hF];exact hb) ho hc he hk ih
 | cJ x off b o r e p hF hb ho _ ih=>exact .cJ x off b o r e p (u.F _ hF) (by rw[u.P _ hF];exact hb) ho ih
 |
  ref b g o n c a n' c' bI hg h hq =>
  refine .ref b g o n c a n' c' (aKD bI u.len) (fun g' es e w hr => ?_) (fun es e w hr => ?_) fun a0 ha=>u.hq (hq a0 ha)
  ·obtain⟨g1,E4,w1,h1,h2,_⟩:=u.row b g' es e w bI hr
   exact aKC (hg _ _ _ _ h1) h2
  ·obtain⟨g1,E4,w1,h1,h2,h3⟩:=u.row b g es e w bI hr
   have h4:=hg _ _ _ _ h1
   have h5:g=g1:=by omega
   subst h5
   rw[h3 rfl]
   exact h _ _ _ h1
 |
  ptr b g j off a bI hg h hq =>
  refine .ptr b g j off a (aKD bI u.len) (fun g' es e w hr => ?_) (fun es e w hr => ?_) fun a0 ha=>u.hq (hq a0 ha)
  ·obtain⟨g1,E4,w1,h1,h2,_⟩:=u.row b g' es e w bI hr
   exact aKC (hg _ _ _ _ h1) h2
  ·obtain⟨g1,E4,w1,h1,h2,h3⟩:=u.row b g es e w bI hr
   have h4:=hg _ _ _ _ h1
   have h5:g=g1:=by omega
   subst h5
   rw[h3 rfl]
   exact h _ _ _ h1
 | xU f gG ps _ ih=>exact .xU _ _ _ ih
 | nil=>exact .nil
 | cons x v xs vs _ _ ih Yj=>exact .cons _ _ _ _ ih Yj
theorem VL.mono (u:Up V V') {xs:List VV} {vs:List Value} (h:VL V xs vs):VL V' xs vs:=by
 induction xs generalizing vs with
 | nil=>cases h;exact .nil
 |
  cons x xs ih=>cases h with
  | cons _ v _ vs h hs=>exact .cons _ _ _ _ (h.mono u) (ih hs)
end
section
variable {V:View} {xs ys:List VV} {vs ws:List Value}
theorem VL.length:∀ {xs:List VV} {vs:List Value},VL V xs vs→vs.length=xs.length
 | _,_,.nil=>rfl
 | _,_,.cons _ _ _ _ _ hs=>by simp[hs.length]
theorem VL.append:∀ {xs:List VV} {vs:List Value},VL V xs vs→VL V ys ws→VL V (xs++ys) (vs++ws)
 | _,_,.nil,h'=>h'
 | _,_,.cons _ _ _ _ h hs,h' => .cons _ _ _ _ h (hs.append h')
theorem VL.take (n:Nat):∀ {xs:List VV} {vs:List Value} ,VL V xs vs→VL V (xs.take n) (vs.take n):=by
 induction n with
 | zero=>intro xs vs _;simp;exact .nil
 |
  succ n ih=>intro xs vs h;cases h with
  | nil=>simp;exact .nil
  | cons x v xs vs h hs=>exact .cons _ _ _ _ h (ih hs)
theorem VL.drop (n:Nat):∀ {xs:List VV} {vs:List Value} ,VL V xs vs→VL V (xs.drop n) (vs.drop n):=by
 induction n with
 | zero=>intro xs vs h;simpa using h
 |
  succ n ih=>intro xs vs h;cases h with
  | nil=>simp;exact .nil
  | cons x v xs vs h hs=>exact ih hs
theorem VL.get (h:VL V xs vs) {i:Nat} {x:VV} (hx:xs[i]? = some x):∃v,vs[i]? = some v∧VR V x v:=by
 induction i generalizing xs vs with
 |
  zero=>cases h with
  | nil=>cases hx
  | cons y v xs vs h hs=>simp at hx;subst hx;exact⟨v,rfl,h⟩
 |
  succ i ih=>cases h with
  | nil=>cases hx
  | cons y v xs vs h hs=>exact ih hs (by simpa using hx)
theorem VL.map {α:Type} {f:α→VV} {g:α→Value}:∀ {l:List α},(∀x∈l,VR V (f x) (g x))→VL V (l.map f) (l.map g)
 | [],_ => .nil
 | x::l,h => .cons _ _ _ _ (h x (by simp)) (VL.map fun y hy=>h y (by simp[hy]))
theorem VL.replicate {x:VV} {v:Value} (h:VR V x v):∀n,VL V (aLr n x) (aLr n v)
 | 0 => .nil
 | n+1 => .cons _ _ _ _ h (VL.replicate h n)
theorem VL.kM {cs new:List VV} {ps pn:List Value} (h:VL V cs ps) (hn:VL V new pn) (o:Nat):VL V (dF cs o new) (kM ps o pn):=by
 unfold dF PM.kM
 rw[←hn.length]
 exact((h.take o).append hn).append (h.drop _)
theorem VR.kX (v:Value):VR V (kX v) v:=by
 unfold PM.kX
 split
 ·exact .pP _ (.inr rfl)
 ·split
  ·rename_i h;exact .sc _ h
  ·exact .any _
theorem VR.inj (v:Value):VR V (inj v) v:=by
 unfold PM.inj
 split
 ·rename_i cs
  have:(Value.agg cs) = .agg cs.toList.toArray:=by simp
  rw[this]
  refine .agg _ _ ?_
  have:=VL.map (V:=V) (f:=PM.kX) (g:=id) (l:=cs.toList) fun x _=>VR.kX x
  simpa using this
 ·rename_i vs
  split
  ·rename_i h
   have:vs=[].toArray:=by simpa using h
   rw[this]
   exact .eJ _ _ .nil
  ·exact .any _
 ·exact VR.kX _
theorem VL.zero (z:List Value):VL V (z.map PM.kX) z:=by
 have:=VL.map (V:=V) (f:=PM.kX) (g:=id) (l:=z) fun x _=>VR.kX x
 simpa using this
theorem VR.cells {x:VV} {v:Value} (h:VR V x v) (hx:x ≠ .any):VL V (aB x) (aX v):=by
 cases h with
 | any=>exact absurd rfl hx
 |
  sc v h =>
  have:aX v=[v]:=by cases v<;>first | rfl | cases h
  rw[this]
  exact .cons _ _ _ _ (.sc v h) .nil
 | agg cs ps h=>simpa[aB,aX] using h
 | eJ cs ps h=>exact .cons _ _ _ _ (.eJ _ _ h) .nil
 | pP k hk=>exact .cons _ _ _ _ (.pP k hk) .nil
 | tree es k b o c r e p hF hb ho hc he hk hl=>exact .cons _ _ _ _ (.tree es k b o c r e p hF hb ho hc he hk hl) .nil
 | cJ x off b o r e p hF hb ho hl=>exact .cons _ _ _ _ (.cJ x off b o r e p hF hb ho hl) .nil
 | ref b g o n c a n' c' bI hg h hq=>exact .cons _ _ _ _ (.ref b g o n c a n' c' bI hg h hq) .nil
 | ptr b g j off a bI hg h hq=>exact .cons _ _ _ _ (.ptr b g j off a bI hg h hq) .nil
 | xU f gG ps h=>exact .cons _ _ _ _ (.xU _ _ _ h) .nil
theorem VR.iQ {x:VV} {v:Value} (h:VR V x v) (hx:bN x=true):iQ v=true:=by
 cases h with
 | sc v h=>cases v<;>first | rfl | cases h
 | any=>cases hx
 | agg=>cases hx
 | eJ=>cases hx
 | _=>rfl
theorem VL.iQ:∀ {xs:List VV} {vs:List Value},VL V xs vs→xs.all bN=true→vs.all PM.iQ=true
 | _,_,.nil,_=>rfl
 |
  _,_,.cons _ _ _ _ h hs,hx=>by
  rw[aLt,aK9] at hx ⊢
  exact⟨h.iQ hx.1,hs.iQ hx.2⟩
theorem YK {x:VV} (h:(aB x).all bN=true):x ≠ .any:=by
 rintro rfl
 cases h
theorem mN {es:List VV} {e:Nat} (he:∀x∈es,(aB x).length=e):(es.flatMap aB).length=es.length*e:=by
 induction es with
 | nil=>simp
 |
  cons x xs ih =>
  rw[aLp,List.length_append,ih fun y hy=>he y (aLa _ hy),he x aLb,List.length_cons,aLq]
  omega
theorem yN {es:List VV} {e:Nat} (he:∀x∈es,(aB x).length=e) (i:Nat):(es.flatMap aB).drop (i*e)=(es.drop i).flatMap aB:=by
 induction i generalizing es with
 | zero=>simp
 |
  succ i ih =>
  cases es with
  | nil=>simp
  |
   cons x xs =>
   have hx:=he x aLb
   rw[aLp,List.drop_succ_cons,←ih fun y hy=>he y (aLa _ hy),show (i+1)*e=(aB x).length+i*e by rw[hx,aLq];omega,List.drop_append]
   simp
theorem yC {es:List VV} {e:Nat} (he:∀x∈es,(aB x).length=e) (i:Nat):(es.flatMap aB).take (i*e)=(es.take i).flatMap aB:=by
 induction i generalizing es with
 | zero=>simp
 |
  succ i ih =>
  cases es with
  | nil=>simp
  |
   cons x xs =>
   have hx:=he x aLb
   rw[aLp,aLo,aLp,←ih fun y hy=>he y (aLa _ hy),show (i+1)*e=(aB x).length+i*e by rw[hx,aLq];omega,List.take_append]
   simp
   exact aLu (by omega)
theorem P5 {es:List VV} {e:Nat} (he:∀x∈es,(aB x).length=e) {j:Nat} {x:VV} (hx:es[j]? = some x):((es.flatMap aB).drop (j*e)).take e=aB x:=by
 obtain⟨bI,Kg⟩:=aKA.1 hx
 rw[yN he,aKG bI,Kg,aLp,List.take_append,←he x (aLv hx)]
 simp
theorem AE {es new:List VV} {e:Nat} (he:∀x∈es,(aB x).length=e) (hn:∀x∈new,(aB x).length=e) (o:Nat):dF (es.flatMap aB) (o*e) (new.flatMap aB)=(dF es o new).flatMap aB:=by
 unfold dF
 rw[yC he,mN hn,show o*e+new.length*e=(o+new.length)*e by rw[aK6],yN he]
 simp
theorem MD {es:List VV} {j:Nat} {x:VV} (hj:j<es.length):dF es j [x]=es.set j x:=by
 unfold dF
 rw[aLw,if_pos hj]
 simp
theorem Ve {cs new:List VV} {o:Nat} (h:o+new.length≤cs.length):(dF cs o new).length=cs.length:=by
 unfold dF
 simp
 omega
theorem L6 {cs new:List VV} {o:Nat} {x:VV} (h:x∈dF cs o new):x∈cs∨x∈new:=by
 unfold dF at h
 rw[aLx,aLx] at h
 rcases h with(h | h) | h
 ·exact .inl (aLy h)
 ·exact .inr h
 ·exact .inl (aLz h)
theorem pW {cs:List VV} (h:cs.all bN=true):aB (elemOf cs)=cs:=by
 unfold elemOf
 split
 ·rename_i x
  simp only[aLt,List.all_nil,Bool.and_true] at h
  cases x<;>first | rfl | cases h
 ·rfl
theorem cB {H:aA} {b g:Nat} {es:List VV} {e:Nat} {w:Bool}:aG H b g=some (es,e,w)↔H[b]? = some (.row g es e w):=by
 unfold aG
 constructor
 ·intro h
  split at h
  ·rename_i hb
   split at h
   ·rename_i hg;subst hg;cases h;exact hb
   ·cases h
  ·cases h
 ·intro h
  rw[h]
  simp
end
structure SR (V:View) (lo fD:Nat):Prop where
 row:∀b g es e w,V.H[b]? = some (.row g es e w)→∃r p,V.P[V.m b]? = some (.row r e p)∧(∀x∈es,(aB x).length=e)∧VL V (es.flatMap aB) r
 wr:∀b g es e,V.H[b]? = some (.row g es e true)→¬V.F (V.m b)∧(lo≤b→fD≤V.m b)
 inj:∀a b g es e w g' oZ e' w',V.H[a]? = some (.row g es e w)→V.H[b]? = some (.row g' oZ e' w')→V.m a=V.m b→a=b
 fr:∀b,V.F b→b<V.P.length
 Xi:fD≤V.P.length
 NG:V.base≤V.P.length
structure HF (lo:Nat) (V V':View):Prop extends Up V V' where
 dB:∀q,q<V.P.length→(∀b g es e,V.H[b]? = some (.row g es e true)→lo≤b→V.m b≠q)→V'.P[q]? = V.P[q]?
 Fh:∀q,V'.F q→V.F q∨V.P.length≤q∨∃b g es e w,V.H[b]? = some (.row g es e w)∧V.m b=q
section
variable {V V' V5:View} {lo:Nat}
theorem HF.refl (lo:Nat) (V:View):HF lo V V :=
 { Up.refl V with dB:=fun _ _ _=>rfl,Fh:=fun _ h => .inl h }
theorem HF.trans (h:HF lo V V') (h':HF lo V' V5):HF lo V V5 :=
 { Up.trans h.toUp h'.toUp with
  dB:=fun q hq hn=>by
   rw[h'.dB q (aKD hq h.Hm) ?_,h.dB q hq hn]
   intro b g es e hb hl hm
   obtain⟨g1,E4,w1,h1,h2,h3⟩:=h.Es b g es e true hb (by rw[hm];exact hq)
   have:=h3 rfl
   subst this
   exact hn b g1 E4 e h1 hl (h2.symm.trans hm)
  Fh:=fun q hq=>by
   rcases h'.Fh q hq with h1 | h1 | ⟨b,g,es,e,w,h1,h2⟩
   ·exact h.Fh q h1
   ·exact .inr (.inl (aKC h.Hm h1))
   ·rcases Nat.lt_or_ge q V.P.length with hl | hl
    ·obtain⟨g1,E4,w1,h3,h4,_⟩:=h.Es b g es e w h1 (by rw[h2];exact hl)
     exact .inr (.inr ⟨b,g1,E4,e,w1,h3,h4.symm.trans h2⟩)
    ·exact .inr (.inl hl) }
end
end Go.PM
namespace Go.PM
def upd (m:Nat→Nat) (b v:Nat):Nat→Nat:=fun k=>if k=b then v else m k
theorem nX {m:Nat→Nat} {b v:Nat}:upd m b v b=v:=by simp[upd]
theorem oV {m:Nat→Nat} {b v k:Nat} (h:k≠b):upd m b v k=m k:=by simp[upd,h]
section
variable {V:View} {lo fD:Nat}
theorem SR.mlt (hS:SR V lo fD) {b g e:Nat} {es:List VV} {w:Bool} (hb:V.H[b]? = some (.row g es e w)):V.m b<V.P.length:=by
 obtain⟨r,p,h,_⟩:=hS.row b g es e w hb
 exact(aKA.1 h).1
theorem Ea (hS:SR V lo fD) (x:QI):SR { V with P:=V.P++[x],F:=fun q=>V.F q∨q=V.P.length } lo fD∧HF lo V { V with P:=V.P++[x],F:=fun q=>V.F q∨q=V.P.length }:=by
 have hU:Up V { V with P:=V.P++[x],F:=fun q=>V.F q∨q=V.P.length }:=⟨fun _ h => .inl h,fun b hb=>aKS (hS.fr b hb),aKB _,fun b g es e w _ h=>⟨g,es,w,h,aKB _,fun _=>rfl⟩,rfl,by simp,fun b g es e w hb _=>⟨g,es,w,hb,rfl,id⟩⟩
 refine⟨⟨fun b g es e w hb => ?_,fun b g es e hb=>⟨fun hF => ?_,(hS.wr b g es e hb).2⟩,hS.inj,fun b hb => ?_,by have:=hS.Xi;simp;omega,by have:=hS.NG;simp;omega⟩,{ hU with dB:=fun q hq _=>aKS hq,Fh:=fun q hq => ?_ }⟩
 ·obtain⟨r,p,h1,h2,h3⟩:=hS.row b g es e w hb
  exact⟨r,p,by rw[←h1];exact aKS (hS.mlt hb),h2,h3.mono hU⟩
 ·rcases hF with hF | hF
  ·exact(hS.wr b g es e hb).1 hF
  ·have h1:V.m b=V.P.length:=hF
   have:=hS.mlt hb
   omega
 ·rcases hb with hb | hb
  ·have:=hS.fr b hb
   simp;omega
  ·subst hb;simp
 ·rcases hq with hq | hq
  ·exact .inl hq
  ·exact .inr (.inl (by omega))
theorem vF (hS:SR V lo fD) {es:List VV} {r:List Value} {e:Nat} (p:Bool) (he:∀x∈es,(aB x).length=e) (hl:VL V (es.flatMap aB) r) :
  SR { V with m:=upd V.m V.H.length V.P.length,H:=V.H++[.row 0 es e true],P:=V.P++[.row r e p] } lo fD∧HF lo V { V with m:=upd V.m V.H.length V.P.length,H:=V.H++[.row 0 es e true],P:=V.P++[.row r e p] }:=by
 have Es:∀b g oZ e' w,(V.H++[fC.row 0 es e true])[b]? = some (.row g oZ e' w)→(b=V.H.length∧g=0∧oZ=es∧e'=e∧w=true)∨(b≠V.H.length∧V.H[b]? = some (.row g oZ e' w)):=by
  intro b g oZ e' w hb
  rcases Nat.lt_trichotomy b V.H.length with h | h | h
  ·rw[aKS h] at hb
   exact .inr ⟨by omega,hb⟩
  ·subst h
   rw[List.getElem?_append_right (aKB _)] at hb
   simp at hb
   obtain⟨h1,h2,h3,h4⟩:=hb
   exact .inl ⟨rfl,h1.symm,h2.symm,h3.symm,h4⟩
  ·rw[List.getElem?_eq_none (by simp;omega)] at hb
   cases hb
 have hU:Up V { V with m:=upd V.m V.H.length V.P.length,H:=V.H++[.row 0 es e true],P:=V.P++[.row r e p] } :=
  ⟨fun _ h=>h,fun b hb=>aKS (hS.fr b hb),by simp,fun b g' oZ e' w' bI hb=>by
   rcases Es b g' oZ e' w' hb with⟨h,_⟩ | ⟨h,hb⟩
   ·omega
   ·exact⟨g',oZ,w',hb,aKB _,fun _=>oV h⟩,rfl,by simp,fun b g oZ e' w hb hm=>by
   rcases Es b g oZ e' w hb with⟨rfl,_⟩ | ⟨h,hb⟩
   ·simp only[nX] at hm
    omega
   ·exact⟨g,oZ,w,hb,oV h,id⟩⟩
 refine⟨⟨fun b g oZ e' w hb => ?_,fun b g oZ e' hb => ?_,fun a b g E4 e1 w1 g' Su e2 w2 ha hb hm => ?_,fun b hb=>by have:=hS.fr b hb;simp;omega,by have:=hS.Xi;simp;omega,by have:=hS.NG;simp;omega⟩,
  { hU with dB:=fun q hq _=>aKS hq,Fh:=fun q hq => .inl hq }⟩
 ·rcases Es b g oZ e' w hb with⟨rfl,rfl,rfl,rfl,rfl⟩ | ⟨h,hb⟩
  ·exact⟨r,p,by simp only[nX];simp,he,hl.mono hU⟩
  ·obtain⟨r1,p1,h1,h2,h3⟩:=hS.row b g oZ e' w hb
   refine⟨r1,p1,?_,h2,h3.mono hU⟩
   simp only[oV h]
   rw[aKS (hS.mlt hb)]
   exact h1
 ·rcases Es b g oZ e' true hb with⟨rfl,_⟩ | ⟨h,hb⟩
  ·simp only[nX]
   exact⟨fun hF=>by have:=hS.fr _ hF;omega,fun _=>hS.Xi⟩
  ·simp only[oV h]
   exact hS.wr b g oZ e' hb
 ·rcases Es a g E4 e1 w1 ha with⟨rfl,_⟩ | ⟨h,ha⟩
  ·rcases Es b g' Su e2 w2 hb with⟨rfl,_⟩ | ⟨h',hb⟩
   ·rfl
   ·simp only[nX,oV h'] at hm
    have:=hS.mlt hb
    omega
  ·rcases Es b g' Su e2 w2 hb with⟨rfl,_⟩ | ⟨h',hb⟩
   ·simp only[nX,oV h] at hm
    have:=hS.mlt ha
    omega
   ·simp only[oV h,oV h'] at hm
    exact hS.inj a b _ _ _ _ _ _ _ _ ha hb hm
theorem iF {H:aA} {b:Nat} {x:fC} (hb:b<H.length) {a:Nat} {y:fC} (h:(H.set b x)[a]? = some y):(a=b∧y=x)∨(a≠b∧H[a]? = some y):=by
 by_cases he:a=b
 ·subst he
  rw[aKZ hb] at h
  cases h
  exact .inl ⟨rfl,rfl⟩
 ·rw[aK0 (Ne.symm he)] at h
  exact .inr ⟨he,h⟩
theorem FW (hS:SR V lo fD) {b g e:Nat} {es oZ:List VV} {r':List Value} (hb:V.H[b]? = some (.row g es e true)) (dS:lo≤b) (he:∀x∈oZ,(aB x).length=e) (hl:VL V (oZ.flatMap aB) r') {r:List Value} {p:Bool} (hp:V.P[V.m b]? = some (.row r e p)) :
  SR { V with H:=V.H.set b (.row g oZ e true),P:=V.P.set (V.m b) (.row r' e p) } lo fD∧HF lo V { V with H:=V.H.set b (.row g oZ e true),P:=V.P.set (V.m b) (.row r' e p) }:=by
 have zE:=(aKA.1 hb).1
 have Qj:=hS.mlt hb
 have hU:Up V { V with H:=V.H.set b (.row g oZ e true),P:=V.P.set (V.m b) (.row r' e p) } :=
  ⟨fun _ h=>h,fun q hq=>aK0 (fun h=>(hS.wr b g es e hb).1 (by rw[h];exact hq)),by simp,fun a g' E4 e1 w1 bI ha=>by
   rcases iF zE ha with⟨rfl,h⟩ | ⟨_,h⟩
   ·cases h
    exact⟨g,es,true,hb,aKB _,fun _=>rfl⟩
   ·exact⟨g',E4,w1,h,aKB _,fun _=>rfl⟩,rfl,by simp,fun a g1 E4 e1 w1 ha _=>by
   rcases iF zE ha with⟨rfl,h⟩ | ⟨fW,h⟩
   ·cases h
    exact⟨g,es,true,hb,rfl,fun _=>rfl⟩
   ·exact⟨g1,E4,w1,h,rfl,id⟩⟩
 refine⟨⟨fun a g1 E4 e1 w1 ha => ?_,fun a g1 E4 e1 ha => ?_,fun a c g1 E4 e1 w1 g2 Su e2 w2 ha hc hm => ?_,fun q hq=>by have:=hS.fr q hq;simp;omega,by have:=hS.Xi;simp;omega,by have:=hS.NG;simp;omega⟩,
  { hU with dB:=fun q hq hn=>aK0 (hn b g es e hb dS),Fh:=fun q hq => .inl hq }⟩
 ·rcases iF zE ha with⟨rfl,h⟩ | ⟨fW,h⟩
  ·cases h
   exact⟨r',p,aKZ Qj,he,hl.mono hU⟩
  ·obtain⟨r1,p1,h1,h2,h3⟩:=hS.row a g1 E4 e1 w1 h
   exact⟨r1,p1,by rw[←h1];exact aK0 (fun hm=>fW (hS.inj _ _ _ _ _ _ _ _ _ _ h hb hm.symm)),h2,h3.mono hU⟩
 ·rcases iF zE ha with⟨rfl,h⟩ | ⟨fW,h⟩
  ·cases h
   exact hS.wr _ _ _ _ hb
  ·exact hS.wr _ _ _ _ h
 ·rcases iF zE ha with⟨rfl,h⟩ | ⟨fW,h⟩<;>rcases iF zE hc with⟨rfl,h'⟩ | ⟨abX,h'⟩
  ·rfl
  ·exact hS.inj _ _ _ _ _ _ _ _ _ _ hb h' hm
  ·exact hS.inj _ _ _ _ _ _ _ _ _ _ h hb hm
  ·exact hS.inj _ _ _ _ _ _ _ _ _ _ h h' hm
theorem Yp (hS:SR V lo fD) {b g e:Nat} {es oZ:List VV} {r':List Value} (hb:V.H[b]? = some (.row g es e true)) (dS:lo≤b) (he:∀x∈oZ,(aB x).length=e) (hl:VL V (oZ.flatMap aB) r') {P1:aJ} (hP:P1.length=V.P.length) (hk:∀q,q≠V.m b→P1[q]? = V.P[q]?) (p:Bool) :
  SR { V with m:=upd V.m b V.P.length,H:=V.H.set b (.row (g+1) oZ e true),P:=P1++[.row r' e p] } lo fD∧HF lo V { V with m:=upd V.m b V.P.length,H:=V.H.set b (.row (g+1) oZ e true),P:=P1++[.row r' e p] }:=by
 have zE:=(aKA.1 hb).1
 have Qj:=hS.mlt hb
 have xQ:∀q,q<V.P.length→q≠V.m b→(P1++[QI.row r' e p])[q]? = V.P[q]? := fun q hq hn=>by rw[aKS (by omega)];exact hk q hn
 have hU:Up V { V with m:=upd V.m b V.P.length,H:=V.H.set b (.row (g+1) oZ e true),P:=P1++[.row r' e p] } :=
  ⟨fun _ h=>h,fun q hq=>xQ q (hS.fr q hq) (fun h=>(hS.wr b g es e hb).1 (by rw[←h];exact hq)),by simp,fun a g' E4 e1 w1 bI ha=>by
   rcases iF zE ha with⟨rfl,h⟩ | ⟨fW,h⟩
   ·cases h
    exact⟨g,es,true,hb,by omega,fun h=>by omega⟩
   ·exact⟨g',E4,w1,h,aKB _,fun _=>oV fW⟩,rfl,by simp;omega,fun a g1 E4 e1 w1 ha hm=>by
   rcases iF zE ha with⟨rfl,h⟩ | ⟨fW,h⟩
   ·simp only[nX] at hm
    omega
   ·exact⟨g1,E4,w1,h,oV fW,id⟩⟩
 refine⟨⟨fun a g1 E4 e1 w1 ha => ?_,fun a g1 E4 e1 ha => ?_,fun a c g1 E4 e1 w1 g2 Su e2 w2 ha hc hm => ?_,fun q hq=>by have:=hS.fr q hq;simp;omega,by have:=hS.Xi;simp;omega,by have:=hS.NG;simp;omega⟩,
  { hU with dB:=fun q hq hn=>xQ q hq (Ne.symm (hn b g es e hb dS)),Fh:=fun q hq => .inl hq }⟩
 ·rcases iF zE ha with⟨rfl,h⟩ | ⟨fW,h⟩
  ·cases h
   refine⟨r',p,?_,he,hl.mono hU⟩
   simp only[nX]
   rw[←hP]
   simp
  ·obtain⟨r1,p1,h1,h2,h3⟩:=hS.row a g1 E4 e1 w1 h
   refine⟨r1,p1,?_,h2,h3.mono hU⟩
   simp only[oV fW]
   rw[xQ _ (hS.mlt h) (fun hm=>fW (hS.inj _ _ _ _ _ _ _ _ _ _ h hb hm))]
   exact h1
 ·rcases iF zE ha with⟨rfl,h⟩ | ⟨fW,h⟩
  ·cases h
   simp only[nX]
   exact⟨fun hF=>by have:=hS.fr _ hF;omega,fun _=>hS.Xi⟩
  ·simp only[oV fW]
   exact hS.wr _ _ _ _ h
 ·rcases iF zE ha with⟨rfl,h⟩ | ⟨fW,h⟩<;>rcases iF zE hc with⟨rfl,h'⟩ | ⟨abX,h'⟩
  ·rfl
  ·simp only[nX,oV abX] at hm
   have:=hS.mlt h'
   omega
  ·simp only[nX,oV fW] at hm
   have:=hS.mlt h
   omega
  ·simp only[oV fW,oV abX] at hm
   exact hS.inj _ _ _ _ _ _ _ _ _ _ h h' hm
def View.freeze (V:View) (b:Nat):View :=
 match V.H[b]? with
 | some (.row _ _ _ _)=>{ V with H:=Ey V.H b,F:=fun q=>V.F q∨q=V.m b }
 | _=>V
theorem Uf (V:View) (b:Nat):(V.freeze b).H=Ey V.H b:=by
 unfold View.freeze Ey
 cases h:V.H[b]? with
 | none=>rfl
 | some x=>cases x<;>rfl
theorem alV (V:View) (b:Nat):(V.freeze b).P=V.P:=by
 unfold View.freeze
 split<;>rfl
theorem Ut (V:View) (b:Nat):(V.freeze b).m=V.m:=by
 unfold View.freeze
 split<;>rfl
theorem SF (hS:SR V lo fD) (b:Nat):SR (V.freeze b) lo fD∧HF lo V (V.freeze b)∧(∀g es e w,V.H[b]? = some (.row g es e w)→(V.freeze b).F (V.m b)):=by
 unfold View.freeze
 split
 case h_2 fW=>exact⟨hS,HF.refl _ _,fun g es e w h=>absurd h (fW _ _ _ _)⟩
 rename_i g es e w hb
 have zE:=(aKA.1 hb).1
 have hf:Ey V.H b=V.H.set b (.row g es e false):=by unfold Ey;rw[hb]
 rw[hf]
 have hU:Up V { V with H:=V.H.set b (.row g es e false),F:=fun q=>V.F q∨q=V.m b } :=
  ⟨fun _ h => .inl h,fun _ _=>rfl,by simp,fun a g' E4 e1 w1 bI ha=>by
   rcases iF zE ha with⟨rfl,h⟩ | ⟨_,h⟩
   ·cases h
    exact⟨g,es,w,hb,aKB _,fun _=>rfl⟩
   ·exact⟨g',E4,w1,h,aKB _,fun _=>rfl⟩,rfl,aKB _,fun a g1 E4 e1 w1 ha hm=>by
   rcases iF zE ha with⟨rfl,h⟩ | ⟨fW,h⟩
   ·cases h
    exact⟨g,es,w,hb,rfl,fun h=>by cases h⟩
   ·exact⟨g1,E4,w1,h,rfl,id⟩⟩
 refine⟨⟨fun a g1 E4 e1 w1 ha => ?_,fun a g1 E4 e1 ha => ?_,fun a c g1 E4 e1 w1 g2 Su e2 w2 ha hc hm => ?_,fun q hq => ?_,hS.Xi,hS.NG⟩,
  { hU with dB:=fun q hq hn=>rfl,Fh:=fun q hq => ?_ },fun _ _ _ _ _ => .inr rfl⟩
 ·rcases iF zE ha with⟨rfl,h⟩ | ⟨fW,h⟩
  ·cases h
   obtain⟨r1,p1,h1,h2,h3⟩:=hS.row _ _ _ _ _ hb
   exact⟨r1,p1,h1,h2,h3.mono hU⟩
  ·obtain⟨r1,p1,h1,h2,h3⟩:=hS.row _ _ _ _ _ h
   exact⟨r1,p1,h1,h2,h3.mono hU⟩
 ·rcases iF zE ha with⟨rfl,h⟩ | ⟨fW,h⟩
  ·cases h
  ·refine⟨fun hF => ?_,(hS.wr _ _ _ _ h).2⟩
   rcases hF with hF | hF
   ·exact(hS.wr _ _ _ _ h).1 hF
   ·exact fW (hS.inj _ _ _ _ _ _ _ _ _ _ h hb hF)
 ·rcases iF zE ha with⟨rfl,h⟩ | ⟨fW,h⟩<;>rcases iF zE hc with⟨rfl,h'⟩ | ⟨abX,h'⟩
  ·rfl
  ·exact hS.inj _ _ _ _ _ _ _ _ _ _ hb h' hm
  ·exact hS.inj _ _ _ _ _ _ _ _ _ _ h hb hm
  ·exact hS.inj _ _ _ _ _ _ _ _ _ _ h h' hm
 ·rcases hq with hq | hq
  ·exact hS.fr q hq
  ·subst hq;exact hS.mlt hb
 ·rcases hq with hq | hq
  ·exact .inl hq
  ·exact .inr (.inr ⟨b,g,es,e,w,hb,hq.symm⟩)
end
end Go.PM
namespace Go.PM
section
variable {V:View} {lo fD:Nat} {ρ:cW} {mR:Env}
def ER (V:View) (ρ:cW) (mR:Env):Prop:=∀t,VR V (ρ t) (mR t)
theorem ER.mono {V':View} (u:Up V V') (h:ER V ρ mR):ER V' ρ mR:=fun t=>(h t).mono u
theorem ER.ev (h:ER V ρ mR) (x:Operand):VR V (fN ρ x) (ev mR x):=by
 cases x with
 | tmp t=>exact h t
 | const v=>exact VR.inj v
 | global g=>exact .any _
 | func f=>exact .xU f [] [] .nil
theorem ER.put {d:Option Nat} {x:VV} {v:Value} (h:ER V ρ mR) (hx:VR V x v):ER V (Nh ρ d x) (put mR d v):=by
 cases d with
 | none=>exact h
 |
  some d =>
  intro t
  simp only[Nh,PM.put]
  split
  ·exact hx
  ·exact h t
theorem ER.evs (h:ER V ρ mR) (xs:List Operand):VL V (xs.map (fN ρ)) (xs.map (PM.ev mR)):=VL.map fun x _=>h.ev x
def iR (lo fD:Nat) (V:View) (r:Option (Value×aJ)) (v:VV) (H':aA):Prop :=
 ∃pv V',r=some (pv,V'.P)∧V'.H=H'∧SR V' lo fD∧HF lo V V'∧VR V' v pv
theorem iR.pure (hS:SR V lo fD) {r:Option Value} {v:VV} {pv:Value} (h:r=some pv) (hv:VR V v pv):iR lo fD V (r.map (·,V.P)) v V.H :=
 ⟨pv,V,by rw[h];rfl,rfl,hS,HF.refl _ _,hv⟩
theorem iR.of {V':View} {pv:Value} {v:VV} (h:SR V' lo fD∧HF lo V V') (hv:VR V' v pv):iR lo fD V (some (pv,V'.P)) v V'.H:=⟨pv,V',rfl,rfl,h.1,h.2,hv⟩
theorem iR.same (hS:SR V lo fD) {v:VV} {pv:Value} (hv:VR V v pv):iR lo fD V (some (pv,V.P)) v V.H :=
 ⟨pv,V,rfl,rfl,hS,HF.refl _ _,hv⟩
theorem cS {α β:Type} {o:Option α} {f:α→β} {b:β} (h:o.map f=some b):∃a,o=some a∧f a=b:=by
 cases o with
 | none=>cases h
 | some a=>cases h;exact⟨a,rfl,rfl⟩
theorem uN {x:VV} {v u:Value} (h:VR V x u) (hx:x = .sc v):u=v∧qE v=true:=by
 subst hx
 cases h with
 | sc v h=>exact⟨rfl,h⟩
theorem akS {op:BinOp} {a b c:Value} (h:dK op a b=some c):qE c=true:=by
 unfold dK at h
 split at h
 ·split at h<;>cases h;rfl
 ·split at h<;>cases h;rfl
 ·split at h
  ·split at h<;>first | (cases h;rfl) | (split at h<;>cases h<;>rfl) | cases h
  ·cases h
 ·split at h<;>first | (cases h;rfl) | (split at h<;>cases h<;>rfl) | cases h
 ·cases h
theorem asW {op:UnOp} {a c:Value} (h:pun op a=some c):qE c=true:=by
 unfold pun at h
 split at h<;>cases h<;>rfl
theorem amD {n:Bool} {a b c:Value} (h:Oc n a b=some c):qE c=true:=by
 unfold Oc at h
 split at h<;>cases h;rfl
theorem ajM {k:IntKind} {a c:Value} (h:Xx k a=some c):qE c=true:=by
 unfold Xx at h
 split at h<;>cases h;rfl
theorem aiO {a c:Value} (h:acX a=some c):qE c=true:=by
 unfold acX at h
 split at h<;>cases h;rfl
theorem afO {a c:Value} (h:Dk a=some c):qE c=true:=by
 unfold Dk at h
 split at h<;>cases h;rfl
theorem aeT {a b c:Value} (h:Kf a b=some c):qE c=true:=by
 unfold Kf at h
 split at h
 ·split at h<;>cases h;rfl
 ·cases h
theorem alJ {a b c:Value} (h:WY a b=some c):qE c=true:=by
 unfold WY at h
 split at h<;>cases h;rfl
theorem alW {a b c:Value} (h:Wo a b=some c):qE c=true:=by
 unfold Wo at h
 split at h<;>cases h;rfl
theorem G9 (hS:SR V lo fD) {f:Value→Option Value} (hf:∀a c,f a=some c→qE c=true) {x v:VV} {u:Value} (hx:VR V x u) (h:PX f x=some v):iR lo fD V ((f u).map (·,V.P)) v V.H:=by
 unfold PX at h
 split at h
 ·obtain⟨h1,_⟩:=uN hx rfl
  subst h1
  obtain⟨c,hc,rfl⟩:=cS h
  exact iR.pure hS hc (.sc _ (hf _ _ hc))
 ·cases h
theorem C4 (hS:SR V lo fD) {f:Value→Value→Option Value} (hf:∀a b c,f a b=some c→qE c=true) {x y v:VV} {u w:Value} (hx:VR V x u) (hy:VR V y w) (h:Lk f x y=some v):iR lo fD V ((f u w).map (·,V.P)) v V.H:=by
 unfold Lk at h
 split at h
 ·obtain⟨h1,_⟩:=uN hx rfl
  obtain⟨h2,_⟩:=uN hy rfl
  subst h1 h2
  obtain⟨c,hc,rfl⟩:=cS h
  exact iR.pure hS hc (.sc _ (hf _ _ _ hc))
 ·cases h
theorem XM {α:Type} (l:List α) {o n a k:Nat} (h:a+k≤n):(((l.drop o).take n).drop a).take k=(l.drop (o+a)).take k:=by
 rw[List.drop_take,aLA,aLB,aLC (by omega)]
theorem WK {x v:VV} {agg:Bool} {size off b o e:Nat} {r:List Value} {p:Bool} (hb:V.P[b]? = some (.row r e p)) (ho:o+(aB x).length≤r.length) (hl:VL V (aB x) ((r.drop o).take (aB x).length)) (h:dP agg size x off=some v) :
  ∃u,qQ agg size (.pointer (some ⟨b,o+off,none⟩)) V.P=some u∧VR V v u:=by
 unfold dP at h
 cases agg with
 |
  true =>
  simp only[if_true] at h
  split at h
  ·rename_i hs
   cases h
   refine⟨.agg ((r.drop (o+off)).take size).toArray,?_,.agg _ _ ?_⟩
   ·simp only[qQ,if_true,Dr hb (show o+off+size≤r.length by omega)]
    rfl
   ·have:=(hl.drop off).take size
    rw[XM _ hs] at this
    exact this
  ·cases h
 |
  false =>
  simp only[aLd,if_false] at h
  obtain⟨u,hu,hv⟩:=hl.get h
  have ayU:=(aKA.1 h).1
  rw[List.getElem?_take,if_pos ayU,List.getElem?_drop] at hu
  refine⟨u,?_,hv⟩
  have bI:=(aKA.1 hu).1
  simp only[qQ,aLd,if_false,Dr hb (show o+off+1≤r.length by omega)]
  rw[aKG bI]
  simp only[aLo,List.take_zero]
  rw[List.getElem?_eq_getElem bI] at hu
  injection hu with hu
  rw[hu]
theorem Ob (hS:SR V lo fD) {b g e j:Nat} {es:List VV} {w:Bool} {x:VV} (hb:V.H[b]? = some (.row g es e w)) (hx:es[j]? = some x) :
  ∃r p,V.P[V.m b]? = some (.row r e p)∧(aB x).length=e∧j*e+(aB x).length≤r.length∧VL V (aB x) ((r.drop (j*e)).take (aB x).length):=by
 obtain⟨r,p,h1,h2,h3⟩:=hS.row b g es e w hb
 have hxe:=h2 x (aLv hx)
 have hj:=(aKA.1 hx).1
 have hlen:=h3.length
 rw[mN h2] at hlen
 have hm:(j+1)*e≤es.length*e:=aK2 _ hj
 rw[aLq] at hm
 refine⟨r,p,h1,hxe,by omega,?_⟩
 have:=(h3.drop (j*e)).take e
 rw[P5 h2 hx] at this
 rw[hxe]
 exact this
theorem PJ (hS:SR V lo fD) {p v:VV} {u:Value} {agg:Bool} {size:Nat} (hp:VR V p u) (h:bH agg size p V.H=some v):∃w,qQ agg size u V.P=some w∧VR V v w:=by
 unfold bH at h
 split at h
 ·cases hp with
  | cJ x off b o r e p hF hb ho hl=>exact WK hb ho hl h
 ·split at h
  ·rename_i es e w hr
   rw[cB] at hr
   split at h
   ·rename_i x hx
    cases hp with
    |
     ptr b g j off a bI hg ha hq =>
     have:=ha _ _ _ hr
     subst this
     obtain⟨r,p,h1,h2,h3,h4⟩:=Ob hS hr hx
     exact WK h1 h3 h4 h
   ·cases h
  ·cases h
 ·cases h
theorem Wc (hS:SR V lo fD) {x i v:VV} {u k:Value} {size:Nat} (hx:VR V x u) (hi:VR V i k) (h:bK size x i V.H=some v):∃w,Tr size u k=some w∧VR V v w:=by
 unfold bK at h
 split at h
 ·rename_i es tk ik i
  obtain⟨rfl,_⟩:=uN hi rfl
  split at h
  ·rename_i h0
   split at h
   ·rename_i y hy
    split at h
    ·rename_i Fa
     cases h
     have bI:=(aKA.1 hy).1
     cases hx with
     | pP=>simp at bI
     |
      tree es k b o c r e p hF hb ho hc he hk hl =>
      have hye:=he y (aLv hy)
      have QB:e=size:=by omega
      subst QB
      have hm:(i.toNat+1)*e≤es.length*e:=aK2 _ bI
      rw[aLq] at hm
      refine⟨_,UO h0 (by omega),?_⟩
      have h1:=(hl.drop (i.toNat*e)).take e
      rw[P5 he hy,XM _ (by omega)] at h1
      exact .cJ y 0 b (o+i.toNat*e) r e p hF hb (by omega) (by rw[hye];exact h1)
    ·cases h
   ·cases h
  ·cases h
 ·rename_i b g o n c ik i
  obtain⟨rfl,_⟩:=uN hi rfl
  split at h
  ·rename_i es e w hr
   rw[cB] at hr
   split at h
   ·rename_i hc
    obtain⟨rfl,h0,h1⟩:=hc
    cases h
    cases hx with
    |
     ref b g o n c a n' c' bI hg ha hq =>
     obtain⟨rfl,rfl,rfl⟩:=ha _ _ _ hr
     refine⟨_,UO h0 h1,.ptr b g (o+i.toNat) 0 _ bI hg (fun oZ e' w' I3 => ?_) fun a0 h=>by cases h;exact hq ⟨V.m b,o*e,none⟩ rfl⟩
     rw[hr] at I3
     cases I3
     rw[aK6,Nat.add_zero]
   ·cases h
  ·cases h
 ·cases h
theorem De {l:Option Operand} {lv:Option Value} (hE:ER V ρ mR) (h:IA (l.map (fN ρ))=some lv):l.map (ev mR)=lv:=by
 cases l with
 | none=>cases h;rfl
 |
  some x =>
  simp only[Option.map_some,IA] at h
  split at h
  ·rename_i hv;cases hv
  ·rename_i v hv
   cases h
   injection hv with hv
   obtain⟨h1,_⟩:=uN (hE.ev x) hv
   rw[Option.map_some,h1]
  ·cases h
theorem Lj {v:Option Value} {d:Option Nat} {t x:Nat} (hd:∀y,d=some y→y≤t) (h:fG v d t=some x):x≤t:=by
 unfold fG at h
 split at h
 ·exact hd _ h
 ·split at h
  ·cases h;omega
  ·cases h
 ·cases h
theorem Rg {v:Option Value} {d d':Option Nat} {t t' x:Nat} (ht:t≤t') (hd:v=none→d=d') (h:fG v d t=some x):fG v d' t'=some x:=by
 unfold fG at h ⊢
 cases v with
 | none=>rw[←hd rfl];exact h
 |
  some v =>
  cases v with
  |
   int k i =>
   simp only at h ⊢
   split at h
   ·rename_i h1;rw[if_pos (by omega)];exact h
   ·cases h
  | _=>simp only at h ⊢;exact h
theorem Rf (hS:SR V lo fD) (size:Nat):iR lo fD V (some (.slice (some ⟨V.P.length,0,none⟩) 0 0,V.P++[.row [] size false])) (.tree [] (.cl size)) V.H:=by
 exact(iR.of (Ea hS (.row [] size false)) (.tree [] (.cl size) V.P.length 0 0 [] size false (.inr rfl) (by simp) (by simp) (by simp) (fun x hx=>by cases hx) ⟨rfl,rfl,rfl⟩ (by simp;exact .nil)) :)
theorem afV (hS:SR V lo fD) (hE:ER V ρ mR) {x v:VV} {u:Value} {size:Nat} {l h m:Option Operand} (hx:VR V x u) (hv:Hq size x (l.map (fN ρ)) (h.map (fN ρ)) (m.map (fN ρ)) V.H=some v) :
  iR lo fD V (E9 size u (l.map (ev mR)) (h.map (ev mR)) (m.map (ev mR)) V.P) v V.H:=by
 unfold Hq at hv
 split at hv
 case h_2=>cases hv
 rename_i lv hhv mv hl hh hm
 rw[De hE hl,De hE hh,De hE hm]
 split at hv
 ·rename_i y ys tk
  split at hv
  case isFalse=>cases hv
  rename_i Fa
  split at hv
  ·cases hv
  rename_i m0 hm0
  split at hv
  ·cases hv
  rename_i h0 hh0
  split at hv
  ·cases hv
  rename_i l0 Ct
  cases hx with
  |
   tree es k b o c r e p hF hb ho hc he hk hl =>
   have QB:e=size:=by rw[←he y aLb];exact Fa
   subst QB
   have hlen:(y::ys).length=ys.length+1:=rfl
   rw[hlen] at ho hc
   have b1:m0≤ys.length+1:=Lj (fun z hz=>by injection hz with hz;omega) hm0
   have b2:h0≤m0:=by
    refine Lj (fun z hz => ?_) hh0
    split at hz
    ·cases hz
    ·rename_i hmn
     injection hz with hz
     have:mv=none:=by cases mv<;>simp_all
     subst this
     simp[fG] at hm0
     omega
   have b3:l0≤h0:=Lj (fun z hz=>by injection hz with hz;omega) Ct
   have e1:fG mv (some c) c=some (if mv.isSome then m0 else c):=by
    cases mv with
    | none=>rfl
    | some q=>exact Rg hc (fun hq=>by cases hq) hm0
   have e2:fG hhv (if mv.isSome then none else some (ys.length+1)) (if mv.isSome then m0 else c)=some h0:=by
    cases mv with
    |
     none =>
     simp only[Option.isSome_none,aLd,if_false] at hh0 ⊢
     exact Rg (by omega) (fun _=>rfl) hh0
    | some q=>exact hh0
   unfold E9
   simp only[hb,if_true]
   rw[e1]
   simp only
   rw[hlen,e2]
   simp only
   rw[Ct]
   simp only
   by_cases mQ:mv.isSome=true∧m0=l0
   ·rw[if_pos mQ] at hv
    cases hv
    rw[if_pos ⟨mQ.1,by rw[if_pos mQ.1];exact mQ.2⟩]
    exact Rf hS e
   ·rw[if_neg mQ] at hv
    cases hv
    rw[if_neg (fun hh=>mQ ⟨hh.1,by have:=hh.2;rw[if_pos hh.1] at this;exact this⟩)]
    have bI:(((y::ys).drop l0).take (h0-l0)).length=h0-l0:=by simp;omega
    have QK:l0*e+(h0-l0)*e=h0*e:=by rw[←aK6];congr 1;omega
    have YL:h0*e≤(ys.length+1)*e:=aK2 _ (by omega)
    have T7:h0-l0≤(if mv.isSome then m0 else c)-l0:=by split<;>omega
    have:=VR.tree (V:=V) (((y::ys).drop l0).take (h0-l0)) .op b (o+l0*e) ((if mv.isSome then m0 else c)-l0) r e p hF hb (by rw[bI];omega) (by rw[bI];exact T7) (fun z hz=>he z (aLz (aLy hz))) trivial (by
     rw[bI]
     have h1:=(hl.drop (l0*e)).take ((h0-l0)*e)
     rw[XM _ (by rw[hlen];omega),yN he,yC (fun z hz=>he z (aLz hz))] at h1
     exact h1)
    rw[bI] at this
    exact iR.same hS this
 ·rename_i b g o n c
  split at hv
  case h_2=>cases hv
  rename_i es e w hr
  rw[cB] at hr
  split at hv
  case isFalse=>cases hv
  rename_i Fa
  subst Fa
  split at hv
  ·cases hv
  rename_i m0 hm0
  split at hv
  ·cases hv
  rename_i h0 hh0
  split at hv
  ·cases hv
  rename_i l0 Ct
  cases hx with
  |
   ref b g o n c a n' c' bI hg ha hq =>
   obtain⟨rfl,rfl,rfl⟩:=ha _ _ _ hr
   obtain⟨r,p,h1,_⟩:=hS.row b g es e w hr
   unfold E9
   simp only[h1,if_true]
   rw[hm0]
   simp only
   rw[hh0]
   simp only
   rw[Ct]
   simp only
   by_cases mQ:mv.isSome=true∧m0=l0
   ·rw[if_pos mQ] at hv
    cases hv
    rw[if_pos mQ]
    exact Rf hS e
   ·rw[if_neg mQ] at hv
    cases hv
    rw[if_neg mQ]
    refine iR.same hS (.ref b g (o+l0) _ _ _ _ _ bI hg (fun oZ e' w' I3 => ?_) fun a0 h=>by cases h;exact hq ⟨V.m b,o*e,none⟩ rfl)
    rw[hr] at I3
    cases I3
    exact⟨by rw[aK6],rfl,rfl⟩
 ·cases hv
theorem CW {es:List VV} (h:(es.all fun x=>(aB x).all bN)=true):(es.flatMap aB).all bN=true:=by
 rw[aKP] at h ⊢
 intro x hx
 obtain⟨y,hy,CT⟩:=aLD.1 hx
 exact aKP.1 (h y hy) x CT
theorem AL (hS:SR V lo fD) {y:VV} {u:Value} {size:Nat} {new:List VV} (hy:VR V y u) (h:cZ size y V.H=some new) :
  wC u=some new.length∧(∀x∈new,(aB x).length=size)∧(new.flatMap aB).all bN=true∧∀n,n≤new.length→∃pn,lD V.P size n u=some pn∧VL V ((new.take n).flatMap aB) pn:=by
 unfold cZ at h
 split at h
 ·rename_i es tk
  split at h
  case isFalse=>cases h
  rename_i jP
  cases h
  have ajN:∀x∈new,(aB x).length=size∧(aB x).all bN=true:=fun x hx=>by
   have:=aKP.1 jP x hx
   simpa using this
  refine⟨?_,fun x hx=>(ajN x hx).1,CW (aKP.2 fun x hx=>(ajN x hx).2),fun n hn => ?_⟩
  ·cases hy<;>rfl
  ·cases hy with
   |
    pP k hk =>
    have:n=0:=by simpa using hn
    subst this
    exact⟨[],rfl,by simp;exact .nil⟩
   |
    tree es k b o c r e p hF hb ho hc he hk hl =>
    cases QB:new with
    |
     nil =>
     rw[QB] at hn
     have:n=0:=by simpa using hn
     subst this
     refine⟨[],?_,by simp;exact .nil⟩
     simp only[lD,aLE]
     rw[Dr hb (by omega)]
     simp
    |
     cons x xs =>
     have Na:e=size:=by rw[←he x (by rw[QB];exact aLb)];exact(ajN x (by rw[QB];exact aLb)).1
     subst Na
     have hm:n*e≤new.length*e:=aK2 _ hn
     refine⟨_,by simp only[lD];exact Dr hb (by omega),?_⟩
     rw[←QB,←yC he]
     have h1:=hl.take (n*e)
     rw[aLA,aLC hm] at h1
     exact h1
 ·rename_i b g o n c
  split at h
  case h_2=>cases h
  rename_i es e w hr
  rw[cB] at hr
  split at h
  case isFalse=>cases h
  rename_i hc
  obtain⟨rfl,hlen,jP⟩:=hc
  cases h
  obtain⟨r,p,h1,h2,h3⟩:=hS.row b g es e w hr
  have hn2:((es.drop o).take n).length=n:=by simp;omega
  have BX:=h3.length
  rw[mN h2] at BX
  cases hy with
  |
   ref b g o n c a n' c' bI hg ha hq =>
   obtain⟨rfl,rfl,rfl⟩:=ha _ _ _ hr
   have aiK:∀x∈(es.drop o).take n',(aB x).length=e:=fun x hx=>h2 x (aLz (aLy hx))
   refine⟨by rw[hn2];rfl,aiK,CW jP,fun k hk => ?_⟩
   rw[hn2] at hk
   have hm:(o+k)*e≤es.length*e:=aK2 _ (by omega)
   rw[aK6] at hm
   refine⟨_,by simp only[lD];exact Dr h1 (by omega),?_⟩
   rw[aLA,aLC hk]
   have h4:=(h3.drop (o*e)).take (k*e)
   rw[yN h2,yC (fun x hx=>h2 x (aLz hx))] at h4
   exact h4
 ·rename_i s
  split at h
  case isFalse=>cases h
  rename_i hs
  subst hs
  cases h
  obtain⟨rfl,_⟩:=uN hy rfl
  have hlen:(s.data.toList.map fun b=>VV.sc (.int .u8 (b.toNat:Int))).length=s.size:=by simp
  refine⟨by rw[hlen];rfl,fun x hx => ?_,?_,fun n hn => ?_⟩
  ·obtain⟨b,_,rfl⟩:=List.mem_map.1 hx
   rfl
  ·refine CW (aKP.2 fun x hx => ?_)
   obtain⟨b,_,rfl⟩:=List.mem_map.1 hx
   rfl
  ·refine⟨(s.data.toList.take n).map fun b=>Value.int .u8 (b.toNat:Int),by simp only[lD,if_true],?_⟩
   rw[←List.map_take,List.flatMap_map]
   have:((s.data.toList.take n).flatMap fun a=>aB (VV.sc (.int .u8 (a.toNat:Int))))=(s.data.toList.take n).map fun a=>VV.sc (.int .u8 (a.toNat:Int)):=by
    generalize s.data.toList.take n=l
    induction l with
    | nil=>rfl
    | cons a l ih=>rw[aLp,ih];rfl
   rw[this]
   exact VL.map fun b _ => .sc _ rfl
 ·cases h
end
end Go.PM
namespace Go.PM
section
variable {V:View} {lo fD:Nat} {ρ:cW} {mR:Env}
theorem NS (hS:SR V lo fD) {es:List VV} {r:List Value} {e n c:Nat} {p:Bool}:VR { V with m:=upd V.m V.H.length V.P.length,H:=V.H++[.row 0 es e true],P:=V.P++[.row r e p] } (.ref V.H.length 0 0 n c) (.slice (some ⟨V.P.length,0,none⟩) n c):=by
 refine .ref _ _ _ _ _ _ _ _ (by simp) (fun g' es e w _=>Nat.zero_le _) (fun oZ e' w' h=>⟨?_,rfl,rfl⟩) fun a0 ha => ?_
 ·simp only[nX,aLE]
 ·cases ha
  refine⟨hS.NG,by simp,fun b' g' oZ e' w' hb fW hm => ?_⟩
  have xJ:(V.H++[fC.row 0 es e true])[b']? = some (.row g' oZ e' w'):=hb
  have bI:b'<V.H.length:=by
   have:=(aKA.1 xJ).1
   simp at this
   omega
  rw[aKS bI] at xJ
  have h2:=hS.mlt xJ
  simp only[oV (show b'≠V.H.length by omega)] at hm
  omega
theorem ZI (hS:SR V lo fD) {es:List VV} {r:List Value} {e:Nat} {p:Bool}:VR { V with m:=upd V.m V.H.length V.P.length,H:=V.H++[.row 0 es e true],P:=V.P++[.row r e p] } (.ptr V.H.length 0 0 0) (.pointer (some ⟨V.P.length,0,none⟩)):=by
 refine .ptr _ _ _ _ _ (by simp) (fun g' es e w _=>Nat.zero_le _) (fun oZ e' w' h => ?_) fun a0 ha => ?_
 ·simp only[nX,aLE]
 ·cases ha
  refine⟨hS.NG,by simp,fun b' g' oZ e' w' hb fW hm => ?_⟩
  have xJ:(V.H++[fC.row 0 es e true])[b']? = some (.row g' oZ e' w'):=hb
  have bI:b'<V.H.length:=by
   have:=(aKA.1 xJ).1
   simp at this
   omega
  rw[aKS bI] at xJ
  have h2:=hS.mlt xJ
  simp only[oV (show b'≠V.H.length by omega)] at hm
  omega
theorem Ki (hS:SR V lo fD) {x v:VV} {u:Value} {size bytes:Nat} {nw:List VV} {pn:List Value} {H':aA} (hx:VR V x u) (hn:∀x∈nw,(aB x).length=size) (ET:(nw.flatMap aB).all bN=true) (hl:VL V (nw.flatMap aB) pn) (h:dR lo size bytes x nw V.H=some (v,H')) :
  iR lo fD V (fJ fD size bytes u nw.length pn V.P) v H':=by
 unfold dR at h
 split at h
 case isFalse=>cases h
 rename_i hbs
 have Qj:pn.length=nw.length*size:=by rw[hl.length,mN hn]
 unfold fJ
 rw[if_pos ⟨hbs.1,hbs.2,hl.iQ ET,Qj⟩]
 split at h
 ·cases hx with
  | tree es k b o c r e p hF hb ho hc he hk hl=>exact hk.elim
  |
   pP =>
   simp only[and_self,if_true]
   split at h
   ·rename_i h0
    cases h
    rw[if_pos h0]
    exact iR.same hS (.pP _ (.inr rfl))
   ·rename_i h0
    split at h
    case isFalse=>cases h
    rename_i h1
    cases h
    rw[if_neg h0,if_pos h1]
    exact(iR.of (vF hS (es:=nw) (r:=pn) (e:=size) true hn hl) (NS hS) :)
 ·rename_i es e
  split at h
  case isFalse=>cases h
  rename_i QB
  subst QB
  cases hx with
  | pP k hk=>rcases hk with hk | hk<;>cases hk
  |
   tree es k b o c r e' p hF hb ho hc he hk Fo =>
   obtain⟨h1,h2,h3⟩:=hk
   subst h1 h2 h3
   simp only[hb]
   rw[if_pos ⟨trivial,ho⟩]
   split at h
   ·rename_i h0
    cases h
    rw[if_pos (by omega),if_pos h0]
    exact iR.same hS (.tree es _ b o _ r e false hF hb ho hc he ⟨rfl,rfl,rfl⟩ Fo)
   ·rename_i h0
    split at h
    case isFalse=>cases h
    rename_i Fa
    cases h
    rw[if_neg (by omega),if_pos Fa]
    simp only[aLd,if_false]
    have jP:∀x∈es++nw,(aB x).length=e:=fun x hx=>by
     rcases aLx.1 hx with h | h
     ·exact he x h
     ·exact hn x h
    exact(iR.of (vF hS (es:=es++nw) (r:=(r.drop o).take (es.length*e)++pn) (e:=e) true jP (by rw[aLF];exact Fo.append hl)) (NS hS) :)
 ·rename_i b g o n c
  split at h
  case h_2=>cases h
  rename_i es e hr
  rw[cB] at hr
  split at h
  case isFalse=>cases h
  rename_i hc
  obtain⟨rfl,dS,hon⟩:=hc
  obtain⟨r,p,h1,h2,h3⟩:=hS.row b g es e true hr
  have BX:=h3.length
  rw[mN h2] at BX
  have Hw:=(hS.wr b g es e hr).2 dS
  cases hx with
  |
   ref b g o n c a n' c' bI hg ha hq =>
   obtain⟨rfl,rfl,rfl⟩:=ha _ _ _ hr
   have hm:(o+n')*e≤es.length*e:=aK2 _ hon
   rw[aK6] at hm
   simp only[h1]
   rw[if_pos ⟨trivial,by omega⟩]
   split at h
   ·rename_i hnc
    rw[if_pos hnc]
    split at h
    ·rename_i h0
     cases h
     rw[if_pos h0]
     exact iR.same hS (.ref _ _ _ _ _ _ _ _ bI hg ha hq)
    ·rename_i h0
     split at h
     case isFalse=>cases h
     rename_i xG
     cases h
     rw[if_neg h0]
     have YL:(o+n'+nw.length)*e≤es.length*e:=aK2 _ xG
     rw[aK6,aK6] at YL
     have jP:∀x∈dF es (o+n') nw,(aB x).length=e:=fun x hx=>by
      rcases L6 hx with h | h
      ·exact h2 x h
      ·exact hn x h
     have HY:VL V ((dF es (o+n') nw).flatMap aB) (kM r (o*e+n'*e) pn):=by
      rw[←AE h2 hn,aK6]
      exact h3.kM hl _
     obtain⟨g1,g2⟩:=FW hS hr dS jP HY h1
     refine⟨.slice (some ⟨V.m b,o*e,none⟩) (n'+nw.length) c',{ V with H:=V.H.set b (.row g (dF es (o+n') nw) e true),P:=V.P.set (V.m b) (.row (kM r (o*e+n'*e) pn) e p) },?_,rfl,g1,g2,?_⟩
     ·unfold aJ.write
      simp only[h1]
      rw[if_pos ⟨Hw,by omega,hl.iQ ET⟩]
      rfl
     ·refine .ref _ _ _ _ _ _ _ _ (by simpa using bI) (fun g' oZ e' w' I3 => ?_) (fun oZ e' w' I3 => ?_) fun a0 h=>by cases h;exact g2.toUp.hq (hq _ rfl)
      ·rcases iF bI I3 with⟨_,h⟩ | ⟨h,_⟩
       ·cases h;exact aKB _
       ·exact absurd rfl h
      ·rcases iF bI I3 with⟨_,h⟩ | ⟨h,_⟩
       ·cases h;exact⟨rfl,rfl,rfl⟩
       ·exact absurd rfl h
   ·rename_i hnc
    split at h
    case isFalse=>cases h
    rename_i Fa
    cases h
    rw[if_neg hnc,if_pos Fa]
    have jP:∀x∈(es.drop o).take n'++nw,(aB x).length=e:=fun x hx=>by
     rcases aLx.1 hx with h | h
     ·exact h2 x (aLz (aLy h))
     ·exact hn x h
    have HY:VL V (((es.drop o).take n'++nw).flatMap aB) ((r.drop (o*e)).take (n'*e)++pn):=by
     rw[aLF]
     refine VL.append ?_ hl
     have h4:=(h3.drop (o*e)).take (n'*e)
     rw[yN h2,yC (fun x hx=>h2 x (aLz hx))] at h4
     exact h4
    have fin:∀P1:aJ,P1.length=V.P.length→(∀q,q≠V.m b→P1[q]? = V.P[q]?) →
      iR lo fD V (some (.slice (some ⟨V.P.length,0,none⟩) (n'+nw.length) (n'+nw.length),P1++[.row ((r.drop (o*e)).take (n'*e)++pn) e true])) (.ref b (g+1) 0 (n'+nw.length) (n'+nw.length)) (V.H.set b (.row (g+1) ((es.drop o).take n'++nw) e true)):=by
     intro P1 hP hk
     refine(iR.of (Yp hS hr dS jP HY hP hk true) ?_ :)
     refine .ref _ _ _ _ _ _ _ _ (by simpa using bI) (fun g' oZ e' w' I3 => ?_) (fun oZ e' w' I3 => ?_) fun a0 h => ?_
     ·rcases iF bI I3 with⟨_,h⟩ | ⟨h,_⟩
      ·cases h;exact aKB _
      ·exact absurd rfl h
     ·rcases iF bI I3 with⟨_,h⟩ | ⟨h,_⟩
      ·cases h;exact⟨by simp only[nX,aLE],rfl,rfl⟩
      ·exact absurd rfl h
     ·cases h
      refine⟨hS.NG,by simp[hP],fun b' g' oZ e' w' hb fW hm => ?_⟩
      rcases iF bI hb with⟨h,_⟩ | ⟨_,h⟩
      ·exact fW h
      ·simp only[oV fW] at hm
       have:=hS.mlt h
       omega
    cases p with
    |
     true =>
     simp only[if_true,Hw]
     exact fin (V.P.set (V.m b) .dead) (by simp) fun q hq=>aK0 (Ne.symm hq)
    |
     false =>
     simp only[aLd,if_false]
     exact fin V.P rfl fun _ _=>rfl
 ·cases h
theorem Vw (hS:SR V lo fD) {p v:VV} {u w:Value} {size:Nat} {H':aA} (hp:VR V p u) (hv:VR V v w) (h:bL lo size p v V.H=some H'):iR lo fD V (IC fD size u w V.P) tK H':=by
 unfold bL at h
 split at h
 case h_2=>cases h
 rename_i b g j o
 split at h
 case h_2=>cases h
 rename_i es e hr
 rw[cB] at hr
 split at h
 case h_2=>cases h
 rename_i x hx
 split at h
 case isFalse=>cases h
 rename_i hc
 obtain⟨Fa,dS,ET⟩:=hc
 obtain⟨r,q,h1,h2,h3⟩:=hS.row b g es e true hr
 have BX:=h3.length
 rw[mN h2] at BX
 have Hw:=(hS.wr b g es e hr).2 dS
 have hj:=(aKA.1 hx).1
 have hxe:=h2 x (aLv hx)
 have hm:(j+1)*e≤es.length*e:=aK2 _ hj
 rw[aLq] at hm
 have mQ:=hv.cells (YK ET)
 have hwl:(aX w).length=size:=by rw[mQ.length,Fa]
 cases hp with
 |
  ptr b g j off a bI hg ha hq =>
  have:=ha _ _ _ hr
  subst this
  have fin:∀y:VV,(aB y).length=e→o+size≤e→aB y=dF (aB x) o (aB v)→H'=V.H.set b (.row g (es.set j y) e true)→iR lo fD V (IC fD size (.pointer (some ⟨V.m b,j*e+o,none⟩)) w V.P) tK H':=by
   intro y hy ho hye hH
   subst hH
   have jP:∀z∈es.set j y,(aB z).length=e:=fun z hz=>by
    rcases aLG hz with h | h
    ·exact h2 z h
    ·subst h;exact hy
   have HY:VL V ((es.set j y).flatMap aB) (kM r (j*e+o) (aX w)):=by
    have e1:(es.set j y).flatMap aB=dF (es.flatMap aB) (j*e+o) (aB v):=by
     rw[←MD hj,←AE h2 (new:=[y]) (fun z hz=>by rw[aLH] at hz;subst hz;exact hy)]
     simp only[aLp,aLI,aLJ]
     rw[hye]
     have hx2:=P5 h2 hx
     unfold dF
     have t1:(es.flatMap aB).take (j*e+o)=(es.flatMap aB).take (j*e)++(aB x).take o:=by
      rw[List.take_add,←hx2,aLA,aLC (by omega)]
     have t2:(es.flatMap aB).drop (j*e+o+(aB v).length)=(aB x).drop (o+(aB v).length)++(es.flatMap aB).drop (j*e+e):=by
      have t0:(es.flatMap aB).drop (j*e+e)=((es.flatMap aB).drop (j*e+(o+(aB v).length))).drop (e-(o+(aB v).length)):=by
       rw[aLB]
       congr 1
       omega
      rw[←hx2,List.drop_take,aLB,t0,aLK,aKN]
     rw[t1,t2]
     have t3:(List.take o (aB x)++aB v++List.drop (o+(aB v).length) (aB x)).length=e:=by
      simp;omega
     rw[t3]
     simp only[List.append_assoc]
    rw[e1]
    exact h3.kM mQ _
   obtain⟨g1,g2⟩:=FW hS hr dS jP HY h1
   refine⟨undef,{ V with H:=V.H.set b (.row g (es.set j y) e true),P:=V.P.set (V.m b) (.row (kM r (j*e+o) (aX w)) e q) },?_,rfl,g1,g2,.eJ [] [] .nil⟩
   unfold IC
   simp only[hwl,if_true]
   unfold aJ.write
   simp only[h1]
   rw[if_pos ⟨Hw,by omega,mQ.iQ ET⟩]
   rfl
  split at h
  ·rename_i ho
   obtain⟨rfl,rfl⟩:=ho
   cases h
   refine fin v Fa (by omega) ?_ rfl
   unfold dF
   rw[Nat.zero_add,List.take_zero,List.nil_append,List.drop_of_length_le (by omega),aLJ]
  ·split at h
   case isFalse=>cases h
   rename_i ho
   cases h
   have VO:(dF (aB x) o (aB v)).length=e:=by rw[Ve (by omega)];exact hxe
   exact fin (.agg (dF (aB x) o (aB v))) VO (by omega) rfl rfl
theorem FL {z:List Value} (hz:(z.map kX).all bN=true):(aB (elemOf (z.map kX))).length=z.length:=by
 rw[pW hz,List.length_map]
theorem Er {z:List Value} (hz:(z.map kX).all bN=true):∀n,VL V ((aLr n (elemOf (z.map kX))).flatMap aB) (dG n z):=by
 intro n
 have ET:z.all iQ=true:=(VL.zero (V:=V) z).iQ hz
 have aoH:dG n z=(aLr n ()).flatMap fun _=>z:=by
  rcases Nat.eq_zero_or_pos z.length with h0 | jZ
  ·have:z=[]:=List.length_eq_zero_iff.1 h0
   subst this
   simp[dG]
  ·exact WX (enc:=fun(_:Unit)=>z) (gU:=z.length) (x:=()) ⟨fun _=>rfl,fun _=>ET,jZ⟩
 rw[aoH]
 clear aoH
 induction n with
 | zero=>exact .nil
 |
  succ n ih =>
  rw[aLL,aLL,aLp,aLp,pW hz]
  exact(VL.zero z).append ih
theorem XI (hS:SR V lo fD) {z:List Value} {bytes:Nat} {l c v:VV} {u w:Value} {H':aA} (hz:(z.map kX).all bN=true) (hl:VR V l u) (hc:VR V c w) (h:BA z bytes l c V.H=some (v,H')):iR lo fD V (aaF z bytes u w V.P) v H':=by
 unfold BA at h
 split at h
 case h_2=>cases h
 obtain⟨rfl,_⟩:=uN hl rfl
 obtain⟨rfl,_⟩:=uN hc rfl
 split at h
 case isFalse=>cases h
 rename_i Vd
 cases h
 unfold aaF
 simp only[if_pos Vd]
 exact(iR.of (vF hS (e:=z.length) false (fun x hx=>by rw[aLM hx];exact FL hz) (Er hz _)) (NS hS) :)
theorem aeE (hS:SR V lo fD) {z:List Value} (hz:(z.map kX).all bN=true):iR lo fD V (some (.pointer (some ⟨V.P.length,0,none⟩),V.P++[.row z z.length false])) (.ptr V.H.length 0 0 0) (V.H++[.row 0 [elemOf (z.map kX)] z.length true]):=by
 exact(iR.of (vF hS (es:=[elemOf (z.map kX)]) (r:=z) (e:=z.length) false (fun x hx=>by rw[aLH] at hx;subst hx;exact FL hz) (by simp only[aLp,aLI,aLJ,pW hz];exact VL.zero z)) (ZI hS) :)
theorem afF (hS:SR V lo fD) {x v:VV} {u:Value} {H':aA} {bf:Bool} (hx:VR V x u) (hs:(aB x).all bN=true) (h:(if bf=true then some (VV.cJ x 0,V.H) else some (VV.ptr V.H.length 0 0 0,V.H++[fC.row 0 [x] (aB x).length true]))=some (v,H')) :
  iR lo fD V (if (aX u).all iQ then some (.pointer (some ⟨V.P.length,0,none⟩),V.P++[.row (aX u) (aX u).length false]) else none) v H':=by
 have hc:=hx.cells (YK hs)
 rw[if_pos (hc.iQ hs)]
 split at h
 ·cases h
  have g:=Ea hS (.row (aX u) (aX u).length false)
  refine(iR.of g ?_ :)
  have hm:=hc.mono g.2.toUp
  refine .cJ x 0 V.P.length 0 (aX u) (aX u).length false (.inr rfl) (by simp) (by rw[hc.length];omega) ?_
  rw[aLN,aLu (by rw[hc.length];exact aKB _)]
  exact hm
 ·cases h
  rw[hc.length]
  exact(iR.of (vF hS (es:=[x]) (r:=aX u) (e:=(aB x).length) false (fun y hy=>by rw[aLH] at hy;subst hy;rfl) (by simpa using hc)) (ZI hS) :)
theorem take_set {α:Type} {l:List α} {i:Nat} {x:α} (h:i<l.length):l.set i x=l.take i++x::l.drop (i+1):=by
 rw[aLw,if_pos h]
inductive YU (V:View):List (Nat×VV)→List (Nat×Value)→Prop
 | nil:YU V [] []
 | cons {i:Nat} {x:VV} {v:Value} {xs:List (Nat×VV)} {vs:List (Nat×Value)} (h:VR V x v) (hs:YU V xs vs):YU V ((i,x)::xs) ((i,v)::vs)
theorem Hy {e n:Nat}:∀ {parts:List (Nat×VV)} {CR:List (Nat×Value)} {es oZ:List VV} {r:List Value},es.length=n→(∀x∈es,(aB x).length=e)→VL V (es.flatMap aB) r →
  YU V parts CR→yW e es parts=some oZ→oZ.length=n∧(∀x∈oZ,(aB x).length=e)∧∃r',Au ((List.range n).map fun i=>(i*e,e)) r CR=some r'∧VL V (oZ.flatMap aB) r'
 |
  [],_,es,oZ,r,hn,he,hl,.nil,h=>by
  cases h
  exact⟨hn,he,r,rfl,hl⟩
 |
  (i,v)::parts,(_,w)::CR,es,oZ,r,hn,he,hl,.cons hv hps,h=>by
  unfold yW at h
  split at h
  case isFalse=>cases h
  rename_i hc
  obtain⟨hi,hve,ET⟩:=hc
  have mQ:=hv.cells (YK ET)
  have hwl:(aX w).length=e:=by rw[mQ.length,hve]
  have BX:=hl.length
  rw[mN he] at BX
  have hm:(i+1)*e≤es.length*e:=aK2 _ hi
  rw[aLq] at hm
  have jP:∀x∈es.set i v,(aB x).length=e:=fun x hx=>by
   rcases aLG hx with h | h
   ·exact he x h
   ·subst h;exact hve
  have HY:VL V ((es.set i v).flatMap aB) (r.take (i*e)++aX w++r.drop (i*e+e)):=by
   have h1:=hl.kM mQ (i*e)
   have h2:=AE he (new:=[v]) (fun z hz=>by rw[aLH] at hz;subst hz;exact hve) i
   simp only[aLp,aLI,aLJ] at h2
   rw[h2,MD hi] at h1
   unfold kM at h1
   rw[hwl] at h1
   exact h1
  obtain⟨g1,g2,r',g3,g4⟩:=Hy (n:=n) (by rw[List.length_set];exact hn) jP HY hps h
  refine⟨g1,g2,r',?_,g4⟩
  unfold Au
  have hr:((List.range n).map fun i=>(i*e,e))[i]? = some (i*e,e):=by simp[List.getElem?_range (show i<n by omega)]
  simp only[hr]
  rw[if_pos ⟨hwl,by omega⟩]
  exact g3
theorem Lh (hE:ER V ρ mR):∀parts:List (Nat×Operand),YU V (parts.map fun(i,x)=>(i,fN ρ x)) (parts.map fun(i,x)=>(i,ev mR x))
 | [] => .nil
 | (i,x)::parts => .cons (hE.ev x) (Lh hE parts)
theorem Kc {e:Nat}:∀ {parts:List (Nat×VV)} {es oZ:List VV},(es.all fun x=>(aB x).all bN)=true→yW e es parts=some oZ→(oZ.all fun x=>(aB x).all bN)=true
 | [],es,oZ,h,hf=>by cases hf;exact h
 |
  (i,v)::parts,es,oZ,h,hf=>by
  unfold yW at hf
  split at hf
  case isFalse=>cases hf
  rename_i hc
  refine Kc ?_ hf
  rw[aKP] at h ⊢
  intro x hx
  rcases aLG hx with h1 | h1
  ·exact h x h1
  ·subst h1;exact hc.2.2
theorem aeO (hS:SR V lo fD) {lr:Bool} {z:List Value} {n:Nat} {parts:List (Nat×VV)} {CR:List (Nat×Value)} {v:VV} {H':aA} (hp:YU V parts CR) (h:mW lr z n parts V.H=some (v,H')):iR lo fD V (atN z n CR V.P) v H':=by
 unfold mW at h
 split at h
 case h_2=>cases h
 rename_i es QB
 split at h
 case isFalse=>cases h
 rename_i hz
 obtain⟨g1,g2,r',g3,g4⟩:=Hy (V:=V) (n:=n) (by simp) (fun x hx=>by rw[aLM hx];exact FL hz) (Er hz n) hp QB
 have ET:=Kc (by
  rw[aKP]
  intro x hx
  rw[aLM hx,pW hz]
  exact hz) QB
 unfold atN
 simp only[g3]
 rw[if_pos (g4.iQ (CW ET))]
 split at h
 ·cases h
  exact(iR.of (vF hS (e:=z.length) false g2 g4) (NS hS) :)
 ·cases h
  have k:=Ea hS (.row r' z.length false)
  refine(iR.of k ?_ :)
  have hm:=g4.mono k.2.toUp
  have BX:=g4.length
  rw[mN g2] at BX
  subst g1
  refine .tree es _ V.P.length 0 es.length r' z.length false (.inr rfl) (by simp) (by omega) (aKB _) g2 ⟨rfl,rfl,rfl⟩ ?_
  rw[aLN,aLu (by omega)]
  exact hm
theorem R8 (hS:SR V lo fD) {b g e o:Nat} {es nw:List VV} {pn:List Value} (hr:V.H[b]? = some (.row g es e true)) (dS:lo≤b) (xG:o+nw.length≤es.length) (hn:∀x∈nw,(aB x).length=e) (ET:(nw.flatMap aB).all bN=true) (hl:VL V (nw.flatMap aB) pn) :
  ∃V',V.P.write fD (V.m b) (o*e) pn=some V'.P∧V'.H=V.H.set b (.row g (dF es o nw) e true)∧SR V' lo fD∧HF lo V V':=by
 obtain⟨r,q,h1,h2,h3⟩:=hS.row b g es e true hr
 have BX:=h3.length
 rw[mN h2] at BX
 have Hw:=(hS.wr b g es e hr).2 dS
 have Qj:=hl.length
 rw[mN hn] at Qj
 have hm:(o+nw.length)*e≤es.length*e:=aK2 _ xG
 rw[aK6] at hm
 have jP:∀x∈dF es o nw,(aB x).length=e:=fun x hx=>by
  rcases L6 hx with h | h
  ·exact h2 x h
  ·exact hn x h
 have HY:VL V ((dF es o nw).flatMap aB) (kM r (o*e) pn):=by
  rw[←AE h2 hn]
  exact h3.kM hl _
 obtain⟨g1,g2⟩:=FW hS hr dS jP HY h1
 refine⟨{ V with H:=V.H.set b (.row g (dF es o nw) e true),P:=V.P.set (V.m b) (.row (kM r (o*e) pn) e q) },?_,rfl,g1,g2⟩
 unfold aJ.write
 simp only[h1]
 rw[if_pos ⟨Hw,by omega,hl.iQ ET⟩]
theorem XG (hS:SR V lo fD) {x y v:VV} {u w:Value} {size:Nat} {H':aA} (hx:VR V x u) (hy:VR V y w) (h:MU lo size x y V.H=some (v,H')):iR lo fD V (copyV fD size u w V.P) v H':=by
 unfold MU at h
 split at h
 ·rename_i new hs
  obtain⟨h1,_⟩:=AL hS hy hs
  cases h
  cases hx with
  | tree es k b o c r e p hF hb ho hc he hk hl=>exact hk.elim
  |
   pP =>
   unfold copyV
   simp only[h1]
   exact iR.same hS (.sc _ rfl)
 ·rename_i b g o d c new hs
  obtain⟨h1,h2,h3,h4⟩:=AL hS hy hs
  split at h
  case h_2=>cases h
  rename_i es e hr
  rw[cB] at hr
  split at h
  case isFalse=>cases h
  rename_i hc
  obtain⟨rfl,dS,xG⟩:=hc
  cases h
  cases hx with
  |
   ref b g o n c a n' c' bI hg ha hq =>
   obtain⟨rfl,rfl,rfl⟩:=ha _ _ _ hr
   have apM:(new.take n').length=Nat.min new.length n':=by rw[List.length_take];exact Nat.min_comm _ _
   obtain⟨pn,h5,h6⟩:=h4 (Nat.min new.length n') (Nat.min_le_left _ _)
   have ht:new.take (Nat.min new.length n')=new.take n':=by
    rw[←apM,List.length_take,←aLA,aLO]
   rw[ht] at h6
   have Pe:∀x∈new.take n',(aB x).length=e:=fun x hx=>h2 x (aLy hx)
   have ET:((new.take n').flatMap aB).all bN=true:=by
    rw[aKP] at h3 ⊢
    intro x hx
    obtain⟨y,hy,CT⟩:=aLD.1 hx
    exact h3 x (aLD.2 ⟨y,aLy hy,CT⟩)
   obtain⟨V',k1,k2,k3,k4⟩:=R8 hS hr dS xG Pe ET h6
   refine⟨.int .i64 (Nat.min new.length n'),V',?_,k2,k3,k4,?_⟩
   ·unfold copyV
    simp only[h1,h5,k1]
    rfl
   ·rw[apM]
    exact .sc _ rfl
 ·cases h
theorem UW (hS:SR V lo fD) {x:VV} {u:Value} {z:List Value} {H':aA} (hx:VR V x u) (h:Tz lo z x V.H=some H'):iR lo fD V (S3 fD z u V.P) tK H':=by
 unfold Tz at h
 split at h
 case h_2=>cases h
 rename_i b g o n c
 split at h
 case h_2=>cases h
 rename_i es e hr
 rw[cB] at hr
 cases hx with
 |
  ref b g o n c a n' c' bI hg ha hq =>
  obtain⟨rfl,rfl,rfl⟩:=ha _ _ _ hr
  unfold S3
  simp only
  split at h
  ·rename_i h0
   cases h
   rw[if_pos h0]
   exact iR.same hS (.eJ [] [] .nil)
  ·rename_i h0
   rw[if_neg h0]
   split at h
   case isFalse=>cases h
   rename_i hc
   obtain⟨rfl,dS,xG,hz⟩:=hc
   cases h
   have Pe:∀x∈aLr n' (elemOf (z.map kX)),(aB x).length=z.length:=fun x hx=>by rw[aLM hx];exact FL hz
   obtain⟨V',k1,k2,k3,k4⟩:=R8 hS hr dS (nw:=aLr n' (elemOf (z.map kX))) (by simpa using xG) Pe (CW (by
    rw[aKP]
    intro x hx
    rw[aLM hx,pW hz]
    exact hz)) (Er hz n')
   refine⟨undef,V',?_,k2,k3,k4,.eJ [] [] .nil⟩
   rw[k1]
   rfl
end
end Go.PM
namespace Go.PM
section
variable {V:View} {lo fD:Nat} {ρ:cW} {mR:Env}
theorem Ud {x v:VV} {u:Value} {neg:Bool} (hx:VR V x u) (h:IW neg x V.H=some v):∃w,akO neg u=some w∧VR V v w:=by
 unfold IW at h
 split at h
 ·cases h
  cases hx with
  | tree es k b o c r e p hF hb ho hc he hk hl=>exact hk.elim
  | pP=>exact⟨_,rfl,.sc _ rfl⟩
 ·cases h
  cases hx with
  | pP k hk=>rcases hk with hk | hk<;>cases hk
  | tree=>exact⟨_,rfl,.sc _ rfl⟩
 ·cases h
  cases hx with
  | tree=>exact⟨_,rfl,.sc _ rfl⟩
 ·obtain⟨⟨es,e,w⟩,hr,rfl⟩:=cS h
  rw[cB] at hr
  cases hx with
  |
   ref b g o n c a n' c' bI hg ha hq =>
   obtain⟨rfl,rfl,rfl⟩:=ha _ _ _ hr
   exact⟨_,rfl,.sc _ rfl⟩
 ·cases h
theorem aeB {x v:VV} {u:Value} (hx:VR V x u) (h:rL x V.H=some v):∃w,ayB u=some w∧VR V v w:=by
 unfold rL at h
 split at h
 ·cases h
  cases hx<;>exact⟨_,rfl,.sc _ rfl⟩
 ·obtain⟨⟨es,e,w⟩,hr,rfl⟩:=cS h
  rw[cB] at hr
  cases hx with
  |
   ref b g o n c a n' c' bI hg ha hq =>
   obtain⟨rfl,rfl,rfl⟩:=ha _ _ _ hr
   exact⟨_,rfl,.sc _ rfl⟩
 ·cases h
theorem UD {x v:VV} {u:Value} {off:Nat} (hx:VR V x u) (h:xW off x V.H=some v):∃w,alE off u=some w∧VR V v w:=by
 unfold xW at h
 split at h
 ·cases h
  cases hx with
  | cJ x off b o r e p hF hb ho hl=>exact⟨_,rfl,by rw[aKN];exact .cJ _ _ b o r e p hF hb ho hl⟩
 ·obtain⟨⟨es,e,w⟩,hr,rfl⟩:=cS h
  rw[cB] at hr
  cases hx with
  |
   ptr b g j off a bI hg ha hq =>
   have:=ha _ _ _ hr
   subst this
   refine⟨_,rfl,.ptr _ _ _ _ _ bI hg (fun oZ e' w' I3 => ?_) fun a0 h=>by cases h;have:=hq _ rfl;exact this⟩
   rw[hr] at I3
   cases I3
   rw[aKN]
 ·cases h
theorem afC {x v:VV} {u:Value} (hx:VR V x u) (h:Nx x V.H=some v):∃w,aBW u=some w∧VR V v w:=by
 unfold Nx at h
 split at h
 ·cases h
  cases hx with
  | cJ x off b o r e p hF hb ho hl=>exact⟨_,rfl,.cJ _ _ b o r e p hF hb ho hl⟩
 ·obtain⟨⟨es,e,w⟩,hr,rfl⟩:=cS h
  rw[cB] at hr
  cases hx with
  |
   ptr b g j off a bI hg ha hq =>
   have:=ha _ _ _ hr
   subst this
   exact⟨_,rfl,.ptr _ _ _ _ _ bI hg ha hq⟩
 ·cases h
theorem YZ {c a b v:VV} {u x y:Value} (hc:VR V c u) (ha:VR V a x) (hb:VR V b y) (h:UC c a b=some v):∃t,u = .bool t∧VR V v (if t then x else y):=by
 unfold UC at h
 split at h
 ·rename_i t
  cases h
  obtain⟨rfl,_⟩:=uN hc rfl
  refine⟨t,rfl,?_⟩
  cases t
  ·exact hb
  ·exact ha
 ·cases h
theorem abR {x v:VV} {u:Value} {i:Nat} (hx:VR V x u) (h:amQ i x=some v):∃w,awU i u=some w∧VR V v w:=by
 unfold amQ at h
 split at h
 ·cases hx with
  |
   eJ cs ps hl =>
   obtain⟨w,hw,hv⟩:=hl.get h
   exact⟨w,by simpa[awU] using hw,hv⟩
 ·cases h
theorem adN {x v:VV} {u:Value} {agg:Bool} {off size:Nat} (hx:VR V x u) (h:arN agg off size x=some v):∃w,arT agg off size u=some w∧VR V v w:=by
 unfold arN at h
 split at h
 ·rename_i cs
  cases hx with
  |
   agg cs ps hl =>
   split at h
   ·rename_i ha
    split at h
    ·rename_i hs
     cases h
     refine⟨.agg ((ps.drop off).take size).toArray,?_,.agg _ _ ((hl.drop off).take size)⟩
     unfold arT
     simp only[ha,if_true]
     rw[if_pos (by simpa[hl.length] using hs)]
     congr 2
     apply Array.ext'
     simp[List.extract_eq_take_drop]
    ·cases h
   ·rename_i ha
    obtain⟨w,hw,hv⟩:=hl.get h
    refine⟨w,?_,hv⟩
    unfold arT
    simp only[ha]
    simpa using hw
 ·cases h
theorem QG {ks:List CK}:∀ {xs ys:List VV} {us ws:List Value} {t:Bool},VL V xs us→VL V ys ws→tL ks xs ys=some t→sU ks us ws=some t:=by
 induction ks with
 |
  nil =>
  intro xs ys us ws t h1 h2 h
  cases h1 with
  |
   nil=>cases h2 with
   | nil=>exact h
   | cons=>simp[tL] at h
  | cons=>simp[tL] at h
 |
  cons k ks ih =>
  intro xs ys us ws t h1 h2 h
  cases h1 with
  | nil=>simp[tL] at h
  |
   cons x u xs us hx Na=>cases h2 with
   | nil=>cases x<;>simp[tL] at h
   |
    cons y w ys ws hy hys =>
    cases hx with
    |
     sc _ _=>cases hy with
     |
      sc _ _ =>
      simp only[tL] at h
      simp only[sU]
      split at h
      ·rename_i h1
       rw[h1]
       exact ih Na hys h
      ·rename_i h1
       rw[h1]
       exact h
      ·cases h
     | _=>simp[tL] at h
    | _=>simp[tL] at h
theorem N4 {places:List (Nat×Nat)}:∀ {parts:List (Nat×VV)} {CR:List (Nat×Value)} {cs CH:List VV} {r:List Value},VL V cs r→YU V parts CR→AX places cs parts=some CH →
  ∃r',Au places r CR=some r'∧VL V CH r'
 | [],_,cs,CH,r,hl,.nil,h=>by cases h;exact⟨r,rfl,hl⟩
 |
  (i,v)::parts,(_,w)::CR,cs,CH,r,hl,.cons hv hps,h=>by
  unfold AX at h
  unfold Au
  split at h
  ·cases h
  ·rename_i off size Qj
   simp only[Qj]
   split at h
   case isFalse=>cases h
   rename_i hc
   have mQ:=hv.cells (fun e=>by subst e;cases hc.2.2)
   rw[if_pos ⟨by rw[mQ.length];exact hc.1,by rw[hl.length];exact hc.2.1⟩]
   exact N4 (((hl.take off).append mQ).append (hl.drop _)) hps h
theorem MI:∀ {es:List VV} {r:List Value} {bs:List UInt8},VL V (es.flatMap aB) r→KD es=some bs→yS r=some bs
 | [],_,bs,.nil,h=>h
 |
  x::es,r,bs,hl,h=>by
  unfold KD at h
  split at h
  ·rename_i e;cases e
  ·rename_i n r' e
   cases e
   obtain⟨t,ht,rfl⟩:=cS h
   rw[aLp] at hl
   cases hl with
   |
    cons _ u _ us hu hus =>
    obtain⟨rfl,_⟩:=uN hu rfl
    unfold yS
    rw[MI hus ht]
    rfl
  ·cases h
theorem lift {r:Option VV} {v:VV} {H':aA} {s:Option (Value×aJ)} (h:r.map (·,V.H)=some (v,H')) (k:r=some v→iR lo fD V s v V.H):iR lo fD V s v H':=by
 obtain⟨a,ha,he⟩:=cS h
 cases he
 exact k ha
theorem acI (hS:SR V lo fD) (hE:ER V ρ mR) {fl:Fl} {o:qH} {v:VV} {H':aA} {q:Bool} (h:vop fl lo o ρ V.H=some (v,H')):iR lo fD V (lZ fD q o mR V.P) v H':=by
 cases o<;>simp only[vop] at h
 case mv x=>cases h;rw[arD];exact iR.same hS (hE.ev x)
 case pick c a b =>
  refine lift h fun h => ?_
  obtain⟨t,ht,hv⟩:=YZ (hE.ev c) (hE.ev a) (hE.ev b) h
  rw[aeF,ht]
  exact iR.same hS hv
 case bin op x y=>rw[agW];exact lift h fun h=>C4 (f:=dK op) hS (fun _ _ _=>akS) (hE.ev x) (hE.ev y) h
 case eqb neg x y=>rw[alA];exact lift h fun h=>C4 (f:=Oc neg) hS (fun _ _ _=>amD) (hE.ev x) (hE.ev y) h
 case isnil neg x =>
  rw[YH]
  refine lift h fun h => ?_
  obtain⟨w,h1,h2⟩:=Ud (hE.ev x) h
  exact iR.pure hS h1 h2
 case eqagg neg ks x y =>
  rw[XQ]
  refine lift h fun h => ?_
  unfold XR at h
  split at h
  case h_2=>cases h
  rename_i a b hx hy
  obtain⟨t,ht,rfl⟩:=cS h
  have h1:=hE.ev x
  have h2:=hE.ev y
  rw[hx] at h1
  rw[hy] at h2
  generalize ev mR x=u at h1 ⊢
  generalize ev mR y=w at h2 ⊢
  cases h1 with
  |
   agg cs ps h1=>cases h2 with
   |
    agg CH ps' h2 =>
    refine iR.pure hS (pv := .bool (t != neg)) ?_ (.sc _ rfl)
    unfold ahY
    simp only
    rw[QG h1 h2 ht]
    rfl
 case un op x=>rw[aqY];exact lift h fun h=>G9 (f:=pun op) hS (fun _ _=>asW) (hE.ev x) h
 case cvt k x=>rw[anZ];exact lift h fun h=>G9 (f:=Xx k) hS (fun _ _=>ajM) (hE.ev x) h
 case cvs x =>
  have e:lZ fD q (.cvs x) mR V.P=(acX (ev mR x)).map (·,V.P):=dY rfl
  rw[e];exact lift h fun h=>G9 (f:=acX) hS (fun _ _=>aiO) (hE.ev x) h
 case ext x i =>
  rw[amN]
  refine lift h fun h => ?_
  obtain⟨w,h1,h2⟩:=abR (hE.ev x) h
  exact iR.pure hS h1 h2
 case fld agg off size x =>
  rw[agT]
  refine lift h fun h => ?_
  obtain⟨w,h1,h2⟩:=adN (hE.ev x) h
  exact iR.pure hS h1 h2
 case build zero places parts =>
  obtain⟨cs,P4,he⟩:=cS h
  cases he
  obtain⟨r,h1,h2⟩:=N4 (VL.zero zero) (Lh hE parts) P4
  rw[XP,h1]
  exact iR.same hS (.agg _ _ h2)
 case chk x =>
  rw[ajK]
  refine lift h fun h => ?_
  obtain⟨w,h1,h2⟩:=afC (hE.ev x) h
  exact iR.pure hS h1 h2
 case faddr off x =>
  rw[XU]
  refine lift h fun h => ?_
  obtain⟨w,h1,h2⟩:=UD (hE.ev x) h
  exact iR.pure hS h1 h2
 case iaddr size x i =>
  rw[Xn]
  refine lift h fun h => ?_
  obtain⟨w,h1,h2⟩:=Wc hS (hE.ev x) (hE.ev i) h
  exact iR.pure hS h1 h2
 case sidx x i =>
  have e:lZ fD q (.sidx x i) mR V.P=(Kf (ev mR x) (ev mR i)).map (·,V.P):=dY rfl
  rw[e];exact lift h fun h=>C4 (f:=Kf) hS (fun _ _ _=>aeT) (hE.ev x) (hE.ev i) h
 case ssub x l h' =>
  refine lift h fun h => ?_
  unfold zU at h
  split at h
  case h_2=>cases h
  rename_i s lv hv hx h1 h2
  split at h
  case h_2=>cases h
  rename_i a b I0
  cases h
  obtain⟨e1,_⟩:=uN (hE.ev x) hx
  have e:lZ fD q (.ssub x l h') mR V.P=some (.string (s.extract a b),V.P):=by
   rw[dY rfl]
   simp only[kE,e1]
   rw[De hE h1,De hE h2,I0]
   rfl
  rw[e]
  exact iR.same hS (.sc _ rfl)
 case mkfn f gG =>
  cases h
  rw[adD]
  exact iR.same hS (.xU _ _ _ (hE.evs gG))
 case len x =>
  rw[amX]
  refine lift h fun h => ?_
  obtain⟨w,h1,h2⟩:=aeB (hE.ev x) h
  exact iR.pure hS h1 h2
 case slen x =>
  have e:lZ fD q (.slen x) mR V.P=(Dk (ev mR x)).map (·,V.P):=dY rfl
  rw[e];exact lift h fun h=>G9 (f:=Dk) hS (fun _ _=>afO) (hE.ev x) h
 case min x y=>rw[anP];exact lift h fun h=>C4 (f:=WY) hS (fun _ _ _=>alJ) (hE.ev x) (hE.ev y) h
 case max x y=>rw[alQ];exact lift h fun h=>C4 (f:=Wo) hS (fun _ _ _=>alW) (hE.ev x) (hE.ev y) h
 case load agg size p =>
  rw[afB]
  refine lift h fun h => ?_
  obtain⟨w,h1,h2⟩:=PJ hS (hE.ev p) h
  exact iR.pure hS h1 h2
 case sub size x l hh m =>
  rw[alF]
  exact lift h fun h=>afV hS hE (hE.ev x) h
 case b2s x =>
  split at h
  ·cases h
  rename_i y fW
  split at h
  case h_2=>cases h
  rename_i es QB
  obtain⟨bs,hbs,he⟩:=cS h
  cases he
  obtain⟨h1,h2,h3,h4⟩:=AL hS (hE.ev x) QB
  obtain⟨pn,h5,h6⟩:=h4 es.length (aKB _)
  rw[aLO] at h6
  have hb:=MI h6 hbs
  have hx:=hE.ev x
  have e:lZ fD q (.b2s x) mR V.P=some (.string ⟨bs.toArray⟩,V.P):=by
   apply sS
   simp only[pop]
   generalize ev mR x=u at *
   cases u<;>first | (exfalso;simp[wC] at h1;done) | skip
   case string s =>
    generalize fN ρ x=y at *
    cases hx with
    | any=>simp[cZ] at QB
    | sc _ _=>exact absurd rfl (fW _)
   case slice a n c =>
    injection h1 with h1
    subst h1
    cases a with
    |
     none =>
     simp only[lD] at h5
     split at h5
     ·cases h5
      cases hb
      rfl
     ·cases h5
    |
     some a =>
     obtain⟨b,o,sp⟩:=a
     cases sp with
     | some s=>simp[lD] at h5
     |
      none =>
      simp only[lD,Nat.mul_one] at h5
      simp only[h5,hb]
      rfl
  rw[e]
  exact iR.same hS (.sc _ rfl)
 case new zero =>
  split at h
  case isFalse=>cases h
  rename_i hz
  cases h
  rw[ajA]
  exact aeE hS hz
 case box x =>
  split at h
  case isFalse=>cases h
  rename_i hs
  rw[anJ]
  exact afF hS (hE.ev x) hs h
 case make zero bytes l c =>
  split at h
  case isFalse=>cases h
  rename_i hz
  rw[adR]
  exact XI hS hz (hE.ev l) (hE.ev c) h
 case lit zero n parts =>
  rw[ajW]
  exact aeO hS (Lh hE parts) h
 case store size p x =>
  obtain⟨a,ha,he⟩:=cS h
  cases he
  rw[YS]
  exact Vw hS (hE.ev p) (hE.ev x) ha
 case app size bytes x y =>
  split at h
  case h_2=>cases h
  rename_i new hn
  obtain⟨h1,h2,h3,h4⟩:=AL hS (hE.ev y) hn
  obtain⟨pn,h5,h6⟩:=h4 new.length (aKB _)
  rw[aLO] at h6
  rw[ahK]
  unfold awY
  simp only[h1,h5]
  exact Ki hS (hE.ev x) h2 h3 h6 h
 case appz zero bytes x n =>
  split at h
  case h_2=>cases h
  rename_i k hk
  split at h
  case isFalse=>cases h
  rename_i hc
  obtain⟨e1,_⟩:=uN (hE.ev n) hk
  have Pe:∀x∈aLr k.toNat (elemOf (zero.map kX)),(aB x).length=zero.length:=fun x hx=>by rw[aLM hx];exact FL hc.2.2
  have:=Ki hS (hE.ev x) Pe (CW (by
    rw[aKP]
    intro x hx
    rw[aLM hx,pW hc.2.2]
    exact hc.2.2)) (Er hc.2.2 _) h
  rw[List.length_replicate] at this
  rw[acY]
  unfold aiP
  rw[e1]
  simp only[if_pos (show 0≤k∧k*(bytes:Int)≤140737488355328 from⟨hc.1,hc.2.1⟩)]
  exact this
 case copy size x y =>
  rw[adK]
  exact XG hS (hE.ev x) (hE.ev y) h
 case clear zero x =>
  obtain⟨a,ha,he⟩:=cS h
  cases he
  rw[Xr]
  exact UW hS (hE.ev x) ha
 all_goals cases h
end
end Go.PM
namespace Go.PM
def bare (F:Nat→Prop) (P:aJ):View:=⟨fun _=>0,F,[],P,0⟩
theorem Dx {es:List VV}:aO es=true↔∀x∈es,bA x=true:=by
 induction es with
 | nil=>simp[aO]
 | cons x xs ih=>simp[aO,ih]
theorem Fu {x:VV} (h:bA x=true):aO (aB x)=true:=by
 unfold aB
 split
 ·simpa[bA] using h
 ·simp[aO,h]
theorem Pv {es:List VV} (h:aO es=true):aO (es.flatMap aB)=true:=by
 rw[Dx] at h ⊢
 intro x hx
 obtain⟨y,hy,CT⟩:=aLD.1 hx
 exact Dx.1 (Fu (h y hy)) x CT
theorem Ky {es:List VV} {k:TK} (h:bA (.tree es k)=true):k = .op∧aO es=true∧uni es=true:=by
 simp only[bA,aK9,decide_eq_true_eq] at h
 exact⟨h.1.1,h.1.2,h.2⟩
theorem Mr {x:VV} (h:bA x=true):x ≠ .any:=by
 rintro rfl
 cases h
theorem atV {es:List VV} (h:uni es=true):∃e,∀x∈es,(aB x).length=e:=by
 cases es with
 | nil=>exact⟨0,fun x hx=>by cases hx⟩
 |
  cons x xs =>
  refine⟨(aB x).length,fun y hy => ?_⟩
  rcases aLP.1 hy with rfl | hy
  ·rfl
  ·have:=aKP.1 h y hy
   simpa using this
section
variable {V V':View}
theorem VR.pure {x:VV} {v:Value} (hF:∀b,V.F b→V'.F b∧V'.P[b]? = V.P[b]?) (h:VR V x v):bA x=true→VR V' x v:=by
 induction h using VR.rec (motive_2:=fun xs vs _=>aO xs=true→VL V' xs vs) with
 | any=>intro hp;cases hp
 | sc _ h=>intro _;exact .sc _ h
 | agg cs ps _ ih=>intro hp;exact .agg _ _ (ih hp)
 | eJ cs ps _ ih=>intro hp;exact .eJ _ _ (ih hp)
 | pP k hk=>intro _;exact .pP k hk
 | tree es k b o c r e p X0 hb ho hc he hk _ ih=>intro hp;exact .tree es k b o c r e p (hF _ X0).1 (by rw[(hF _ X0).2];exact hb) ho hc he hk (ih (Pv (Ky hp).2.1))
 | cJ x off b o r e p X0 hb ho _ ih=>intro hp;exact .cJ x off b o r e p (hF _ X0).1 (by rw[(hF _ X0).2];exact hb) ho (ih (Fu hp))
 | ref=>intro hp;cases hp
 | ptr=>intro hp;cases hp
 | xU f gG ps _ ih=>intro hp;exact .xU _ _ _ (ih hp)
 | nil=>exact .nil
 |
  cons x v xs vs _ _ ih Yj =>
  rename_i hp
  simp only[aO,aK9] at hp
  exact .cons _ _ _ _ (ih hp.1) (Yj hp.2)
theorem VL.pure {xs:List VV} {vs:List Value} (hF:∀b,V.F b→V'.F b∧V'.P[b]? = V.P[b]?) (h:VL V xs vs) (hp:aO xs=true):VL V' xs vs:=by
 induction xs generalizing vs with
 | nil=>cases h;exact .nil
 |
  cons x xs ih=>cases h with
  |
   cons _ v _ vs h hs =>
   simp only[aO,aK9] at hp
   exact .cons _ _ _ _ (h.pure hF hp.1) (ih hs hp.2)
theorem VL.flatten {es:List VV} {ps:List Value} (h:VL V es ps) (hp:aO es=true):VL V (es.flatMap aB) (ps.flatMap aX):=by
 induction es generalizing ps with
 | nil=>cases h;exact .nil
 |
  cons x xs ih =>
  cases h with
  |
   cons _ v _ vs h hs =>
   simp only[aO,aK9] at hp
   rw[aLp,aLp]
   exact(h.cells (Mr hp.1)).append (ih hs hp.2)
theorem SG {P P':aJ} (h:P <+: P'):∀b,(bare (· < P.length) P).F b→(bare (· < P'.length) P').F b∧(bare (· < P'.length) P').P[b]? = (bare (· < P.length) P).P[b]? := by
 intro b hb
 obtain⟨L,rfl⟩:=h
 have xJ:b<P.length:=hb
 exact⟨by show b<(P++L).length;simp;omega,aKS xJ⟩
mutual
theorem real (x:VV) (hp:bA x=true) (P:aJ):∃P' pv,P <+: P'∧VR (bare (· < P'.length) P') x pv:=by
 cases x with
 | any=>cases hp
 | sc v=>exact⟨P,v,List.prefix_refl _,.sc v hp⟩
 |
  agg cs =>
  obtain⟨P',ps,h1,h2⟩:=RW cs hp P
  exact⟨P',_,h1,.agg _ _ h2⟩
 |
  eJ cs =>
  obtain⟨P',ps,h1,h2⟩:=RW cs hp P
  exact⟨P',_,h1,.eJ _ _ h2⟩
 |
  tree es k =>
  obtain⟨rfl,h1,h2⟩:=Ky hp
  obtain⟨P',ps,h3,h4⟩:=RW es h1 P
  obtain⟨e,he⟩:=atV h2
  have h5:=h4.flatten h1
  have hl:=h5.length
  rw[mN he] at hl
  have Dn:P' <+: P'++[QI.row (ps.flatMap aX) e false]:=List.prefix_append _ _
  refine⟨_,.slice (some ⟨P'.length,0,none⟩) es.length es.length,h3.trans Dn,?_⟩
  refine .tree es .op P'.length 0 es.length (ps.flatMap aX) e false (show P'.length<(P'++[QI.row (ps.flatMap aX) e false]).length by simp) (by show (P'++[QI.row (ps.flatMap aX) e false])[P'.length]? = _;simp) (by omega) (aKB _) he trivial ?_
  rw[aLN,aLu (by omega)]
  exact VL.pure (SG Dn) h5 (Pv h1)
 |
  cJ x off =>
  obtain⟨P',pv,h3,h4⟩:=real x hp P
  have h5:=h4.cells (Mr hp)
  have Dn:P' <+: P'++[QI.row (aX pv) (aX pv).length false]:=List.prefix_append _ _
  refine⟨_,.pointer (some ⟨P'.length,0+off,none⟩),h3.trans Dn,?_⟩
  refine .cJ x off P'.length 0 (aX pv) (aX pv).length false (show P'.length<(P'++[QI.row (aX pv) (aX pv).length false]).length by simp) (by show (P'++[QI.row (aX pv) (aX pv).length false])[P'.length]? = _;simp) (by rw[h5.length];omega) ?_
  rw[aLN,aLu (by rw[h5.length];exact aKB _)]
  exact VL.pure (SG Dn) h5 (Fu hp)
 | ref=>cases hp
 | ptr=>cases hp
 |
  xU f gG =>
  obtain⟨P',ps,h1,h2⟩:=RW gG hp P
  exact⟨P',_,h1,.xU _ _ _ h2⟩
theorem RW (xs:List VV) (hp:aO xs=true) (P:aJ):∃P' ps,P <+: P'∧VL (bare (· < P'.length) P') xs ps:=by
 cases xs with
 | nil=>exact⟨P,[],List.prefix_refl _,.nil⟩
 |
  cons x xs =>
  simp only[aO,aK9] at hp
  obtain⟨P1,pv,h1,h2⟩:=real x hp.1 P
  obtain⟨P2,ps,h3,h4⟩:=RW xs hp.2 P1
  exact⟨P2,pv::ps,h1.trans h3,.cons _ _ _ _ (h2.pure (SG h3) hp.1) h4⟩
end
theorem Qh {es:List VV}:sR es=true↔∀x∈es,hJ x=true:=by
 induction es with
 | nil=>simp[sR]
 | cons x xs ih=>simp[sR,ih]
theorem FZ {es:List VV} {k:TK} (h:hJ (.tree es k)=true):k = .op∧sR es=true∧uni es=true∧es.all CM=true:=by
 simp only[hJ,aK9,decide_eq_true_eq] at h
 exact⟨h.1.1.1,h.1.1.2,h.1.2,h.2⟩
theorem Yq {x:VV} (h:hJ x=true):sR (aB x)=true:=by
 unfold aB
 split
 ·simpa[hJ] using h
 ·simp[sR,h]
theorem QZ {es:List VV} (h:sR es=true):sR (es.flatMap aB)=true:=by
 rw[Qh] at h ⊢
 intro x hx
 obtain⟨y,hy,CT⟩:=aLD.1 hx
 exact Qh.1 (Yq (h y hy)) x CT
mutual
theorem V3 (x:VV) (h:hJ x=true):bA x=true:=by
 cases x with
 | sc v=>exact h
 | agg cs=>exact GO cs h
 | eJ cs=>exact GO cs h
 |
  tree es k =>
  obtain⟨h1,h2,h3,_⟩:=FZ h
  simp[bA,h1,GO es h2,h3]
 | any=>cases h
 | cJ=>cases h
 | ref=>cases h
 | ptr=>cases h
 | xU=>cases h
theorem GO (xs:List VV) (h:sR xs=true):aO xs=true:=by
 cases xs with
 | nil=>rfl
 |
  cons x xs =>
  simp only[sR,aK9] at h
  simp[aO,V3 x h.1,GO xs h.2]
end
theorem U0 {e:Nat}:∀ {es oZ:List VV},(∀x∈es,(aB x).length=e)→(∀x∈oZ,(aB x).length=e)→es.all CM=true→oZ.all CM=true→es.length=oZ.length→es.flatMap aB=oZ.flatMap aB→es=oZ
 | [],[],_,_,_,_,_,_=>rfl
 |
  x::es,y::oZ,h1,h2,h3,h4,hl,h=>by
  rw[aLp,aLp] at h
  have hx:=h1 x aLb
  have hy:=h2 y aLb
  obtain⟨e1,e2⟩:=List.append_inj h (by omega)
  simp only[aLt,aK9] at h3 h4
  have CT:x=y:=by
   have g1:=h3.1
   have g2:=h4.1
   unfold aB at e1
   split at e1<;>split at e1
   ·rw[e1]
   ·rename_i cs _ _
    subst e1
    cases g1
   ·rename_i cs
    subst e1
    cases g2
   ·injection e1
  rw[CT,U0 (fun z hz=>h1 z (aLa _ hz)) (fun z hz=>h2 z (aLa _ hz)) h3.2 h4.2 (by simpa using hl) e2]
theorem VR.uniq {x y:VV} {v:Value} (h:VR V x v) (h':VR V y v) (hx:hJ x=true) (hy:hJ y=true):x=y:=by
 induction h using VR.rec (motive_2:=fun xs vs _=>∀ys,VL V ys vs→sR xs=true→sR ys=true→xs=ys) generalizing y with
 | any=>cases hx
 |
  sc _ h=>cases h' with
  | sc _ _=>rfl
  | any=>cases hy
  | agg=>cases h
  | eJ=>cases h
  | pP=>cases h
  | tree=>cases h
  | cJ=>cases hy
  | ref=>cases hy
  | ptr=>cases hy
  | xU=>cases hy
 |
  agg cs ps h ih=>generalize hw:Value.agg ps.toArray=w at h';cases h' with
  | sc _ h'=>subst hw;cases h'
  | any=>cases hy
  |
   agg CH ps' h' =>
   injection hw with hw
   have:ps=ps':=by simpa using hw
   subst this
   rw[ih _ h' hx hy]
  | eJ=>cases hw
  | pP=>cases hw
  | tree=>cases hw
  | cJ=>cases hy
  | ref=>cases hy
  | ptr=>cases hy
  | xU=>cases hy
 |
  eJ cs ps h ih=>generalize hw:Value.tuple ps.toArray=w at h';cases h' with
  | sc _ h'=>subst hw;cases h'
  | any=>cases hy
  |
   eJ CH ps' h' =>
   injection hw with hw
   have:ps=ps':=by simpa using hw
   subst this
   rw[ih _ h' hx hy]
  | agg=>cases hw
  | pP=>cases hw
  | tree=>cases hw
  | cJ=>cases hy
  | ref=>cases hy
  | ptr=>cases hy
  | xU=>cases hy
 |
  pP k hk =>
  obtain⟨rfl,_⟩:=FZ hx
  generalize hw:Value.slice none 0 0=w at h'
  cases h' with
  | sc _ h'=>subst hw;cases h'
  | any=>cases hy
  | pP k' hk'=>obtain⟨rfl,_⟩:=FZ hy;rfl
  | agg=>cases hw
  | eJ=>cases hw
  | tree=>cases hw
  | cJ=>cases hy
  | ref=>cases hy
  | ptr=>cases hy
  | xU=>cases hy
 |
  tree es k b o c r e p hF hb ho hc he hk hl ih =>
  obtain⟨rfl,hx1,hx2,hx3⟩:=FZ hx
  generalize hw:Value.slice (some ⟨b,o,none⟩) es.length c=w at h'
  cases h' with
  | sc _ h'=>subst hw;cases h'
  | any=>cases hy
  | pP=>cases hw
  | agg=>cases hw
  | eJ=>cases hw
  |
   tree oZ k' b' o' c' r' e' p' hF' xJ ho' hc' he' hk' Fo =>
   obtain⟨rfl,hy1,hy2,hy3⟩:=FZ hy
   injection hw with h1 h2 h3
   injection h1 with h1
   injection h1 with h1 h4
   subst h1 h3 h4
   rw[hb] at xJ
   injection xJ with xJ
   injection xJ with g1 g2 g3
   subst g1 g2 g3
   rw[←h2] at Fo
   rw[U0 he he' hx3 hy3 h2 (ih _ Fo (QZ hx1) (QZ hy1))]
  | cJ=>cases hy
  | ref=>cases hy
  | ptr=>cases hy
  | xU=>cases hy
 | cJ=>cases hx
 | ref=>cases hx
 | ptr=>cases hx
 | xU=>cases hx
 | nil=>rename_i h' _ _;cases h';rfl
 |
  cons x v xs vs _ _ ih Yj =>
  rename_i ys h' hx hy
  cases h' with
  |
   cons y _ ys _ h' hs' =>
   simp only[sR,aK9] at hx hy
   rw[ih h' hx.1 hy.1,Yj _ hs' hx.2 hy.2]
end
end Go.PM
namespace Go.PM
section
variable {V:View} {lo fD:Nat}
theorem rR {α β:Type} {f:α→Option β} {x:α} {xs:List α} {r:List β} (h:(x::xs).mapM f=some r):∃y ys,f x=some y∧xs.mapM f=some ys∧r=y::ys:=by
 rw[List.mapM_cons] at h
 cases hx:f x with
 | none=>rw[hx] at h;cases h
 |
  some y =>
  rw[hx] at h
  cases hs:xs.mapM f with
  | none=>rw[hs] at h;cases h
  | some ys=>rw[hs] at h;cases h;exact⟨y,ys,rfl,rfl,rfl⟩
theorem BV {α β:Type} {f:α→Option β}:∀ {xs:List α} {r:List β},xs.mapM f=some r→r.length=xs.length
 | [],r,h=>by cases h;rfl
 |
  x::xs,r,h=>by
  obtain⟨y,ys,_,h2,rfl⟩:=rR h
  simp[BV h2]
theorem Zh {d:Nat} {H:aA} {x x':VV} (h:fz d H x=some x'):(∃cs CH,x = .agg cs∧x' = .agg CH∧CH.length=cs.length)∨(aB x=[x]∧aB x'=[x']):=by
 cases d with
 | zero=>cases h
 |
  succ d =>
  unfold fz at h
  split at h
  ·cases h
   cases x with
   | agg cs=>exact .inl ⟨cs,cs,rfl,rfl,rfl⟩
   | _=>exact .inr ⟨rfl,rfl⟩
  ·split at h
   ·obtain⟨CH,h1,rfl⟩:=cS h
    exact .inl ⟨_,_,rfl,rfl,BV h1⟩
   ·obtain⟨CH,h1,rfl⟩:=cS h;exact .inr ⟨rfl,rfl⟩
   ·obtain⟨CH,h1,rfl⟩:=cS h;exact .inr ⟨rfl,rfl⟩
   ·obtain⟨CH,h1,rfl⟩:=cS h;exact .inr ⟨rfl,rfl⟩
   ·split at h
    ·split at h
     ·obtain⟨CH,h1,rfl⟩:=cS h;exact .inr ⟨rfl,rfl⟩
     ·cases h
    ·cases h
   ·split at h
    ·split at h
     ·obtain⟨CH,h1,rfl⟩:=cS h;exact .inr ⟨rfl,rfl⟩
     ·cases h
    ·cases h
   ·obtain⟨CH,h1,rfl⟩:=cS h;exact .inr ⟨rfl,rfl⟩
   ·cases h
theorem SO {d:Nat} {H:aA} {x x':VV} (h:fz d H x=some x'):(aB x').length=(aB x).length:=by
 rcases Zh h with⟨cs,CH,rfl,rfl,h'⟩ | ⟨h1,h2⟩
 ·exact h'
 ·rw[h1,h2];rfl
def RQ (V:View) (G:Nat→Prop) (ids:List Nat):Prop:=∀i∈ids,∀g es e w,V.H[i]? = some (.row g es e w)→G (V.m i)
theorem OB (hS:SR V lo fD) {G:Nat→Prop} (hG:∀q,V.F q→G q):∀(d:Nat) (v v':VV) (pv:Value),VR V v pv→fz d V.H v=some v'→RQ V G (iW d V.H v)→VR (bare G V.P) v' pv:=by
 have hFG:∀b,V.F b→(bare G V.P).F b∧(bare G V.P).P[b]? = V.P[b]? := fun b hb=>⟨hG b hb,rfl⟩
 intro d
 induction d with
 | zero=>intro v v' pv _ h;cases h
 |
  succ d ih =>
  have ihL:∀(xs KN:List VV) (ps:List Value),VL V xs ps→xs.mapM (fz d V.H)=some KN→RQ V G (xs.flatMap (iW d V.H))→VL (bare G V.P) KN ps:=by
   intro xs
   induction xs with
   | nil=>intro KN ps hl h _;cases h;cases hl;exact .nil
   |
    cons x xs ihx =>
    intro KN ps hl h hi
    obtain⟨y,ys,h1,h2,rfl⟩:=rR h
    cases hl with
    |
     cons _ v _ vs hx Na =>
     exact .cons _ _ _ _ (ih x y v hx h1 fun i qL=>hi i (by rw[aLp];exact aLQ _ qL)) (ihx ys vs Na h2 fun i qL=>hi i (by rw[aLp];exact aLR _ qL))
  have ihC:∀(x x':VV) (ps:List Value),VL V (aB x) ps→fz d V.H x=some x'→RQ V G (iW d V.H x)→VL (bare G V.P) (aB x') ps:=by
   intro x x' ps hl h hi
   rcases Zh h with⟨cs,CH,rfl,rfl,mQ⟩ | ⟨h1,h2⟩
   ·have:=ih _ _ (.agg ps.toArray) (.agg _ _ hl) h hi
    generalize hw:Value.agg ps.toArray=w at this
    cases this with
    |
     agg _ ps' Fo =>
     injection hw with hw
     have:ps=ps':=by simpa using hw
     subst this
     exact Fo
   ·rw[h1] at hl
    rw[h2]
    cases hl with
    |
     cons _ v _ vs hx Na =>
     cases Na
     exact .cons _ _ _ _ (ih _ _ _ hx h hi) .nil
  have ihF:∀(xs KN:List VV) (ps:List Value),VL V (xs.flatMap aB) ps→xs.mapM (fz d V.H)=some KN→RQ V G (xs.flatMap (iW d V.H))→VL (bare G V.P) (KN.flatMap aB) ps:=by
   intro xs
   induction xs with
   | nil=>intro KN ps hl h _;cases h;cases hl;exact .nil
   |
    cons x xs ihx =>
    intro KN ps hl h hi
    obtain⟨y,ys,h1,h2,rfl⟩:=rR h
    rw[aLp] at hl ⊢
    have hlen:=hl.length
    have a1:=hl.take (aB x).length
    have a2:=hl.drop (aB x).length
    rw[List.take_left] at a1
    rw[List.drop_left] at a2
    rw[←aLK (aB x).length ps]
    exact(ihC x y _ a1 h1 fun i qL=>hi i (by rw[aLp];exact aLQ _ qL)).append (ihx ys _ a2 h2 fun i qL=>hi i (by rw[aLp];exact aLR _ qL))
  have aBa:∀(xs KN:List VV) (e:Nat),xs.mapM (fz d V.H)=some KN→(∀x∈xs,(aB x).length=e)→∀x∈KN,(aB x).length=e:=by
   intro xs
   induction xs with
   | nil=>intro KN e h _ x hx;cases h;cases hx
   |
    cons x xs ihx =>
    intro KN e h he z hz
    obtain⟨y,ys,h1,h2,rfl⟩:=rR h
    rcases aLP.1 hz with rfl | hz
    ·rw[SO h1];exact he x aLb
    ·exact ihx ys e h2 (fun w hw=>he w (aLa _ hw)) z hz
  intro v v' pv hv h hi
  unfold fz at h
  unfold iW at hi
  split at h
  ·rename_i hp
   cases h
   exact hv.pure hFG hp
  ·rename_i hp
   rw[if_neg hp] at hi
   split at h
   ·obtain⟨CH,h1,rfl⟩:=cS h
    cases hv with
    | agg cs ps hl=>exact .agg _ _ (ihL _ _ _ hl h1 hi)
   ·obtain⟨CH,h1,rfl⟩:=cS h
    cases hv with
    | eJ cs ps hl=>exact .eJ _ _ (ihL _ _ _ hl h1 hi)
   ·obtain⟨CH,h1,rfl⟩:=cS h
    cases hv with
    | pP k hk=>cases h1;exact .pP _ (.inl rfl)
    |
     tree es k b o c r e p hF hb ho hc he hk hl =>
     have hlen:=BV h1
     have:=VR.tree (V:=bare G V.P) CH .op b o c r e p (hG b hF) hb (by rw[hlen];exact ho) (by rw[hlen];exact hc) (aBa _ _ _ h1 he) trivial (by rw[hlen];exact ihF _ _ _ hl h1 hi)
     rw[hlen] at this
     exact this
   ·obtain⟨x',h1,rfl⟩:=cS h
    cases hv with
    |
     cJ x off b o r e p hF hb ho hl =>
     have hlen:=SO h1
     exact .cJ x' _ b o r e p (hG b hF) hb (by rw[hlen];exact ho) (by rw[hlen];exact ihC _ _ _ hl h1 hi)
   ·rename_i b g o n c
    split at h
    case h_2=>cases h
    rename_i es e w hr
    simp only[hr] at hi
    rw[cB] at hr
    split at h
    case isFalse=>cases h
    rename_i aDM
    obtain⟨hon,Fm⟩:=aDM
    obtain⟨oZ,h1,rfl⟩:=cS h
    obtain⟨r,p,k1,k2,k3⟩:=hS.row b g es e w hr
    have BX:=k3.length
    rw[mN k2] at BX
    cases hv with
    |
     ref b g o n c a n' c' bI hg ha hq =>
     obtain⟨rfl,rfl,rfl⟩:=ha _ _ _ hr
     have aiK:∀x∈(es.drop o).take n',(aB x).length=e:=fun x hx=>k2 x (aLz (aLy hx))
     have hn2:((es.drop o).take n').length=n':=by simp;omega
     have hlen:=BV h1
     rw[hn2] at hlen
     have hm:(o+n')*e≤es.length*e:=aK2 _ hon
     rw[aK6] at hm
     have hl:VL V (((es.drop o).take n').flatMap aB) ((r.drop (o*e)).take (n'*e)):=by
      have h4:=(k3.drop (o*e)).take (n'*e)
      rw[yN k2,yC (fun x hx=>k2 x (aLz hx))] at h4
      exact h4
     have hGb:G (V.m b):=hi b aLb _ _ _ _ hr
     have:=VR.tree (V:=bare G V.P) oZ .op (V.m b) (o*e) c' r e p hGb k1 (by rw[hlen];omega) (by rw[hlen];exact Fm) (aBa _ _ _ h1 aiK) trivial (by rw[hlen];exact ihF _ _ _ hl h1 fun i qL=>hi i (aLa _ qL))
     rw[hlen] at this
     exact this
   ·rename_i b g j o
    split at h
    case h_2=>cases h
    rename_i es e w hr
    simp only[hr] at hi
    rw[cB] at hr
    split at h
    case h_2=>cases h
    rename_i x hx
    simp only[hx] at hi
    obtain⟨x',h1,rfl⟩:=cS h
    obtain⟨r,p,k1,k2,k3,k4⟩:=Ob hS hr hx
    cases hv with
    |
     ptr b g j off a bI hg ha hq =>
     have:=ha _ _ _ hr
     subst this
     have hlen:=SO h1
     exact .cJ x' o (V.m b) (j*e) r e p (hi b aLb _ _ _ _ hr) k1 (by rw[hlen];exact k3) (by rw[hlen];exact ihC _ _ _ k4 h1 fun i qL=>hi i (aLa _ qL))
   ·obtain⟨CH,h1,rfl⟩:=cS h
    cases hv with
    | xU f gG ps hl=>exact .xU _ _ _ (ihL _ _ _ hl h1 hi)
   ·cases h
theorem GG (hS:SR V lo fD) {G:Nat→Prop} (hG:∀q,V.F q→G q) {d:Nat}:∀ {xs KN:List VV} {ps:List Value},VL V xs ps→xs.mapM (fz d V.H)=some KN→RQ V G (xs.flatMap (iW d V.H))→VL (bare G V.P) KN ps
 | [],KN,ps,hl,h,_=>by cases h;cases hl;exact .nil
 |
  x::xs,KN,ps,hl,h,hi=>by
  obtain⟨y,ys,h1,h2,rfl⟩:=rR h
  cases hl with
  |
   cons _ v _ vs hx Na =>
   exact .cons _ _ _ _ (OB hS hG d x y v hx h1 fun i qL=>hi i (by rw[aLp];exact aLQ _ qL)) (GG hS hG Na h2 fun i qL=>hi i (by rw[aLp];exact aLR _ qL))
def View.dD (V:View) (ids:List Nat):View:=ids.foldl View.freeze V
theorem Ac:∀(ids:List Nat) {V:View},SR V lo fD→SR (V.dD ids) lo fD∧HF lo V (V.dD ids)∧(V.dD ids).H=PM.dD V.H ids∧(V.dD ids).P=V.P∧(V.dD ids).m=V.m∧RQ V (V.dD ids).F ids
 | [],V,hS=>⟨hS,HF.refl _ _,rfl,rfl,rfl,fun i hi=>by cases hi⟩
 |
  i::ids,V,hS=>by
  obtain⟨h1,h2,h3⟩:=SF hS i
  obtain⟨g1,g2,g3,g4,g5,g6⟩:=Ac ids h1
  refine⟨g1,h2.trans g2,?_,g4.trans (alV V i),g5.trans (Ut V i),?_⟩
  ·show ((V.freeze i).dD ids).H=_
   rw[g3,Uf]
   rfl
  ·intro k hk g es e w hr
   show ((V.freeze i).dD ids).F (V.m k)
   rcases aLP.1 hk with rfl | hk
   ·exact g2.F _ (h3 _ _ _ _ hr)
   ·have I3:∃g es e w,(V.freeze i).H[k]? = some (.row g es e w):=by
     rw[Uf]
     unfold Ey
     split
     ·rename_i g' oZ e' w' hi
      by_cases hki:k=i
      ·subst hki
       exact⟨g',oZ,e',false,aKZ (aKA.1 hi).1⟩
      ·exact⟨g,es,e,w,by rw[aK0 (Ne.symm hki)];exact hr⟩
     ·exact⟨g,es,e,w,hr⟩
    obtain⟨g',oZ,e',w',I3⟩:=I3
    have:=g6 k hk _ _ _ _ I3
    rw[Ut] at this
    exact this
end
end Go.PM