/- Texts of a claim, in one: part 11. -/
import Derived.KernelRfl
import Derived.Lib.Bytealg
import Derived.Lib.ParseIntB
import Derived.Lib.LaidTab
import Derived.LaidLaws
import Derived.LaidMore
import Derived.MakeChecks
import Derived.Handed
import Derived.Test.YtinhiblbgejbdaaGreatDoorKNj
set_option linter.unusedSimpArgs false
set_option linter.unusedVariables false
namespace Go.PM
open Go.Lib
theorem ED {xs:List Int} {i:Nat} {x:Int} (h:xs[i]? = some x):jS (xs.take (i+1))=jS (xs.take i)+x:=by
 induction xs generalizing i with
 | nil=>cases h
 |
  cons y ys ih =>
  cases i with
  | zero=>injection h with h;subst h;simp[jS]
  |
   succ i =>
   rw[List.getElem?_cons_succ] at h
   rw[List.take_succ_cons,List.take_succ_cons,jS,jS,ih h]
   omega
theorem CD {xs:List Int} {k:Int} (h:∀x∈xs,-k≤x∧x≤k) (i:Nat) : -(k*xs.length)≤jS (xs.take i)∧jS (xs.take i)≤k*xs.length:=by
 induction xs generalizing i with
 | nil=>simp[jS]
 |
  cons y ys ih =>
  have hy:=h y List.mem_cons_self
  have hk:0≤k*(ys.length:Int):=Int.mul_nonneg (by omega) (by omega)
  have e:k*((y::ys).length:Int)=k*(ys.length:Int)+k:=by rw[List.length_cons,Int.natCast_add,Int.mul_add];simp
  cases i with
  | zero=>rw[e];simp only[List.take_zero,jS];omega
  |
   succ i =>
   have:=ih (fun x hx=>h x (List.mem_cons_of_mem _ hx)) i
   rw[List.take_succ_cons,jS,e]
   omega
theorem Ef (xs:List Int) (hb:∀x∈xs,-1000000000≤x∧x≤1000000000) (hn:xs.length≤1000000):TC 50 [lE xs] (VI (jS xs)):=by
 refine TC.walk ⟨true,false⟩ L6 rfl (Nat.le_of_ble_eq_true rfl) (by simp[aO,gG]) rfl ?_
 simp only[HZ,Dy,VX,Nat.reduceEqDiff,Nat.reduceAdd]
 refine bJ (fun(i:Nat) ρ H=>i≤xs.length∧H=[]∧ρ 3=VI (jS (xs.take i))∧ρ 6=lE xs∧ρ 7=VI xs.length∧ρ 8=VI i) (fun i=>xs.length-i) 0 ⟨Nat.zero_le _,rfl,rfl,rfl,rfl,rfl⟩ ?_
 rintro i ρ H ⟨hi,rfl,g3,g6,g7,g8⟩
 by_cases cX:(i:Int)<(xs.length:Int)
 ·obtain⟨x,hx⟩:∃x,xs[i]? = some x:=⟨_,List.getElem?_eq_getElem (by omega)⟩
  have e1:=aL (f:=nV) (t := .op) (H:=[]) (size:=1) (k := .i64) hx rfl
  have wi:IntKind.i64.wrap ((i:Int)+1)=((i+1:Nat):Int):=wrapN (i+1) (by omega) (by omega)
  have hs:=CD hb (i+1)
  rw[ED hx] at hs
  have w1:IntKind.i64.wrap (jS (xs.take i)+x)=jS (xs.take i)+x:=wrap64 (by omega) (by omega)
  simp only[vP,g3,g6,g7,g8,cX,e1,w1,wi,VX,Nat.reduceEqDiff,Nat.reduceAdd]
  refine⟨i+1,by omega,by omega,?_⟩
  rw[ED hx]
  (repeat' apply And.intro)<;>first | rfl | trivial
 ·have zK:i=xs.length:=by omega
  subst zK
  simp only[vP,g3,g6,g7,g8,cX,VX,Nat.reduceEqDiff,Nat.reduceAdd]
  rw[List.take_length]
  exact aI rfl
noncomputable def sZ (aA aE:Int) (cs:List aJ):List Int:=EY (fun c=>0-c.t) cs (gR aA aE cs)
theorem Qk {g:aJ→Int} {P:Int→Prop}:∀ {cs:List aJ} {st:List Int},(∀c∈cs,∀s∈st,P (s+g c))→∀x∈EY g cs st,P x
 | [],_,_,x,hx=>by cases hx
 | _::_,[],_,x,hx=>by cases hx
 |
  c::cs,s::st,h,x,hx=>by
  rw[EY] at hx
  rcases List.mem_cons.1 hx with rfl | hx
  ·exact h c List.mem_cons_self s List.mem_cons_self
  ·exact Qk (fun c hc s hs=>h c (List.mem_cons_of_mem _ hc) s (List.mem_cons_of_mem _ hs)) x hx
theorem MU {aA aE:Int} {cs:List aJ} (hc:aN cs):∀x∈sZ aA aE cs,-1000000000≤x∧x≤1000000000 :=
 Qk (P:=fun x => -1000000000≤x∧x≤1000000000) fun c Xw s hs=>by
  have h1:=hc.mem Xw
  have h2:=BF s hs
  omega
theorem qW (aA aE:Int) (cs:List aJ):(sZ aA aE cs).length=cs.length:=DO nD
open Classical in
noncomputable def mwV (aA aE:Int) (cs:List aJ):VV:=if AK aA aE cs∧cs≠[] then Cu (jS (sZ aA aE cs)) cs.length else .eX [aY [],VB false]
theorem YM (aA aE:Int) (cs:List aJ):iZ (mwV aA aE cs)=true:=by
 unfold mwV
 split
 ·exact J1 _ _
 ·rfl
theorem SG (t b:Int):∃s k,Cu t b = .eX [aY s,VB k]:=by
 unfold Cu Df
 split
 ·exact⟨_,_,rfl⟩
 ·split<;>exact⟨_,_,rfl⟩
theorem RF {aA aE:Int} {cs:List aJ} (hc:aN cs) : -24000000000≤jS (sZ aA aE cs)∧jS (sZ aA aE cs)≤24000000000:=by
 have h:=CD (k:=1000000000) (MU (aA:=aA) (aE:=aE) hc) (sZ aA aE cs).length
 rw[List.take_length,qW] at h
 have:=hc.2
 omega
theorem zM (aA aE:Int) (cs:List aJ) (hn:cs.length≤1000000000):TC 19 [VI aA,VI aE,fR cs] (mwV aA aE cs):=by
 refine TC.walk ⟨true,false⟩ Gw rfl (Nat.le_of_ble_eq_true rfl) (by simp only[aO,aT];rfl) (YM _ _ _) ?_
 simp only[Co,zH,VX,Nat.reduceEqDiff,Nat.reduceAdd]
 refine FC.J7 (IU aA aE cs hn) rfl (Uz (aI rfl) (aI rfl) (aI (aT _))) ?_
 rintro r L ⟨v,rfl,hv⟩ ho hL
 unfold mwV
 by_cases nW:AK aA aE cs
 ·have Nx:Zx (fun c=>0-c.t) aA aE cs=sZ aA aE cs:=if_pos nW
  rw[Nx] at hv
  have Oh:=LR.fz (ok:=true) (n:=0) hv
  have hlen:lY v L=some (VI cs.length):=by
   rcases hv with⟨rfl,h0⟩ | ⟨i,g,c,rfl,h2,h3⟩
   ·rw[←qW aA aE cs,h0];rfl
   ·have:=dI (b:=0+i) (o:=0) (n:=(sZ aA aE cs).length) (c:=c) (H:=L) (bF.2 (by simpa using h3))
    rw[qW] at this
    rw[qW]
    exact this
  have h24:=nW.2.2.2
  have ct:∀lo K,cS 50 [v] lo L K=K (VI (jS (sZ aA aE cs))) L:=TC.flat (Ef _ (MU nW.2.2) (by rw[qW];omega)) rfl (by simp[aO,gG]) (fz1 Oh) rfl
  have hs:=RF (aA:=aA) (aE:=aE) nW.2.2
  have c2:=BT (jS (sZ aA aE cs)) (cs.length:Int) (by omega) (by omega) (by omega) (by omega)
  by_cases hz:(cs.length:Int)=0
  ·simp only[decide_eq_true nW,hlen,hz,VX,Nat.reduceEqDiff,Nat.reduceAdd]
   rw[if_neg (fun h=>h.2 (List.length_eq_zero_iff.1 (by omega)))]
   exact aI rfl
  ·rw[if_pos ⟨nW,fun h=>hz (by rw[h];rfl)⟩]
   obtain⟨s,k,hsk⟩:=SG (jS (sZ aA aE cs)) (cs.length:Int)
   rw[hsk] at c2 ⊢
   simp only[decide_eq_true nW,hlen,hz,ct,c2,VX,Nat.reduceEqDiff,Nat.reduceAdd]
   exact aI rfl
 ·rw[if_neg (fun h=>nW h.1)]
  simp only[decide_eq_false nW,VX,Nat.reduceEqDiff,Nat.reduceAdd]
  exact aI rfl
end Go.PM
namespace Go.PM
theorem G7 {q:Rat} (h:rU q≤64):rN q=true:=by
 have h1:=Du q.num.natAbs
 have h2:=Du q.den
 have h3:bl q.num.natAbs≤rU q:=Xa (Nat.le_refl _)
 have h4:bl q.den≤rU q:=VE (Nat.le_refl _)
 unfold rN
 rw[decide_eq_true (by omega),decide_eq_true (by omega)]
 rfl
theorem T6 {t b:Int} (hb:b≠0) (ht:t.natAbs≤9223372036854775808) (Yp:b.natAbs≤9223372036854775808):Cu t b = .eX [aY (Bc (qJ t b)),VB true]:=by
 unfold Cu Df
 rw[if_neg hb,if_pos (G7 (yI ht Yp))]
end Go.PM
namespace Go.PM
def cE (f:Nat→Int):Nat→Int
 | 0=>0
 | n+1=>cE f n+f n
theorem wT {f g:Nat→Int}:∀n,cE (fun i=>f i+g i) n=cE f n+cE g n
 | 0=>rfl
 |
  n+1=>by
  have:=wT (f:=f) (g:=g) n
  simp only[cE]
  omega
theorem AB {f g:Nat→Int}:∀n,(∀i,i<n→f i≤g i)→cE f n≤cE g n
 | 0,_=>Int.le_refl _
 |
  n+1,h=>by
  have h1:=AB n fun i hi=>h i (by omega)
  have h2:=h n (by omega)
  simp only[cE]
  omega
theorem uZ {f g:Nat→Int} (n:Nat) (h:∀i,i<n→f i=g i):cE f n=cE g n :=
 Int.le_antisymm (AB n fun i hi=>Int.le_of_eq (h i hi)) (AB n fun i hi=>Int.le_of_eq (h i hi).symm)
theorem Cx:∀n,cE (fun _=>0) n=0
 | 0=>rfl
 | n+1=>by simp only[cE,Cx n];rfl
theorem Ib {G:Nat→Nat→Int} (n:Nat):∀m,cE (fun i=>cE (G i) n) m=cE (fun j=>cE (fun i=>G i j) m) n
 | 0=>by simp only[cE];rw[Cx]
 |
  m+1=>by
  have:=Ib (G:=G) n m
  simp only[cE]
  rw[wT,this]
theorem Kc {F:Nat→Nat}:∀n,(((List.range n).map F).sum:Int)=cE (fun j=>(F j:Int)) n
 | 0=>rfl
 |
  n+1=>by
  have:=Kc (F:=F) n
  rw[List.range_succ,List.map_append,List.sum_append,List.map_cons,List.map_nil,List.sum_cons,List.sum_nil,cE]
  omega
theorem RM {l:List Int} {f:Nat→Int}:∀n,n≤l.length→(∀i x,l[i]? = some x→x=f i)→jS (l.take n)=cE f n
 | 0,_,_=>rfl
 |
  n+1,h,hf=>by
  have hx:l[n]? = some l[n]:=List.getElem?_eq_getElem (by omega)
  rw[ED hx,RM n (by omega) hf,cE,hf n _ hx]
theorem Kr {a b:Int} (ha:0≤a) (hb:a≤b):∀n:Nat,cE (fun t=>if a≤(t:Int)∧(t:Int)<b then 1 else 0) n=min (n:Int) b-min (n:Int) a
 | 0=>by simp only[cE];omega
 |
  n+1=>by
  have:=Kr ha hb n
  simp only[cE]
  rw[this]
  split<;>omega
theorem W6 {n:Nat}:∀(cs:List aJ) (ls:List Int),ls.length=cs.length→(∀(i:Nat) (c:aJ) (l:Int),cs[i]? = some c→ls[i]? = some l→0≤c.t∧c.t≤l∧l≤n)→cE (fun t=>jH (t:Int) cs ls) n=jS ls-Ap cs
 | [],[],_,_=>by simp only[jH];rw[Cx];rfl
 | [],_::_,h,_=>by simp at h
 | _::_,[],h,_=>by simp at h
 |
  c::cs,l::ls,h,hb=>by
  have h1:=hb 0 c l rfl rfl
  have h2:=W6 (n:=n) cs ls (by simpa using h) fun i c l hc hl=>hb (i+1) c l hc hl
  simp only[jH]
  rw[wT,h2,Kr h1.1 h1.2.1,jS,Ap]
  omega
theorem Kw {p:Nat→Bool} {i j:Nat} (IW:i<j) (hi:p i=true) (hj:p j=true):∀n,j<n→2≤(List.range n).countP p:=by
 intro n
 induction n with
 | zero=>intro h;omega
 |
  succ n ih =>
  intro h
  rw[List.range_succ,List.countP_append]
  by_cases hjn:j=n
  ·subst hjn
   have h1:0<(List.range j).countP p:=List.countP_pos_iff.2 ⟨i,List.mem_range.2 IW,hi⟩
   rw[List.countP_singleton,hj]
   simp only[if_true]
   omega
  ·have:=ih (by omega)
   omega
section
variable {aA:Int} {cs:List aJ}
theorem G5 {k:Nat} (h:∀j,j<cs.length→(rQ cs j).toNat≤k):Lx cs≤cs.length*k:=by
 have:∀(l:List Nat),(∀i∈l,i<cs.length)→(l.map fun i=>(rQ cs i).toNat).sum≤l.length*k:=by
  intro l
  induction l with
  | nil=>intro _;simp
  |
   cons x l ih =>
   intro hl
   have h1:=ih fun i hi=>hl i (List.mem_cons_of_mem _ hi)
   have h2:=h x (hl x List.mem_cons_self)
   rw[List.map_cons,List.sum_cons,List.length_cons,Nat.succ_mul]
   omega
 have h1:=this (List.range cs.length) fun i hi=>List.mem_range.1 hi
 rwa [List.length_range] at h1
theorem yF (hc:aN cs) (hr:0≤aA∧aA≤3) {i:Nat} (hi:i<cs.length):lQ cs i≤dL (gR aA 1 cs) i∧dL (gR aA 1 cs) i<100000∧1≤rQ cs i:=by
 have hp:=Bn (aA:=aA) (aE:=1) hc hr (by decide) i hi
 have hs:=MS (aA:=aA) (aE:=1) hc hr (by decide) hi
 have hb:=hc.G0 hi
 have hw:=G5 (cs:=cs) (k:=1000) fun j hj=>by have:=(hc.G0 hj).2;omega
 have h2:=hc.2
 have ha:=hb.1
 refine⟨TU hi hp,?_,hb.2.1⟩
 clear hp
 generalize dL (gR aA 1 cs) i=x at *
 omega
theorem AT (hc:aN cs) (hr:0≤aA∧aA≤3) {i j:Nat} (hi:i<cs.length) (hj:j<cs.length) (IW:i≠j) (h:dL (gR aA 1 cs) j≤dL (gR aA 1 cs) i):dL (gR aA 1 cs) j+rQ cs j≤dL (gR aA 1 cs) i:=by
 obtain⟨a1,a2,a3⟩:=yF hc hr hi
 obtain⟨b1,b2,b3⟩:=yF hc hr hj
 have ai:=(hc.G0 hi).1
 have aj:=(hc.G0 hj).1
 rcases Int.lt_or_le (dL (gR aA 1 cs) i) (dL (gR aA 1 cs) j+rQ cs j) with aR | hle
 ·exfalso
  obtain⟨t,ht⟩:∃t:Nat,dL (gR aA 1 cs) i=t:=⟨(dL (gR aA 1 cs) i).toNat,by omega⟩
  have hb:=(K7 (aA:=aA) (aE:=1) (cs:=cs) (by decide) (t:=t) (by omega)).1
  have pi:CC cs (gR aA 1 cs) (t:Int) i=true:=by
   simp only[CC,Bool.and_eq_true,decide_eq_true_eq]
   omega
  have pj:CC cs (gR aA 1 cs) (t:Int) j=true:=by
   simp only[CC,Bool.and_eq_true,decide_eq_true_eq]
   omega
  have:2≤bz cs (gR aA 1 cs) (t:Int):=by
   unfold bz
   rcases Nat.lt_or_gt_of_ne IW with h1 | h1
   ·exact Kw h1 pi pj _ hj
   ·exact Kw h1 pj pi _ hi
  omega
 ·exact hle
def lO (aA:Int) (cs:List aJ) (i j:Nat):Int:=if dL (gR aA 1 cs) j<dL (gR aA 1 cs) i then rQ cs j else 0
theorem XR {a:Int} (hc:aN cs) (hr:0≤aA∧aA≤3) (ha:∀j,j<cs.length→lQ cs j=a) {i:Nat} (hi:i<cs.length):dL (gR aA 1 cs) i-a=cE (lO aA cs i) cs.length:=by
 obtain⟨a1,a2,a3⟩:=yF hc hr hi
 have ai:=(hc.G0 hi).1
 rw[ha i hi] at a1 ai
 obtain⟨s,hs⟩:∃s:Nat,dL (gR aA 1 cs) i=s:=⟨(dL (gR aA 1 cs) i).toNat,by omega⟩
 obtain⟨m,hm⟩:∃m:Nat,a=m:=⟨a.toNat,by omega⟩
 have e1:((List.range s).map fun t:Nat=>bz cs (gR aA 1 cs) t).sum=s-m:=by
  have h1:((List.range s).map fun t:Nat=>bz cs (gR aA 1 cs) t)=(List.range s).map fun t=>if (decide (m≤t)&&decide (t<s))=true then 1 else 0:=by
   refine List.map_congr_left fun t ht => ?_
   rw[List.mem_range] at ht
   have hb:=K7 (aA:=aA) (aE:=1) (cs:=cs) (by decide) (t:=t) (by omega)
   by_cases hmt:m≤t
   ·have h2:=hb.2 ⟨i,hi,by rw[ha i hi];omega,by omega⟩
    have h3:=hb.1
    rw[if_pos (by simp[hmt,ht])]
    omega
   ·rw[if_neg (by simp[hmt])]
    unfold bz
    rw[List.countP_eq_zero]
    intro j hj cX
    rw[List.mem_range] at hj
    have h2:=(yF hc hr hj).1
    rw[ha j hj] at h2
    simp only[CC,Bool.and_eq_true,decide_eq_true_eq] at cX
    omega
  rw[h1,GL,qG]
  omega
 have e2:=Hs (fun t j=>CC cs (gR aA 1 cs) (t:Int) j) cs.length s
 have e3:((List.range s).map fun t:Nat=>bz cs (gR aA 1 cs) t).sum=((List.range cs.length).map fun j=>(List.range s).countP fun t:Nat=>CC cs (gR aA 1 cs) (t:Int) j).sum:=e2
 rw[e1] at e3
 have e4:=Kc (F:=fun j=>(List.range s).countP fun t:Nat=>CC cs (gR aA 1 cs) (t:Int) j) cs.length
 rw[←e3] at e4
 have e5:cE (fun j=>(((List.range s).countP fun t:Nat=>CC cs (gR aA 1 cs) (t:Int) j:Nat):Int)) cs.length=cE (lO aA cs i) cs.length:=by
  refine uZ _ fun j hj => ?_
  obtain⟨b1,b2,b3⟩:=yF hc hr hj
  have aj:=(hc.G0 hj).1
  obtain⟨u,hu⟩:∃u:Nat,dL (gR aA 1 cs) j=u:=⟨(dL (gR aA 1 cs) j).toNat,by omega⟩
  obtain⟨w,hw⟩:∃w:Nat,rQ cs j=w:=⟨(rQ cs j).toNat,by omega⟩
  rw[DV hu hw,qG]
  unfold lO
  by_cases aR:dL (gR aA 1 cs) j<dL (gR aA 1 cs) i
  ·have cI:i≠j:=fun h=>by subst h;omega
   have:=AT hc hr hi hj cI (by omega)
   rw[if_pos aR]
   omega
  ·rw[if_neg aR]
   omega
 rw[←e5,←e4]
 omega
theorem XI {a:Int} (hc:aN cs) (hr:0≤aA∧aA≤3) (ha:∀j,j<cs.length→lQ cs j=a):cE (fun i=>dL (gR 2 1 cs) i-a) cs.length≤cE (fun i=>dL (gR aA 1 cs) i-a) cs.length:=by
 have key:∀r:Int,0≤r∧r≤3→2*cE (fun i=>dL (gR r 1 cs) i-a) cs.length=cE (fun i=>cE (fun j=>lO r cs i j+lO r cs j i) cs.length) cs.length:=by
  intro r hr
  have h1:cE (fun i=>dL (gR r 1 cs) i-a) cs.length=cE (fun i=>cE (lO r cs i) cs.length) cs.length:=uZ _ fun i hi=>XR hc hr ha hi
  have h2:=Ib (G:=lO r cs) cs.length cs.length
  have h3:cE (fun i=>cE (fun j=>lO r cs i j+lO r cs j i) cs.length) cs.length=cE (fun i=>cE (lO r cs i) cs.length+cE (fun j=>lO r cs j i) cs.length) cs.length :=
   uZ _ fun i _=>wT _
  rw[h3,wT,←h2,←h1]
  omega
 have k1:=key 2 (by decide)
 have k2:=key aA hr
 have k3:cE (fun i=>cE (fun j=>lO 2 cs i j+lO 2 cs j i) cs.length) cs.length≤cE (fun i=>cE (fun j=>lO aA cs i j+lO aA cs j i) cs.length) cs.length:=by
  refine AB _ fun i hi=>AB _ fun j hj => ?_
  by_cases IW:i=j
  ·subst IW
   unfold lO
   simp
  ·have o1:=AT (aA:=aA) hc hr hi hj IW
   have o2:=AT (aA:=aA) hc hr hj hi (Ne.symm IW)
   have l1:=Jz (aE:=1) hc (by decide) hi hj
   have l2:=Jz (aE:=1) hc (by decide) hj hi
   have p1:=yF (aA:=2) hc (by decide) hi
   have p2:=yF (aA:=2) hc (by decide) hj
   rw[ha i hi] at l1
   rw[ha j hj] at l2
   rw[ha i hi] at p1
   rw[ha j hj] at p2
   have w1:=(hc.G0 hi).2
   have w2:=(hc.G0 hj).2
   unfold lO
   generalize dL (gR 2 1 cs) i=x at *
   generalize dL (gR 2 1 cs) j=y at *
   generalize dL (gR aA 1 cs) i=u at *
   generalize dL (gR aA 1 cs) j=v at *
   split<;>split<;>split<;>split<;>omega
 omega
end
def dO (cs:List aJ):List aJ:=cs.map fun c=>⟨3,c.w,c.k⟩
theorem nT (cs:List aJ):(dO cs).length=cs.length:=List.length_map _
theorem Ow {cs:List aJ} {j:Nat} (hj:j<(dO cs).length):lQ (dO cs) j=3:=by
 rw[nT] at hj
 rw[pU (x:=⟨3,cs[j].w,cs[j].k⟩)]
 unfold dO
 rw[List.getElem?_map,List.getElem?_eq_getElem hj]
 rfl
theorem D4 {cs:List aJ} (hc:aN cs):aN (dO cs):=by
 refine⟨fun i c hi=>⟨?_,fun b _ hb => ?_⟩,by rw[nT];exact hc.2⟩
 ·unfold dO at hi
  rw[List.getElem?_map] at hi
  cases h:cs[i]? with
  | none=>rw[h] at hi;cases hi
  |
   some x =>
   rw[h] at hi
   cases hi
   have:=hc.at h
   exact⟨⟨by show (0:Int)≤3;decide,by show (3:Int)≤10000;decide⟩,this.2.1,this.2.2⟩
 ·have hm:∀(k:Nat) (x:aJ),(dO cs)[k]? = some x→x.t=3:=by
   intro k x hx
   unfold dO at hx
   rw[List.getElem?_map] at hx
   cases h:cs[k]? with
   | none=>rw[h] at hx;cases hx
   | some y=>rw[h] at hx;cases hx;rfl
  rw[hm _ _ hb,hm _ _ hi]
  exact Int.le_refl _
theorem YV {aA aE:Int} {cs:List aJ}:jS (sZ aA aE cs)=cE (fun i=>dL (gR aA aE cs) i-lQ cs i) cs.length:=by
 have h:=RM (l:=sZ aA aE cs) (f:=fun i=>dL (gR aA aE cs) i-lQ cs i) cs.length (by rw[qW];exact Nat.le_refl _) fun i x hx=>by
  have hi:i<cs.length:=by
   have:=(List.getElem?_eq_some_iff.1 hx).1
   rwa [qW] at this
  have hl:i<(gR aA aE cs).length:=by rw[nD];exact hi
  have e:=GQ (g:=fun c=>0-c.t) (List.getElem?_eq_getElem hi) (List.getElem?_eq_getElem hl)
  unfold sZ at hx
  rw[e] at hx
  have hx:=Option.some.inj hx
  rw[←hx,pQ (List.getElem?_eq_getElem hl),pU (List.getElem?_eq_getElem hi)]
  omega
 rw[←h,List.take_of_length_le (by rw[qW];exact Nat.le_refl _)]
theorem Wa {aA:Int} {cs:List aJ} (hc:aN cs) (hr:0≤aA∧aA≤3):jS (sZ 2 1 (dO cs))≤jS (sZ aA 1 (dO cs)):=by
 have h:=XI (aA:=aA) (a:=3) (D4 hc) hr fun j hj=>Ow hj
 have e:∀r:Int,jS (sZ r 1 (dO cs))=cE (fun i=>dL (gR r 1 (dO cs)) i-3) (dO cs).length:=fun r=>by
  rw[YV]
  exact uZ _ fun i hi=>by rw[Ow hi]
 rw[e,e]
 exact h
theorem Dx {aA aE:Int} {cs:List aJ} (hc:aN cs) (hr:0≤aA∧aA≤3) (hs:1≤aE) (hf:cs.length≤8) (TN:∀c∈cs,c.w≤7∧c.t≤75) {i:Nat} {c:aJ} {l:Int} (VM:cs[i]? = some c) (hl:(EY (·.w) cs (gR aA aE cs))[i]? = some l):0≤c.t∧c.t≤l∧l≤160:=by
 have hi:i<cs.length:=(List.getElem?_eq_some_iff.1 VM).1
 have hlen:i<(gR aA aE cs).length:=by rw[nD];exact hi
 have e:=GQ (g:=(·.w)) VM (List.getElem?_eq_getElem hlen)
 rw[e] at hl
 have hl:=Option.some.inj hl
 have es:=pQ (List.getElem?_eq_getElem hlen)
 have hp:=Bn (aA:=aA) (aE:=aE) hc hr hs i hi
 have hg:=TU (aA:=aA) (aE:=aE) hi hp
 have Xl:=MS (aA:=aA) (aE:=aE) hc hr hs hi
 have hw:=G5 (cs:=cs) (k:=7) fun j hj=>by
  have h2:=(TN _ (List.getElem_mem hj)).1
  rw[Ew (List.getElem?_eq_getElem hj)]
  omega
 have hcb:=hc.mem (List.mem_of_getElem? VM)
 have OD:=TN c (List.mem_of_getElem? VM)
 rw[pU VM] at hg Xl
 rw[es] at hg Xl
 clear es e hp
 generalize (gR aA aE cs)[i]=x at *
 omega
end Go.PM
namespace Go.PM
def Ed:aH:=(LS [LO 2 (.mv (LI 0))] (.seq (LS [LM 3 0] (.cond (LT 3) (LS [LO 2 (.mv (LI 1))] .ret) .skip)) (LS [LO 2 (.mv (LI 0))] .ret)))
def It:aU:=⟨4,[(.tmp 2)],Ed⟩
theorem KN:iY 51=some It:=by kernel_rfl
end Go.PM
namespace Go.PM
theorem Dl (b:Bool):TC 51 [VB b] (VI (if b=true then 1 else 0)):=by
 refine TC.walk ⟨true,false⟩ KN rfl (Nat.le_of_ble_eq_true rfl) rfl rfl ?_
 cases b<;>simp only[It,Ed,VX,Nat.reduceEqDiff,Nat.reduceAdd]<;>exact aI rfl
theorem Dz (x:Int):TC 89 [VI x] (.sc (.bool (!decide (0≤x∧x≤1000000000)))):=by
 refine TC.walk ⟨true,false⟩ Eg rfl (Nat.le_of_ble_eq_true rfl) rfl rfl ?_
 simp only[zD,uJ,jJ,VX,Nat.reduceEqDiff,Nat.reduceAdd]
 exact aI rfl
theorem zB (cs:List aJ) (ls:List Int) (h:Pm cs ls):TC 49 [fR cs,lE ls] (VB true):=by
 refine TC.walk ⟨true,false⟩ Gt rfl (Nat.le_of_ble_eq_true rfl) (by simp[aO,aT,gG]) rfl ?_
 obtain⟨hc,hl,ha⟩:=h
 have hn:=hc.2
 have eA:=rL cs (by omega)
 have eF:=uD ls 89 (fun x => !decide (0≤x∧x≤1000000000)) Dz (by omega)
 have alL:(ls.any fun x => !decide (0≤x∧x≤1000000000))=false:=by
  rw[List.any_eq_false]
  intro x hx
  simp[ha x hx]
 have AR:(ls.length:Int)=(cs.length:Int):=by omega
 simp only[Cg,zX,eA,eF,hc,AR,alL,VX,Nat.reduceEqDiff,Nat.reduceAdd]
 exact aI rfl
theorem KC {xs:List aJ} {i:Nat} {x:aJ} (h:xs[i]? = some x):Ap (xs.take (i+1))=Ap (xs.take i)+x.t:=by
 induction xs generalizing i with
 | nil=>cases h
 |
  cons y ys ih =>
  cases i with
  | zero=>injection h with h;subst h;simp[Ap]
  |
   succ i =>
   have h':ys[i]? = some x:=by simpa using h
   have:=ih h'
   simp only[List.take_succ_cons,Ap,this]
   omega
theorem HY {xs:List aJ} (h:∀x∈xs,0≤x.t∧x.t≤10000) (i:Nat):0≤Ap (xs.take i)∧Ap (xs.take i)≤10000*xs.length:=by
 induction xs generalizing i with
 | nil=>simp[Ap]
 |
  cons y ys ih =>
  have hy:=h y List.mem_cons_self
  cases i with
  | zero=>simp only[List.take_zero,Ap];omega
  |
   succ i =>
   have:=ih (fun x hx=>h x (List.mem_cons_of_mem _ hx)) i
   simp only[List.take_succ_cons,Ap,List.length_cons]
   omega
theorem BP (cs:List aJ) (ls:List Int) (h:Pm cs ls):TC 17 [fR cs,lE ls] (.eX [VI (jS ls-Ap cs),VB true]):=by
 refine TC.walk ⟨true,false⟩ BK rfl (Nat.le_of_ble_eq_true rfl) (by simp[aO,aT,gG]) rfl ?_
 have eL:=zB cs ls h
 obtain⟨hc,hl,ha⟩:=h
 have hn:=hc.2
 have xE:∀x∈ls,-1000000000≤x∧x≤1000000000:=fun x hx=>by have:=ha x hx;omega
 have eT:=Ef ls xE (by omega)
 have hsI:=CD xE ls.length
 rw[List.take_length] at hsI
 simp only[uN,rR,eL,eT,VX,Nat.reduceEqDiff,Nat.reduceAdd]
 refine Aw (fun(i:Nat) ρ H=>i≤cs.length∧H=[]∧ρ 6=VI (jS ls-Ap (cs.take i))∧ρ 15=fR cs∧ρ 16=VI cs.length∧ρ 17=VI i) (fun i=>cs.length-i) 0 ⟨Nat.zero_le _,rfl,by rw[List.take_zero,Ap,Int.sub_zero];rfl,rfl,rfl,rfl⟩ ?_
 rintro i ρ H ⟨hi,rfl,g6,g15,g16,g17⟩
 by_cases cX:(i:Int)<(cs.length:Int)
 ·obtain⟨c,hx⟩:∃c,cs[i]? = some c:=⟨_,List.getElem?_eq_getElem (by omega)⟩
  have e1:=fun H=>aL (f:=cV) (t := .op) (H:=H) (size:=3) (k := .i64) hx rfl
  have wi:IntKind.i64.wrap ((i:Int)+1)=((i+1:Nat):Int):=wrapN (i+1) (by omega) (by omega)
  have hb:=hc.at hx
  have hsT:=HY (xs:=cs) (fun x hx=>(hc.mem hx).1) (i+1)
  rw[KC hx] at hsT
  have auS:=HY (xs:=cs) (fun x hx=>(hc.mem hx).1) i
  have w1:IntKind.i64.wrap (jS ls-Ap (cs.take i)-c.t)=jS ls-Ap (cs.take (i+1)):=by rw[KC hx,wrap64 (by omega) (by omega)];omega
  simp only[lB,g6,g15,g16,g17,cX,e1,mY,wi,w1,cV,VX,Nat.reduceEqDiff,Nat.reduceAdd,kC,Nat.reduceLeDiff,Nat.reduceLT,Nat.reduceSub]
  refine⟨i+1,by omega,rfl,by omega,?_⟩
  simp only[bE,g15,g16,cC (aT _),VX,Nat.reduceEqDiff,Nat.reduceAdd,List.take_zero,cR,List.all_nil,List.length_nil,bE,mR,cC]
 ·have zK:i=cs.length:=by omega
  subst zK
  rw[List.take_length] at g6
  simp only[lB,g6,g15,g16,g17,cX,VX,Nat.reduceEqDiff,Nat.reduceAdd]
  exact aI rfl
theorem Im {t:Int}:∀ {cs:List aJ} {ls:List Int} {i:Nat} {c:aJ} {l:Int},cs[i]? = some c→ls[i]? = some l→jH t (cs.take (i+1)) (ls.take (i+1))=jH t (cs.take i) (ls.take i)+if c.t≤t∧t<l then 1 else 0
 | [],_,_,_,_,h,_=>by cases h
 | _::_,[],_,_,_,_,h=>by cases h
 |
  c::cs,l::ls,0,_,_,h1,h2=>by
  injection h1 with h1
  injection h2 with h2
  subst h1 h2
  simp only[List.take_succ_cons,List.take_zero,jH]
  omega
 |
  c::cs,l::ls,i+1,x,y,h1,h2=>by
  have Pp:cs[i]? = some x:=by simpa using h1
  have h2':ls[i]? = some y:=by simpa using h2
  have:=Im (t:=t) Pp h2'
  rw[List.take_succ_cons,List.take_succ_cons,jH,this,List.take_succ_cons,List.take_succ_cons,jH]
  omega
theorem DQ {t:Int}:∀(cs:List aJ) (ls:List Int),0≤jH t cs ls∧jH t cs ls≤cs.length
 | [],ls=>by simp[jH]
 | _::_,[]=>by simp only[jH];omega
 |
  c::cs,l::ls=>by
  have:=DQ (t:=t) cs ls
  simp only[jH,List.length_cons]
  split<;>omega
set_option maxHeartbeats 1000000 in
theorem Gs (cs:List aJ) (ls:List Int) (t:Int) (h:Pm cs ls) (ht:0≤t∧t≤1000000000):TC 18 [fR cs,lE ls,VI t] (.eX [VI (jH t cs ls),VB true]):=by
 refine TC.walk ⟨true,false⟩ GC rfl (Nat.le_of_ble_eq_true rfl) (by simp only[aO,aT,gG];rfl) rfl ?_
 have eL:=zB cs ls h
 have eI:=jJ t 0 1000000000
 rw[decide_eq_true ht] at eI
 obtain⟨hc,hl,ha⟩:=h
 have hn:=hc.2
 simp only[Cn,zI,eL,eI,VX,Nat.reduceEqDiff,Nat.reduceAdd]
 refine Aw (fun(i:Nat) ρ H=>i≤cs.length∧H=[]∧ρ 1=lE ls∧ρ 2=VI t∧ρ 8=VI (jH t (cs.take i) (ls.take i))∧ρ 20=fR cs∧ρ 21=VI cs.length∧ρ 22=VI i) (fun i=>cs.length-i) 0 ⟨Nat.zero_le _,rfl,rfl,rfl,rfl,rfl,rfl,rfl⟩ ?_
 rintro i ρ H ⟨hi,rfl,g1,g2,g8,g20,g21,g22⟩
 by_cases cX:(i:Int)<(cs.length:Int)
 ·obtain⟨c,hx⟩:∃c,cs[i]? = some c:=⟨_,List.getElem?_eq_getElem (by omega)⟩
  obtain⟨l,hy⟩:∃l,ls[i]? = some l:=⟨_,List.getElem?_eq_getElem (by omega)⟩
  have e1:=fun H=>aL (f:=cV) (t := .op) (H:=H) (size:=3) (k := .i64) hx rfl
  have e2:=fun H=>aL (f:=nV) (t := .op) (H:=H) (size:=1) (k := .i64) hy rfl
  have wi:IntKind.i64.wrap ((i:Int)+1)=((i+1:Nat):Int):=wrapN (i+1) (by omega) (by omega)
  have Y1:=Im (t:=t) hx hy
  have hb:=DQ (t:=t) (cs.take i) (ls.take i)
  have oY:(cs.take i).length≤i:=by rw[List.length_take];omega
  have eO1:TC 51 [VB true] (VI 1):=Dl true
  have eO0:TC 51 [VB false] (VI 0):=Dl false
  have w1:IntKind.i64.wrap (jH t (cs.take i) (ls.take i)+1)=jH t (cs.take i) (ls.take i)+1:=wrap64 (by omega) (by omega)
  have w0:IntKind.i64.wrap (jH t (cs.take i) (ls.take i)+0)=jH t (cs.take i) (ls.take i)+0:=wrap64 (by omega) (by omega)
  by_cases q1:c.t≤t
  ·by_cases q2:t<l
   ·rw[if_pos ⟨q1,q2⟩] at Y1
    simp only[jL,g1,g2,g8,g20,g21,g22,cX,e1,e2,mY,wi,w1,q1,q2,eO1,cV,VX,Nat.reduceEqDiff,Nat.reduceAdd,kC,Nat.reduceLeDiff,Nat.reduceLT,Nat.reduceSub]
    refine⟨i+1,by omega,rfl,by omega,?_⟩
    simp only[bE,Y1,g1,g2,g20,g21,cC (aT _),cC (gG _),VX,Nat.reduceEqDiff,Nat.reduceAdd,List.take_zero,cR,List.all_nil,List.length_nil,bE,mR,cC]
   ·rw[if_neg (by omega)] at Y1
    simp only[jL,g1,g2,g8,g20,g21,g22,cX,e1,e2,mY,wi,w0,q1,q2,eO0,cV,VX,Nat.reduceEqDiff,Nat.reduceAdd,kC,Nat.reduceLeDiff,Nat.reduceLT,Nat.reduceSub]
    refine⟨i+1,by omega,rfl,by omega,?_⟩
    simp only[bE,Y1,g1,g2,g20,g21,cC (aT _),cC (gG _),VX,Nat.reduceEqDiff,Nat.reduceAdd,List.take_zero,cR,List.all_nil,List.length_nil,bE,mR,cC]
  ·rw[if_neg (by omega)] at Y1
   simp only[jL,g1,g2,g8,g20,g21,g22,cX,e1,mY,wi,w0,q1,eO0,cV,VX,Nat.reduceEqDiff,Nat.reduceAdd,kC,Nat.reduceLeDiff,Nat.reduceLT,Nat.reduceSub]
   refine⟨i+1,by omega,rfl,by omega,?_⟩
   simp only[bE,Y1,g1,g2,g20,g21,cC (aT _),cC (gG _),VX,Nat.reduceEqDiff,Nat.reduceAdd,List.take_zero,cR,List.all_nil,List.length_nil,bE,mR,cC]
 ·have zK:i=cs.length:=by omega
  subst zK
  rw[List.take_length,←hl,List.take_length] at g8
  simp only[jL,g8,g20,g21,g22,cX,VX,Nat.reduceEqDiff,Nat.reduceAdd]
  exact aI rfl
end Go.PM
namespace Go.PM
theorem GV {f lo:Nat} {args gX:List VV} {r:VV} {H:aC} {K:VV→aC→Prop} (h:TC f gX r) (vO:BI.contains f=false) (Wc:aO gX=true) (hf:args.mapM (fz depth H)=some gX) (hr:IG r=true) (hk:K r H):cS f args lo H K:=by
 rw[h.flat vO Wc hf hr]
 exact hk
end Go.PM
namespace Go.PM
theorem G8 (a b:List Nat):TC 6 [BQ a,BQ b] (.sc (.bool (decide (1048576<(a.length:Int)∨1048576<(b.length:Int))))):=by
 refine TC.walk ⟨true,false⟩ IP rfl (Nat.le_of_ble_eq_true rfl) (by simp only[aO,DC];rfl) rfl ?_
 by_cases h1:(1048576:Int)<(a.length:Int)
 ·simp only[sG,oG,h1,true_or,VX,Nat.reduceEqDiff,Nat.reduceAdd]
  exact aI rfl
 ·by_cases h2:(1048576:Int)<(b.length:Int)
  ·simp only[sG,oG,h1,h2,or_true,VX,Nat.reduceEqDiff,Nat.reduceAdd]
   exact aI rfl
  ·simp only[sG,oG,h1,h2,or_self,VX,Nat.reduceEqDiff,Nat.reduceAdd]
   exact aI rfl
end Go.PM
namespace Go.PM
end Go.PM
namespace Go.PM
open Go.Lib
def mH (c:UInt8):Bool:=decide (48≤c.toNat)&&decide (c.toNat≤57)
def dv (c:UInt8):Nat:=c.toNat-48
def I4 (a:Nat) (l:List UInt8):Nat:=l.foldl (fun a c=>a*10+dv c) a
def cP (l:List UInt8):Nat:=I4 0 l
theorem Qq (l:List UInt8):∀a,I4 a l=a*10^l.length+cP l:=by
 induction l with
 | nil=>intro a;simp[I4,cP]
 |
  cons c l ih =>
  intro a
  have h1:I4 a (c::l)=I4 (a*10+dv c) l:=rfl
  have h2:cP (c::l)=I4 (0*10+dv c) l:=rfl
  rw[h1,h2,ih,ih (0*10+dv c),List.length_cons,Nat.pow_succ]
  grind
theorem MA (a b:List UInt8):cP (a++b)=cP a*10^b.length+cP b:=by
 have:cP (a++b)=I4 (cP a) b:=by unfold cP I4;rw[List.foldl_append]
 rw[this,Qq]
theorem IQ:cP []=0:=rfl
theorem JO (a:List UInt8) (c:UInt8):cP (a++[c])=cP a*10+dv c:=by
 rw[MA]
 simp[cP,I4]
theorem agM {c:UInt8} (h:mH c=true):dv c<10:=by
 simp only[mH,Bool.and_eq_true,decide_eq_true_eq] at h
 unfold dv
 omega
theorem L9:∀ {l:List UInt8},l.all mH=true→cP l<10^l.length:=by
 intro l
 induction l with
 | nil=>intro _;decide
 |
  cons c l ih =>
  intro h
  rw[List.all_cons,Bool.and_eq_true] at h
  have h1:=agM h.1
  have h2:=ih h.2
  have h3:cP (c::l)=I4 (0*10+dv c) l:=rfl
  rw[h3,Qq,List.length_cons,Nat.pow_succ]
  have h4:(0*10+dv c)*10^l.length≤9*10^l.length:=Nat.mul_le_mul_right _ (by omega)
  omega
def lC (l:List UInt8):Bool:=l.all mH&&decide (1≤l.length)&&decide (l.length≤200)&&(decide (l.length=1) || !decide (l.getD 0 0=48))
theorem jF {l:List UInt8}:lC l=true↔l.all mH=true∧1≤l.length∧l.length≤200∧(l.length=1∨l.getD 0 0≠48):=by
 unfold lC
 simp only[Bool.and_eq_true,Bool.or_eq_true,Bool.not_eq_true',decide_eq_true_eq,decide_eq_false_iff_not,ne_eq,and_assoc]
theorem L4 {n:Nat} (h:n<10):(d10 n).toNat=48+n:=by
 unfold d10
 rw[UInt8.toNat_ofNat']
 exact Nat.mod_eq_of_lt (by omega)
theorem U8 {n:Nat} (h:n<10):dv (d10 n)=n:=by
 unfold dv
 rw[L4 h]
 omega
theorem JE {n:Nat} (h:n<10):mH (d10 n)=true:=by
 unfold mH
 rw[L4 h,decide_eq_true (by omega),decide_eq_true (by omega)]
 rfl
theorem KR:∀(k n:Nat),n≤k→(decDigits n).all mH=true∧cP (decDigits n)=n∧(n=0∨(decDigits n).getD 0 0≠48):=by
 intro k
 induction k with
 |
  zero =>
  intro n hn
  have:n=0:=by omega
  subst this
  rw[gF (by decide)]
  exact⟨by decide,by decide,.inl rfl⟩
 |
  succ k ih =>
  intro n hn
  by_cases h:n<10
  ·rw[gF h]
   refine⟨by rw[List.all_cons,JE h];rfl,?_,?_⟩
   ·have:cP [d10 n]=0*10+dv (d10 n):=rfl
    rw[this,U8 h]
    omega
   ·by_cases h0:n=0
    ·exact .inl h0
    ·right
     intro he
     have he':d10 n=48:=he
     have:=congrArg UInt8.toNat he'
     rw[L4 h] at this
     have h48:(48:UInt8).toNat=48:=rfl
     omega
  ·obtain⟨h1,h2,h3⟩:=ih (n / 10) (by omega)
   have hm:n % 10<10:=Nat.mod_lt _ (by decide)
   rw[uY h]
   refine⟨by rw[List.all_append,h1,List.all_cons,JE hm];rfl,?_,?_⟩
   ·rw[JO,h2,U8 hm]
    omega
   ·right
    have cI:=Fh (n / 10)
    rcases h3 with h3 | h3
    ·omega
    ·intro he
     apply h3
     rw[←he]
     cases hd:decDigits (n / 10) with
     | nil=>exact absurd hd cI
     | cons a b=>rfl
theorem G2 (n:Nat):cP (decDigits n)=n:=(KR n n (Nat.le_refl _)).2.1
theorem EJ {n:Nat} (h:(decDigits n).length≤200):lC (decDigits n)=true:=by
 obtain⟨h1,_,h3⟩:=KR n n (Nat.le_refl _)
 have h4:=List.length_pos_iff.2 (Fh n)
 refine jF.2 ⟨h1,h4,h,?_⟩
 rcases h3 with rfl | h3
 ·left;rw[gF (by decide)];rfl
 ·exact .inr h3
theorem A7 {l:List UInt8} (h:lC l=true):bl (cP l)≤665:=by
 obtain⟨h1,h2,h3,_⟩:=jF.1 h
 refine Qg (Nat.lt_of_lt_of_le (L9 h1) ?_)
 exact Nat.le_trans (Nat.pow_le_pow_right (by decide) h3) (by decide +kernel)
def pG (c:UInt8):List UInt8→List UInt8×Option (List UInt8)
 | []=>([],none)
 | x::r=>if x=c then ([],some r) else (x::(pG c r).1,(pG c r).2)
theorem BD {c:UInt8}:∀ {l:List UInt8},(pG c l).2=none→indexByte l c = -1∧(pG c l).1=l∧c∉l:=by
 intro l
 induction l with
 | nil=>intro _;exact⟨rfl,rfl,by simp⟩
 |
  cons x l ih =>
  intro h
  unfold pG at h ⊢
  by_cases hx:x=c
  ·rw[if_pos hx] at h
   cases h
  ·rw[if_neg hx] at h ⊢
   obtain⟨h1,h2,h3⟩:=ih h
   refine⟨?_,by rw[h2],?_⟩
   ·rw[indexByte,if_neg (by simpa using hx),h1]
    rfl
   ·rw[List.mem_cons,not_or]
    exact⟨fun h=>hx h.symm,h3⟩
theorem JM {c:UInt8}:∀ {l r:List UInt8},(pG c l).2=some r→indexByte l c=((pG c l).1.length:Int)∧l=(pG c l).1++c::r∧c∉(pG c l).1:=by
 intro l
 induction l with
 | nil=>intro r h;cases h
 |
  cons x l ih =>
  intro r h
  unfold pG at h ⊢
  by_cases hx:x=c
  ·rw[if_pos hx] at h ⊢
   cases h
   subst hx
   refine⟨?_,rfl,by simp⟩
   rw[indexByte,if_pos (by simp)]
   rfl
  ·rw[if_neg hx] at h ⊢
   obtain⟨h1,h2,h3⟩:=ih h
   refine⟨?_,?_,?_⟩
   ·rw[indexByte,if_neg (by simpa using hx),h1,if_neg]
    ·simp
    ·simp
   ·conv=>lhs;rw[h2]
    rfl
   ·rw[List.mem_cons,not_or]
    exact⟨fun h=>hx h.symm,h3⟩
def nN (neg:Bool) (d:List UInt8) (s:Option (List UInt8)):Option Rat :=
 if lC d=false∨(neg=true∧cP d=0) then none else
 match s with
 | none=>some (mkRat (Cm neg (cP d)) 1)
 | some t=>if lC t=true∧1<cP t∧Nat.gcd (cP d) (cP t)=1 then some (mkRat (Cm neg (cP d)) (cP t)) else none
def isNeg (l:List UInt8):Bool:=decide (1≤l.length)&&decide (l.getD 0 0=45)
def dU (l:List UInt8):Option Rat:=nN (isNeg l) ((pG 47 (if isNeg l then l.drop 1 else l)).1) ((pG 47 (if isNeg l then l.drop 1 else l)).2)
theorem PE {neg:Bool} {d:List UInt8} {s:Option (List UInt8)} {q:Rat} (h:nN neg d s=some q):lC d=true∧¬(neg=true∧cP d=0)∧((s=none∧q=mkRat (Cm neg (cP d)) 1)∨∃t,s=some t∧lC t=true∧1<cP t∧Nat.gcd (cP d) (cP t)=1∧q=mkRat (Cm neg (cP d)) (cP t)):=by
 unfold nN at h
 split at h
 ·cases h
 ·rename_i hc
  rw[not_or] at hc
  refine⟨by simpa using hc.1,hc.2,?_⟩
  split at h
  ·exact .inl ⟨rfl,(Option.some.inj h).symm⟩
  ·rename_i t
   split at h
   ·rename_i ht
    exact .inr ⟨t,rfl,ht.1,ht.2.1,ht.2.2,(Option.some.inj h).symm⟩
   ·cases h
theorem Ms {neg:Bool} {d:List UInt8} {s:Option (List UInt8)} {q:Rat} (h:nN neg d s=some q):rU q≤665:=by
 obtain⟨h1,_,h3⟩:=PE h
 have hb:=A7 h1
 rcases h3 with⟨_,rfl⟩ | ⟨t,_,h4,h5,_,rfl⟩
 ·exact HC (by rw[yS];exact hb) (Qg (by decide +kernel)) (by decide)
 ·exact HC (by rw[yS];exact hb) (A7 h4) (by omega)
theorem yR {l:List UInt8} {q:Rat} (h:dU l=some q):rU q≤665:=Ms h
theorem Oz {neg:Bool} {t b:Nat} (hb:b≠0) (hg:Nat.gcd t b=1):(mkRat (Cm neg t) b).num=Cm neg t∧(mkRat (Cm neg t) b).den=b:=by
 rw[Ps hb,V4 hb,hg,Nat.div_one,Nat.div_one]
 exact⟨rfl,rfl⟩
theorem Ie {c:UInt8} {l:List UInt8}:isNeg (c::l)=decide (c=45):=by simp[isNeg]
theorem T0 {c:UInt8} {a r:List UInt8} (h:c∉a):pG c (a++c::r)=(a,some r):=by
 induction a with
 | nil=>rw[List.nil_append,pG,if_pos rfl]
 |
  cons x a ih =>
  rw[List.mem_cons,not_or] at h
  rw[List.cons_append,pG,if_neg (fun he=>h.1 he.symm),ih h.2]
theorem T3 {c:UInt8} {a:List UInt8} (h:c∉a):pG c a=(a,none):=by
 induction a with
 | nil=>rfl
 |
  cons x a ih =>
  rw[List.mem_cons,not_or] at h
  rw[pG,if_neg (fun he=>h.1 he.symm),ih h.2]
theorem HO {l:List UInt8} (h:l.all mH=true):(47:UInt8)∉l:=by
 intro hm
 have:=List.all_eq_true.1 h _ hm
 exact absurd this (by decide)
theorem HX {q:Rat} (h:rN q=true):dU (Bc q)=some q:=by
 unfold rN at h
 simp only[Bool.and_eq_true,decide_eq_true_eq] at h
 obtain⟨f1,f2⟩:=h
 have Ar:=q.den_nz
 obtain⟨d1,d2,d3⟩:=KR q.num.natAbs q.num.natAbs (Nat.le_refl _)
 have cI:=Fh q.num.natAbs
 have hz:Cm (decide (q.num<0)) q.num.natAbs=q.num:=by
  unfold Cm
  by_cases hn:q.num<0
  ·rw[decide_eq_true hn,if_pos rfl];omega
  ·rw[decide_eq_false hn,if_neg (by decide)];omega
 have hq:mkRat q.num q.den=q:=Rat.mkRat_self q
 have hi:∀r,isNeg (decDigits q.num.natAbs++r)=false:=by
  intro r
  cases hd:decDigits q.num.natAbs with
  | nil=>exact absurd hd cI
  |
   cons c l =>
   rw[hd,List.all_cons,Bool.and_eq_true] at d1
   rw[List.cons_append,Ie,decide_eq_false]
   intro h
   rw[h] at d1
   exact absurd d1.1 (by decide)
 have body:∀(neg:Bool),neg=decide (q.num<0)→nN neg ((pG 47 (decDigits q.num.natAbs++if q.den=1 then [] else 47::decDigits q.den)).1) ((pG 47 (decDigits q.num.natAbs++if q.den=1 then [] else 47::decDigits q.den)).2)=some q:=by
  intro neg hn
  by_cases h1:q.den=1
  ·rw[if_pos h1,List.append_nil,T3 (HO d1)]
   unfold nN
   simp only
   rw[G2,EJ f1,if_neg,hn,hz,←h1,hq]
   rintro(h | ⟨h2,h3⟩)
   ·cases h
   ·rw[hn,decide_eq_true_eq] at h2
    omega
  ·rw[if_neg h1,T0 (HO d1)]
   unfold nN
   simp only
   rw[G2,G2,EJ f1,EJ f2,if_neg,if_pos ⟨rfl,by omega,q.reduced⟩,hn,hz,hq]
   rintro(h | ⟨h2,h3⟩)
   ·cases h
   ·rw[hn,decide_eq_true_eq] at h2
    omega
 unfold dU Bc
 by_cases hn:q.num<0
 ·rw[if_pos hn,List.append_assoc,List.singleton_append,Ie,decide_eq_true rfl]
  exact body true (decide_eq_true hn).symm
 ·rw[if_neg hn,List.nil_append,hi]
  exact body false (decide_eq_false hn).symm
end Go.PM
namespace Go.PM
open Go.Lib
theorem Db (l:List UInt8) {i:Nat} (h:i<l.length):Ec (.string ⟨l.toArray⟩) (.int .i64 (i:Int))=some (.int .u8 ((l.getD i 0).toNat:Int)):=by
 have hs:(⟨l.toArray⟩:ByteArray).size=l.length:=by simp[ByteArray.size]
 have e1:(0:Int)≤i∧(i:Int)<(l.length:Int):=by omega
 simp only[Ec,hs,e1,and_self,if_true,Int.toNat_natCast]
theorem Jv (l:List UInt8) (h:0<l.length):Ec (.string ⟨l.toArray⟩) (.int .i64 0)=some (.int .u8 ((l.getD 0 0).toNat:Int)):=Db l h
def Ei:VV := .agg [VB false,cT 0,cT 0]
theorem Bl:aX Ei=true:=by simp[Ei,aX,aO,dB,kQ]
theorem Ns:iZ Ei=true:=by simp[Ei,iZ,pV,xD,kQ]
theorem jW {d:Nat} {H:aC}:fz (d+2) H (.agg [VB false,.tree [] .nil,.tree [] .nil])=some Ei:=Bh (aQ (v:=VB false) rfl) GF GF
theorem Vi {c:UInt8}:∀ {l:List UInt8},(pG c l).1.length≤l.length∧∀t,(pG c l).2=some t→t.length≤l.length:=by
 intro l
 cases h:(pG c l).2 with
 | none=>rw[(BD h).2.1];exact⟨Nat.le_refl _,fun t ht=>by cases ht⟩
 |
  some r =>
  have:=congrArg List.length (JM h).2.1
  rw[List.length_append,List.length_cons] at this
  exact⟨by omega,fun t ht=>by cases ht;omega⟩
end Go.PM
namespace Go.PM
open Go.Lib
def fQ (c:UInt8):List UInt8→List (List UInt8)
 | []=>[[]]
 |
  x::r=>if x=c then []::fQ c r else match fQ c r with
  | []=>[[x]]
  | a::t=>(x::a)::t
theorem Ij {c:UInt8} {r:List UInt8}:∀ {a:List UInt8},c∉a→fQ c (a++c::r)=a::fQ c r:=by
 intro a
 induction a with
 | nil=>intro _;rw[List.nil_append,fQ,if_pos rfl]
 |
  cons x a ih =>
  intro h
  rw[List.mem_cons,not_or] at h
  rw[List.cons_append,fQ,if_neg (fun he=>h.1 he.symm),ih h.2]
theorem CI {c:UInt8}:∀ {a:List UInt8},c∉a→fQ c a=[a]:=by
 intro a
 induction a with
 | nil=>intro _;rfl
 |
  cons x a ih =>
  intro h
  rw[List.mem_cons,not_or] at h
  rw[fQ,if_neg (fun he=>h.1 he.symm),ih h.2]
theorem PK {c:UInt8} (l:List UInt8):fQ c l≠[]:=by
 cases l with
 | nil=>simp[fQ]
 |
  cons x r =>
  rw[fQ]
  split
  ·simp
  ·split<;>simp
theorem MM {c:UInt8} {l:List UInt8} (h:(pG c l).2=none):fQ c l=[l]:=CI (BD h).2.2
theorem FV {c:UInt8} {l r:List UInt8} (h:(pG c l).2=some r):fQ c l=(pG c l).1::fQ c r:=by
 obtain⟨_,h2,h3⟩:=JM h
 have:=Ij (r:=r) h3
 rw[←h2] at this
 exact this
theorem Mo {c:UInt8} {l:List UInt8} (h:c∈l):2≤(fQ c l).length:=by
 cases hc:(pG c l).2 with
 | none=>exact absurd h (BD hc).2.2
 |
  some r =>
  rw[FV hc,List.length_cons]
  have:=List.length_pos_iff.2 (PK (c:=c) r)
  omega
theorem S8 {l:List UInt8} {i:Nat} (h:i<l.length):(l.take (i+1)).all mH=((l.take i).all mH&&mH (l.getD i 0)):=by
 rw[List.take_add_one,List.all_append]
 have:l[i]? = some (l.getD i 0):=by rw[List.getElem?_eq_getElem h,List.getD_eq_getElem?_getD,List.getElem?_eq_getElem h];rfl
 rw[this]
 simp
set_option maxHeartbeats 1000000 in
theorem mB (l:List UInt8) (hl:l.length≤1000000000000):TC 128 [aY l] (VB (lC l)):=by
 refine TC.walk ⟨true,false⟩ E1 rfl (Nat.le_of_ble_eq_true rfl) rfl rfl ?_
 simp only[Bf,wA,VX,Nat.reduceEqDiff,Nat.reduceAdd]
 refine bJ (fun(i:Nat) ρ H=>i≤l.length∧H=[]∧(l.take i).all mH=true∧ρ 0=aY l∧ρ 3=VI i) (fun i=>l.length-i) 0 ⟨Nat.zero_le _,rfl,rfl,rfl,rfl⟩ ?_
 rintro i ρ H ⟨hi,rfl,hd,g0,g3⟩
 by_cases cX:(i:Int)<(l.length:Int)
 ·have Gk:i<l.length:=by omega
  have e1:=Db l Gk
  have wi:IntKind.i64.wrap ((i:Int)+1)=((i+1:Nat):Int):=wrapN (i+1) (by omega) (by omega)
  have ht:=S8 Gk
  rw[hd,Bool.true_and] at ht
  have Z8:mH (l.getD i 0)=(decide (48≤(l.getD i 0).toNat)&&decide ((l.getD i 0).toNat≤57)):=rfl
  have iN:mH (l.getD i 0)=false→lC l=false:=by
   intro h
   rw[h] at ht
   have:l.all mH=false:=by rw[←List.take_append_drop (i+1) l,List.all_append,ht,Bool.false_and]
   unfold lC
   rw[this]
   rfl
  generalize (l.getD i 0).toNat=c at *
  by_cases q1:(c:Int)<48
  ·rw[iN (by rw[Z8,decide_eq_false (by omega)];rfl)]
   simp only[cU,g0,g3,bL,cX,e1,q1,VX,Nat.reduceEqDiff,Nat.reduceAdd]
   exact aI rfl
  ·by_cases q2:(57:Int)<(c:Int)
   ·rw[iN (by rw[Z8,decide_eq_false (show ¬c≤57 by omega),Bool.and_false])]
    simp only[cU,g0,g3,bL,cX,e1,q1,q2,VX,Nat.reduceEqDiff,Nat.reduceAdd]
    exact aI rfl
   ·rw[Z8,decide_eq_true (by omega),decide_eq_true (by omega),Bool.and_self] at ht
    simp only[cU,g0,g3,bL,cX,e1,q1,q2,wi,VX,Nat.reduceEqDiff,Nat.reduceAdd]
    exact⟨i+1,by omega,by omega,ht,rfl⟩
 ·have zK:i=l.length:=by omega
  subst zK
  rw[List.take_length] at hd
  by_cases h1:(1:Int)≤(l.length:Int)
  ·by_cases h2:(l.length:Int)≤200
   ·by_cases h3:(l.length:Int)=1
    ·rw[jF.2 ⟨hd,by omega,by omega,.inl (by omega)⟩]
     simp only[cU,g0,g3,bL,cX,ge_iff_le,h1,h2,h3,Int.reduceLE,Int.reduceLT,VX,Nat.reduceEqDiff,Nat.reduceAdd]
     exact aI rfl
    ·have e1:=Jv l (by omega)
     by_cases h4:(((l.getD 0 0).toNat:Int)=48)
     ·have hk:lC l=false:=by
       cases h:lC l with
       | false=>rfl
       |
        true =>
        rcases(jF.1 h).2.2.2 with h5 | h5
        ·omega
        ·exact absurd (UInt8.toNat_inj.1 (by rw[show (48:UInt8).toNat=48 from rfl];omega)) h5
      rw[hk]
      simp only[cU,g0,g3,bL,cX,ge_iff_le,h1,h2,h3,h4,e1,VX,Nat.reduceEqDiff,Nat.reduceAdd]
      exact aI rfl
     ·have h5:l.getD 0 0≠48:=fun h=>h4 (by rw[h];rfl)
      rw[jF.2 ⟨hd,by omega,by omega,.inr h5⟩]
      simp only[cU,g0,g3,bL,cX,ge_iff_le,h1,h2,h3,h4,e1,VX,Nat.reduceEqDiff,Nat.reduceAdd]
      exact aI rfl
   ·have hk:lC l=false:=by
     cases h:lC l with
     | false=>rfl
     | true=>have:=(jF.1 h).2.2.1;omega
    rw[hk]
    simp only[cU,g0,g3,bL,cX,ge_iff_le,h1,h2,VX,Nat.reduceEqDiff,Nat.reduceAdd]
    exact aI rfl
  ·have hk:lC l=false:=by
    cases h:lC l with
    | false=>rfl
    | true=>have:=(jF.1 h).2.1;omega
   rw[hk]
   simp only[cU,g0,g3,bL,cX,ge_iff_le,h1,VX,Nat.reduceEqDiff,Nat.reduceAdd]
   exact aI rfl
set_option maxHeartbeats 1000000 in
theorem Cv (l:List UInt8) (c:UInt8) (hl:l.length≤1000000000000):TC 127 [aY l,.sc (.int .u8 (c.toNat:Int))] (eU aY (fQ c l)):=by
 refine TC.walk ⟨true,false⟩ Jc rfl (Nat.le_of_ble_eq_true rfl) rfl (IA (size:=1) (fun _=>rfl) (fun _=>rfl) fun _=>rfl) ?_
 have e3:∀lr,oU lr [.string ⟨#[]⟩] 0 [] []=some (.ref 0 0 0 0 0,[.row 0 (([]:List (List UInt8)).map aY) 1 true]):=fun lr=>mW (H:=[]) (lr:=lr) (z:=[.string ⟨#[]⟩]) rfl
 have e4:∀(x:List UInt8) (H:aC),oU false [.string ⟨#[]⟩] 1 [(0,aY x)] H=some (.tree [aY x] (.cl 1),H):=fun x H=>lH (z:=[.string ⟨#[]⟩]) rfl rfl rfl
 have e5:∀(x:List UInt8) (H:aC),cM 1 (.tree [aY x] (.cl 1)) H=some [aY x]:=fun x H=>hC rfl rfl
 simp only[F0,Ci,e3,VX,Nat.reduceEqDiff,Nat.reduceAdd]
 refine bJ (fun(s:List (List UInt8)×Nat×Nat) ρ H=>H=[.row s.1.length (s.1.map aY) 1 true]∧s.2.1≤s.2.2∧s.2.2≤l.length+1∧s.1.length≤s.2.1 ∧
  ((s.2.2≤l.length∧fQ c l=s.1++fQ c (l.drop s.2.1)∧c∉(l.drop s.2.1).take (s.2.2-s.2.1))∨(s.2.2=l.length+1∧fQ c l=s.1)) ∧
  ρ 0=aY l∧ρ 1 = .sc (.int .u8 (c.toNat:Int))∧ρ 5 = .ref 0 s.1.length 0 s.1.length s.1.length∧ρ 6=VI s.2.1∧ρ 7=VI s.2.2) (fun s=>l.length+1-s.2.2) ([],0,0) ⟨rfl,Nat.zero_le _,Nat.zero_le _,Nat.zero_le _,.inl ⟨Nat.zero_le _,rfl,by simp⟩,rfl,rfl,rfl,rfl,rfl⟩ ?_
 rintro⟨out,fr,i⟩ ρ H ⟨rfl,hfi,hi,kB,Cs,g0,g1,g5,g6,g7⟩
 simp only at hfi hi kB Cs g5 g6 g7
 by_cases cX:(i:Int)≤(l.length:Int)
 ·have Gk:i≤l.length:=by omega
  obtain⟨hp,hc⟩:fQ c l=out++fQ c (l.drop fr)∧c∉(l.drop fr).take (i-fr):=by
   rcases Cs with⟨_,h1,h2⟩ | ⟨h,_⟩
   ·exact⟨h1,h2⟩
   ·omega
  have wi:IntKind.i64.wrap ((i:Int)+1)=((i+1:Nat):Int):=wrapN (i+1) (by omega) (by omega)
  have e2:=TZ l hfi Gk
  have eP:=lP (f:=aY) (xs:=out) (x:=(l.drop fr).take (i-fr)) (lo:=0) (b:=0) (g:=out.length) (n:=out.length) (e:=1) (bytes:=16) (H:=[.row out.length (out.map aY) 1 true]) bK rfl (Nat.zero_le _) (by decide) (by decide) (by omega)
  have Iz:([.row out.length (out.map aY) 1 true]:aC).set 0 (.row (out.length+1) ((out++[(l.drop fr).take (i-fr)]).map aY) 1 true)=[.row (out.length+1) ((out++[(l.drop fr).take (i-fr)]).map aY) 1 true]:=rfl
  rw[Iz] at eP
  by_cases q1:i=l.length
  ·subst q1
   have Ua:fQ c l=out++[(l.drop fr).take (l.length-fr)]:=by
    rw[hp]
    have:(l.drop fr).take (l.length-fr)=l.drop fr:=List.take_of_length_le (by rw[List.length_drop];omega)
    rw[this] at hc ⊢
    rw[CI hc]
   simp only[lF,g0,g1,g5,g6,g7,bL,cX,eq_self,e2,e4,e5,eP,wi,VX,Nat.reduceEqDiff,Nat.reduceAdd]
   refine⟨(out++[(l.drop fr).take (l.length-fr)],l.length+1,l.length+1),by simp only;omega,?_,by simp only;omega,by simp only;omega,?_,.inr ⟨rfl,Ua⟩,?_⟩
   ·simp
   ·simp only[List.length_append,List.length_cons,List.length_nil];omega
   ·simp
  ·have X5:i<l.length:=by omega
   have q1':¬(i:Int)=(l.length:Int):=by omega
   have e1:=Db l X5
   have Zu:l.drop i=l.getD i 0::l.drop (i+1):=by rw[List.drop_eq_getElem_cons X5,List.getD_eq_getElem?_getD,List.getElem?_eq_getElem X5];rfl
   by_cases q2:l.getD i 0=c
   ·have q2':((l.getD i 0).toNat:Int)=(c.toNat:Int):=by rw[q2]
    have Ua:fQ c l=(out++[(l.drop fr).take (i-fr)])++fQ c (l.drop (i+1)):=by
     have Sh:l.drop fr=(l.drop fr).take (i-fr)++c::l.drop (i+1):=by
      have h1:(l.drop fr).drop (i-fr)=l.drop i:=by rw[List.drop_drop];congr 1;omega
      conv=>lhs;rw[←List.take_append_drop (i-fr) (l.drop fr),h1,Zu,q2]
     rw[hp]
     conv=>lhs;rw[Sh]
     rw[Ij hc,List.append_assoc]
     rfl
    simp only[lF,g0,g1,g5,g6,g7,bL,cX,q1',e1,q2',eq_self,e2,e4,e5,eP,wi,VX,Nat.reduceEqDiff,Nat.reduceAdd]
    refine⟨(out++[(l.drop fr).take (i-fr)],i+1,i+1),by simp only;omega,?_,by simp only;omega,by simp only;omega,?_,.inl ⟨by simp only;omega,Ua,by simp⟩,?_⟩
    ·simp
    ·simp only[List.length_append,List.length_cons,List.length_nil];omega
    ·simp
   ·have q2':¬((l.getD i 0).toNat:Int)=(c.toNat:Int):=fun h=>q2 (UInt8.toNat_inj.1 (by omega))
    simp only[lF,g0,g1,g5,g6,g7,bL,cX,q1',e1,q2',wi,VX,Nat.reduceEqDiff,Nat.reduceAdd]
    refine⟨(out,fr,i+1),by simp only;omega,rfl,by simp only;omega,by simp only;omega,kB,.inl ⟨by simp only;omega,hp,?_⟩,rfl,rfl,rfl⟩
    simp only
    rw[show i+1-fr=(i-fr)+1 by omega,List.take_add_one,List.mem_append,not_or]
    refine⟨hc,?_⟩
    have:(l.drop fr)[i-fr]? = some (l.getD i 0):=by
     rw[List.getElem?_drop,show fr+(i-fr)=i by omega,List.getD_eq_getElem?_getD,List.getElem?_eq_getElem X5]
     rfl
    rw[this]
    simp
    exact fun h=>q2 h.symm
 ·have Ua:fQ c l=out:=by
   rcases Cs with⟨h,_⟩ | ⟨_,h⟩
   ·omega
   ·exact h
  rw[Ua]
  simp only[lF,g0,g5,g7,bL,cX,VX,Nat.reduceEqDiff,Nat.reduceAdd]
  exact IT (es:=out.map aY) bK (by simp) (Nat.le_refl _) (gO fun _=>rfl)
theorem UK {l:List UInt8} (h:l.all mH=true) {i:Nat} (hi:i<l.length):48≤(l.getD i 0).toNat∧(l.getD i 0).toNat≤57:=by
 have:=List.all_eq_true.1 h (l.getD i 0) (by rw[List.getD_eq_getElem?_getD,List.getElem?_eq_getElem hi];exact List.getElem_mem hi)
 simpa[mH] using this
theorem Hx {l:List UInt8} (hd:l.all mH=true) (hl:l.length≤1000000000000) {fr tq:Nat} (hft:fr≤tq) (h9:tq-fr≤9) (htl:tq≤l.length) {H:aC} {lo:Nat} {ρ:cN} {Q:VQ} (h0:ρ 0=aY l) (h4:ρ 4=VI tq) (h6:ρ 6=VI 0) (h7:ρ 7=VI fr)
  (hQ:∀aP,(∀t,t<6→aP t=ρ t)→aP 6=VI (cP ((l.drop fr).take (tq-fr)))→Q .normal aP H):VW ⟨true,false⟩ lo (.loop kA) (vY 2 Q) ρ H:=by
 refine bJ (fun(i:Nat) aP H'=>fr≤i∧i≤tq∧H'=H∧(∀t,t<6→aP t=ρ t)∧aP 6=VI (cP ((l.drop fr).take (i-fr)))∧aP 7=VI i) (fun i=>tq-i) fr ⟨Nat.le_refl _,hft,rfl,fun _ _=>rfl,by rw[h6,Nat.sub_self];rfl,h7⟩ ?_
 rintro i aP H' ⟨hfi,hi,rfl,hk,g6,g7⟩
 have g0:=(hk 0 (by decide)).trans h0
 have g4:=(hk 4 (by decide)).trans h4
 by_cases cX:(i:Int)<(tq:Int)
 ·have Gk:i<l.length:=by omega
  have e1:=Db l Gk
  obtain⟨c1,c2⟩:=UK hd Gk
  have wi:IntKind.i64.wrap ((i:Int)+1)=((i+1:Nat):Int):=wrapN (i+1) (by omega) (by omega)
  have hcd:((l.drop fr).take (i-fr)).all mH=true:=by
   rw[List.all_eq_true] at hd ⊢
   exact fun x hx=>hd x (List.mem_of_mem_drop (List.mem_of_mem_take hx))
  have aR:=L9 hcd
  rw[List.length_take,List.length_drop,Nat.min_eq_left (by omega)] at aR
  have hp9:10^(i-fr)≤10^8:=Nat.pow_le_pow_right (by decide) (by omega)
  have e8:(10:Nat)^8=100000000:=by decide
  have rE:cP ((l.drop fr).take (i+1-fr))=cP ((l.drop fr).take (i-fr))*10+dv (l.getD i 0):=by
   have:(l.drop fr)[i-fr]? = some (l.getD i 0):=by
    rw[List.getElem?_drop,show fr+(i-fr)=i by omega,List.getD_eq_getElem?_getD,List.getElem?_eq_getElem Gk]
    rfl
   rw[show i+1-fr=(i-fr)+1 by omega,List.take_add_one,this]
   exact JO _ _
  have hdv:dv (l.getD i 0)=(l.getD i 0).toNat-48:=rfl
  rw[hdv] at rE
  generalize (l.getD i 0).toNat=c at *
  generalize cP ((l.drop fr).take (i-fr))=D at *
  have w1:IntKind.i64.wrap (10*(D:Int))=((10*D:Nat):Int):=wrapN _ (by omega) (by omega)
  have w2:IntKind.u8.wrap ((c:Int)-48)=((c-48:Nat):Int):=by
   simp[IntKind.wrap,IntKind.bits,IntKind.signed]
   omega
  have w3:IntKind.i64.wrap ((c-48:Nat):Int)=((c-48:Nat):Int):=wrapN _ rfl (by omega)
  have w4:IntKind.i64.wrap (((10*D:Nat):Int)+((c-48:Nat):Int))=((D*10+(c-48):Nat):Int):=wrapN _ (by omega) (by omega)
  simp only[kA,g0,g4,g6,g7,cX,e1,w1,w2,w3,w4,wi,VX,Nat.reduceEqDiff,Nat.reduceAdd]
  refine⟨i+1,by omega,by omega,by omega,fun t ht => ?_,by rw[rE],rfl⟩
  try simp only[qZ]
  repeat rw[if_neg (by omega)]
  exact hk t ht
 ·have zK:i=tq:=by omega
  subst zK
  simp only[kA,g4,g7,cX,VX,Nat.reduceEqDiff,Nat.reduceAdd]
  refine hQ _ (fun t ht => ?_) ?_
  ·try simp only[qZ]
   repeat rw[if_neg (by omega)]
   exact hk t ht
  ·simp only[g6,VX,Nat.reduceEqDiff,Nat.reduceAdd]
set_option maxHeartbeats 1000000 in
theorem pC (l:List UInt8) (hd:l.all mH=true) (hl:l.length≤1000000000):TC 129 [aY l] (bY (cP l)):=by
 refine TC.walk ⟨true,false⟩ D5 rfl (Nat.le_of_ble_eq_true rfl) rfl (oQ _) ?_
 have e3:∀lr,oU lr [.int .i64 0] 0 [] []=some (.ref 0 0 0 0 0,[.row 0 (([]:List Nat).map tV) 1 true]):=fun lr=>mW (H:=[]) (lr:=lr) (z:=[.int .i64 0]) rfl
 have e4:∀(x:Nat) (H:aC),oU false [.int .i64 0] 1 [(0,tV x)] H=some (.tree [tV x] (.cl 1),H):=fun x H=>lH (z:=[.int .i64 0]) rfl rfl rfl
 have e5:∀(x:Nat) (H:aC),cM 1 (.tree [tV x] (.cl 1)) H=some [tV x]:=fun x H=>hC rfl rfl
 simp only[yZ,uP,e3,bL,VX,Nat.reduceEqDiff,Nat.reduceAdd]
 refine bJ (fun(s:List Nat×Int) ρ H=>H=[.row s.1.length (s.1.map tV) 1 true]∧s.2≤l.length ∧ -9≤s.2∧s.1.length+s.2.toNat≤l.length∧(∀d∈s.1,d<1000000000)∧cP l=val 1000000000 s.1+1000000000^s.1.length*cP (l.take s.2.toNat) ∧
  ρ 0=aY l∧ρ 3 = .ref 0 s.1.length 0 s.1.length s.1.length∧ρ 4=VI s.2) (fun s=>s.2.toNat) ([],(l.length:Int)) ⟨rfl,Int.le_refl _,by simp only;omega,by simp,by simp,?_,rfl,rfl,rfl⟩ ?_
 ·simp only[Int.toNat_natCast,List.take_length,List.length_nil,Nat.pow_zero,Nat.one_mul,val,Nat.zero_add]
 rintro⟨out,z⟩ ρ H ⟨rfl,hz,hz9,kB,hds,hv,g0,g3,g4⟩
 simp only at hz hz9 kB hds hv g3 g4
 by_cases fL:0<z
 ·obtain⟨tq,rfl⟩:∃tq:Nat,z=tq:=⟨z.toNat,by omega⟩
  rw[Int.toNat_natCast] at kB hv
  have hto:0<tq:=by omega
  have key:∀fr:Nat,fr≤tq→tq-fr≤9→cP (l.take tq)=cP (l.take fr)*10^(tq-fr)+cP ((l.drop fr).take (tq-fr))∧cP ((l.drop fr).take (tq-fr))<1000000000:=by
   intro fr h1 h2
   have hcd:((l.drop fr).take (tq-fr)).all mH=true:=by
    rw[List.all_eq_true] at hd ⊢
    exact fun x hx=>hd x (List.mem_of_mem_drop (List.mem_of_mem_take hx))
   have hlen:((l.drop fr).take (tq-fr)).length=tq-fr:=by rw[List.length_take,List.length_drop];omega
   constructor
   ·have:=List.take_add (l:=l) (i:=fr) (j:=tq-fr)
    rw[show fr+(tq-fr)=tq by omega] at this
    rw[this,MA,hlen]
   ·have:=L9 hcd
    rw[hlen] at this
    exact Nat.lt_of_lt_of_le this (Nat.le_trans (Nat.pow_le_pow_right (by decide) h2) (by decide))
  have eP:=fun X=>lP (f:=tV) (xs:=out) (x:=X) (lo:=0) (b:=0) (g:=out.length) (n:=out.length) (e:=1) (bytes:=8) (H:=[.row out.length (out.map tV) 1 true]) bK rfl (Nat.zero_le _) (by decide) (by decide) (by omega)
  have Iz:∀X,([.row out.length (out.map tV) 1 true]:aC).set 0 (.row (out.length+1) ((out++[X]).map tV) 1 true)=[.row (out.length+1) ((out++[X]).map tV) 1 true]:=fun _=>rfl
  simp only[Iz] at eP
  by_cases h9:(9:Int)<(tq:Int)
  ·obtain⟨k1,k2⟩:=key (tq-9) (by omega) (by omega)
   have wz:IntKind.i64.wrap ((tq:Int)-9)=((tq-9:Nat):Int):=wrapN _ (by omega) (by omega)
   rw[show tq-(tq-9)=9 by omega] at k1 k2
   rw[show (10:Nat)^9=1000000000 by decide] at k1
   simp only[jR,g0,g3,g4,fL,h9,wz,VX,Nat.reduceEqDiff,Nat.reduceAdd]
   refine Hx (l:=l) hd (by omega) (fr:=tq-9) (tq:=tq) (by omega) (by omega) (by omega) ?_ ?_ ?_ ?_ fun yA q q6 => ?_
   all_goals first | (simp only[g0,g4,VX,Nat.reduceEqDiff,Nat.reduceAdd];done) | skip
   rw[show tq-(tq-9)=9 by omega] at q6
   have u3:yA 3 = .ref 0 out.length 0 out.length out.length:=by rw[q 3 (by decide)];simp only[g3,VX,Nat.reduceEqDiff,Nat.reduceAdd]
   have u0:yA 0=aY l:=by rw[q 0 (by decide)];simp only[g0,VX,Nat.reduceEqDiff,Nat.reduceAdd]
   have u4:yA 4=VI tq:=by rw[q 4 (by decide)];simp only[g4,VX,Nat.reduceEqDiff,Nat.reduceAdd]
   generalize cP ((l.drop (tq-9)).take 9)=X at *
   have e4:=e4 X
   have e5:=e5 X
   have eP:=eP X
   simp only[u0,u3,u4,q6,e4,e5,eP,wz,VX,Nat.reduceEqDiff,Nat.reduceAdd]
   refine⟨(out++[X],((tq-9:Nat):Int)),by simp only;omega,?_,by simp only;omega,by simp only;omega,?_,?_,?_,?_⟩
   ·simp
   ·simp only[List.length_append,List.length_cons,List.length_nil];omega
   ·intro d hdm
    rcases List.mem_append.1 hdm with h | h
    ·exact hds d h
    ·rw[List.mem_singleton] at h;omega
   ·simp only[Int.toNat_natCast]
    rw[hv,k1,qN,List.length_append,List.length_singleton,Nat.pow_succ]
    grind
   ·simp
  ·obtain⟨k1,k2⟩:=key 0 (by omega) (by omega)
   rw[List.take_zero,IQ,Nat.zero_mul,Nat.zero_add,Nat.sub_zero] at k1
   rw[Nat.sub_zero] at k2
   have wz:IntKind.i64.wrap ((tq:Int)-9)=(tq:Int)-9:=wrap64 (by omega) (by omega)
   simp only[jR,g0,g3,g4,fL,h9,VX,Nat.reduceEqDiff,Nat.reduceAdd]
   refine Hx (l:=l) hd (by omega) (fr:=0) (tq:=tq) (by omega) (by omega) (by omega) ?_ ?_ ?_ ?_ fun yA q q6 => ?_
   all_goals first | (simp only[g0,g4,VX,Nat.reduceEqDiff,Nat.reduceAdd];done) | (simp only[VX,Nat.reduceEqDiff,Nat.reduceAdd];rfl) | skip
   rw[Nat.sub_zero] at q6
   have u3:yA 3 = .ref 0 out.length 0 out.length out.length:=by rw[q 3 (by decide)];simp only[g3,VX,Nat.reduceEqDiff,Nat.reduceAdd]
   have u0:yA 0=aY l:=by rw[q 0 (by decide)];simp only[g0,VX,Nat.reduceEqDiff,Nat.reduceAdd]
   have u4:yA 4=VI tq:=by rw[q 4 (by decide)];simp only[g4,VX,Nat.reduceEqDiff,Nat.reduceAdd]
   generalize cP ((l.drop 0).take tq)=X at *
   have e4:=e4 X
   have e5:=e5 X
   have eP:=eP X
   simp only[u0,u3,u4,q6,e4,e5,eP,wz,VX,Nat.reduceEqDiff,Nat.reduceAdd]
   refine⟨(out++[X],(tq:Int)-9),by simp only;omega,?_,by simp only;omega,by simp only;omega,?_,?_,?_,?_⟩
   ·simp
   ·simp only[List.length_append,List.length_cons,List.length_nil];omega
   ·intro d hdm
    rcases List.mem_append.1 hdm with h | h
    ·exact hds d h
    ·rw[List.mem_singleton] at h;omega
   ·simp only
    rw[show ((tq:Int)-9).toNat=0 by omega,List.take_zero,IQ,Nat.mul_zero,Nat.add_zero,hv,k1,qN]
   ·simp
 ·have h0:z.toNat=0:=by omega
  rw[h0,List.take_zero,IQ,Nat.mul_zero,Nat.add_zero] at hv
  rw[hv]
  have ct:=TC.Yo (f:=tV) (xs:=out) (size:=1) (e:=1) (w:=true) (H:=[.row out.length (out.map tV) 1 true]) (b:=0) (gn:=out.length) (n:=out.length) (c:=out.length) (oI out hds (by show out.length≤70368744177664;omega)) bK rfl (Nat.le_refl _) CE (fun _=>rfl) rfl rfl
  simp only[jR,g0,g3,g4,fL,ct,VX,Nat.reduceEqDiff,Nat.reduceAdd]
  exact aI (cJ _)
end Go.PM
namespace Go.PM
open Go.Lib
def AY (l:List UInt8):VV:=match dU l with
 | some q => .eX [sV q,VB true]
 | none => .eX [Ei,VB false]
theorem tB (q:Rat):aX (sV q)=true:=by simp[sV,aX,aO,cJ,kQ]
theorem KK (q:Rat):iZ (sV q)=true:=by simp[sV,iZ,pV,oQ,kQ]
theorem Pl (l:List UInt8):iZ (AY l)=true:=by
 unfold AY
 split<;>simp[iZ,pV,KK,Ns,kQ]
theorem H6 {neg:Bool} {t b:Nat} (hb:b≠0) (hg:Nat.gcd t b=1) (hn:¬(neg=true∧t=0)):sV (mkRat (Cm neg t) b) = .agg [VB neg,bY t,bY b]:=by
 obtain⟨e1,e2⟩:=Oz (neg:=neg) hb hg
 refine XF ?_ (by rw[e1,yS]) e2
 rw[e1]
 cases neg with
 | false=>unfold Cm;simp
 |
  true =>
  have:t≠0:=fun h=>hn ⟨rfl,h⟩
  unfold Cm
  simp
  omega
theorem BC {n:Nat}:(((aG 1000000000 n).length:Nat):Int)=0↔n=0:=by
 rw[←lD (b:=1000000000) (n:=n) (by decide),←List.length_eq_zero_iff]
 omega
theorem N7 {neg:Bool} {d t:List UInt8} (h:(47:UInt8)∈t):nN neg d (some t)=none:=by
 have ht:lC t=false:=by
  cases hk:lC t with
  | false=>rfl
  | true=>exact absurd h (HO (jF.1 hk).1)
 unfold nN
 split
 ·rfl
 ·simp only
  rw[if_neg (fun h=>by rw[ht] at h;exact absurd h.1 (by decide))]
theorem at_one (x:List UInt8) (H:aC):aZ 1 (eU aY [x]) (VI 0) H=some (.cD (aY x) 0):=aL (f:=aY) (t := .op) (H:=H) (size:=1) (k := .i64) (xs:=[x]) (i:=0) rfl rfl
theorem XA (x y:List UInt8) (H:aC):aZ 1 (eU aY [x,y]) (VI 0) H=some (.cD (aY x) 0):=aL (f:=aY) (t := .op) (H:=H) (size:=1) (k := .i64) (xs:=[x,y]) (i:=0) rfl rfl
theorem Yj (x y:List UInt8) (H:aC):aZ 1 (eU aY [x,y]) (VI 1) H=some (.cD (aY y) 0):=aL (f:=aY) (t := .op) (H:=H) (size:=1) (k := .i64) (xs:=[x,y]) (i:=1) rfl rfl
theorem Qw (x:List UInt8) (H:aC):lY (eU aY [x]) H=some (VI 1):=dS (f:=aY) (xs:=[x])
theorem YS (x y:List UInt8) (H:aC):lY (eU aY [x,y]) H=some (VI 2):=dS (f:=aY) (xs:=[x,y])
set_option maxRecDepth 100000 in
set_option maxHeartbeats 4000000 in
theorem yW (l:List UInt8) (hl:l.length≤1000000000):TC 109 [aY l] (AY l):=by
 refine TC.walk ⟨true,false⟩ Gf rfl (Nat.le_of_ble_eq_true rfl) rfl (Pl l) ?_
 by_cases IV:l=[]
 ·subst IV
  have eC:TC 127 [.sc (.string ⟨#[]⟩),.sc (.int .u8 47)] (eU aY [[]]):=Cv [] 47 (by simp)
  have eD:TC 128 [.sc (.string ⟨#[]⟩)] (VB false):=mB [] (by simp)
  have e1:Da (.string ⟨#[]⟩)=some (.int .i64 0):=rfl
  have a1:=at_one []
  have a2:=Qw []
  simp only[bH,aS,e1,eC,eD,a1,a2,Int.reduceLT,Int.reduceLE,bP,kC,Nat.reduceLeDiff,Nat.reduceLT,Nat.reduceSub,VX,Nat.reduceEqDiff,Nat.reduceAdd]
  exact dC (d:=6) jW (aQ (v:=VB false) rfl)
 have hp:0<l.length:=List.length_pos_iff.2 IV
 have fL:(0:Int)<(l.length:Int):=by omega
 have e0:=Jv l hp
 unfold AY
 unfold dU
 have BX:isNeg l=decide (((l.getD 0 0).toNat:Int)=45):=by
  unfold isNeg
  rw[decide_eq_true (show 1≤l.length from hp),Bool.true_and]
  refine decide_eq_decide.2 ⟨fun h=>by rw[h];rfl,fun h=>UInt8.toNat_inj.1 (by rw[show (45:UInt8).toNat=45 from rfl];omega)⟩
 have OF:(if isNeg l=true then l.drop 1 else l).length≤l.length:=by split<;>simp
 have q0:isNeg l=false→¬((l.getD 0 0).toNat:Int)=45:=fun h=>by rw[BX] at h;exact of_decide_eq_false h
 have q9:isNeg l=true→((l.getD 0 0).toNat:Int)=45:=fun h=>by rw[BX] at h;exact of_decide_eq_true h
 have r0:isNeg l=false→(if isNeg l=true then l.drop 1 else l)=l:=fun h=>by rw[h];rfl
 have r9:isNeg l=true→FW (aY l) (some (VI 1)) none=some (aY (if isNeg l=true then l.drop 1 else l)):=fun h=>by rw[h];exact SA l (a:=1) hp
 generalize (if isNeg l=true then l.drop 1 else l)=r at *
 generalize isNeg l=neg at *
 clear BX
 have eC:TC 127 [aY r,.sc (.int .u8 47)] (eU aY (fQ 47 r)):=Cv r 47 (by omega)
 obtain⟨l1,l2⟩:=Vi (c:=47) (l:=r)
 cases hs:(pG 47 r).2 with
 |
  none =>
  have hd:=(BD hs).2.1
  rw[MM hs] at eC
  rw[hd]
  have a1:=at_one r
  have a2:=Qw r
  have eD:=mB r (by omega)
  cases hk:lC r with
  |
   false =>
   rw[hk] at eD
   have TP:nN neg r none=none:=if_pos (.inl hk)
   rw[TP]
   cases neg with
   |
    false =>
    have q1:=q0 rfl
    have OF:=r0 rfl
    subst OF
    simp only[bH,aS,bL,fL,e0,q1,eC,eD,a1,a2,Int.reduceLT,bP,bM,aV,bB,iM,fO,dR,fP,kC,Nat.reduceLeDiff,Nat.reduceLT,Nat.reduceSub,VX,Nat.reduceEqDiff,Nat.reduceAdd]
    exact dC (d:=6) jW (aQ (v:=VB false) rfl)
   |
    true =>
    have q1:=q9 rfl
    have e9:=r9 rfl
    simp only[bH,aS,bL,fL,e0,q1,eC,eD,a1,a2,Int.reduceLT,e9,bP,bM,aV,bB,iM,fO,dR,fP,kC,Nat.reduceLeDiff,Nat.reduceLT,Nat.reduceSub,VX,Nat.reduceEqDiff,Nat.reduceAdd]
    exact dC (d:=6) jW (aQ (v:=VB false) rfl)
  |
   true =>
   rw[hk] at eD
   have hbt:=A7 hk
   have eN:=pC r (jF.1 hk).1 (by omega)
   by_cases hz:neg=true∧cP r=0
   ·have TP:nN neg r none=none:=if_pos (.inr hz)
    rw[TP]
    obtain⟨rfl,E6⟩:=hz
    have q1:=q9 rfl
    have e9:=r9 rfl
    have F8:(((aG 1000000000 (cP r)).length:Nat):Int)=0:=BC.2 E6
    simp only[bH,aS,bL,fL,e0,q1,eC,eD,a1,a2,eN,e9,fX,F8,Int.reduceLT,bP,bM,aV,bB,iM,fO,dR,fP,kC,Nat.reduceLeDiff,Nat.reduceLT,Nat.reduceSub,VX,Nat.reduceEqDiff,Nat.reduceAdd]
    exact dC (d:=6) jW (aQ (v:=VB false) rfl)
   ·have C0:neg=true→¬(((aG 1000000000 (cP r)).length:Nat):Int)=0:=fun h h0=>hz ⟨h,BC.1 h0⟩
    have TP:nN neg r none=some (mkRat (Cm neg (cP r)) 1):=if_neg (by rw[hk];rintro(h | h);exact absurd h (by decide);exact hz h)
    rw[TP]
    simp only[]
    rw[H6 (by decide) (Nat.gcd_one_right _) hz]
    cases neg with
    |
     false =>
     have q1:=q0 rfl
     have OF:=r0 rfl
     subst OF
     simp only[bH,aS,bL,fL,e0,q1,eC,eD,a1,a2,eN,Int.reduceLT,Int.reduceEq,bP,bM,aV,bB,iM,fO,dR,fP,kC,Nat.reduceLeDiff,Nat.reduceLT,Nat.reduceSub,VX,Nat.reduceEqDiff,Nat.reduceAdd]
     exact dC (d:=6) (Bh (aQ (v:=VB false) rfl) (aQ (cJ _)) UG) (aQ (v:=VB true) rfl)
    |
     true =>
     have q1:=q9 rfl
     have e9:=r9 rfl
     have F8:=C0 rfl
     simp only[bH,aS,bL,fL,e0,q1,eC,eD,a1,a2,eN,Int.reduceLT,Int.reduceEq,e9,fX,F8,bP,bM,aV,bB,iM,fO,dR,fP,kC,Nat.reduceLeDiff,Nat.reduceLT,Nat.reduceSub,VX,Nat.reduceEqDiff,Nat.reduceAdd]
     exact dC (d:=6) (Bh (aQ (v:=VB true) rfl) (aQ (cJ _)) UG) (aQ (v:=VB true) rfl)
 |
  some t =>
  have ltt:=l2 t hs
  rw[FV hs] at eC
  generalize (pG 47 r).1=d at *
  by_cases hm:(47:UInt8)∈t
  ·rw[N7 hm]
   have hP:=Mo hm
   generalize hPP:fQ 47 t=P at *
   have a2:∀H,lY (eU aY (d::P)) H=some (VI ((d::P).length:Int)):=fun H=>dS (f:=aY) (xs:=d::P)
   have hq3:(2:Int)<((d::P).length:Int):=by rw[List.length_cons];omega
   generalize hQQ:d::P=PP at *
   clear hQQ hPP hP
   cases neg with
   |
    false =>
    have q1:=q0 rfl
    have OF:=r0 rfl
    subst OF
    simp only[bH,aS,bL,fL,e0,q1,eC,a2,hq3,bP,bM,aV,bB,iM,fO,dR,fP,kC,Nat.reduceLeDiff,Nat.reduceLT,Nat.reduceSub,VX,Nat.reduceEqDiff,Nat.reduceAdd]
    exact dC (d:=6) jW (aQ (v:=VB false) rfl)
   |
    true =>
    have q1:=q9 rfl
    have e9:=r9 rfl
    simp only[bH,aS,bL,fL,e0,q1,eC,a2,hq3,e9,bP,bM,aV,bB,iM,fO,dR,fP,kC,Nat.reduceLeDiff,Nat.reduceLT,Nat.reduceSub,VX,Nat.reduceEqDiff,Nat.reduceAdd]
    exact dC (d:=6) jW (aQ (v:=VB false) rfl)
  ·rw[CI hm] at eC
   have a1:=XA d t
   have a3:=Yj d t
   have a2:=YS d t
   have eD:=mB d (by omega)
   have eF:=mB t (by omega)
   cases hk:lC d with
   |
    false =>
    rw[hk] at eD
    have TP:nN neg d (some t)=none:=if_pos (.inl hk)
    rw[TP]
    cases neg with
    |
     false =>
     have q1:=q0 rfl
     have OF:=r0 rfl
     subst OF
     simp only[bH,aS,bL,fL,e0,q1,eC,eD,a1,a2,Int.reduceLT,bP,bM,aV,bB,iM,fO,dR,fP,kC,Nat.reduceLeDiff,Nat.reduceLT,Nat.reduceSub,VX,Nat.reduceEqDiff,Nat.reduceAdd]
     exact dC (d:=6) jW (aQ (v:=VB false) rfl)
    |
     true =>
     have q1:=q9 rfl
     have e9:=r9 rfl
     simp only[bH,aS,bL,fL,e0,q1,eC,eD,a1,a2,Int.reduceLT,e9,bP,bM,aV,bB,iM,fO,dR,fP,kC,Nat.reduceLeDiff,Nat.reduceLT,Nat.reduceSub,VX,Nat.reduceEqDiff,Nat.reduceAdd]
     exact dC (d:=6) jW (aQ (v:=VB false) rfl)
   |
    true =>
    rw[hk] at eD
    have hbt:=A7 hk
    have eN:=pC d (jF.1 hk).1 (by omega)
    by_cases hz:neg=true∧cP d=0
    ·have TP:nN neg d (some t)=none:=if_pos (.inr hz)
     rw[TP]
     obtain⟨rfl,E6⟩:=hz
     have q1:=q9 rfl
     have e9:=r9 rfl
     have F8:(((aG 1000000000 (cP d)).length:Nat):Int)=0:=BC.2 E6
     simp only[bH,aS,bL,fL,e0,q1,eC,eD,a1,a2,eN,e9,fX,F8,Int.reduceLT,bP,bM,aV,bB,iM,fO,dR,fP,kC,Nat.reduceLeDiff,Nat.reduceLT,Nat.reduceSub,VX,Nat.reduceEqDiff,Nat.reduceAdd]
     exact dC (d:=6) jW (aQ (v:=VB false) rfl)
    ·have C0:neg=true→¬(((aG 1000000000 (cP d)).length:Nat):Int)=0:=fun h h0=>hz ⟨h,BC.1 h0⟩
     have TP:nN neg d (some t)=if lC t=true∧1<cP t∧Nat.gcd (cP d) (cP t)=1 then some (mkRat (Cm neg (cP d)) (cP t)) else none:=if_neg (by rw[hk];rintro(h | h);exact absurd h (by decide);exact hz h)
     rw[TP]
     clear TP
     cases ht:lC t with
     |
      false =>
      rw[ht] at eF
      rw[if_neg (fun h=>absurd h.1 (by decide))]
      cases neg with
      |
       false =>
       have q1:=q0 rfl
       have OF:=r0 rfl
       subst OF
       simp only[bH,aS,bL,fL,e0,q1,eC,eD,eF,a1,a2,a3,eN,Int.reduceLT,Int.reduceEq,bP,bM,aV,bB,iM,fO,dR,fP,kC,Nat.reduceLeDiff,Nat.reduceLT,Nat.reduceSub,VX,Nat.reduceEqDiff,Nat.reduceAdd]
       exact dC (d:=6) jW (aQ (v:=VB false) rfl)
      |
       true =>
       have q1:=q9 rfl
       have e9:=r9 rfl
       have F8:=C0 rfl
       simp only[bH,aS,bL,fL,e0,q1,eC,eD,eF,a1,a2,a3,eN,Int.reduceLT,Int.reduceEq,e9,fX,F8,bP,bM,aV,bB,iM,fO,dR,fP,kC,Nat.reduceLeDiff,Nat.reduceLT,Nat.reduceSub,VX,Nat.reduceEqDiff,Nat.reduceAdd]
       exact dC (d:=6) jW (aQ (v:=VB false) rfl)
     |
      true =>
      rw[ht] at eF
      have Jk:=A7 ht
      have eM:=pC t (jF.1 ht).1 (by omega)
      have c2:∀lo H K,_:=fun lo H K=>RT (n:=cP t) (lo:=lo) (H:=H) (K:=K) (Nat.le_of_lt (Jb (by omega)))
      have c3:=Jp (cP d) (cP t) (Jb (by omega)) (Jb (by omega))
      by_cases h1:lJ (cP t) 1≤0
      ·have hle:¬1<cP t:=fun h=>by unfold lJ at h1;rw[if_neg (by omega),if_neg (by omega)] at h1;exact absurd h1 (by decide)
       rw[if_neg (fun h=>hle h.2.1)]
       cases neg with
       |
        false =>
        have q1:=q0 rfl
        have OF:=r0 rfl
        subst OF
        simp only[bH,aS,bL,fL,e0,q1,eC,eD,eF,a1,a2,a3,eN,eM,c2,h1,Int.reduceLT,Int.reduceEq,bP,bM,aV,bB,iM,fO,dR,fP,kC,Nat.reduceLeDiff,Nat.reduceLT,Nat.reduceSub,VX,Nat.reduceEqDiff,Nat.reduceAdd]
        exact dC (d:=6) jW (aQ (v:=VB false) rfl)
       |
        true =>
        have q1:=q9 rfl
        have e9:=r9 rfl
        have F8:=C0 rfl
        simp only[bH,aS,bL,fL,e0,q1,eC,eD,eF,a1,a2,a3,eN,eM,c2,h1,Int.reduceLT,Int.reduceEq,e9,fX,F8,bP,bM,aV,bB,iM,fO,dR,fP,kC,Nat.reduceLeDiff,Nat.reduceLT,Nat.reduceSub,VX,Nat.reduceEqDiff,Nat.reduceAdd]
        exact dC (d:=6) jW (aQ (v:=VB false) rfl)
      ·have aR:1<cP t:=by
        rcases Nat.lt_or_ge 1 (cP t) with h | h
        ·exact h
        ·exfalso
         apply h1
         unfold lJ
         split<;>(try split)<;>first | decide | omega
       have hgl:bl (Nat.gcd (cP d) (cP t))≤665:=Nat.le_trans (Dp (Nat.le_of_dvd (by omega) (Nat.gcd_dvd_right _ _))) Jk
       have c4:∀lo H K,_:=fun lo H K=>RT (n:=Nat.gcd (cP d) (cP t)) (lo:=lo) (H:=H) (K:=K) (Nat.le_of_lt (Jb (by omega)))
       by_cases hg:Nat.gcd (cP d) (cP t)=1
       ·have h4:lJ (Nat.gcd (cP d) (cP t)) 1=0:=by rw[hg];rfl
        rw[if_pos ⟨rfl,aR,hg⟩]
        simp only[]
        rw[H6 (by omega) hg hz]
        cases neg with
        |
         false =>
         have q1:=q0 rfl
         have OF:=r0 rfl
         subst OF
         simp only[bH,aS,bL,fL,e0,q1,eC,eD,eF,a1,a2,a3,eN,eM,c2,c3,c4,h1,h4,Int.reduceLT,Int.reduceEq,bP,bM,aV,bB,iM,fO,dR,fP,kC,Nat.reduceLeDiff,Nat.reduceLT,Nat.reduceSub,VX,Nat.reduceEqDiff,Nat.reduceAdd]
         exact dC (d:=6) (Bh (aQ (v:=VB false) rfl) (aQ (cJ _)) (aQ (cJ _))) (aQ (v:=VB true) rfl)
        |
         true =>
         have q1:=q9 rfl
         have e9:=r9 rfl
         have F8:=C0 rfl
         simp only[bH,aS,bL,fL,e0,q1,eC,eD,eF,a1,a2,a3,eN,eM,c2,c3,c4,h1,h4,Int.reduceLT,Int.reduceEq,e9,fX,F8,bP,bM,aV,bB,iM,fO,dR,fP,kC,Nat.reduceLeDiff,Nat.reduceLT,Nat.reduceSub,VX,Nat.reduceEqDiff,Nat.reduceAdd]
         exact dC (d:=6) (Bh (aQ (v:=VB true) rfl) (aQ (cJ _)) (aQ (cJ _))) (aQ (v:=VB true) rfl)
       ·have h4:¬lJ (Nat.gcd (cP d) (cP t)) 1=0:=by
         unfold lJ
         split<;>(try split)<;>first | decide | omega
        rw[if_neg (fun h=>hg h.2.2)]
        cases neg with
        |
         false =>
         have q1:=q0 rfl
         have OF:=r0 rfl
         subst OF
         simp only[bH,aS,bL,fL,e0,q1,eC,eD,eF,a1,a2,a3,eN,eM,c2,c3,c4,h1,h4,Int.reduceLT,Int.reduceEq,bP,bM,aV,bB,iM,fO,dR,fP,kC,Nat.reduceLeDiff,Nat.reduceLT,Nat.reduceSub,VX,Nat.reduceEqDiff,Nat.reduceAdd]
         exact dC (d:=6) jW (aQ (v:=VB false) rfl)
        |
         true =>
         have q1:=q9 rfl
         have e9:=r9 rfl
         have F8:=C0 rfl
         simp only[bH,aS,bL,fL,e0,q1,eC,eD,eF,a1,a2,a3,eN,eM,c2,c3,c4,h1,h4,Int.reduceLT,Int.reduceEq,e9,fX,F8,bP,bM,aV,bB,iM,fO,dR,fP,kC,Nat.reduceLeDiff,Nat.reduceLT,Nat.reduceSub,VX,Nat.reduceEqDiff,Nat.reduceAdd]
         exact dC (d:=6) jW (aQ (v:=VB false) rfl)
end Go.PM
namespace Go.PM
open Go.Lib
theorem uR:aB Ei=[VB false,cT 0,cT 0]:=rfl
theorem xV:isAny Ei=false:=rfl
theorem Dd:bU true 3 Ei 0=some Ei:=rfl
theorem GG {d:Nat} {H:aC} {u u' v v' w w':VV} (h1:fz (d+1) H u=some u') (h2:fz (d+1) H v=some v') (h3:fz (d+1) H w=some w'):fz (d+2) H (.eX [u,v,w])=some (.eX [u',v',w']):=by
 have e:fz (d+2) H (.eX [u,v,w])=if aX (.eX [u,v,w])=true then some (.eX [u,v,w]) else ([u,v,w].mapM (fz (d+1) H)).map .eX:=rfl
 rw[e]
 split
 ·rename_i h
  simp only[aX,aO,Bool.and_eq_true,Bool.and_true] at h
  rw[aQ h.1] at h1
  rw[aQ h.2.1] at h2
  rw[aQ h.2.2] at h3
  cases h1
  cases h2
  cases h3
  rfl
 ·rw[List.mapM_cons,h1,List.mapM_cons,h2,List.mapM_cons,h3]
  rfl
end Go.PM
namespace Go.PM
open Go.Lib
theorem Yc {a b:List UInt8}:(∃x y,dU a=some x∧dU b=some y)∨(dU a=none∨dU b=none):=by
 cases h1:dU a with
 | none=>exact .inr (.inl rfl)
 |
  some x =>
  cases h2:dU b with
  | none=>exact .inr (.inr rfl)
  | some y=>exact .inl ⟨x,y,rfl,rfl⟩
def PQ (a b:List UInt8):VV:=match dU a,dU b with
 | some x,some y => .eX [VI (KA x y),VB true]
 | _,_ => .eX [VI 0,VB false]
theorem Vf (a b:List UInt8):iZ (PQ a b)=true:=by
 unfold PQ
 split<;>rfl
theorem Kk {a b:List UInt8} {x y:Rat} (h1:dU a=some x) (h2:dU b=some y):PQ a b = .eX [VI (KA x y),VB true]:=by unfold PQ;rw[h1,h2]
theorem Te {a b:List UInt8} (h:dU a=none∨dU b=none):PQ a b = .eX [VI 0,VB false]:=by
 unfold PQ
 rcases h with h | h
 ·rw[h]
 ·rw[h]
  cases dU a<;>rfl
end Go.PM
namespace Go.PM
open Go.Lib
theorem ZG {a b:Rat}:(decide (a.num<0) != decide (b.num<0))=true→(decide (a<b)=decide (a.num<0)):=by
 intro h
 have h1:a.num<0↔a<0:=by rw[←Int.not_le,Rat.num_nonneg];constructor<;>intro h<;>grind
 have h2:b.num<0↔b<0:=by rw[←Int.not_le,Rat.num_nonneg];constructor<;>intro h<;>grind
 by_cases q1:a.num<0<;>by_cases q2:b.num<0
 ·simp[q1,q2] at h
 ·have:=h1.1 q1
  have:=mt h2.2 q2
  rw[decide_eq_true q1,decide_eq_true (by grind)]
 ·have:=h2.1 q2
  have:=mt h1.2 q1
  rw[decide_eq_false q1,decide_eq_false (by grind)]
 ·simp[q1,q2] at h
set_option maxHeartbeats 1000000 in
theorem AP (a b:Rat) (hka:rU a≤1099511627776) (hkb:rU b≤1099511627776):TC 56 [sV a,sV b] (VB (decide (a<b))):=by
 refine TC.walk ⟨true,false⟩ Hl rfl (Nat.le_of_ble_eq_true rfl) (by simp only[aO,tB];rfl) rfl ?_
 have b1 := @E4 a
 have b2 := @E4 b
 have b3 := @E3 a
 have b4 := @E3 b
 have b5:=T7 a.num.natAbs b.den
 have b6:=T7 b.num.natAbs a.den
 have c1:=wL a.num.natAbs b.den (Nat.le_of_lt (Jb (by omega))) (Nat.le_of_lt (Jb (by omega)))
 have c2:=wL b.num.natAbs a.den (Nat.le_of_lt (Jb (by omega))) (Nat.le_of_lt (Jb (by omega)))
 have c3:=vK (a.num.natAbs*b.den) (b.num.natAbs*a.den) (Nat.le_of_lt (Jb (by omega))) (Nat.le_of_lt (Jb (by omega)))
 have aR:=Rat.lt_iff (a:=a) (b:=b)
 by_cases q1:a.num<0<;>by_cases q2:b.num<0
 ·have T4:a<b↔0<lJ (a.num.natAbs*b.den) (b.num.natAbs*a.den):=by
   rw[aR,Yb]
   have e1:a.num = -(a.num.natAbs:Int):=by omega
   have e2:b.num = -(b.num.natAbs:Int):=by omega
   generalize a.num.natAbs=m at *
   generalize b.num.natAbs=n at *
   rw[e1,e2,Int.neg_mul,Int.neg_mul,←Int.natCast_mul,←Int.natCast_mul]
   omega
  by_cases q3:0<lJ (a.num.natAbs*b.den) (b.num.natAbs*a.den)
  ·rw[decide_eq_true (T4.2 q3)]
   simp only[jU,iK,c1,c2,c3,q1,q2,q3,CF,decide_true,decide_false,bne_self_eq_false,Bool.bne_true,Bool.bne_false,Bool.true_bne,Bool.false_bne,Bool.not_true,Bool.not_false,eG,wV,xG,wX,aV,kC,Nat.reduceLeDiff,Nat.reduceLT,Nat.reduceSub,VX,Nat.reduceEqDiff,Nat.reduceAdd]
   exact aI rfl
  ·rw[decide_eq_false (mt T4.1 q3)]
   simp only[jU,iK,c1,c2,c3,q1,q2,q3,CF,decide_true,decide_false,bne_self_eq_false,Bool.bne_true,Bool.bne_false,Bool.true_bne,Bool.false_bne,Bool.not_true,Bool.not_false,eG,wV,xG,wX,aV,kC,Nat.reduceLeDiff,Nat.reduceLT,Nat.reduceSub,VX,Nat.reduceEqDiff,Nat.reduceAdd]
   exact aI rfl
 ·have hl:=ZG (a:=a) (b:=b) (by simp[q1,q2])
  rw[hl,decide_eq_true q1]
  simp only[jU,iK,q1,q2,CF,decide_true,decide_false,bne_self_eq_false,Bool.bne_true,Bool.bne_false,Bool.true_bne,Bool.false_bne,Bool.not_true,Bool.not_false,eG,wV,xG,wX,aV,kC,Nat.reduceLeDiff,Nat.reduceLT,Nat.reduceSub,VX,Nat.reduceEqDiff,Nat.reduceAdd]
  exact aI rfl
 ·have hl:=ZG (a:=a) (b:=b) (by simp[q1,q2])
  rw[hl,decide_eq_false q1]
  simp only[jU,iK,q1,q2,CF,decide_true,decide_false,bne_self_eq_false,Bool.bne_true,Bool.bne_false,Bool.true_bne,Bool.false_bne,Bool.not_true,Bool.not_false,eG,wV,xG,wX,aV,kC,Nat.reduceLeDiff,Nat.reduceLT,Nat.reduceSub,VX,Nat.reduceEqDiff,Nat.reduceAdd]
  exact aI rfl
 ·have T4:a<b↔lJ (a.num.natAbs*b.den) (b.num.natAbs*a.den)<0:=by
   rw[aR,Ly]
   have e1:a.num=(a.num.natAbs:Int):=by omega
   have e2:b.num=(b.num.natAbs:Int):=by omega
   generalize a.num.natAbs=m at *
   generalize b.num.natAbs=n at *
   rw[e1,e2,←Int.natCast_mul,←Int.natCast_mul]
   omega
  by_cases q3:lJ (a.num.natAbs*b.den) (b.num.natAbs*a.den)<0
  ·rw[decide_eq_true (T4.2 q3)]
   simp only[jU,iK,c1,c2,c3,q1,q2,q3,CF,decide_true,decide_false,bne_self_eq_false,Bool.bne_true,Bool.bne_false,Bool.true_bne,Bool.false_bne,Bool.not_true,Bool.not_false,eG,wV,xG,wX,aV,kC,Nat.reduceLeDiff,Nat.reduceLT,Nat.reduceSub,VX,Nat.reduceEqDiff,Nat.reduceAdd]
   exact aI rfl
  ·rw[decide_eq_false (mt T4.1 q3)]
   simp only[jU,iK,c1,c2,c3,q1,q2,q3,CF,decide_true,decide_false,bne_self_eq_false,Bool.bne_true,Bool.bne_false,Bool.true_bne,Bool.false_bne,Bool.not_true,Bool.not_false,eG,wV,xG,wX,aV,kC,Nat.reduceLeDiff,Nat.reduceLT,Nat.reduceSub,VX,Nat.reduceEqDiff,Nat.reduceAdd]
   exact aI rfl
end Go.PM
namespace Go.PM
open Go.Lib
theorem Mc {q:Rat} (h:rN q=true):(Bc q).length≤1000:=by
 unfold rN at h
 simp only[Bool.and_eq_true,decide_eq_true_eq] at h
 unfold Bc
 rw[List.length_append,List.length_append]
 split<;>split<;>simp<;>omega
def Lo (l:List UInt8):VV:=match dU l with
 | some q=>sV q
 | none=>Ei
theorem Bg {l:List UInt8} {q:Rat} (h:dU l=some q):AY l = .eX [sV q,VB true]:=by unfold AY;rw[h]
theorem AW {l:List UInt8} (h:dU l=none):AY l = .eX [Ei,VB false]:=by unfold AY;rw[h]
def Mz (a b:List UInt8):VV := .eX [Lo a,Lo b,VB ((dU a).isSome&&(dU b).isSome)]
theorem Un (a b:List UInt8):iZ (Mz a b)=true:=by
 unfold Mz Lo
 split<;>split<;>simp[iZ,pV,KK,Ns,kQ]
theorem Jl (a b:List UInt8) (ha:a.length≤1000000000) (hb:b.length≤1000000000):TC 87 [aY a,aY b] (Mz a b):=by
 refine TC.walk ⟨true,false⟩ Ja rfl (Nat.le_of_ble_eq_true rfl) rfl (Un a b) ?_
 have e1:=yW a ha
 have e2:=yW b hb
 unfold Mz Lo
 cases h1:dU a with
 |
  none =>
  rw[AW h1] at e1
  cases h2:dU b with
  |
   none =>
   rw[AW h2] at e2
   simp only[qX,mT,e1,e2,Option.isSome_none,Bool.and_self,uR,xV,Dd,iB,hO,fS,kC,Nat.reduceLeDiff,Nat.reduceLT,Nat.reduceSub,yX,gK,iS,nH,tA,uE,bne_iff_ne,ne_eq,not_false_eq_true,not_true_eq_false,VX,Nat.reduceEqDiff,Nat.reduceAdd]
   exact GG (d:=6) (aQ Bl) (aQ Bl) (aQ (v:=VB false) rfl)
  |
   some y =>
   rw[Bg h2] at e2
   simp only[qX,mT,e1,e2,Option.isSome_none,Option.isSome_some,Bool.false_and,eG,nG,yP,aV,bM,bB,uR,xV,Dd,iB,hO,fS,kC,Nat.reduceLeDiff,Nat.reduceLT,Nat.reduceSub,yX,gK,iS,nH,tA,uE,bne_iff_ne,ne_eq,not_false_eq_true,not_true_eq_false,VX,Nat.reduceEqDiff,Nat.reduceAdd]
   exact GG (d:=6) (aQ Bl) (aQ (tB _)) (aQ (v:=VB false) rfl)
 |
  some x =>
  rw[Bg h1] at e1
  cases h2:dU b with
  |
   none =>
   rw[AW h2] at e2
   simp only[qX,mT,e1,e2,Option.isSome_none,Option.isSome_some,Bool.and_false,eG,nG,yP,aV,bM,bB,uR,xV,Dd,iB,hO,fS,kC,Nat.reduceLeDiff,Nat.reduceLT,Nat.reduceSub,yX,gK,iS,nH,tA,uE,bne_iff_ne,ne_eq,not_false_eq_true,not_true_eq_false,VX,Nat.reduceEqDiff,Nat.reduceAdd]
   exact GG (d:=6) (aQ (tB _)) (aQ Bl) (aQ (v:=VB false) rfl)
  |
   some y =>
   rw[Bg h2] at e2
   simp only[qX,mT,e1,e2,Option.isSome_some,Bool.and_self,eG,nG,yP,aV,bM,bB,kC,Nat.reduceLeDiff,Nat.reduceLT,Nat.reduceSub,yX,gK,iS,nH,tA,uE,bne_iff_ne,ne_eq,not_false_eq_true,not_true_eq_false,VX,Nat.reduceEqDiff,Nat.reduceAdd]
   exact GG (d:=6) (aQ (tB _)) (aQ (tB _)) (aQ (v:=VB true) rfl)
theorem TG {a b:List UInt8} {x y:Rat} (h1:dU a=some x) (h2:dU b=some y):Mz a b = .eX [sV x,sV y,VB true]:=by unfold Mz Lo;rw[h1,h2];rfl
theorem Tc {a b:List UInt8} (h:dU a=none∨dU b=none):∃u v:VV,Mz a b = .eX [u,v,VB false]∧((∃x,u=sV x)∨u=Ei)∧((∃x,v=sV x)∨v=Ei):=by
 refine⟨Lo a,Lo b,?_,?_,?_⟩
 ·unfold Mz
  rcases h with h | h
  ·rw[h];rfl
  ·rw[h,Option.isSome_none,Bool.and_false]
 ·unfold Lo
  split
  ·exact .inl ⟨_,rfl⟩
  ·exact .inr rfl
 ·unfold Lo
  split
  ·exact .inl ⟨_,rfl⟩
  ·exact .inr rfl
theorem wR (a b:List UInt8) (ha:a.length≤1000000000) (hb:b.length≤1000000000):TC 46 [aY a,aY b] (PQ a b):=by
 refine TC.walk ⟨true,false⟩ wY rfl (Nat.le_of_ble_eq_true rfl) rfl (Vf _ _) ?_
 have e1:=Jl a b ha hb
 rcases Yc (a:=a) (b:=b) with⟨x,y,h1,h2⟩ | h
 ·rw[TG h1 h2] at e1
  rw[Kk h1 h2]
  have e2:=AP x y (by have:=yR h1;omega) (by have:=yR h2;omega)
  have e3:=AP y x (by have:=yR h2;omega) (by have:=yR h1;omega)
  unfold KA
  by_cases q1:x<y
  ·rw[decide_eq_true q1] at e2
   rw[if_pos q1]
   simp only[fM,eE,e1,e2,eG,nG,yP,aV,bM,bB,kC,Nat.reduceLeDiff,Nat.reduceLT,Nat.reduceSub,yX,gK,iS,nH,tA,uE,bne_iff_ne,ne_eq,not_false_eq_true,not_true_eq_false,VX,Nat.reduceEqDiff,Nat.reduceAdd]
   exact aI rfl
  ·rw[decide_eq_false q1] at e2
   rw[if_neg q1]
   by_cases q2:y<x
   ·rw[decide_eq_true q2] at e3
    rw[if_pos q2]
    simp only[fM,eE,e1,e2,e3,eG,nG,yP,aV,bM,bB,kC,Nat.reduceLeDiff,Nat.reduceLT,Nat.reduceSub,yX,gK,iS,nH,tA,uE,bne_iff_ne,ne_eq,not_false_eq_true,not_true_eq_false,VX,Nat.reduceEqDiff,Nat.reduceAdd]
    exact aI rfl
   ·rw[decide_eq_false q2] at e3
    rw[if_neg q2]
    simp only[fM,eE,e1,e2,e3,eG,nG,yP,aV,bM,bB,kC,Nat.reduceLeDiff,Nat.reduceLT,Nat.reduceSub,yX,gK,iS,nH,tA,uE,bne_iff_ne,ne_eq,not_false_eq_true,not_true_eq_false,VX,Nat.reduceEqDiff,Nat.reduceAdd]
    exact aI rfl
 ·obtain⟨u,v,h2,h3,h4⟩:=Tc h
  rw[h2] at e1
  rw[Te h]
  rcases h3 with⟨x,rfl⟩ | rfl<;>rcases h4 with⟨y,rfl⟩ | rfl
  all_goals
   simp only[fM,eE,e1,eG,nG,yP,aV,bM,bB,uR,xV,Dd,iB,hO,fS,kC,Nat.reduceLeDiff,Nat.reduceLT,Nat.reduceSub,yX,gK,iS,nH,tA,uE,bne_iff_ne,ne_eq,not_false_eq_true,not_true_eq_false,VX,Nat.reduceEqDiff,Nat.reduceAdd]
   exact aI rfl
theorem EF {a b:List UInt8} {x y:Rat} (h1:dU a=some x) (h2:dU b=some y) (ha:a.length≤1000000000) (hb:b.length≤1000000000):TC 15 [aY a,aY b] (VB (decide (x≤y))):=by
 refine TC.walk ⟨true,false⟩ Er rfl (Nat.le_of_ble_eq_true rfl) rfl rfl ?_
 have e1:=wR a b ha hb
 rw[Kk h1 h2] at e1
 have hk:(KA x y≤0)↔x≤y:=by
  unfold KA
  split
  ·rename_i h
   exact⟨fun _=>by grind,fun _=>by decide⟩
  ·split
   ·rename_i h h'
    exact⟨fun h=>absurd h (by decide),fun h=>by grind⟩
   ·rename_i h h'
    exact⟨fun _=>by grind,fun _=>by decide⟩
 by_cases q:KA x y≤0
 ·rw[decide_eq_true (hk.1 q)]
  simp only[tF,qB,e1,q,VX,Nat.reduceEqDiff,Nat.reduceAdd]
  exact aI rfl
 ·rw[decide_eq_false (mt hk.2 q)]
  simp only[tF,qB,e1,q,VX,Nat.reduceEqDiff,Nat.reduceAdd]
  exact aI rfl
end Go.PM
namespace Go.PM
theorem CM {cs:List aJ} {ls:List Int} (hlv:Pm cs ls) {H:aC} {b g lo1 hi1 lo:Nat} {v:VV} {ρ:cN} {Q:VQ} (Oh:fz depth H (.ref b g 0 cs.length cs.length)=some (fR cs)) (hv:LV lo1 hi1 ls H v)
  (h5:ρ 5 = .ref b g 0 cs.length cs.length) (h7:ρ 7=v) (sM:ρ 11=VI 0) (tD:ρ 12=VI 0) (hQ:∀aP,(∀t,t<11→aP t=ρ t)→aP 11=VI (cE (fun t=>jH (t:Int) cs ls) 160)→Q .normal aP H):VW ⟨true,false⟩ lo (.loop mE) (vY 0 Q) ρ H:=by
 have hc:=hlv.1
 have hlen:=hc.2
 refine bJ (fun(i:Nat) aP H'=>i≤160∧H'=H∧(∀t,t<11→aP t=ρ t)∧aP 11=VI (cE (fun t=>jH (t:Int) cs ls) i)∧aP 12=VI i) (fun i=>160-i) 0 ⟨Nat.zero_le _,rfl,fun _ _=>rfl,sM,tD⟩ ?_
 rintro i aP H' ⟨hi,rfl,hk,g11,g12⟩
 have g5:=(hk 5 (by decide)).trans h5
 have g7:=(hk 7 (by decide)).trans h7
 by_cases cX:(i:Int)<160
 ·have eI:=Gs cs ls (i:Int) hlv ⟨by omega,by omega⟩
  have hb:=DQ (t:=(i:Int)) cs ls
  have hs:∀n:Nat,0≤cE (fun t=>jH (t:Int) cs ls) n∧cE (fun t=>jH (t:Int) cs ls) n≤24*(n:Int):=by
   intro n
   induction n with
   | zero=>exact⟨Int.le_refl _,by simp[cE]⟩
   |
    succ n ih =>
    have hb:=DQ (t:=(n:Int)) cs ls
    simp only[cE]
    omega
  have C6:=hs i
  have wi:IntKind.i64.wrap ((i:Int)+1)=((i+1:Nat):Int):=wrapN (i+1) (by omega) (by omega)
  have w1:IntKind.i64.wrap (cE (fun t=>jH (t:Int) cs ls) i+jH (i:Int) cs ls)=cE (fun t=>jH (t:Int) cs ls) (i+1):=wrap64 (by omega) (by omega)
  simp only[mE,g5,g7,g11,g12,cX,VX,Nat.reduceEqDiff,Nat.reduceAdd]
  refine GV eI rfl (by simp only[aO,aT,gG];rfl) (Uz Oh hv.fz (aI rfl)) rfl ?_
  simp only[g5,g7,g11,g12,wi,w1,VX,Nat.reduceEqDiff,Nat.reduceAdd]
  refine⟨i+1,by omega,by omega,fun t ht => ?_,rfl,rfl⟩
  try simp only[qZ]
  repeat rw[if_neg (by omega)]
  exact hk t ht
 ·have zK:i=160:=by omega
  subst zK
  simp only[mE,g12,cX,VX,Nat.reduceEqDiff,Nat.reduceAdd]
  refine hQ _ (fun t ht => ?_) ?_
  ·try simp only[qZ]
   repeat rw[if_neg (by omega)]
   exact hk t ht
  ·simp only[g11,VX,Nat.reduceEqDiff,Nat.reduceAdd]
theorem PJ {cs:List aJ} {i:Nat} {c:aJ} (h:cs[i]? = some c):dO (cs.take i)++[(⟨3,c.w,c.k⟩:aJ)]=dO (cs.take (i+1)):=by
 unfold dO
 rw[List.take_add_one,h,List.map_append]
 rfl
theorem Sc {H:aC} {b g n:Nat} {cs:List aJ} (h:aM H b g=some (cs.map cV,3,true)) {i:Nat} {c:aJ} (hc:cs[i]? = some c) (hn:i<n) :
  tL 2 (.ptr b g i 0) H=some (.ptr b g i 2)∧eZ false 1 (.ptr b g i 2) H=some (VI c.k):=by
 refine⟨HF h,?_⟩
 simp[eZ,h,bU,hc,cV,aB]
theorem CP {cs:List aJ} (hn:cs.length≤24) {H:aC} {b g lo:Nat} {ρ:cN} {Q:VQ} (hL:aM H b g=some (cs.map cV,3,true)) (dP:lo≤H.length)
  (h5:ρ 5 = .ref b g 0 cs.length cs.length) (h15:ρ 15 = .ref H.length 0 0 0 0) (h70:ρ 70=VI cs.length) (h71:ρ 71=VI 0) (hQ:∀aP,(∀t,t<15→aP t=ρ t)→aP 15 = .ref H.length cs.length 0 cs.length cs.length→Q .normal aP (H++[.row cs.length ((dO cs).map cV) 3 true])) :
  VW ⟨true,false⟩ lo (.loop lX) (vY 2 Q) ρ (H++[.row 0 [] 3 true]):=by
 refine bJ (fun(i:Nat) aP H'=>i≤cs.length∧H'=H++[.row i ((dO (cs.take i)).map cV) 3 true]∧(∀t,t<15→aP t=ρ t)∧aP 15 = .ref H.length i 0 i i∧aP 70=VI cs.length∧aP 71=VI i) (fun i=>cs.length-i) 0 ⟨Nat.zero_le _,rfl,fun _ _=>rfl,h15,h70,h71⟩ ?_
 rintro i aP H' ⟨hi,rfl,hk,g15,g70,g71⟩
 have g5:=(hk 5 (by decide)).trans h5
 by_cases cX:(i:Int)<(cs.length:Int)
 ·have Gk:i<cs.length:=by omega
  obtain⟨c,VM⟩:∃c,cs[i]? = some c:=⟨_,List.getElem?_eq_getElem Gk⟩
  have hL':aM (H++[.row i ((dO (cs.take i)).map cV) 3 true]) b g=some (cs.map cV,3,true):=DI hL
  obtain⟨r1,r2,r3,r4,r5⟩:=Ug hL' VM Gk
  obtain⟨r6,r7⟩:=Sc hL' VM Gk
  have wi:IntKind.i64.wrap ((i:Int)+1)=((i+1:Nat):Int):=wrapN (i+1) (by omega) (by omega)
  have eL:∀H,oU false [.int .i64 0,.int .i64 0,.int .i64 0] 1 [(0,.agg [VI 3,VI c.w,VI c.k])] H=some (.tree [.agg [VI 3,VI c.w,VI c.k]] (.cl 3),H):=fun H=>lH rfl rfl rfl
  have eS:∀H,cM 3 (.tree [.agg [VI 3,VI c.w,VI c.k]] (.cl 3)) H=some [.agg [VI 3,VI c.w,VI c.k]]:=fun H=>hC rfl rfl
  have aR:(dO (cs.take i)).length=i:=by rw[nT,List.length_take];omega
  have eP:dW lo 3 24 (.ref H.length i 0 i i) [.agg [VI 3,VI c.w,VI c.k]] (H++[.row i ((dO (cs.take i)).map cV) 3 true])=some (.ref H.length (i+1) 0 (i+1) (i+1),H++[.row (i+1) ((dO (cs.take (i+1))).map cV) 3 true]):=by
   have:=lP (f:=cV) (xs:=dO (cs.take i)) (x:=⟨3,c.w,c.k⟩) (lo:=lo) (b:=H.length) (g:=i) (n:=i) (e:=3) (bytes:=24) (H:=H++[.row i ((dO (cs.take i)).map cV) 3 true]) EW aR.symm dP (by decide) (by decide) (by omega)
   rw[PJ VM] at this
   rw[show ([.agg [VI 3,VI c.w,VI c.k]]:List VV)=[cV ⟨3,c.w,c.k⟩] from rfl,this,List.set_append_right _ _ (Nat.le_refl _),Nat.sub_self,List.set_cons_zero]
  simp only[lX,g5,g15,g70,g71,cX,r1,r3,r5,r6,r7,wi,eL,eS,eP,yV,VX,Nat.reduceEqDiff,Nat.reduceAdd,kC,Nat.reduceLeDiff,Nat.reduceLT,Nat.reduceSub]
  refine⟨i+1,by omega,by omega,rfl,fun t ht => ?_,rfl,rfl⟩
  try simp only[qZ]
  repeat rw[if_neg (by omega)]
  exact hk t ht
 ·have zK:i=cs.length:=by omega
  subst zK
  simp only[lX,g70,g71,cX,VX,Nat.reduceEqDiff,Nat.reduceAdd]
  rw[List.take_length]
  refine hQ _ (fun t ht => ?_) ?_
  ·try simp only[qZ]
   repeat rw[if_neg (by omega)]
   exact hk t ht
  ·simp only[g15,VX,Nat.reduceEqDiff,Nat.reduceAdd]
theorem OK {aA aE:Int} {cs:List aJ} (hc:aN cs) (hr:0≤aA∧aA≤3) (hs:1≤aE) (hf:cs.length≤8) (TN:∀c∈cs,c.w≤7∧c.t≤75):Pm cs (EY (·.w) cs (gR aA aE cs)):=by
 have hl:(EY (·.w) cs (gR aA aE cs)).length=cs.length:=DO nD
 refine⟨hc,hl,fun x hx => ?_⟩
 obtain⟨i,hi⟩:=List.getElem?_of_mem hx
 have aR:=(List.getElem?_eq_some_iff.1 hi).1
 have VM:cs[i]? = some cs[i]:=List.getElem?_eq_getElem (by omega)
 have:=Dx hc hr hs hf TN VM hi
 omega
theorem Rd {r:Int} {cs:List aJ} (hc:aN cs) (hr:0≤r∧r≤3) (cI:cs≠[]):mwV r 1 (dO cs) = .eX [aY (Bc (qJ (jS (sZ r 1 (dO cs))) cs.length)),VB true]:=by
 have nW:=D4 hc
 have Gd:cs.length≠0:=fun h=>cI (List.length_eq_zero_iff.1 h)
 have akS:dO cs≠[]:=fun h=>Gd (by rw[←nT,h];rfl)
 have Cs:AK r 1 (dO cs):=⟨hr,⟨by decide,by decide⟩,nW⟩
 have W2:=RF (aA:=r) (aE:=1) nW
 have hlen:=hc.2
 have h1:mwV r 1 (dO cs)=Cu (jS (sZ r 1 (dO cs))) (dO cs).length:=if_pos ⟨Cs,akS⟩
 rw[h1,nT]
 exact T6 (by omega) (by omega) (by omega)
theorem V8 {a b:Int} {n:Nat} (hn:n≠0) (h:a≤b):qJ a n≤qJ b n:=by
 have hn':0<(n:Rat):=by exact_mod_cast Nat.pos_of_ne_zero hn
 have e:∀c:Int,qJ c n=(c:Rat) / (n:Rat):=by
  intro c
  unfold qJ
  rw[decide_eq_false (by omega:¬(n:Int)<0),Int.natAbs_natCast,Rat.mkRat_eq_div]
  congr 1
  cases hd:decide (c<0) with
  |
   true =>
   have:c<0:=by simpa using hd
   simp only[Bool.bne_false,Cm,if_true]
   rw[show (-(c.natAbs:Int))=c by omega]
  |
   false =>
   have:¬c<0:=by simpa using hd
   simp only[Bool.bne_false,Cm,Bool.false_eq_true,if_false]
   rw[show ((c.natAbs:Nat):Int)=c by omega]
 rw[e,e]
 have:(a:Rat)≤(b:Rat):=by exact_mod_cast h
 have Xk:(n:Rat)≠0:=by grind
 refine Rat.le_of_mul_le_mul_right (c:=(n:Rat)) ?_ hn'
 rw[Rat.div_mul_cancel Xk,Rat.div_mul_cancel Xk]
 exact this
set_option maxRecDepth 100000 in
set_option maxHeartbeats 2000000 in
theorem Gx (code more:List Nat) (hx:∀x∈code,x<256) (hy:∀x∈more,x<256):TC 4 [BQ code,BQ more] (.sc (.bool true)):=by
 refine TC.walk ⟨true,false⟩ Gm rfl (Nat.le_of_ble_eq_true rfl) (by simp only[aO,DC];rfl) rfl ?_
 have Zw:=G8 code more
 by_cases Y2:1048576<(code.length:Int)∨1048576<(more.length:Int)
 ·simp only[vR,rF,Zw,Y2,VX,Nat.reduceEqDiff,Nat.reduceAdd]
  exact aI rfl
 have agV:FJ code:=⟨hx,by omega⟩
 have Y4:FJ more:=⟨hy,by omega⟩
 have eA0:TC 8 [BQ more,VI 0,VI 4] (VI (Ii more 0 4)):=DM more 0 4 Y4 (by decide) (by decide)
 have eA1:TC 8 [BQ more,VI 1,VI 3] (VI (Ii more 1 3)):=DM more 1 3 Y4 (by decide) (by decide)
 have b0:=Q6 (code:=more) (i:=0) (n:=4) (by decide)
 have b1:=Q6 (code:=more) (i:=1) (n:=3) (by decide)
 simp only[vR,rF,Zw,Y2,VX,Nat.reduceEqDiff,Nat.reduceAdd]
 refine cW rfl ((BS agV (Nat.zero_le _)).mono ?_)
 rintro r H1 ⟨cs,xb,K,hD,rfl,hH1⟩
 have hc:=hD.ok
 have aeR:=hD.few
 have TN:=hD.small
 have hL1:aM H1 1 cs.length=some (cs.map cV,3,true):=by rw[hH1];simp only[List.nil_append,nY,bK]
 clear hH1
 generalize Ii more 0 4=s0 at *
 generalize Ii more 1 3=s1 at *
 obtain⟨aA,ahN⟩:∃aA:Int,aA=(s0:Int):=⟨_,rfl⟩
 obtain⟨aE,XX⟩:∃aE:Int,aE=1+(s1:Int):=⟨_,rfl⟩
 have w1:IntKind.i64.wrap (1+(s1:Int))=aE:=by rw[←XX];exact wrap64 (by omega) (by omega)
 rw[←ahN] at eA0
 have hr:0≤aA∧aA≤3:=⟨by omega,by omega⟩
 have C6:1≤aE:=by omega
 have Cs:AK aA aE cs:=⟨hr,⟨by omega,by omega⟩,hc⟩
 have Oh:∀H,H1 <+: H→fz depth H (.ref 1 cs.length 0 cs.length cs.length)=some (fR cs):=fun H hh=>GD (e:=3) (fun _=>rfl) (Ea hh hL1) (Nat.le_refl _)
 simp only[eA0,eA1,w1,List.length_nil,VX,Nat.reduceEqDiff,Nat.reduceAdd]
 refine Yf (Gv aA aE cs (by omega)) rfl (Uz (aI rfl) (aI rfl) (Oh _ (List.prefix_refl _))) fun v2 H2 p2 l2 => ?_
 have e2:Zx (·.w) aA aE cs=EY (·.w) cs (gR aA aE cs):=if_pos Cs
 rw[e2] at l2
 have hlv:=OK (aA:=aA) (aE:=aE) hc hr C6 aeR TN
 have amO:=W6 (n:=160) cs (EY (·.w) cs (gR aA aE cs)) (DO nD) fun i c l h1 h2=>by have:=Dx hc hr C6 aeR TN h1 h2;omega
 have hL2:=Ea p2 hL1
 have okc:aN cs:=hc
 have n5:=dI (o:=0) (n:=cs.length) (c:=cs.length) hL2
 simp only[Cs,decide_true,VX,Nat.reduceEqDiff,Nat.reduceAdd]
 refine GV (BP cs _ hlv) rfl (by simp only[aO,aT,gG];rfl) (XL (Oh _ p2) l2.fz) rfl ?_
 simp only[VX,Nat.reduceEqDiff,Nat.reduceAdd]
 refine CM hlv (Oh _ p2) l2 ?_ ?_ ?_ ?_ fun yA k1 q11 => ?_
 all_goals first | (simp only[VX,Nat.reduceEqDiff,Nat.reduceAdd];done) | skip
 have g5:yA 5 = .ref 1 cs.length 0 cs.length cs.length:=by rw[k1 5 (by decide)];simp only[VX,Nat.reduceEqDiff,Nat.reduceAdd]
 have g6:yA 6=VI aA:=by rw[k1 6 (by decide)];simp only[VX,Nat.reduceEqDiff,Nat.reduceAdd]
 have g9:yA 9=VI (jS (EY (·.w) cs (gR aA aE cs))-Ap cs):=by rw[k1 9 (by decide)];simp only[VX,Nat.reduceEqDiff,Nat.reduceAdd]
 clear k1
 rw[amO] at q11
 have e0:=fun H=>mW (H:=H) (lr:=false) (z:=[.int .i64 0,.int .i64 0,.int .i64 0]) rfl
 simp only[g5,g9,q11,e0,n5,ne_eq,not_true_eq_false,VX,Nat.reduceEqDiff,Nat.reduceAdd]
 have n6:∀K:aC,lY (.ref 1 cs.length 0 cs.length cs.length) (H2++K)=some (VI cs.length):=fun K=>dI (DI hL2)
 simp only[n6,g5,VX,Nat.reduceEqDiff,Nat.reduceAdd]
 refine CP (by omega) hL2 (Nat.zero_le _) ?_ ?_ ?_ ?_ fun Km k2 q15 => ?_
 all_goals first | (simp only[g5,VX,Nat.reduceEqDiff,Nat.reduceAdd];done) | skip
 have q6:Km 6=VI aA:=by rw[k2 6 (by decide)];simp only[g6,VX,Nat.reduceEqDiff,Nat.reduceAdd]
 clear k2
 have hz:fz depth (H2++[.row cs.length ((dO cs).map cV) 3 true]) (.ref H2.length cs.length 0 cs.length cs.length)=some (fR (dO cs)):=by
  have:=GD (f:=cV) (e:=3) (b:=H2.length) (g:=cs.length) (c:=cs.length) (xs:=dO cs) (H:=H2++[.row cs.length ((dO cs).map cV) 3 true]) (fun _=>rfl) EW (by rw[nT];exact Nat.le_refl _)
  rw[nT] at this
  exact this
 have n7:lY (.ref H2.length cs.length 0 cs.length cs.length) (H2++[.row cs.length ((dO cs).map cV) 3 true])=some (VI cs.length):=dI EW
 by_cases cI:cs=[]
 ·have Gd:(cs.length:Int)=0:=by rw[cI];rfl
  simp only[q15,n7,Gd,VX,Nat.reduceEqDiff,Nat.reduceAdd]
  exact aI rfl
 ·have Gd:¬(cs.length:Int)=0:=fun h=>cI (List.length_eq_zero_iff.1 (by omega))
  have kB:(dO cs).length≤1000000:=by rw[nT];omega
  have SP:=zM 2 1 (dO cs) (by omega)
  have hmr:=zM aA 1 (dO cs) (by omega)
  rw[Rd hc (by decide) cI] at SP
  rw[Rd hc hr cI] at hmr
  have hq:=V8 (n:=cs.length) (by omega) (Wa hc hr)
  have Xl:=RF (aA:=2) (aE:=1) (D4 hc)
  have hsr:=RF (aA:=aA) (aE:=1) (D4 hc)
  have f2:=yI (t:=jS (sZ 2 1 (dO cs))) (b:=(cs.length:Int)) (by omega) (by omega)
  have fr:=yI (t:=jS (sZ aA 1 (dO cs))) (b:=(cs.length:Int)) (by omega) (by omega)
  generalize qJ (jS (sZ 2 1 (dO cs))) (cs.length:Int)=x at *
  generalize qJ (jS (sZ aA 1 (dO cs))) (cs.length:Int)=y at *
  have X3:=Nat.le_trans (Mc (G7 f2)) (by decide:1000≤1000000000)
  have hyl:=Nat.le_trans (Mc (G7 fr)) (by decide:1000≤1000000000)
  have eM:=EF (HX (G7 f2)) (HX (G7 fr)) X3 hyl
  rw[decide_eq_true hq] at eM
  have pa:∀r:Int,aO [VI r,VI 1,fR (dO cs)]=true:=fun r=>by simp only[aO,aT];rfl
  simp only[q15,n7,Gd,VX,Nat.reduceEqDiff,Nat.reduceAdd]
  refine GV SP rfl (pa 2) (Uz (aI rfl) (aI rfl) hz) rfl ?_
  simp only[q6,q15,VX,Nat.reduceEqDiff,Nat.reduceAdd]
  refine GV hmr rfl (pa aA) (Uz (aI rfl) (aI rfl) hz) rfl ?_
  simp only[eM,VX,Nat.reduceEqDiff,Nat.reduceAdd]
  exact aI rfl
end Go.PM
namespace Go.PM
open Go.Proofs
theorem Cl {P:Program} {w:World} {name:String} {d:DataW Unit}:∀ {l:List (String×DataW Unit)} {ps:List MemPlace},DataW.LaidVars P w l ps→(name,d)∈l →
  ∃g t cs fuel p,P.globalNamed name=some g∧(P.globals[g]?).map (·.type)=some t∧w.var? P name=some cs∧DataW.trod (fun _=>()) P w 0 (fun _=>true) false fuel t cs.toList=some (d,p)
 | [],_,_,hm=>by cases hm
 |
  (n,e)::r,ps,h,hm=>by
  obtain⟨g,t,cs,fuel,p,q,h1,h2,h3,h4,h5,_⟩:=h
  rcases List.mem_cons.1 hm with he | hm
  ·cases he
   exact⟨g,t,cs,fuel,p,h1,h2,h3,h4⟩
  ·exact Cl h5 hm
theorem HK {W:World} {l:List (String×DataW Unit)} (hl:laidMetH Tryz.prog l W) (hp:(l.all fun x=>x.2.handleName?.isNone)=true) (hm:("internal/strconv.uint64pow10",Lib.tabData .u64 Lib.pow10Tab)∈l)
  {t e:TypeId} {n:Nat} (hty:(Tryz.prog.globals[0]?).map (·.type)=some t) (ht:Tryz.prog.underlying t=some (.array n e)) (he:Tryz.prog.underlying e=some (.int .u64)) (hce:Tryz.prog.cellsOf e=1) (Y1:Tryz.prog.cellsOf t=n):Lq W:=by
 rw[MakeChecks.laidMetH_plain _ _ _ hp] at hl
 obtain⟨ps,h1,_⟩:=hl
 obtain⟨g',t',cs,fuel,p,hg',YN,WY,hd⟩:=Cl h1 hm
 have hg:Tryz.prog.globalNamed "internal/strconv.uint64pow10"=some 0:=by kernel_rfl
 obtain rfl:=Option.some.inj (hg.symm.trans hg')
 obtain rfl:=Option.some.inj (hty.symm.trans YN)
 have OD:=Lib.cells_of_tab ht he hce Y1 hd
 intro x hx
 have YD:x=(0,(Lib.pow10Tab.map fun z=>Value.int .u64 z).toArray):=by simpa[YC] using hx
 subst YD
 unfold World.var? at WY
 rw[hg,Option.bind_some] at WY
 split at WY
 ·rename_i zW e' fz' hh
  cases WY
  refine⟨e',fz',?_⟩
  rw[←OD]
  simpa using hh
 ·cases WY
end Go.PM