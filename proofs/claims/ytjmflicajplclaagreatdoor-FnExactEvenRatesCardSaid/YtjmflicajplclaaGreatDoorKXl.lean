/- Texts of a claim, in one: part 12. -/
import Derived.KernelRfl
import Derived.Test.YtjmflicajplclaaGreatDoorKXk
set_option linter.unusedSimpArgs false
set_option linter.unusedVariables false
namespace Go.PM
def rR {β:Type} (k:Int):List (List β)→List (List ByteArray)
 | []=>[]
 | x::xs=>lC k x.length::rR (k+x.length) xs
def cM {β:Type} (xs:List (List β)):Nat:=(xs.map List.length).sum
section
variable {β:Type}
theorem KO (xs:List (List β)) (k:Int):(rR k xs).length=xs.length:=by
 induction xs generalizing k with
 | nil=>rfl
 | cons x xs ih=>simp[rR,ih]
theorem D0 {xs:List (List β)} {i:Nat} {x:List β} (h:xs[i]? = some x):cM (xs.take (i+1))=cM (xs.take i)+x.length:=by
 rw[List.take_add_one,h]
 simp[cM]
theorem Fs {xs:List (List β)} {i:Nat} {x:List β} {k:Int} (h:xs[i]? = some x):(rR k xs)[i]? = some (lC (k+cM (xs.take i)) x.length):=by
 induction xs generalizing i k with
 | nil=>cases h
 |
  cons y ys ih =>
  cases i with
  | zero=>injection h with h;subst h;simp[rR,cM]
  |
   succ i =>
   simp only[rR,List.getElem?_cons_succ] at h ⊢
   rw[ih h]
   simp only[List.take_succ_cons,cM,List.map_cons,List.sum_cons,Int.natCast_add]
   rw[Int.add_assoc]
theorem HI {xs:List (List β)} (i:Nat):cM (xs.take i)≤cM xs:=by
 induction xs generalizing i with
 | nil=>simp[cM]
 |
  cons x xs ih =>
  cases i with
  | zero=>simp[cM]
  |
   succ i =>
   have:=ih i
   simp only[List.take_succ_cons,cM,List.map_cons,List.sum_cons] at this ⊢
   omega
end
theorem EH (k:Int) (xs:List (List ByteArray)) (hk:0≤k∧k≤10000000) (hn:xs.length≤10000000) (ht:cM xs≤10000000):TC 74 [fI (rR k xs),VI k] (VI (k+cM xs)):=by
 refine TC.walk ⟨true,false⟩ EM rfl (Nat.le_of_ble_eq_true rfl) (Ic (lR _) rfl) rfl ?_
 simp only[AD,xE,VX,Nat.reduceEqDiff,Nat.reduceAdd]
 refine aP (fun(i:Nat) ρ H=>i≤xs.length∧H=[]∧ρ 0=fI (rR k xs)∧ρ 1=VI (k+cM (xs.take i))∧ρ 5=VI i) (fun i=>xs.length-i) 0 ⟨Nat.zero_le _,rfl,rfl,by simp only[VX,Nat.reduceEqDiff,Nat.reduceAdd];simp[cM],rfl⟩ ?_
 rintro i ρ H ⟨hi,rfl,h0,h1,h5⟩
 have hlen:=KO xs k
 by_cases cK:(i:Int)<(xs.length:Int)
 ·obtain⟨x,hx⟩:∃x,xs[i]? = some x:=⟨_,List.getElem?_eq_getElem (by omega)⟩
  have e1:=aI (f:=fM) (t := .op) (H:=[]) (size:=1) (k := .i64) (Fs (k:=k) hx) rfl
  have l1:=D0 hx
  have l2:=HI (xs:=xs) (i+1)
  have e3:=FN (k+cM (xs.take i)) x.length (by omega) (by omega)
  have lM:¬(k+(cM (xs.take i):Int)+(x.length:Int))<0:=by omega
  have wi:IntKind.i64.wrap ((i:Int)+1)=((i+1:Nat):Int):=wrapN (i+1) (by omega) (by omega)
  simp only[pO,h0,h1,h5,cK,e1,e3,wi,hlen,lM,eq_self,VX,Nat.reduceEqDiff,Nat.reduceAdd]
  refine⟨i+1,by omega,by omega,?_⟩
  rw[l1,Int.natCast_add,←Int.add_assoc]
  (repeat' apply And.intro)<;>first | rfl | trivial
 ·have lS:i=xs.length:=by omega
  subst lS
  simp only[pO,h0,h1,h5,cK,hlen,VX,Nat.reduceEqDiff,Nat.reduceAdd]
  rw[List.take_of_length_le (Nat.le_refl _)]
  exact aK rfl
theorem EI {lo b g c:Nat} {H:aA} (rs:List (Ae ByteArray)) (k:Int) (hr:aH H b g=some (rs.map qO,1,true)) (hR:OB sV 1 lo H.length b H rs) (fG:lo≤b) (hk:0≤k∧k≤10000000) (hn:rs.length≤10000000) (ht:cM (rs.map (·.xs))≤10000000) :
  kS 21 [.ref b g 0 rs.length c,VI k] lo H fun r H'=>r=VI (k+cM (rs.map (·.xs)))∧H'.length=H.length∧(∀b' g' x,(∀r∈rs,r.b≠b')→aH H b' g'=some x→aH H' b' g'=some x) ∧
   ∀i r,rs[i]? = some r→aH H' r.b r.g=some ((lC (k+cM ((rs.map (·.xs)).take i)) r.xs.length).map sV,1,true):=by
 refine kS.walk ⟨true,false⟩ qS (Nat.le_of_ble_eq_true rfl) ?_
 simp only[pA,lX,VX,Nat.reduceEqDiff,Nat.reduceAdd]
 refine aP (fun(i:Nat) ρ H1=>i≤rs.length∧H1.length=H.length∧(∀b' g' x,(∀r∈rs,r.b≠b')→aH H b' g'=some x→aH H1 b' g'=some x) ∧
   (∀j r,rs[j]? = some r→aH H1 r.b r.g=some ((if j<i then lC (k+cM ((rs.map (·.xs)).take j)) r.xs.length else r.xs).map sV,1,true))∧ρ 0 = .ref b g 0 rs.length c∧ρ 1=VI (k+cM ((rs.map (·.xs)).take i))∧ρ 5=VI i) (fun i=>rs.length-i) 0
  ⟨Nat.zero_le _,rfl,fun _ _ _ _ h=>h,fun j r h=>by rw[if_neg (by omega)];exact(hR.row r (List.mem_of_getElem? h)).2.2.2.2,rfl,by simp only[VX,Nat.reduceEqDiff,Nat.reduceAdd];simp[cM],rfl⟩ ?_
 rintro i ρ H1 ⟨hi,hH1,hold,Oi,h0,h1,h5⟩
 have hR1:=hold b g _ (fun r hr=>(hR.row r hr).2.2.1) hr
 have el:=dP (o:=0) (n:=rs.length) (c:=c) hR1
 by_cases cK:(i:Int)<(rs.length:Int)
 ·obtain⟨r,Tt⟩:∃r,rs[i]? = some r:=⟨_,List.getElem?_eq_getElem (by omega)⟩
  have CE:=hR.row r (List.mem_of_getElem? Tt)
  have hxi:(rs.map (·.xs))[i]? = some r.xs:=by simp[Tt]
  have l1:=D0 hxi
  have l2:=HI (xs:=rs.map (·.xs)) (i+1)
  have e1:=aS (o:=0) (n:=rs.length) (c:=c) (i:=i) (k := .i64) hR1 (by omega)
  have e2:cN false 1 (.ptr b g i 0) H1=some (qO r):=by rw[qD (f:=qO) hR1 Tt];rfl
  have wi:IntKind.i64.wrap ((i:Int)+1)=((i+1:Nat):Int):=wrapN (i+1) (by omega) (by omega)
  simp only[gA,h0,h1,h5,cK,el,e1,e2,Nat.zero_add,VX,Nat.reduceEqDiff,Nat.reduceAdd]
  have gG:=Oi i r Tt
  rw[if_neg (by omega)] at gG
  refine gC rfl ((zJ r.xs _ gG (Nat.le_refl _) CE.1 (by omega) (by omega)).mono ?_)
  rintro v H2 ⟨rfl,rfl⟩
  simp only[h5,wi,VX,Nat.reduceEqDiff,Nat.reduceAdd]
  refine⟨i+1,by omega,by omega,by simpa using hH1,fun b' g' x uC h=>aZ (uC r (List.mem_of_getElem? Tt)) (hold b' g' x uC h),fun j r' hj => ?_,h0,?_,rfl⟩
  ·by_cases Jy:j=i
   ·subst Jy
    rw[Tt] at hj
    injection hj with hj
    subst hj
    rw[if_pos (by omega),bJ gG,List.drop_length,List.append_nil]
   ·have fQ:r.b≠r'.b:=fun he=>Jy (by
     have h1:(rs.map (·.b))[i]? = some r.b:=by simp[Tt]
     have h2:(rs.map (·.b))[j]? = some r.b:=by simp[hj,he]
     exact Sc hR.nd h2 h1)
    rw[aZ fQ (Oi j r' hj)]
    by_cases bH:j<i
    ·rw[if_pos bH,if_pos (by omega)]
    ·rw[if_neg bH,if_neg (by omega)]
  ·rw[l1,Int.natCast_add,←Int.add_assoc]
 ·have lS:i=rs.length:=by omega
  subst lS
  simp only[gA,h0,h1,h5,cK,el,VX,Nat.reduceEqDiff,Nat.reduceAdd]
  rw[List.take_of_length_le (by simp)]
  refine⟨rfl,hH1,hold,fun j r hj => ?_⟩
  have:=Oi j r hj
  rw[if_pos (List.getElem?_eq_some_iff.1 hj).1] at this
  exact this
theorem CW {lo:Nat} {H:aA} (k:Int):kS 21 [.tree [] .nil,VI k] lo H fun r H'=>r=VI k∧H'=H:=by
 refine kS.walk ⟨true,false⟩ qS (Nat.le_of_ble_eq_true rfl) ?_
 simp only[pA,lX,VX,Nat.reduceEqDiff,Nat.reduceAdd]
 refine aP (fun(_:Unit) ρ H1=>H1=H∧ρ 0 = .tree [] .nil∧ρ 1=VI k∧ρ 5=VI 0) (fun _=>0) () ⟨rfl,rfl,rfl,rfl⟩ ?_
 rintro _ ρ H1 ⟨rfl,h0,h1,h5⟩
 simp only[gA,h0,h1,h5,List.length_nil,Int.natCast_zero,Int.lt_irrefl,Int.reduceLT,VX,Nat.reduceEqDiff,Nat.reduceAdd]
theorem ahC {lo hi lJ:Nat} {bE:List (List ByteArray)} {H:aA} {v:VV} {k:Int} {K:VV→aA→Prop} (hv:RG sV 1 bE lo hi H v) (fG:lJ≤lo) (hk:0≤k∧k≤10000000) (hn:bE.length≤10000000) (ht:cM bE≤10000000)
  (hK:∀H',H'.length=H.length→RG sV 1 (rR k bE) lo hi H' v→(∀b g x,b<lo∨hi≤b→aH H b g=some x→aH H' b g=some x)→K (VI (k+cM bE)) H') :
  cZ 21 [v,VI k] lJ H K:=by
 rcases hv with⟨rfl,rfl⟩ | ⟨b,g,c,rs,h1,h2,rfl,h4,h5,rfl,h7⟩
 ·refine gC rfl ((CW k).mono ?_)
  rintro r H' ⟨rfl,rfl⟩
  have:=hK H' rfl (.inl ⟨rfl,rfl⟩) fun _ _ _ _ h=>h
  simpa[cM] using this
 ·have h7':OB sV 1 lJ H.length b H rs:=⟨h7.nd,fun r hr=>⟨Nat.le_trans fG (h7.row r hr).1,eW (h7.row r hr).2.2.2.2,(h7.row r hr).2.2⟩⟩
  rw[List.length_map] at h4 hn ⊢
  refine gC rfl ((EI (lo:=lJ) (c:=c) rs k h5 h7' (Nat.le_trans fG h1) hk hn ht).mono ?_)
  rintro r H' ⟨rfl,hl,hold,sQ⟩
  refine hK _ hl ?_ fun b' g' x uC h=>hold b' g' x (fun r hr=>by have:=h7.row r hr;omega) h
  have Tt:∀i,i<rs.length→∃r,rs[i]? = some r:=fun i hi=>⟨_,List.getElem?_eq_getElem hi⟩
  have Kz:(rR k (rs.map (·.xs))).length=rs.length:=by rw[KO,List.length_map]
  let Yx:List (Ae ByteArray):=rs.zipWith (fun r x=>{ r with xs:=x }) (rR k (rs.map (·.xs)))
  have sL:∀(i:Nat) (r:Ae ByteArray),rs[i]? = some r→Yx[i]? = some { r with xs:=lC (k+cM ((rs.map (·.xs)).take i)) r.xs.length }:=fun i r hr=>by
   have hm:=Fs (k:=k) (xs:=rs.map (·.xs)) (i:=i) (x:=r.xs) (by simp[hr])
   show (List.zipWith _ _ _)[i]? = _
   rw[List.getElem?_zipWith,hr,hm]
  have B7:Yx.length=rs.length:=by simp[Yx,Kz]
  have hex:∀ {γ:Type} (F G:Ae ByteArray→γ),(∀(i:Nat) (r:Ae ByteArray),rs[i]? = some r→F { r with xs:=lC (k+cM ((rs.map (·.xs)).take i)) r.xs.length }=G r)→Yx.map F=rs.map G:=fun F G hFG=>by
   apply List.ext_getElem?
   intro i
   rcases Nat.lt_or_ge i rs.length with h | h
   ·obtain⟨r,hr⟩:=Tt i h
    rw[List.getElem?_map,List.getElem?_map,sL i r hr,hr]
    simp only[Option.map_some,hFG i r hr]
   ·rw[List.getElem?_eq_none (by rw[List.length_map,B7];exact h),List.getElem?_eq_none (by rw[List.length_map];exact h)]
  have auG:Yx.map (·.b)=rs.map (·.b):=hex _ _ fun _ _ _=>rfl
  have nX:Yx.map qO=rs.map qO:=hex _ _ fun i r _=>by simp[qO,QW]
  have auQ:Yx.map (·.xs)=rR k (rs.map (·.xs)):=by
   apply List.ext_getElem?
   intro i
   rcases Nat.lt_or_ge i rs.length with h | h
   ·obtain⟨r,hr⟩:=Tt i h
    rw[List.getElem?_map,sL i r hr,Fs (x:=r.xs) (by simp[hr])]
    rfl
   ·rw[List.getElem?_eq_none (by rw[List.length_map,B7];exact h),List.getElem?_eq_none (by rw[Kz];exact h)]
  refine .inr ⟨b,g,c,Yx,h1,h2,by rw[Kz,List.length_map],by rw[Kz];exact h4,?_,auQ,by rw[auG];exact h7.nd,fun r' Fh => ?_⟩
  ·rw[nX]
   exact hold _ _ _ (fun r hr=>(h7.row r hr).2.2.1) h5
  ·obtain⟨i,hi⟩:=List.getElem?_of_mem Fh
   obtain⟨r,hr⟩:=Tt i (by rw[←B7];exact(List.getElem?_eq_some_iff.1 hi).1)
   rw[sL i r hr] at hi
   injection hi with hi
   subst hi
   have hm:=h7.row r (List.mem_of_getElem? hr)
   exact⟨hm.1,hm.2.1,hm.2.2.1,by rw[uP];exact hm.2.2.2.1,sQ i r hr⟩
theorem MP (xs ys:List (List ByteArray)) (hn:xs.length≤1000000000) (Gg:∀x∈xs,x.length≤1000000000):TC 19 [chV xs,chV ys] (VB (decide (xs=ys))):=by
 refine TC.walk ⟨true,false⟩ Lq rfl (Nat.le_of_ble_eq_true rfl) (Ic (Bx _) (Bx _)) rfl ?_
 have e1:=AH xs ys hn Gg
 by_cases h:xs=ys
 ·rw[decide_eq_true h] at e1 ⊢
  simp only[B2,yK,e1,Qb,VX,Nat.reduceEqDiff,Nat.reduceAdd]
  exact aK rfl
 ·rw[decide_eq_false h] at e1 ⊢
  simp only[B2,yK,e1,Qb,VX,Nat.reduceEqDiff,Nat.reduceAdd]
  exact aK rfl
theorem IJ (k:Int) (xs:List (List ByteArray)) (hk:0≤k∧k≤10000000) (hn:xs.length≤10000000) (ht:cM xs≤10000000):TC 23 [chV (rR k xs),VI k] (VI (k+cM xs)):=by
 refine TC.walk ⟨true,false⟩ IB rfl (Nat.le_of_ble_eq_true rfl) (Ic (Bx _) rfl) rfl ?_
 have e1:=EH k xs hk hn ht
 have h:¬(k+(cM xs:Int))<0:=by omega
 simp only[DO,Bg,e1,Qb,h,VX,Nat.reduceEqDiff,Nat.reduceAdd]
 exact aK rfl
theorem agM {lo hi lJ:Nat} {bE:List (List ByteArray)} {H:aA} {v:VV} {k:Int} {K:VV→aA→Prop} (hv:CG bE lo hi H v) (fG:lJ≤lo) (hk:0≤k∧k≤10000000) (hn:bE.length≤10000000) (ht:cM bE≤10000000)
  (hK:∀H',H'.length=H.length→CG (rR k bE) lo hi H' v→(∀b g x,b<lo∨hi≤b→aH H b g=some x→aH H' b g=some x)→K (VI (k+cM bE)) H') :
  cZ 22 [v,VI k] lJ H K:=by
 obtain⟨c,rfl,hv⟩:=hv
 refine gC rfl (kS.walk ⟨true,false⟩ Ih (Nat.le_of_ble_eq_true rfl) ?_)
 simp only[Di,Bf,Pd,List.getElem?_cons_zero,VX,Nat.reduceEqDiff,Nat.reduceAdd]
 have NZ:aB c=[c]∧cC c=true:=by
  rcases hv with⟨rfl,rfl⟩ | ⟨b,g,c,rs,h1,h2,rfl,h3⟩<;>exact⟨rfl,rfl⟩
 simp only[NZ.2,List.all_cons,List.all_nil,FP,Pd,List.getElem?_cons_zero,VX,Nat.reduceEqDiff,Nat.reduceAdd]
 refine ahC hv fG hk hn ht fun H' h1 h2 h3 => ?_
 simp only[VX,Nat.reduceEqDiff,Nat.reduceAdd]
 exact hK H' h1 ⟨c,rfl,h2⟩ h3
def svN (s:Kr):Nat:=s.b.length+cM s.g+s.e.length
theorem S8.cell {α:Type} {f:α→VV} {e lo hi:Nat} {H:aA} {v:VV} {bE:List α} (h:S8 f e bE lo hi H v):cC v=true:=by
 rcases h with⟨rfl,rfl⟩ | ⟨b,g,c,h1,h2,rfl,h3⟩<;>rfl
theorem RG.cell {α:Type} {f:α→VV} {e lo hi:Nat} {H:aA} {v:VV} {bE:List (List α)} (h:RG f e bE lo hi H v):cC v=true:=by
 rcases h with⟨rfl,rfl⟩ | ⟨b,g,c,rs,h1,h2,rfl,h3⟩<;>rfl
end Go.PM
namespace Go.PM
open Go.Lib
section
variable {α:Type} {f:α→VV} {e:Nat}
def Pq (f:α→VV) (e:Nat) (bE:List (List α)) (lo hi:Nat) (H:aA) (v:VV):Prop :=
 (v = .tree [] .nil∧bE=[])∨∃b g rs,lo≤b∧b<hi∧v = .ref b g 0 bE.length bE.length∧aH H b g=some (rs.map qO,1,true)∧rs.map (·.xs)=bE∧OB f e lo hi b H rs
theorem Pq.rg {bE:List (List α)} {lo hi:Nat} {H:aA} {v:VV} (h:Pq f e bE lo hi H v):RG f e bE lo hi H v:=by
 rcases h with h | ⟨b,g,rs,h1,h2,h3,h5,h6,h7⟩
 ·exact .inl h
 ·exact .inr ⟨b,g,_,rs,h1,h2,h3,Nat.le_refl _,h5,h6,h7⟩
theorem Pq.cL {bE:List (List α)} {lo hi:Nat} {H H':aA} {v:VV} (h:Pq f e bE lo hi H v) (hk:dO lo hi H H'):Pq f e bE lo hi H' v:=by
 rcases h with h | ⟨b,g,rs,h1,h2,h3,h5,h6,h7⟩
 ·exact .inl h
 ·exact .inr ⟨b,g,rs,h1,h2,h3,hk _ _ _ h1 h2 h5,h6,h7.nd,fun r hr=>by
   obtain⟨k1,k2,k3,k4,k5⟩:=h7.row r hr
   exact⟨k1,k2,k3,k4,hk _ _ _ k1 k2 k5⟩⟩
theorem Pq.wide {bE:List (List α)} {lo hi lJ qW:Nat} {H:aA} {v:VV} (h:Pq f e bE lo hi H v) (hl:lJ≤lo) (hh:hi≤qW):Pq f e bE lJ qW H v:=by
 rcases h with h | ⟨b,g,rs,h1,h2,h3,h5,h6,h7⟩
 ·exact .inl h
 ·exact .inr ⟨b,g,rs,by omega,by omega,h3,h5,h6,h7.nd,fun r hr=>by
   obtain⟨k1,k2,k3,k4,k5⟩:=h7.row r hr
   exact⟨by omega,by omega,k3,k4,k5⟩⟩
theorem Pq.gE {bE:List (List α)} {lo hi:Nat} {H:aA} {v:VV} (h:Pq f e bE lo hi H v):cC v=true∧aB v=[v]∧isAny v=false:=by
 rcases h with⟨rfl,rfl⟩ | ⟨b,g,rs,h1,h2,rfl,h3⟩<;>exact⟨rfl,rfl,rfl⟩
theorem Pq.ajV {bE:List (List α)} {lo hi:Nat} {H:aA} {v:VV} (h:Pq f e bE lo hi H v):qB v H=some (VI bE.length):=by
 rcases h with⟨rfl,rfl⟩ | ⟨b,g,rs,h1,h2,rfl,h5,h6,h7⟩
 ·rfl
 ·exact dP h5
theorem Pq.snoc {bE:List (List α)} {lo lJ hi:Nat} {H:aA} {v:VV} (h:Pq f e bE lo hi H v) (fG:lJ≤lo) (hn:bE.length≤1000000000) (r:Ae α) (hhi:hi≤r.b) (AX:lo≤r.b) (hc:r.xs.length≤r.c) (hr:aH H r.b r.g=some (r.xs.map f,e,true)) :
  ∃v' H3,eE lJ 1 24 v [.ref r.b r.g 0 r.xs.length r.c] H=some (v',H3)∧Pq f e (bE++[r.xs]) lo H3.length H3 v'∧(∀b' g' x,b'<lo→aH H b' g'=some x→aH H3 b' g'=some x)∧H.length≤H3.length ∧
   (∀n,n≤lo→vU n H→vU n H3)∧(∀H0:aA,H0.length≤lo→H0 <+: H→H0 <+: H3)∧(∀b' g' x,aH H b' g'=some x→(∀g0 n0 c0,v ≠ .ref b' g0 0 n0 c0)→aH H3 b' g'=some x):=by
 have hb:=eW hr
 rcases h with⟨rfl,rfl⟩ | ⟨b,g,rs,h1,h2,rfl,h5,h6,h7⟩
 ·refine⟨.ref H.length 0 0 1 1,H++[.row 0 [qO r] 1 true],by simp[eE,qO],.inr ⟨H.length,0,[r],by omega,by simp,rfl,iD,rfl,by simp,fun s hs => ?_⟩,fun _ _ _ _ h=>bK h,by simp,fun n hn hO=>hO.app (by simp[pC,dY,qO];omega),fun H0 _ hp=>kQ hp,fun _ _ _ h _=>bK h⟩
  rw[List.mem_singleton] at hs
  subst hs
  exact⟨AX,by simp;omega,by omega,hc,bK hr⟩
 ·subst h6
  rw[List.length_map] at hn ⊢
  have uE:=gZ (f:=qO) (xs:=rs) (x:=r) (lo:=lJ) (bytes:=24) h5 rfl (by omega) (by decide) (by decide) (by omega)
  refine⟨_,_,uE,.inr ⟨b,g+1,rs++[r],h1,by rw[List.length_set];exact eW h5,by simp,bJ h5,by simp,?_,fun s hs => ?_⟩,fun b' g' x uC h=>aZ (by omega) h,by simp,fun n hn hO=>hO.set (by omega) ?_,fun H0 hl hp=>mC hp (by omega),fun b' g' x h fQ=>aZ (fun he=>fQ g _ _ (by rw[he])) h⟩
  ·rw[List.map_append,List.nodup_append]
   refine⟨h7.nd,by simp,fun a ha c TG => ?_⟩
   obtain⟨s,hs,rfl⟩:=List.mem_map.1 ha
   have:=h7.row s hs
   simp only[List.map_cons,List.map_nil,List.mem_singleton] at TG
   omega
  ·rcases List.mem_append.1 hs with hs | hs
   ·obtain⟨k1,k2,k3,k4,k5⟩:=h7.row s hs
    exact⟨k1,by rw[List.length_set];exact eW k5,k3,k4,aZ (by omega) k5⟩
   ·rw[List.mem_singleton] at hs
    subst hs
    exact⟨AX,by rw[List.length_set];exact hb,by omega,hc,aZ (by omega) hr⟩
  ·rw[vS]
   intro x hx
   obtain⟨s,hs,rfl⟩:=List.mem_map.1 hx
   rcases List.mem_append.1 hs with hs | hs
   ·have:=h7.row s hs
    simp[qO,dY];omega
   ·rw[List.mem_singleton] at hs
    subst hs
    simp[qO,dY];omega
end
def YB {α:Type} (f:α→VV) (e:Nat) (o:Option (List α)) (lo hi:Nat) (H:aA) (v:VV):Prop:=match o with
 | none=>v = .tree [] .nil
 | some ys=>JH f e ys lo hi H v
theorem JH.cL {α:Type} {f:α→VV} {e:Nat} {ys:List α}:∀ {lo hi H H' v},JH f e ys lo hi H v→dO lo hi H H'→JH f e ys lo hi H' v:=by
 rintro lo hi H H' v ⟨b,g,c,h1,h2,h3,h4,h5⟩ hk
 exact⟨b,g,c,h1,h2,h3,h4,hk _ _ _ h1 h2 h5⟩
theorem YB.cL {α:Type} {f:α→VV} {e:Nat} {o:Option (List α)}:∀ {lo hi H H' v},YB f e o lo hi H v→dO lo hi H H'→YB f e o lo hi H' v:=by
 intro lo hi H H' v h hk
 cases o with
 | none=>exact h
 | some ys=>exact JH.cL h hk
theorem GL {n n':Nat} {L:aA} (h:n≤n') (hL:dR n' L=true):dR n L=true:=by
 unfold dR at hL ⊢
 rw[List.all_eq_true] at hL ⊢
 intro x hx
 have:=hL x hx
 cases x with
 | dead=>rfl
 | row g es e w=>exact BB h es this
theorem Bk {n:Nat} {H:aA} (h:n≤H.length):Gk H (List.replicate n .dead++List.replicate (H.length-n) .dead):=by
 refine⟨by simp;omega,fun b g es e w hb => ?_⟩
 rw[List.replicate_append_replicate] at hb
 have:=List.eq_of_mem_replicate (List.mem_of_getElem? hb)
 cases this
theorem Bv {n k:Nat}:dR n (List.replicate k .dead)=true:=by
 unfold dR
 rw[List.all_eq_true]
 intro x hx
 rw[List.eq_of_mem_replicate hx]
def J5 (q:Rat):ByteArray:=⟨(Ff q).toArray⟩
def Cw (qs:List Rat):Option (List ByteArray):=if qs.all xA=true then some (qs.map J5) else none
theorem Qt {qs:List Rat} {q:Rat} (hq:q∈qs) (h:xA q=false):Cw qs=none:=if_neg (fun ha=>by
 rw[List.all_eq_true] at ha
 rw[ha q hq] at h
 cases h)
theorem OC {qs:List Rat} (h:∀q∈qs,xA q=true):Cw qs=some (qs.map J5):=if_pos (List.all_eq_true.2 h)
set_option maxHeartbeats 1000000 in
theorem Kk (qs:List Rat) (hn:qs.length≤1000000) (hb:∀q∈qs,bQ q≤1099511627776):FC 147 [aQ bF qs] (Xg (YB sV 1 (Cw qs)) (Cw qs).isSome):=by
 refine FC.Mu ⟨true,false⟩ J2 (Nat.le_of_ble_eq_true rfl) fun n => ?_
 have e0:∀K,jY false [.string ⟨#[]⟩] 0 [] K=some (.ref K.length 0 0 0 0,K++[.row 0 [] 1 true]):=fun K=>iA rfl
 simp only[ET,CM,e0,List.length_replicate,kC,VX,Nat.reduceEqDiff,Nat.reduceAdd,Nat.reduceLeDiff,Nat.reduceLT,Nat.reduceSub]
 refine Lb (fun(i:Nat) ρ H=>i≤qs.length∧(∀q∈qs.take i,xA q=true)∧H=List.replicate n cA.dead++[cA.row i (((qs.take i).map J5).map sV) 1 true]∧ρ 4 = .ref n i 0 i i∧ρ 10=aQ bF qs∧ρ 11=VI qs.length∧ρ 12=VI i) (fun i=>qs.length-i) 0 ⟨Nat.zero_le _,by simp,rfl,rfl,rfl,rfl,rfl⟩ ?_
 rintro i ρ H ⟨hi,rU,rfl,g4,g10,g11,g12⟩
 have gG:aH (List.replicate n cA.dead++[cA.row i (((qs.take i).map J5).map sV) 1 true]) n i=some (((qs.take i).map J5).map sV,1,true):=by rw[Am,aU]
 by_cases cK:(i:Int)<(qs.length:Int)
 ·obtain⟨q,hq⟩:∃q,qs[i]? = some q:=⟨_,List.getElem?_eq_getElem (by omega)⟩
  have hqm:=List.mem_of_getElem? hq
  have a1:=fun H=>aI (f:=bF) (t := .op) (H:=H) (size:=3) (k := .i64) hq rfl
  have wi:IntKind.i64.wrap ((i:Int)+1)=((i+1:Nat):Int):=wrapN (i+1) (by omega) (by omega)
  have e2:=J0 q (hb q hqm)
  have s1:=yI (lo:=n) (H:=List.replicate n cA.dead++[cA.row i (((qs.take i).map J5).map sV) 1 true]) (q:=q) (by simp)
  have s2:=KE (H:=List.replicate n cA.dead++[cA.row i (((qs.take i).map J5).map sV) 1 true]) (K:=[]) (q:=q)
  cases hf:xA q with
  |
   false =>
   rw[hf] at e2
   rw[Qt hqm hf]
   simp only[qG,g4,g10,g11,g12,cK,a1,e2,s1,s2,dL,kC,VX,Nat.reduceEqDiff,Nat.reduceAdd,Nat.reduceLeDiff,Nat.reduceLT,Nat.reduceSub]
   exact⟨_,Bk (by simp),rfl,Bv,.tree [] .nil,rfl,rfl⟩
  |
   true =>
   rw[hf] at e2
   have eL:∀H,jY false [.string ⟨#[]⟩] 1 [(0,bC (Ff q))] H=some (.tree [sV (J5 q)] (.cl 1),H):=fun H=>gJ rfl rfl rfl
   have eS:∀H,dF 1 (.tree [sV (J5 q)] (.cl 1)) H=some [sV (J5 q)]:=fun H=>dV rfl rfl
   have eP:eE n 1 16 (.ref n i 0 i i) [sV (J5 q)] (List.replicate n cA.dead++[cA.row i (((qs.take i).map J5).map sV) 1 true]++[.row 0 [bF q] 3 true])=some (.ref n (i+1) 0 (i+1) (i+1),(List.replicate n cA.dead++[cA.row (i+1) (((qs.take (i+1)).map J5).map sV) 1 true])++[.row 0 [bF q] 3 true]):=by
    rw[gZ (f:=sV) (xs:=(qs.take i).map J5) (bK gG) (by simp;omega) (Nat.le_refl _) (by decide) (by decide) (by omega),iK hq]
    simp only[List.map_append,List.append_assoc,BR]
    rfl
   simp only[qG,g4,g10,g11,g12,cK,a1,e2,s1,s2,eL,eS,eP,wi,dL,kC,VX,Nat.reduceEqDiff,Nat.reduceAdd,Nat.reduceLeDiff,Nat.reduceLT,Nat.reduceSub]
   rw[List.take_left' (by simp)]
   refine⟨i+1,by omega,by rw[agA,A0 (mT _ (fJ fun _=>rfl)),Iq],by omega,fun p hp => ?_,rfl,?_⟩
   ·rw[iK hq] at hp
    rcases List.mem_append.1 hp with h | h
    ·exact rU p h
    ·rw[List.mem_singleton] at h;subst h;exact hf
   ·simp only[uS,g10,g11,BI (BW _),Im (show n<(List.replicate n cA.dead++[cA.row i (((qs.take i).map J5).map sV) 1 true]).length by simp),VX,Nat.reduceEqDiff,Nat.reduceAdd,List.take_zero,kI,List.all_nil,List.length_nil,uS,Ly,BI]
 ·have lS:i=qs.length:=by omega
  subst lS
  rw[List.take_length] at rU gG
  rw[OC rU]
  simp only[qG,g4,g10,g11,g12,cK,List.take_length,kC,VX,Nat.reduceEqDiff,Nat.reduceAdd,Nat.reduceLeDiff,Nat.reduceLT,Nat.reduceSub]
  refine⟨_,⟨rfl,fun _ _ _ _ _ h=>h⟩,by simp[dY,pC,lQ],by simp only[dR,List.all_cons,List.all_nil,Bool.and_true];exact DY (fun _=>rfl) _,.ref n qs.length 0 qs.length qs.length,rfl,⟨n,qs.length,qs.length,Nat.le_refl _,by simp,by simp,by simp,gG⟩⟩
def uH (m:List (List Rat)):Option (List (List ByteArray)):=m.mapM Cw
theorem NL {n lo:Nat} {args jF:List VV} {F:Nat} {P:Nat→Nat→aA→VV→Prop} {ok:Bool} {H:aA} {K:VV→aA→Prop} (h:FC F jF (Xg P ok)) (yZ:Dg.contains F=true) (hf:args.mapM (PM.fz depth H)=some jF) (hO:vU n H)
  (hP:∀ {lo hi H H' v},P lo hi H v→dO lo hi H H'→P lo hi H' v) (hk:∀v H',H <+: H'→vU n H'→dY n v=true→P H.length H'.length H' v→K (.fN [v,.sc (.bool ok)]) H'):cZ F args lo H K:=by
 refine h.adE yZ hf ?_
 rintro r L ⟨v,rfl,hv⟩ hr hL
 have hvo:dY H.length v=true:=by
  simp only[dY,pC,Bool.and_eq_true] at hr
  exact hr.1
 refine hk v _ (List.prefix_append _ _) (hO.pre ?_) (N7 hO.len v hvo) ?_
 ·exact GL hO.len hL
 ·rw[List.length_append]
  exact hP hv dO.move
set_option maxHeartbeats 2000000 in
theorem HP (m:List (List Rat)) (hn:m.length≤1000000) (hb:∀r∈m,r.length≤1000000∧∀q∈r,bQ q≤1099511627776):FC 71 [aQ (aQ bF) m] (Xg (CG ((uH m).getD [])) (uH m).isSome):=by
 refine FC.Mu ⟨true,false⟩ IN (Nat.le_of_ble_eq_true rfl) fun n => ?_
 have s0:cD n 1 (.ptr (n+1) 0 0 0) (.agg [.tree [] .nil]) (List.replicate n cA.dead++[cA.row 0 [.tree [] .nil] 1 true,.row 0 [.tree [] .nil] 1 true])=some (List.replicate n cA.dead++[cA.row 0 [.tree [] .nil] 1 true,.row 0 [.agg [.tree [] .nil]] 1 true]):=by
  rw[bX (e:=1) (g:=0) (j:=0) (by rw[xK,jB,aU]) (by exact Nat.zero_lt_one) (by omega) rfl rfl,Ts]
  rfl
 simp only[C6,Bj,s0,DV,List.length_replicate,List.length_cons,List.length_nil,List.append_assoc,List.cons_append,List.nil_append,jJ,kC,VX,Nat.reduceEqDiff,Nat.reduceAdd,Nat.reduceLeDiff,Nat.reduceLT,Nat.reduceSub]
 refine aP (fun(i:Nat) ρ H=>i≤m.length∧vU n H∧(∃x v bE,aH H n 0=some ([.tree [] .nil],1,true)∧aH H (n+1) 0=some ([x],1,true)∧aB x=[v]∧uH (m.take i)=some bE∧Pq sV 1 bE (n+2) H.length H v)∧ρ 2 = .ptr n 0 0 0∧ρ 4 = .ptr (n+1) 0 0 0∧ρ 10=aQ (aQ bF) m∧ρ 11=VI m.length∧ρ 12=VI i) (fun i=>m.length-i) 0
  ⟨Nat.zero_le _,⟨[.row 0 [.tree [] .nil] 1 true,.row 0 [.agg [.tree [] .nil]] 1 true],rfl,rfl⟩,⟨.agg [.tree [] .nil],.tree [] .nil,[],by rw[Am,aU],by rw[xK,jB,aU],rfl,rfl,.inl ⟨rfl,rfl⟩⟩,rfl,rfl,rfl,rfl,rfl⟩ ?_
 rintro i ρ H ⟨hi,hO,⟨x,v,bE,vO,AW,hx,Gv,hv⟩,g2,g4,g10,g11,g12⟩
 have BP:=eW AW
 by_cases cK:(i:Int)<(m.length:Int)
 ·obtain⟨r,hr⟩:∃r,m[i]? = some r:=⟨_,List.getElem?_eq_getElem (by omega)⟩
  have CE:=hb r (List.mem_of_getElem? hr)
  have a1:=fun H=>aI (f:=aQ bF) (t := .op) (H:=H) (size:=1) (k := .i64) hr rfl
  have wi:IntKind.i64.wrap ((i:Int)+1)=((i+1:Nat):Int):=wrapN (i+1) (by omega) (by omega)
  simp only[sX,g2,g4,g10,g11,g12,cK,a1,kC,VX,Nat.reduceEqDiff,Nat.reduceAdd,Nat.reduceLeDiff,Nat.reduceLT,Nat.reduceSub]
  refine NL (n:=n) (Kk r CE.1 CE.2) rfl (X8 (aK (BW _))) hO YB.cL fun u H2 p2 hO2 _ hu => ?_
  cases ht:Cw r with
  |
   none =>
   rw[ht] at hu
   have hu:u = .tree [] .nil:=hu
   subst hu
   have akS:uH m=none:=mapM_none ht (List.mem_of_getElem? hr)
   rw[akS]
   have s1:cD n 1 (.ptr n 0 0 0) (.agg [.tree [] .nil]) H2=some (H2.set n (.row 0 [.agg [.tree [] .nil]] 1 true)):=by
    rw[bX (cP p2 vO) (by exact Nat.zero_lt_one) (Nat.le_refl _) rfl rfl]
    rfl
   have s2:cN true 1 (.ptr n 0 0 0) (H2.set n (.row 0 [.agg [.tree [] .nil]] 1 true))=some (.agg [.tree [] .nil]):=by
    rw[bR,bJ (cP p2 vO)]
    rfl
   simp only[g2,g4,s1,s2,Option.isSome_none,kC,VX,Nat.reduceEqDiff,Nat.reduceAdd,Nat.reduceLeDiff,Nat.reduceLT,Nat.reduceSub]
   exact⟨_,Bk (by rw[List.length_set];have:=p2.length_le;omega),rfl,Bv,.agg [.tree [] .nil],rfl,_,rfl,.inl ⟨rfl,rfl⟩⟩
  |
   some ys =>
   rw[ht] at hu
   obtain⟨b,g,c,k1,k2,rfl,k3,k4⟩:=hu
   ·have eL:∀K,jY false [.slice none 0 0] 1 [(0,.ref b g 0 ys.length c)] K=some (.tree [.ref b g 0 ys.length c] (.cl 1),K):=fun K=>gJ rfl rfl rfl
    have eS:∀K,dF 1 (.tree [.ref b g 0 ys.length c] (.cl 1)) K=some [.ref b g 0 ys.length c]:=fun K=>dV rfl rfl
    obtain⟨v',H3,ap,hv',cL,hlen,Lr,Bw,_⟩:=(hv.cL (dO.pre p2)).snoc (lJ:=n) (by omega) (by rw[qZ Gv,List.length_take];omega) ⟨b,g,c,ys⟩ k1 (by simp only;omega) k3 k4
    have Nn:=cL _ _ _ (by omega) (cP p2 AW)
    have l1:cN false 1 (.ptr (n+1) 0 0 0) H2=some v:=by
     rw[bR,cP p2 AW]
     simp[dK,hx]
    have l2:aH H2 (n+1) 0=some ([x],1,true):=cP p2 AW
    have wX:=hv'.gE
    have s1:cD n 1 (.ptr (n+1) 0 0 0) v' H3=some (H3.set (n+1) (.row 0 [v'] 1 true)):=by
     rw[bX Nn (by exact Nat.zero_lt_one) (by omega) (by rw[wX.2.1];rfl) (by rw[wX.2.1];simp[wX.1])]
     rfl
    have hO3:=(Lr n (by omega) hO2).set (b:=n+1) (g:=0) (e:=1) (es:=[v']) (w:=true) (by omega) (by
     rcases hv' with⟨rfl,_⟩ | ⟨b',g',Yx,q1,q2,rfl,_⟩
     ·rfl
     ·simp[pC,dY];omega)
    simp only[g4,g12,wi,eL,eS,l1,ap,s1,Nn,l2,Ag,Nat.add_zero,Option.isSome_some,kC,VX,Nat.reduceEqDiff,Nat.reduceAdd,Nat.reduceLeDiff,Nat.reduceLT,Nat.reduceSub]
    refine⟨i+1,by omega,by omega,hO3,⟨v',v',bE++[ys],aZ (by omega) (cL _ _ _ (by omega) (cP p2 vO)),bJ Nn,wX.2.1,?_,?_⟩,by (repeat' apply And.intro)<;>first | rfl | trivial | assumption⟩
    ·rw[iK hr]
     exact Eb Gv ht
    ·rw[List.length_set]
     exact hv'.cL (dO.set (by omega))
 ·have lS:i=m.length:=by omega
  subst lS
  rw[List.take_length] at Gv
  rw[Gv]
  have wX:=hv.gE
  have l1:cN true 1 (.ptr (n+1) 0 0 0) H=some (.agg [v]):=by
   rw[bR,AW]
   simp[dK,hx]
  have s1:cD n 1 (.ptr n 0 0 0) (.agg [v]) H=some (H.set n (.row 0 [.agg [v]] 1 true)):=by
   rw[bX vO (by exact Nat.zero_lt_one) (Nat.le_refl _) rfl (by simp[aB,wX.1])]
   rfl
  have s2:cN true 1 (.ptr n 0 0 0) (H.set n (.row 0 [.agg [v]] 1 true))=some (.agg [v]):=by
   rw[bR,bJ vO]
   rfl
  simp only[sX,g2,g4,g10,g11,g12,cK,l1,s1,s2,Option.isSome_some,kC,VX,Nat.reduceEqDiff,Nat.reduceAdd,Nat.reduceLeDiff,Nat.reduceLT,Nat.reduceSub]
  have Lr:dY n v=true:=by
   rcases hv with⟨rfl,_⟩ | ⟨b',g',Yx,q1,q2,rfl,_⟩
   ·rfl
   ·simp[dY];omega
  obtain⟨L,rfl,hL⟩:=hO
  refine⟨L.set 0 (.row 0 [.agg [v]] 1 true),⟨by simp,fun _ _ _ _ _ h=>by rw[BR];exact h⟩,by simp[dY,pC,Lr,lQ],?_,.agg [v],rfl,v,rfl,?_⟩
  ·have:=(vU.set (n:=n) (b:=n) (g:=0) (e:=1) (es:=[.agg [v]]) (w:=true) ⟨L,rfl,hL⟩ (Nat.le_refl _) (by simp[pC,dY,Lr]))
   rw[BR] at this
   obtain⟨L',h1,h2⟩:=this
   rw[List.append_cancel_left h1]
   exact h2
  ·rw[←BR,List.length_set]
   have:=hv.rg.cL (H':=(List.replicate n cA.dead++L).set n (.row 0 [.agg [v]] 1 true)) (dO.set (by omega))
   rw[DV] at this
   exact this.wide (by omega) (Nat.le_refl _)
end Go.PM
namespace Go.PM
open Go.Lib
section
variable {g:List (List Rat)} {e row:List Rat} {n i:Nat} {st:List Bool}
end
end Go.PM
namespace Go.PM
end Go.PM
namespace Go.PM
def fF:aD:=(LS [LO 24 (.bin .lss (LT 23) (LT 22))] (.seq (.cond (LT 24) .skip (.exit 0)) (.seq (.block 1 (LS [LM 25 23,LO 26 (.iaddr 1 (LT 21) (LT 23)),LO 27 (LL 26),LM 6 25,LM 7 27] (LS [LM 29 7,LO 30 (.call 65 [(LT 29)]),LM 28 30,LO 31 (LX 28 0),LO 32 (LX 28 1),LM 8 31,LM 9 32] (.seq (LS [LM 33 9,LO 34 (.un .not (LT 33)),LM 35 34,LZ 35 36 (.mv (LT 8)),LZ 35 37 (.len (LT 36)),LZ 35 38 (.mv (LT 0)),LZ 35 39 (.len (LT 38)),LZ 35 40 (.bin .neq (LT 37) (LT 39)),LO 41 (.pick (LT 35) LG (LT 40)),LM 42 41,LZ 42 43 (.mv (LT 8)),LZ 42 44 (.call 66 [(LT 43),(.func 67)]),LO 45 (.pick (LT 42) LG (LT 44)),LM 46 45,LZ 46 47 (.mv (LT 8)),LZ 46 48 (.mv (LT 6)),LZ 46 49 (.iaddr 3 (LT 47) (LT 48)),LZ 46 50 (LK 49),LZ 46 51 (.call 68 [(LT 50)]),LZ 46 52 (.bin .neq (LT 51) (LI 0)),LO 53 (.pick (LT 46) LG (LT 52))] (.cond (LT 53) (LS [LO 54 (.build [(.slice none 0 0)] [(0,1)] []),LN (.store 1 (LT 2) (LT 54)),LO 3 (.mv LF)] .ret) .skip)) (.dJ [LM 55 4,LM 56 8,LQ 57 (.lit [(.slice none 0 0)] 1 [(0,(LT 56))]),LO 58 (.app 1 24 (LT 55) (LT 57)),⟨(some 59),(LK 5),none,false,[((LT 55),(LT 5))]⟩,LM 60 8,LQ 61 (.call 70 [(LT 60)]),LQ 62 (.call 69 [(LT 59),(LT 61)]),LM 4 58,LN (.store 3 (LT 5) (LT 62))]))))) (.dJ [LO 63 (.bin .add (LT 23) (LI 1)),LM 23 63]))))
def qJ:aD:=(LS [LO 2 (.new [(.slice none 0 0)]),LO 3 (.mv LF)] (.seq (LS [LM 10 0,LO 11 (.len (LT 10)),LO 12 (.bin .lss (LT 11) (LI 1)),LM 13 12,LZ 13 14 (.mv (LT 0)),LZ 13 15 (.len (LT 14)),LZ 13 16 (.bin .gtr (LT 15) (LI 12)),LO 17 (.pick (LT 13) LG (LT 16))] (.cond (LT 17) (LS [LO 18 (.build [(.slice none 0 0)] [(0,1)] []),LN (.store 1 (LT 2) (LT 18)),LO 3 (.mv LF)] .ret) .skip)) (LS [LO 19 (.lit [(.slice none 0 0)] 0 []),LO 20 (.call 64 [(LI 0)]),LO 5 (.new [(.bool false),(.slice none 0 0),(.slice none 0 0)]),LM 4 19,LN (.store 3 (LT 5) (LT 20))] (.seq (LS [LM 21 0,LO 22 (.len (LT 21)),LO 23 (.mv (LI 0))] (.block 0 (.loop fF))) (.seq (LS [LO 64 (LK 5),LO 65 (.call 68 [(LT 64)]),LO 66 (.bin .eql (LT 65) (LI 0))] (.cond (LT 66) (LS [LO 67 (.build [(.slice none 0 0)] [(0,1)] []),LN (.store 1 (LT 2) (LT 67)),LO 3 (.mv LF)] .ret) .skip)) (LS [LM 68 4,LO 69 (.call 72 [(LT 68)]),LO 70 (.call 71 [(LT 69)]),LO 71 (LX 70 0),LO 72 (LX 70 1),LN (.store 1 (LT 2) (LT 71)),LM 3 72] .ret))))))
def tN:aT:=⟨73,[(.cell 2 true 1),(.tmp 3)],qJ⟩
theorem Iw:gO 18=some tN:=by kernel_rfl
def Cb:aD:=(LS [LO 15 (.bin .lss (LT 14) (LT 13))] (.seq (.cond (LT 15) .skip (.exit 0)) (.seq (.block 1 (LS [LO 16 (.iaddr 1 (LT 12) (LT 14)),LO 17 (LL 16),LM 5 17] (LS [LM 18 5,LO 19 (.call 70 [(LT 18)]),LO 6 (.new [(.bool false),(.slice none 0 0),(.slice none 0 0)]),LN (.store 3 (LT 6) (LT 19))] (LS [LO 20 (LK 6),LO 21 (LK 3),LO 22 (.call 148 [(LT 20),(LT 21)]),LO 23 (.bin .gtr (LT 22) (LI 0))] (.cond (LT 23) (.dJ [LO 24 (LK 6),LN (.store 3 (LT 3) (LT 24))]) .skip))))) (.dJ [LO 25 (.bin .add (LT 14) (LI 1)),LM 14 25]))))
def BY:aD:=(LS [LO 30 (.bin .lss (LT 29) (LT 28))] (.seq (.cond (LT 30) .skip (.exit 2)) (.seq (.block 3 (LS [LM 31 29,LO 32 (.iaddr 1 (LT 27) (LT 29)),LO 33 (LL 32),LM 8 31,LM 9 33] (LS [LM 34 9,LO 35 (LK 3),LO 36 (.call 149 [(LT 34),(LT 35)]),LM 10 36] (LS [LM 37 10,LM 38 8,LO 39 (.call 64 [(LI 1)]),LM 40 10,LO 41 (.call 70 [(LT 40)]),LO 42 (.call 128 [(LT 39),(LT 41)]),LO 43 (.iaddr 3 (LT 37) (LT 38)),LN (.store 3 (LT 43) (LT 42))] (.dJ [LM 44 7,LM 45 10,LO 46 (.lit [(.slice none 0 0)] 1 [(0,(LT 45))]),LO 47 (.app 1 24 (LT 44) (LT 46)),LM 7 47]))))) (.dJ [LO 48 (.bin .add (LT 29) (LI 1)),LM 29 48]))))
def JA:aD:=(LS [LO 2 (.mv (.const (.slice none 0 0)))] (LS [LO 11 (.call 64 [(LI 0)]),LO 3 (.new [(.bool false),(.slice none 0 0),(.slice none 0 0)]),LN (.store 3 (LT 3) (LT 11))] (.seq (LS [LM 12 0,LO 13 (.len (LT 12)),LO 14 (.mv (LI 0))] (.block 0 (.loop Cb))) (LS [LO 26 (.lit [(.slice none 0 0)] 0 []),LM 7 26] (.seq (LS [LM 27 0,LO 28 (.len (LT 27)),LO 29 (.mv (LI 0))] (.block 2 (.loop BY))) (LS [LM 49 7,LM 2 49] .ret))))))
def NN:aT:=⟨50,[(.tmp 2)],JA⟩
theorem Ss:gO 72=some NN:=by kernel_rfl
end Go.PM
namespace Go.PM
open Go.Lib
theorem akU {n k lo hi:Nat} {H:aA} {P:Nat→Nat→aA→VV→Prop} {v:VV} {ok:Bool} (hk:n≤k) (hl:k≤H.length) (hT:Cp n k H) (hv:dY n v=true)
  (DS:∀ {lo hi H H' v},P lo hi H v→dO lo hi H H'→P lo hi H' v) (aqL:∀ {lo hi lJ qW:Nat} {H:aA} {v:VV},P lo hi H v→lJ≤lo→hi≤qW→P lJ qW H v) (hp:P lo hi H v) (fG:k≤lo) (hhi:hi≤H.length) :
  ∃L,Gk H (List.replicate n .dead++L)∧dY n (.fN [v,.sc (.bool ok)])=true∧dR n L=true∧Xg P ok n (.fN [v,.sc (.bool ok)]) L:=by
 obtain⟨L,k1,k2,k3⟩:=QS hk hl hT
 refine⟨L,k1,by simp[dY,pC,hv,lQ],k2,v,rfl,?_⟩
 have hl3:=k1.1
 rw[List.length_append,List.length_replicate] at hl3
 exact aqL (DS hp (H':=List.replicate n cA.dead++L) fun b g x h1 h2 h3=>k3 b g x (by omega) h3) (by omega) (by omega)
theorem CG.wide {bE:List (List ByteArray)}:∀ {lo hi lJ qW:Nat} {H:aA} {v:VV},CG bE lo hi H v→lJ≤lo→hi≤qW→CG bE lJ qW H v:=by
 rintro lo hi lJ qW H v ⟨c,h1,h2⟩ hl hh
 exact⟨c,h1,h2.wide hl hh⟩
theorem CG.own {n lo hi:Nat} {H:aA} {v:VV} {bE:List (List ByteArray)} (h:CG bE lo hi H v) (hn:n≤lo):∃c,v = .agg [c]∧cC c=true∧aB c=[c]∧dY n c=true:=by
 obtain⟨c,rfl,h | ⟨b,g,cc,rs,h1,h2,rfl,h3⟩⟩:=h
 ·obtain⟨rfl,_⟩:=h
  exact⟨_,rfl,rfl,rfl,rfl⟩
 ·exact⟨_,rfl,rfl,rfl,by simp[dY];omega⟩
theorem Vv.wide {s:Kr}:∀ {lo hi lJ qW:Nat} {H:aA} {v:VV},Vv s lo hi H v→lJ≤lo→hi≤qW→Vv s lJ qW H v:=by
 rintro lo hi lJ qW H v ⟨a,b,c,m1,m2,h1,k1,k2,k3,h2,h3,h4⟩ hl hh
 exact⟨a,b,c,m1,m2,h1,by omega,k2,by omega,h2.wide hl (Nat.le_refl _),h3,h4.wide (Nat.le_refl _) hh⟩
theorem Cp.aqU {n k:Nat} {H L:aA} (h:Cp n k H) (hL:dR n L=true):Cp n k (H++L):=by
 intro b g es e w hb hr
 rcases Nat.lt_or_ge b H.length with bH | CR
 ·rw[List.getElem?_append_left bH] at hr
  exact h b g es e w hb hr
 ·rw[List.getElem?_append_right CR] at hr
  exact List.all_eq_true.1 hL _ (List.mem_of_getElem? hr)
theorem Cp.start {n:Nat} {H:aA}:Cp n H.length H:=fun b g es e w hb hr=>by
 rw[List.getElem?_eq_none hb] at hr
 cases hr
end Go.PM
namespace Go.PM
open Go.Lib
theorem ZG (d:Nat) (h:d≤9223372036854775807):TC 219 [VI (d:Int)] (bC (decDigits d)):=by
 have:=Nj (d:Int) (by omega) (by omega)
 rw[if_neg (by omega),List.nil_append,Int.natAbs_natCast] at this
 exact this
theorem aaB {n i:Nat} (hi:i+1=(aC 1000000000 n).length):n / 1000000000^i=n / 1000000000^i % 1000000000:=by
 have h1:=Xf (b:=1000000000) (by decide) n (i+1)
 rw[List.drop_of_length_le (by omega)] at h1
 have h2:=(mJ (b:=1000000000) (by decide)).1 h1.symm
 rw[tX] at h2
 rcases Nat.div_eq_zero_iff.1 h2 with h | h
 ·exact absurd h (by decide)
 ·exact(Nat.mod_eq_of_lt h).symm
theorem JT (l:List UInt8) (a b:Nat):(⟨l.toArray⟩:ByteArray).extract a b=⟨((l.drop a).take (b-a)).toArray⟩:=by
 rw[ByteArray.ext_iff,ByteArray.data_extract]
 simp[List.extract_toArray,List.extract_eq_take_drop]
theorem abV (l:List UInt8) {a b:Nat} (h:a≤b) (hb:b≤l.length):wD (bC l) (some (VI (a:Int))) (some (VI (b:Int)))=some (bC ((l.drop a).take (b-a))):=by
 have hs:(⟨l.toArray⟩:ByteArray).size=l.length:=by simp[ByteArray.size]
 have e1:(0:Int)≤b∧(b:Int)≤(l.length:Int):=by omega
 have e2:(0:Int)≤a∧(a:Int)≤(b:Int):=by omega
 simp only[wD,Hz,Af,hs,fD,e1,e2,and_self,if_true,Int.toNat_natCast,JT]
theorem ON (l:List UInt8) {a:Nat} (h:a≤l.length):wD (bC l) (some (VI (a:Int))) none=some (bC (l.drop a)):=by
 have hs:(⟨l.toArray⟩:ByteArray).size=l.length:=by simp[ByteArray.size]
 have e2:(0:Int)≤a∧(a:Int)≤(l.length:Int):=by omega
 simp only[wD,Hz,Af,hs,fD,e2,and_self,if_true,Int.toNat_natCast,JT]
 rw[List.take_of_length_le (by simp)]
theorem aoO (l:List UInt8) (h:1≤l.length):wD (bC l) (some (VI 1)) none=some (bC (l.drop 1)):=ON l h
theorem WL {a:Nat} (h:a<1000000000):IntKind.i64.wrap ((a:Int)+1000000000)=((a+1000000000:Nat):Int):=wrapN _ (by omega) (by omega)
theorem oR (n:Nat) (hn:bl n≤2199023255552):TC 208 [cB n] (bC (decDigits n)):=by
 refine TC.walk ⟨true,false⟩ Hw rfl (Nat.le_of_ble_eq_true rfl) (by simp[aM,cI]) rfl ?_
 by_cases h0:n=0
 ·subst h0
  have hl:(((aC 1000000000 0).length:Nat):Int)=0:=by rw[cG];rfl
  simp only[wW,tF,cO,hl,VX,Nat.reduceEqDiff,Nat.reduceAdd]
  rw[jE (by decide)]
  exact aK rfl
 have hl:¬(((aC 1000000000 n).length:Nat):Int)=0:=by have:=(qY (n:=n)).2 h0;omega
 obtain⟨L,hL⟩:∃L,(aC 1000000000 n).length=L+1:=⟨(aC 1000000000 n).length-1,by omega⟩
 have DL:=pH (n:=n) (by omega)
 have hlT:=ahD n
 have hdl:=BF n
 have w1:IntKind.i64.wrap (((L+1:Nat):Int)-1)=(L:Int):=wrapN _ (by omega) (by omega)
 have w2:IntKind.i64.wrap (((L+1:Nat):Int)-2)=(L:Int)-1:=by rw[wrap64 (by omega) (by omega)];omega
 have at':∀i,i≤L→bP 1 (cB n) (VI (i:Int)) []=some (.dB (tV (n / 1000000000^i % 1000000000)) 0):=fun i hi=>aI (f:=tV) (t := .op) (H:=[]) (size:=1) (k := .i64) (L8 (b:=1000000000) (by decide) (n:=n) (i:=i) (by omega)) rfl
 have eL:=at' L (Nat.le_refl _)
 have abC:=aaB (n:=n) (i:=L) (by omega)
 rw[←abC] at eL
 have NR:n / 1000000000^L≠0:=(EB (b:=1000000000) (by decide)).1 (by omega)
 have hqT:n / 1000000000^L<1000000000:=by rw[abC];exact Nat.mod_lt _ (by decide)
 have c1:=ZG (n / 1000000000^L) (by omega)
 rw[hL] at hl
 simp only[wW,tF,cO,hL,hl,w1,w2,eL,c1,VX,Nat.reduceEqDiff,Nat.reduceAdd]
 refine aP (fun(j:Nat) ρ H=>j≤L∧H=[]∧ρ 0=cB n∧ρ 3=bC (decDigits (n / 1000000000^j))∧ρ 4=VI ((j:Int)-1)) (fun j=>j) L ⟨Nat.le_refl _,rfl,rfl,rfl,rfl⟩ ?_
 rintro j ρ H ⟨hj,rfl,g0,g3,g4⟩
 by_cases hz:(0:Int)≤(j:Int)-1
 ·obtain⟨i,rfl⟩:∃i,j=i+1:=⟨j-1,by omega⟩
  have Jy:((i+1:Nat):Int)-1=(i:Int):=by omega
  rw[Jy] at g4 hz
  have e1:=at' i (by omega)
  have hm:=Nat.mod_lt (n / 1000000000^i) (show 0<1000000000 by decide)
  have hq1:n / 1000000000^(i+1)≠0:=(EB (b:=1000000000) (by decide)).1 (by omega)
  have hdm:=Nat.mod_add_div (n / 1000000000^i) 1000000000
  rw[←tX] at hdm
  have hch:=HJ (Nat.pos_of_ne_zero hq1) hm
  have hle:n / 1000000000^i≤n:=Nat.div_le_self _ _
  have YN:=BF (n / 1000000000^i)
  have hbi:=kY hle
  rw[show n / 1000000000^(i+1)*1000000000+n / 1000000000^i % 1000000000=n / 1000000000^i by omega] at hch
  generalize hAA:n / 1000000000^i=A at *
  generalize n / 1000000000^(i+1)=B at *
  have w4:IntKind.i64.wrap ((i:Int)-1)=(i:Int)-1:=wrap64 (by omega) (by omega)
  have c2:=ZG (A % 1000000000+1000000000) (by omega)
  rw[aeX hm] at c2
  have e2:=aoO (d10 1::CU 9 (A % 1000000000)) (by simp)
  rw[List.drop_succ_cons,List.drop_zero] at e2
  have hlen:=congrArg List.length hch
  rw[List.length_append] at hlen
  have a1:=rP (decDigits B) (CU 9 (A % 1000000000)) (by omega)
  rw[←hch] at a1
  have avK:i≤L:=by omega
  have hmu:i<i+1:=by omega
  have w3:=WL hm
  simp only[sC,g0,g3,g4,hz,e1,w3,w4,c2,e2,a1,VX,Nat.reduceEqDiff,Nat.reduceAdd]
  refine⟨i,hmu,avK,?_⟩
  rw[hAA]
  exact⟨rfl,rfl⟩
 ·have T3:j=0:=by omega
  subst T3
  rw[Nat.pow_zero,Nat.div_one] at g3
  simp only[sC,g0,g3,g4,hz,VX,Nat.reduceEqDiff,Nat.reduceAdd]
  exact aK rfl
theorem MD (q:Rat) (hk:bQ q≤1099511627776):TC 188 [bM q] (VB (xA q)):=by
 refine TC.walk ⟨true,false⟩ Mj rfl (Nat.le_of_ble_eq_true rfl) (by simp[aM,qL]) rfl ?_
 have la:=vD hk
 have lb:=uJ hk
 have t1:=oR q.num.natAbs (by omega)
 have t2:=oR q.den (by omega)
 have hf:xA q=(decide (((decDigits q.num.natAbs).length:Int)≤200)&&decide (((decDigits q.den).length:Int)≤200)):=by
  unfold xA
  congr 1<;>exact decide_eq_decide.2 (by omega)
 rw[hf]
 by_cases hl:((decDigits q.num.natAbs).length:Int)≤200
 ·simp only[B6,zZ,t1,t2,hl,bN,bS,fK,gQ,gK,aL,jS,Nat.reduceLeDiff,Nat.reduceLT,Nat.reduceSub,VX,Nat.reduceEqDiff,Nat.reduceAdd]
  exact aK rfl
 ·simp only[B6,zZ,t1,t2,hl,bN,bS,fK,gQ,gK,aL,jS,Nat.reduceLeDiff,Nat.reduceLT,Nat.reduceSub,VX,Nat.reduceEqDiff,Nat.reduceAdd]
  exact aK rfl
theorem KW (q:Rat) (hk:bQ q≤1099511627776):TC 189 [bM q] (bC (Ff q)):=by
 refine TC.walk ⟨true,false⟩ Mb rfl (Nat.le_of_ble_eq_true rfl) (by simp[aM,qL]) rfl ?_
 have la:=vD hk
 have lb:=uJ hk
 have t1:=oR q.num.natAbs (by omega)
 have t2:=oR q.den (by omega)
 have d1:=BF q.num.natAbs
 have d2:=BF q.den
 have c1:∀lo H K,_:=fun lo H K=>Kv (n:=q.den) (lo:=lo) (H:=H) (K:=K) (Nat.le_of_lt (pH (by omega)))
 have a1:dU .add (.string ⟨#[45]⟩) (.string ⟨(decDigits q.num.natAbs).toArray⟩)=some (.string ⟨(45::decDigits q.num.natAbs).toArray⟩):=rP [45] _ (by simp only[List.length_cons,List.length_nil];omega)
 have a2:dU .add (.string ⟨#[47]⟩) (.string ⟨(decDigits q.den).toArray⟩)=some (.string ⟨(47::decDigits q.den).toArray⟩):=rP [47] (decDigits q.den) (by simp only[List.length_cons,List.length_nil];omega)
 have a3:=rP (45::decDigits q.num.natAbs) (47::decDigits q.den) (by simp only[List.length_cons];omega)
 have a4:=rP (decDigits q.num.natAbs) (47::decDigits q.den) (by simp only[List.length_cons];omega)
 have hs:Ff q=(if q.num<0 then (45::decDigits q.num.natAbs) else decDigits q.num.natAbs)++(if q.den=1 then [] else 47::decDigits q.den):=by
  unfold Ff
  by_cases hn:q.num<0
  ·rw[if_pos hn,if_pos hn];rfl
  ·rw[if_neg hn,if_neg hn];rfl
 rw[hs]
 by_cases hd:fB q.den 1=0
 ·rw[if_pos (A3.1 hd),List.append_nil]
  by_cases hn:q.num<0
  all_goals
   simp only[BV,zA,t1,t2,a1,a2,a3,a4,c1,hd,hn,eG,bS,fK,gQ,gK,aL,jS,Nat.reduceLeDiff,Nat.reduceLT,Nat.reduceSub,VX,Nat.reduceEqDiff,Nat.reduceAdd]
   exact aK rfl
 ·rw[if_neg (mt A3.2 hd)]
  by_cases hn:q.num<0
  all_goals
   simp only[BV,zA,t1,t2,a1,a2,a3,a4,c1,hd,hn,eG,bS,fK,gQ,gK,aL,jS,Nat.reduceLeDiff,Nat.reduceLT,Nat.reduceSub,VX,Nat.reduceEqDiff,Nat.reduceAdd]
   exact aK rfl
theorem Ln (q:Rat) (hk:bQ q≤1099511627776):TC 171 [bM q] (SK q):=by
 refine TC.walk ⟨true,false⟩ MI rfl (Nat.le_of_ble_eq_true rfl) (by simp[aM,qL]) (XM q) ?_
 have t1:=MD q hk
 have t2:=KW q hk
 unfold SK
 by_cases h:xA q=true
 ·rw[h] at t1
  rw[if_pos h]
  simp only[Ce,yM,t1,t2,bS,gD,jL,aL,jS,Nat.reduceLeDiff,Nat.reduceLT,Nat.reduceSub,VX,Nat.reduceEqDiff,Nat.reduceAdd]
  exact aK rfl
 ·have h':xA q=false:=by simpa using h
  rw[h'] at t1
  rw[if_neg h]
  simp only[Ce,yM,t1,bS,gD,jL,aL,jS,Nat.reduceLeDiff,Nat.reduceLT,Nat.reduceSub,VX,Nat.reduceEqDiff,Nat.reduceAdd]
  exact aK rfl
end Go.PM
namespace Go.PM
open Go.Lib
def iG (c:UInt8):List UInt8→List (List UInt8)
 | []=>[[]]
 |
  x::r=>if x=c then []::iG c r else match iG c r with
  | []=>[[x]]
  | a::t=>(x::a)::t
theorem MM {c:UInt8} {r:List UInt8}:∀ {a:List UInt8},c∉a→iG c (a++c::r)=a::iG c r:=by
 intro a
 induction a with
 | nil=>intro _;rw[List.nil_append,iG,if_pos rfl]
 |
  cons x a ih =>
  intro h
  rw[List.mem_cons,not_or] at h
  rw[List.cons_append,iG,if_neg (fun he=>h.1 he.symm),ih h.2]
theorem FJ {c:UInt8}:∀ {a:List UInt8},c∉a→iG c a=[a]:=by
 intro a
 induction a with
 | nil=>intro _;rfl
 |
  cons x a ih =>
  intro h
  rw[List.mem_cons,not_or] at h
  rw[iG,if_neg (fun he=>h.1 he.symm),ih h.2]
theorem UE {c:UInt8} (l:List UInt8):iG c l≠[]:=by
 cases l with
 | nil=>simp[iG]
 |
  cons x r =>
  rw[iG]
  split
  ·simp
  ·split<;>simp
theorem Rc {c:UInt8} {l:List UInt8} (h:(mQ c l).2=none):iG c l=[l]:=FJ (BN h).2.2
theorem JK {c:UInt8} {l r:List UInt8} (h:(mQ c l).2=some r):iG c l=(mQ c l).1::iG c r:=by
 obtain⟨_,h2,h3⟩:=IF h
 have:=MM (r:=r) h3
 rw[←h2] at this
 exact this
theorem QP {c:UInt8} {l:List UInt8} (h:c∈l):2≤(iG c l).length:=by
 cases hc:(mQ c l).2 with
 | none=>exact absurd h (BN hc).2.2
 |
  some r =>
  rw[JK hc,List.length_cons]
  have:=List.length_pos_iff.2 (UE (c:=c) r)
  omega
theorem Ya {l:List UInt8} {i:Nat} (h:i<l.length):(l.take (i+1)).all iS=((l.take i).all iS&&iS (l.getD i 0)):=by
 rw[List.take_add_one,List.all_append]
 have:l[i]? = some (l.getD i 0):=by rw[List.getElem?_eq_getElem h,List.getD_eq_getElem?_getD,List.getElem?_eq_getElem h];rfl
 rw[this]
 simp
set_option maxHeartbeats 1000000 in
theorem qK (l:List UInt8) (hl:l.length≤1000000000000):TC 168 [bC l] (VB (iL l)):=by
 refine TC.walk ⟨true,false⟩ Il rfl (Nat.le_of_ble_eq_true rfl) rfl rfl ?_
 simp only[Dx,A8,VX,Nat.reduceEqDiff,Nat.reduceAdd]
 refine aP (fun(i:Nat) ρ H=>i≤l.length∧H=[]∧(l.take i).all iS=true∧ρ 0=bC l∧ρ 3=VI i) (fun i=>l.length-i) 0 ⟨Nat.zero_le _,rfl,rfl,rfl,rfl⟩ ?_
 rintro i ρ H ⟨hi,rfl,hd,g0,g3⟩
 by_cases cK:(i:Int)<(l.length:Int)
 ·have TD:i<l.length:=by omega
  have e1:=DX l TD
  have wi:IntKind.i64.wrap ((i:Int)+1)=((i+1:Nat):Int):=wrapN (i+1) (by omega) (by omega)
  have ht:=Ya TD
  rw[hd,Bool.true_and] at ht
  have TY:iS (l.getD i 0)=(decide (48≤(l.getD i 0).toNat)&&decide ((l.getD i 0).toNat≤57)):=rfl
  have mD:iS (l.getD i 0)=false→iL l=false:=by
   intro h
   rw[h] at ht
   have:l.all iS=false:=by rw[←List.take_append_drop (i+1) l,List.all_append,ht,Bool.false_and]
   unfold iL
   rw[this]
   rfl
  generalize (l.getD i 0).toNat=c at *
  by_cases q1:(c:Int)<48
  ·rw[mD (by rw[TY,decide_eq_false (by omega)];rfl)]
   simp only[dX,g0,g3,bN,cK,e1,q1,VX,Nat.reduceEqDiff,Nat.reduceAdd]
   exact aK rfl
  ·by_cases q2:(57:Int)<(c:Int)
   ·rw[mD (by rw[TY,decide_eq_false (show ¬c≤57 by omega),Bool.and_false])]
    simp only[dX,g0,g3,bN,cK,e1,q1,q2,VX,Nat.reduceEqDiff,Nat.reduceAdd]
    exact aK rfl
   ·rw[TY,decide_eq_true (by omega),decide_eq_true (by omega),Bool.and_self] at ht
    simp only[dX,g0,g3,bN,cK,e1,q1,q2,wi,VX,Nat.reduceEqDiff,Nat.reduceAdd]
    exact⟨i+1,by omega,by omega,ht,rfl⟩
 ·have lS:i=l.length:=by omega
  subst lS
  rw[List.take_length] at hd
  by_cases h1:(1:Int)≤(l.length:Int)
  ·by_cases h2:(l.length:Int)≤200
   ·by_cases h3:(l.length:Int)=1
    ·rw[kG.2 ⟨hd,by omega,by omega,.inl (by omega)⟩]
     simp only[dX,g0,g3,bN,cK,ge_iff_le,h1,h2,h3,Int.reduceLE,Int.reduceLT,VX,Nat.reduceEqDiff,Nat.reduceAdd]
     exact aK rfl
    ·have e1:=Is l (by omega)
     by_cases h4:(((l.getD 0 0).toNat:Int)=48)
     ·have hk:iL l=false:=by
       cases h:iL l with
       | false=>rfl
       |
        true =>
        rcases(kG.1 h).2.2.2 with h5 | h5
        ·omega
        ·exact absurd (UInt8.toNat_inj.1 (by rw[show (48:UInt8).toNat=48 from rfl];omega)) h5
      rw[hk]
      simp only[dX,g0,g3,bN,cK,ge_iff_le,h1,h2,h3,h4,e1,VX,Nat.reduceEqDiff,Nat.reduceAdd]
      exact aK rfl
     ·have h5:l.getD 0 0≠48:=fun h=>h4 (by rw[h];rfl)
      rw[kG.2 ⟨hd,by omega,by omega,.inr h5⟩]
      simp only[dX,g0,g3,bN,cK,ge_iff_le,h1,h2,h3,h4,e1,VX,Nat.reduceEqDiff,Nat.reduceAdd]
      exact aK rfl
   ·have hk:iL l=false:=by
     cases h:iL l with
     | false=>rfl
     | true=>have:=(kG.1 h).2.2.1;omega
    rw[hk]
    simp only[dX,g0,g3,bN,cK,ge_iff_le,h1,h2,VX,Nat.reduceEqDiff,Nat.reduceAdd]
    exact aK rfl
  ·have hk:iL l=false:=by
    cases h:iL l with
    | false=>rfl
    | true=>have:=(kG.1 h).2.1;omega
   rw[hk]
   simp only[dX,g0,g3,bN,cK,ge_iff_le,h1,VX,Nat.reduceEqDiff,Nat.reduceAdd]
   exact aK rfl
set_option maxHeartbeats 1000000 in
theorem Fc (l:List UInt8) (c:UInt8) (hl:l.length≤1000000000000):TC 167 [bC l,.sc (.int .u8 (c.toNat:Int))] (aQ bC (iG c l)):=by
 refine TC.walk ⟨true,false⟩ Np rfl (Nat.le_of_ble_eq_true rfl) rfl (DI (size:=1) (fun _=>rfl) (fun _=>rfl) fun _=>rfl) ?_
 have e3:∀lr,jY lr [.string ⟨#[]⟩] 0 [] []=some (.ref 0 0 0 0 0,[.row 0 (([]:List (List UInt8)).map bC) 1 true]):=fun lr=>iA (H:=[]) (lr:=lr) (z:=[.string ⟨#[]⟩]) rfl
 have e4:∀(x:List UInt8) (H:aA),jY false [.string ⟨#[]⟩] 1 [(0,bC x)] H=some (.tree [bC x] (.cl 1),H):=fun x H=>gJ (z:=[.string ⟨#[]⟩]) rfl rfl rfl
 have e5:∀(x:List UInt8) (H:aA),dF 1 (.tree [bC x] (.cl 1)) H=some [bC x]:=fun x H=>dV rfl rfl
 simp only[Jm,Fm,e3,VX,Nat.reduceEqDiff,Nat.reduceAdd]
 refine aP (fun(s:List (List UInt8)×Nat×Nat) ρ H=>H=[.row s.1.length (s.1.map bC) 1 true]∧s.2.1≤s.2.2∧s.2.2≤l.length+1∧s.1.length≤s.2.1 ∧
  ((s.2.2≤l.length∧iG c l=s.1++iG c (l.drop s.2.1)∧c∉(l.drop s.2.1).take (s.2.2-s.2.1))∨(s.2.2=l.length+1∧iG c l=s.1)) ∧
  ρ 0=bC l∧ρ 1 = .sc (.int .u8 (c.toNat:Int))∧ρ 5 = .ref 0 s.1.length 0 s.1.length s.1.length∧ρ 6=VI s.2.1∧ρ 7=VI s.2.2) (fun s=>l.length+1-s.2.2) ([],0,0) ⟨rfl,Nat.zero_le _,Nat.zero_le _,Nat.zero_le _,.inl ⟨Nat.zero_le _,rfl,by simp⟩,rfl,rfl,rfl,rfl,rfl⟩ ?_
 rintro⟨out,fr,i⟩ ρ H ⟨rfl,hfi,hi,jR,vC,g0,g1,g5,g6,g7⟩
 simp only at hfi hi jR vC g5 g6 g7
 by_cases cK:(i:Int)≤(l.length:Int)
 ·have TD:i≤l.length:=by omega
  obtain⟨hp,hc⟩:iG c l=out++iG c (l.drop fr)∧c∉(l.drop fr).take (i-fr):=by
   rcases vC with⟨_,h1,h2⟩ | ⟨h,_⟩
   ·exact⟨h1,h2⟩
   ·omega
  have wi:IntKind.i64.wrap ((i:Int)+1)=((i+1:Nat):Int):=wrapN (i+1) (by omega) (by omega)
  have e2:=abV l hfi TD
  have eP:=gZ (f:=bC) (xs:=out) (x:=(l.drop fr).take (i-fr)) (lo:=0) (b:=0) (g:=out.length) (n:=out.length) (e:=1) (bytes:=16) (H:=[.row out.length (out.map bC) 1 true]) aU rfl (Nat.zero_le _) (by decide) (by decide) (by omega)
  have IA:([.row out.length (out.map bC) 1 true]:aA).set 0 (.row (out.length+1) ((out++[(l.drop fr).take (i-fr)]).map bC) 1 true)=[.row (out.length+1) ((out++[(l.drop fr).take (i-fr)]).map bC) 1 true]:=rfl
  rw[IA] at eP
  by_cases q1:i=l.length
  ·subst q1
   have YZ:iG c l=out++[(l.drop fr).take (l.length-fr)]:=by
    rw[hp]
    have:(l.drop fr).take (l.length-fr)=l.drop fr:=List.take_of_length_le (by rw[List.length_drop];omega)
    rw[this] at hc ⊢
    rw[FJ hc]
   simp only[pG,g0,g1,g5,g6,g7,bN,cK,eq_self,e2,e4,e5,eP,wi,VX,Nat.reduceEqDiff,Nat.reduceAdd]
   refine⟨(out++[(l.drop fr).take (l.length-fr)],l.length+1,l.length+1),by simp only;omega,?_,by simp only;omega,by simp only;omega,?_,.inr ⟨rfl,YZ⟩,?_⟩
   ·simp
   ·simp only[List.length_append,List.length_cons,List.length_nil];omega
   ·simp
  ·have aeJ:i<l.length:=by omega
   have q1':¬(i:Int)=(l.length:Int):=by omega
   have e1:=DX l aeJ
   have YF:l.drop i=l.getD i 0::l.drop (i+1):=by rw[List.drop_eq_getElem_cons aeJ,List.getD_eq_getElem?_getD,List.getElem?_eq_getElem aeJ];rfl
   by_cases q2:l.getD i 0=c
   ·have q2':((l.getD i 0).toNat:Int)=(c.toNat:Int):=by rw[q2]
    have YZ:iG c l=(out++[(l.drop fr).take (i-fr)])++iG c (l.drop (i+1)):=by
     have QO:l.drop fr=(l.drop fr).take (i-fr)++c::l.drop (i+1):=by
      have h1:(l.drop fr).drop (i-fr)=l.drop i:=by rw[List.drop_drop];congr 1;omega
      conv=>lhs;rw[←List.take_append_drop (i-fr) (l.drop fr),h1,YF,q2]
     rw[hp]
     conv=>lhs;rw[QO]
     rw[MM hc,List.append_assoc]
     rfl
    simp only[pG,g0,g1,g5,g6,g7,bN,cK,q1',e1,q2',eq_self,e2,e4,e5,eP,wi,VX,Nat.reduceEqDiff,Nat.reduceAdd]
    refine⟨(out++[(l.drop fr).take (i-fr)],i+1,i+1),by simp only;omega,?_,by simp only;omega,by simp only;omega,?_,.inl ⟨by simp only;omega,YZ,by simp⟩,?_⟩
    ·simp
    ·simp only[List.length_append,List.length_cons,List.length_nil];omega
    ·simp
   ·have q2':¬((l.getD i 0).toNat:Int)=(c.toNat:Int):=fun h=>q2 (UInt8.toNat_inj.1 (by omega))
    simp only[pG,g0,g1,g5,g6,g7,bN,cK,q1',e1,q2',wi,VX,Nat.reduceEqDiff,Nat.reduceAdd]
    refine⟨(out,fr,i+1),by simp only;omega,rfl,by simp only;omega,by simp only;omega,jR,.inl ⟨by simp only;omega,hp,?_⟩,rfl,rfl,rfl⟩
    simp only
    rw[show i+1-fr=(i-fr)+1 by omega,List.take_add_one,List.mem_append,not_or]
    refine⟨hc,?_⟩
    have:(l.drop fr)[i-fr]? = some (l.getD i 0):=by
     rw[List.getElem?_drop,show fr+(i-fr)=i by omega,List.getD_eq_getElem?_getD,List.getElem?_eq_getElem aeJ]
     rfl
    rw[this]
    simp
    exact fun h=>q2 h.symm
 ·have YZ:iG c l=out:=by
   rcases vC with⟨h,_⟩ | ⟨_,h⟩
   ·omega
   ·exact h
  rw[YZ]
  simp only[pG,g0,g5,g7,bN,cK,VX,Nat.reduceEqDiff,Nat.reduceAdd]
  exact FB (es:=out.map bC) aU (by simp) (Nat.le_refl _) (fJ fun _=>rfl)
theorem acZ {l:List UInt8} (h:l.all iS=true) {i:Nat} (hi:i<l.length):48≤(l.getD i 0).toNat∧(l.getD i 0).toNat≤57:=by
 have:=List.all_eq_true.1 h (l.getD i 0) (by rw[List.getD_eq_getElem?_getD,List.getElem?_eq_getElem hi];exact List.getElem_mem hi)
 simpa[iS] using this
theorem K9 {l:List UInt8} (hd:l.all iS=true) (hl:l.length≤1000000000000) {fr tq:Nat} (hft:fr≤tq) (h9:tq-fr≤9) (htl:tq≤l.length) {H:aA} {lo:Nat} {ρ:dH} {Q:VQ} (h0:ρ 0=bC l) (h4:ρ 4=VI tq) (h6:ρ 6=VI 0) (h7:ρ 7=VI fr)
  (hQ:∀bI,(∀t,t<6→bI t=ρ t)→bI 6=VI (bZ ((l.drop fr).take (tq-fr)))→Q .normal bI H):VW ⟨true,false⟩ lo (.loop nD) (AO 2 Q) ρ H:=by
 refine aP (fun(i:Nat) bI H'=>fr≤i∧i≤tq∧H'=H∧(∀t,t<6→bI t=ρ t)∧bI 6=VI (bZ ((l.drop fr).take (i-fr)))∧bI 7=VI i) (fun i=>tq-i) fr ⟨Nat.le_refl _,hft,rfl,fun _ _=>rfl,by rw[h6,Nat.sub_self];rfl,h7⟩ ?_
 rintro i bI H' ⟨hfi,hi,rfl,hk,g6,g7⟩
 have g0:=(hk 0 (by decide)).trans h0
 have g4:=(hk 4 (by decide)).trans h4
 by_cases cK:(i:Int)<(tq:Int)
 ·have TD:i<l.length:=by omega
  have e1:=DX l TD
  obtain⟨c1,c2⟩:=acZ hd TD
  have wi:IntKind.i64.wrap ((i:Int)+1)=((i+1:Nat):Int):=wrapN (i+1) (by omega) (by omega)
  have hcd:((l.drop fr).take (i-fr)).all iS=true:=by
   rw[List.all_eq_true] at hd ⊢
   exact fun x hx=>hd x (List.mem_of_mem_drop (List.mem_of_mem_take hx))
  have bH:=Hl hcd
  rw[List.length_take,List.length_drop,Nat.min_eq_left (by omega)] at bH
  have hp9:10^(i-fr)≤10^8:=Nat.pow_le_pow_right (by decide) (by omega)
  have e8:(10:Nat)^8=100000000:=by decide
  have sQ:bZ ((l.drop fr).take (i+1-fr))=bZ ((l.drop fr).take (i-fr))*10+dv (l.getD i 0):=by
   have:(l.drop fr)[i-fr]? = some (l.getD i 0):=by
    rw[List.getElem?_drop,show fr+(i-fr)=i by omega,List.getD_eq_getElem?_getD,List.getElem?_eq_getElem TD]
    rfl
   rw[show i+1-fr=(i-fr)+1 by omega,List.take_add_one,this]
   exact Yn _ _
  have hdv:dv (l.getD i 0)=(l.getD i 0).toNat-48:=rfl
  rw[hdv] at sQ
  generalize (l.getD i 0).toNat=c at *
  generalize bZ ((l.drop fr).take (i-fr))=D at *
  have w1:IntKind.i64.wrap (10*(D:Int))=((10*D:Nat):Int):=wrapN _ (by omega) (by omega)
  have w2:IntKind.u8.wrap ((c:Int)-48)=((c-48:Nat):Int):=by
   simp[IntKind.wrap,IntKind.bits,IntKind.signed]
   omega
  have w3:IntKind.i64.wrap ((c-48:Nat):Int)=((c-48:Nat):Int):=wrapN _ rfl (by omega)
  have w4:IntKind.i64.wrap (((10*D:Nat):Int)+((c-48:Nat):Int))=((D*10+(c-48):Nat):Int):=wrapN _ (by omega) (by omega)
  simp only[nD,g0,g4,g6,g7,cK,e1,w1,w2,w3,w4,wi,VX,Nat.reduceEqDiff,Nat.reduceAdd]
  refine⟨i+1,by omega,by omega,by omega,fun t ht => ?_,by rw[sQ],rfl⟩
  try simp only[vV]
  repeat rw[if_neg (by omega)]
  exact hk t ht
 ·have lS:i=tq:=by omega
  subst lS
  simp only[nD,g4,g7,cK,VX,Nat.reduceEqDiff,Nat.reduceAdd]
  refine hQ _ (fun t ht => ?_) ?_
  ·try simp only[vV]
   repeat rw[if_neg (by omega)]
   exact hk t ht
  ·simp only[g6,VX,Nat.reduceEqDiff,Nat.reduceAdd]
set_option maxHeartbeats 1000000 in
theorem tW (l:List UInt8) (hd:l.all iS=true) (hl:l.length≤1000000000):TC 169 [bC l] (cB (bZ l)):=by
 refine TC.walk ⟨true,false⟩ G3 rfl (Nat.le_of_ble_eq_true rfl) rfl (oA _) ?_
 have e3:∀lr,jY lr [.int .i64 0] 0 [] []=some (.ref 0 0 0 0 0,[.row 0 (([]:List Nat).map tV) 1 true]):=fun lr=>iA (H:=[]) (lr:=lr) (z:=[.int .i64 0]) rfl
 have e4:∀(x:Nat) (H:aA),jY false [.int .i64 0] 1 [(0,tV x)] H=some (.tree [tV x] (.cl 1),H):=fun x H=>gJ (z:=[.int .i64 0]) rfl rfl rfl
 have e5:∀(x:Nat) (H:aA),dF 1 (.tree [tV x] (.cl 1)) H=some [tV x]:=fun x H=>dV rfl rfl
 simp only[Cz,Ah,e3,bN,VX,Nat.reduceEqDiff,Nat.reduceAdd]
 refine aP (fun(s:List Nat×Int) ρ H=>H=[.row s.1.length (s.1.map tV) 1 true]∧s.2≤l.length ∧ -9≤s.2∧s.1.length+s.2.toNat≤l.length∧(∀d∈s.1,d<1000000000)∧bZ l=val 1000000000 s.1+1000000000^s.1.length*bZ (l.take s.2.toNat) ∧
  ρ 0=bC l∧ρ 3 = .ref 0 s.1.length 0 s.1.length s.1.length∧ρ 4=VI s.2) (fun s=>s.2.toNat) ([],(l.length:Int)) ⟨rfl,Int.le_refl _,by simp only;omega,by simp,by simp,?_,rfl,rfl,rfl⟩ ?_
 ·simp only[Int.toNat_natCast,List.take_length,List.length_nil,Nat.pow_zero,Nat.one_mul,val,Nat.zero_add]
 rintro⟨out,z⟩ ρ H ⟨rfl,hz,hz9,jR,hds,hv,g0,g3,g4⟩
 simp only at hz hz9 jR hds hv g3 g4
 by_cases lT:0<z
 ·obtain⟨tq,rfl⟩:∃tq:Nat,z=tq:=⟨z.toNat,by omega⟩
  rw[Int.toNat_natCast] at jR hv
  have hto:0<tq:=by omega
  have key:∀fr:Nat,fr≤tq→tq-fr≤9→bZ (l.take tq)=bZ (l.take fr)*10^(tq-fr)+bZ ((l.drop fr).take (tq-fr))∧bZ ((l.drop fr).take (tq-fr))<1000000000:=by
   intro fr h1 h2
   have hcd:((l.drop fr).take (tq-fr)).all iS=true:=by
    rw[List.all_eq_true] at hd ⊢
    exact fun x hx=>hd x (List.mem_of_mem_drop (List.mem_of_mem_take hx))
   have hlen:((l.drop fr).take (tq-fr)).length=tq-fr:=by rw[List.length_take,List.length_drop];omega
   constructor
   ·have:=List.take_add (l:=l) (i:=fr) (j:=tq-fr)
    rw[show fr+(tq-fr)=tq by omega] at this
    rw[this,Mn,hlen]
   ·have:=Hl hcd
    rw[hlen] at this
    exact Nat.lt_of_lt_of_le this (Nat.le_trans (Nat.pow_le_pow_right (by decide) h2) (by decide))
  have eP:=fun X=>gZ (f:=tV) (xs:=out) (x:=X) (lo:=0) (b:=0) (g:=out.length) (n:=out.length) (e:=1) (bytes:=8) (H:=[.row out.length (out.map tV) 1 true]) aU rfl (Nat.zero_le _) (by decide) (by decide) (by omega)
  have IA:∀X,([.row out.length (out.map tV) 1 true]:aA).set 0 (.row (out.length+1) ((out++[X]).map tV) 1 true)=[.row (out.length+1) ((out++[X]).map tV) 1 true]:=fun _=>rfl
  simp only[IA] at eP
  by_cases h9:(9:Int)<(tq:Int)
  ·obtain⟨k1,k2⟩:=key (tq-9) (by omega) (by omega)
   have wz:IntKind.i64.wrap ((tq:Int)-9)=((tq-9:Nat):Int):=wrapN _ (by omega) (by omega)
   rw[show tq-(tq-9)=9 by omega] at k1 k2
   rw[show (10:Nat)^9=1000000000 by decide] at k1
   simp only[nF,g0,g3,g4,lT,h9,wz,VX,Nat.reduceEqDiff,Nat.reduceAdd]
   refine K9 (l:=l) hd (by omega) (fr:=tq-9) (tq:=tq) (by omega) (by omega) (by omega) ?_ ?_ ?_ ?_ fun xS q q6 => ?_
   all_goals first | (simp only[g0,g4,VX,Nat.reduceEqDiff,Nat.reduceAdd];done) | skip
   rw[show tq-(tq-9)=9 by omega] at q6
   have u3:xS 3 = .ref 0 out.length 0 out.length out.length:=by rw[q 3 (by decide)];simp only[g3,VX,Nat.reduceEqDiff,Nat.reduceAdd]
   have u0:xS 0=bC l:=by rw[q 0 (by decide)];simp only[g0,VX,Nat.reduceEqDiff,Nat.reduceAdd]
   have u4:xS 4=VI tq:=by rw[q 4 (by decide)];simp only[g4,VX,Nat.reduceEqDiff,Nat.reduceAdd]
   generalize bZ ((l.drop (tq-9)).take 9)=X at *
   have e4:=e4 X
   have e5:=e5 X
   have eP:=eP X
   simp only[u0,u3,u4,q6,e4,e5,eP,wz,VX,Nat.reduceEqDiff,Nat.reduceAdd]
   refine⟨(out++[X],((tq-9:Nat):Int)),by simp only;omega,?_,by simp only;omega,by simp only;omega,?_,?_,?_,?_⟩
   ·simp
   ·simp only[List.length_append,List.length_cons,List.length_nil];omega
   ·intro d hdm
    rcases List.mem_append.1 hdm with h | h
    ·exact hds d h
    ·rw[List.mem_singleton] at h;omega
   ·simp only[Int.toNat_natCast]
    rw[hv,k1,tE,List.length_append,List.length_singleton,Nat.pow_succ]
    grind
   ·simp
  ·obtain⟨k1,k2⟩:=key 0 (by omega) (by omega)
   rw[List.take_zero,K1,Nat.zero_mul,Nat.zero_add,Nat.sub_zero] at k1
   rw[Nat.sub_zero] at k2
   have wz:IntKind.i64.wrap ((tq:Int)-9)=(tq:Int)-9:=wrap64 (by omega) (by omega)
   simp only[nF,g0,g3,g4,lT,h9,VX,Nat.reduceEqDiff,Nat.reduceAdd]
   refine K9 (l:=l) hd (by omega) (fr:=0) (tq:=tq) (by omega) (by omega) (by omega) ?_ ?_ ?_ ?_ fun xS q q6 => ?_
   all_goals first | (simp only[g0,g4,VX,Nat.reduceEqDiff,Nat.reduceAdd];done) | (simp only[VX,Nat.reduceEqDiff,Nat.reduceAdd];rfl) | skip
   rw[Nat.sub_zero] at q6
   have u3:xS 3 = .ref 0 out.length 0 out.length out.length:=by rw[q 3 (by decide)];simp only[g3,VX,Nat.reduceEqDiff,Nat.reduceAdd]
   have u0:xS 0=bC l:=by rw[q 0 (by decide)];simp only[g0,VX,Nat.reduceEqDiff,Nat.reduceAdd]
   have u4:xS 4=VI tq:=by rw[q 4 (by decide)];simp only[g4,VX,Nat.reduceEqDiff,Nat.reduceAdd]
   generalize bZ ((l.drop 0).take tq)=X at *
   have e4:=e4 X
   have e5:=e5 X
   have eP:=eP X
   simp only[u0,u3,u4,q6,e4,e5,eP,wz,VX,Nat.reduceEqDiff,Nat.reduceAdd]
   refine⟨(out++[X],(tq:Int)-9),by simp only;omega,?_,by simp only;omega,by simp only;omega,?_,?_,?_,?_⟩
   ·simp
   ·simp only[List.length_append,List.length_cons,List.length_nil];omega
   ·intro d hdm
    rcases List.mem_append.1 hdm with h | h
    ·exact hds d h
    ·rw[List.mem_singleton] at h;omega
   ·simp only
    rw[show ((tq:Int)-9).toNat=0 by omega,List.take_zero,K1,Nat.mul_zero,Nat.add_zero,hv,k1,tE]
   ·simp
 ·have h0:z.toNat=0:=by omega
  rw[h0,List.take_zero,K1,Nat.mul_zero,Nat.add_zero] at hv
  rw[hv]
  have ct:=TC.afC (f:=tV) (xs:=out) (size:=1) (e:=1) (w:=true) (H:=[.row out.length (out.map tV) 1 true]) (b:=0) (gn:=out.length) (n:=out.length) (c:=out.length) (tL out hds (by show out.length≤70368744177664;omega)) aU rfl (Nat.le_refl _) F4 (fun _=>rfl) rfl rfl
  simp only[nF,g0,g3,g4,lT,ct,VX,Nat.reduceEqDiff,Nat.reduceAdd]
  exact aK (cI _)
end Go.PM
namespace Go.PM
open Go.Lib
def DE (l:List UInt8):VV:=match Aa l with
 | some q => .fN [bM q,VB true]
 | none => .fN [KU,VB false]
theorem zX (q:Rat):bA (bM q)=true:=by simp[bM,bA,aM,cI,lQ]
theorem N4 (q:Rat):iU (bM q)=true:=by simp[bM,iU,sK,oA,lQ]
theorem Tr (l:List UInt8):iU (DE l)=true:=by
 unfold DE
 split<;>simp[iU,sK,N4,SF,lQ]
theorem K5 {neg:Bool} {t b:Nat} (hb:b≠0) (hg:Nat.gcd t b=1) (hn:¬(neg=true∧t=0)):bM (mkRat (lB neg t) b) = .agg [VB neg,cB t,cB b]:=by
 obtain⟨e1,e2⟩:=JJ (neg:=neg) hb hg
 refine KB ?_ (by rw[e1,oZ]) e2
 rw[e1]
 cases neg with
 | false=>unfold lB;simp
 |
  true =>
  have:t≠0:=fun h=>hn ⟨rfl,h⟩
  unfold lB
  simp
  omega
theorem Ez {n:Nat}:(((aC 1000000000 n).length:Nat):Int)=0↔n=0:=by
 rw[←mJ (b:=1000000000) (n:=n) (by decide),←List.length_eq_zero_iff]
 omega
theorem QD {neg:Bool} {d t:List UInt8} (h:(47:UInt8)∈t):pM neg d (some t)=none:=by
 have ht:iL t=false:=by
  cases hk:iL t with
  | false=>rfl
  | true=>exact absurd h (YQ (kG.1 hk).1)
 unfold pM
 split
 ·rfl
 ·simp only
  rw[if_neg (fun h=>by rw[ht] at h;exact absurd h.1 (by decide))]
theorem at_one (x:List UInt8) (H:aA):bP 1 (aQ bC [x]) (VI 0) H=some (.dB (bC x) 0):=aI (f:=bC) (t := .op) (H:=H) (size:=1) (k := .i64) (xs:=[x]) (i:=0) rfl rfl
theorem afB (x y:List UInt8) (H:aA):bP 1 (aQ bC [x,y]) (VI 0) H=some (.dB (bC x) 0):=aI (f:=bC) (t := .op) (H:=H) (size:=1) (k := .i64) (xs:=[x,y]) (i:=0) rfl rfl
theorem ahA (x y:List UInt8) (H:aA):bP 1 (aQ bC [x,y]) (VI 1) H=some (.dB (bC y) 0):=aI (f:=bC) (t := .op) (H:=H) (size:=1) (k := .i64) (xs:=[x,y]) (i:=1) rfl rfl
theorem Vm (x:List UInt8) (H:aA):qB (aQ bC [x]) H=some (VI 1):=eI (f:=bC) (xs:=[x])
theorem aeI (x y:List UInt8) (H:aA):qB (aQ bC [x,y]) H=some (VI 2):=eI (f:=bC) (xs:=[x,y])
set_option maxRecDepth 100000 in
set_option maxHeartbeats 4000000 in
theorem Kb (l:List UInt8) (hl:l.length≤1000000000):TC 110 [bC l] (DE l):=by
 refine TC.walk ⟨true,false⟩ Ke rfl (Nat.le_of_ble_eq_true rfl) rfl (Tr l) ?_
 by_cases Ak:l=[]
 ·subst Ak
  have eC:TC 167 [.sc (.string ⟨#[]⟩),.sc (.int .u8 47)] (aQ bC [[]]):=Fc [] 47 (by simp)
  have eD:TC 168 [.sc (.string ⟨#[]⟩)] (VB false):=qK [] (by simp)
  have e1:BK (.string ⟨#[]⟩)=some (.int .i64 0):=rfl
  have a1:=at_one []
  have a2:=Vm []
  simp only[cF,bL,e1,eC,eD,a1,a2,Int.reduceLT,Int.reduceLE,aF,jS,Nat.reduceLeDiff,Nat.reduceLT,Nat.reduceSub,VX,Nat.reduceEqDiff,Nat.reduceAdd]
  exact bT (d:=6) gU (aJ (v:=VB false) rfl)
 have hp:0<l.length:=List.length_pos_iff.2 Ak
 have lT:(0:Int)<(l.length:Int):=by omega
 have e0:=Is l hp
 unfold DE
 unfold Aa
 have lM:isNeg l=decide (((l.getD 0 0).toNat:Int)=45):=by
  unfold isNeg
  rw[decide_eq_true (show 1≤l.length from hp),Bool.true_and]
  refine decide_eq_decide.2 ⟨fun h=>by rw[h];rfl,fun h=>UInt8.toNat_inj.1 (by rw[show (45:UInt8).toNat=45 from rfl];omega)⟩
 have S3:(if isNeg l=true then l.drop 1 else l).length≤l.length:=by split<;>simp
 have q0:isNeg l=false→¬((l.getD 0 0).toNat:Int)=45:=fun h=>by rw[lM] at h;exact of_decide_eq_false h
 have q9:isNeg l=true→((l.getD 0 0).toNat:Int)=45:=fun h=>by rw[lM] at h;exact of_decide_eq_true h
 have r0:isNeg l=false→(if isNeg l=true then l.drop 1 else l)=l:=fun h=>by rw[h];rfl
 have r9:isNeg l=true→wD (bC l) (some (VI 1)) none=some (bC (if isNeg l=true then l.drop 1 else l)):=fun h=>by rw[h];exact ON l (a:=1) hp
 generalize (if isNeg l=true then l.drop 1 else l)=r at *
 generalize isNeg l=neg at *
 clear lM
 have eC:TC 167 [bC r,.sc (.int .u8 47)] (aQ bC (iG 47 r)):=Fc r 47 (by omega)
 obtain⟨l1,l2⟩:=RF (c:=47) (l:=r)
 cases hs:(mQ 47 r).2 with
 |
  none =>
  have hd:=(BN hs).2.1
  rw[Rc hs] at eC
  rw[hd]
  have a1:=at_one r
  have a2:=Vm r
  have eD:=qK r (by omega)
  cases hk:iL r with
  |
   false =>
   rw[hk] at eD
   have YH:pM neg r none=none:=if_pos (.inl hk)
   rw[YH]
   cases neg with
   |
    false =>
    have q1:=q0 rfl
    have S3:=r0 rfl
    subst S3
    simp only[cF,bL,bN,lT,e0,q1,eC,eD,a1,a2,Int.reduceLT,aF,bB,aL,aR,eG,fV,dZ,fW,jS,Nat.reduceLeDiff,Nat.reduceLT,Nat.reduceSub,VX,Nat.reduceEqDiff,Nat.reduceAdd]
    exact bT (d:=6) gU (aJ (v:=VB false) rfl)
   |
    true =>
    have q1:=q9 rfl
    have e9:=r9 rfl
    simp only[cF,bL,bN,lT,e0,q1,eC,eD,a1,a2,Int.reduceLT,e9,aF,bB,aL,aR,eG,fV,dZ,fW,jS,Nat.reduceLeDiff,Nat.reduceLT,Nat.reduceSub,VX,Nat.reduceEqDiff,Nat.reduceAdd]
    exact bT (d:=6) gU (aJ (v:=VB false) rfl)
  |
   true =>
   rw[hk] at eD
   have hbt:=yC hk
   have eN:=tW r (kG.1 hk).1 (by omega)
   by_cases hz:neg=true∧bZ r=0
   ·have YH:pM neg r none=none:=if_pos (.inr hz)
    rw[YH]
    obtain⟨rfl,Iv⟩:=hz
    have q1:=q9 rfl
    have e9:=r9 rfl
    have C3:(((aC 1000000000 (bZ r)).length:Nat):Int)=0:=Ez.2 Iv
    simp only[cF,bL,bN,lT,e0,q1,eC,eD,a1,a2,eN,e9,cO,C3,Int.reduceLT,aF,bB,aL,aR,eG,fV,dZ,fW,jS,Nat.reduceLeDiff,Nat.reduceLT,Nat.reduceSub,VX,Nat.reduceEqDiff,Nat.reduceAdd]
    exact bT (d:=6) gU (aJ (v:=VB false) rfl)
   ·have EC:neg=true→¬(((aC 1000000000 (bZ r)).length:Nat):Int)=0:=fun h h0=>hz ⟨h,Ez.1 h0⟩
    have YH:pM neg r none=some (mkRat (lB neg (bZ r)) 1):=if_neg (by rw[hk];rintro(h | h);exact absurd h (by decide);exact hz h)
    rw[YH]
    simp only[]
    rw[K5 (by decide) (Nat.gcd_one_right _) hz]
    cases neg with
    |
     false =>
     have q1:=q0 rfl
     have S3:=r0 rfl
     subst S3
     simp only[cF,bL,bN,lT,e0,q1,eC,eD,a1,a2,eN,Int.reduceLT,Int.reduceEq,aF,bB,aL,aR,eG,fV,dZ,fW,jS,Nat.reduceLeDiff,Nat.reduceLT,Nat.reduceSub,VX,Nat.reduceEqDiff,Nat.reduceAdd]
     exact bT (d:=6) (rO (aJ (v:=VB false) rfl) (aJ (cI _)) PZ) (aJ (v:=VB true) rfl)
    |
     true =>
     have q1:=q9 rfl
     have e9:=r9 rfl
     have C3:=EC rfl
     simp only[cF,bL,bN,lT,e0,q1,eC,eD,a1,a2,eN,Int.reduceLT,Int.reduceEq,e9,cO,C3,aF,bB,aL,aR,eG,fV,dZ,fW,jS,Nat.reduceLeDiff,Nat.reduceLT,Nat.reduceSub,VX,Nat.reduceEqDiff,Nat.reduceAdd]
     exact bT (d:=6) (rO (aJ (v:=VB true) rfl) (aJ (cI _)) PZ) (aJ (v:=VB true) rfl)
 |
  some t =>
  have ltt:=l2 t hs
  rw[JK hs] at eC
  generalize (mQ 47 r).1=d at *
  by_cases hm:(47:UInt8)∈t
  ·rw[QD hm]
   have hP:=QP hm
   generalize hPP:iG 47 t=P at *
   have a2:∀H,qB (aQ bC (d::P)) H=some (VI ((d::P).length:Int)):=fun H=>eI (f:=bC) (xs:=d::P)
   have hq3:(2:Int)<((d::P).length:Int):=by rw[List.length_cons];omega
   generalize hQQ:d::P=PP at *
   clear hQQ hPP hP
   cases neg with
   |
    false =>
    have q1:=q0 rfl
    have S3:=r0 rfl
    subst S3
    simp only[cF,bL,bN,lT,e0,q1,eC,a2,hq3,aF,bB,aL,aR,eG,fV,dZ,fW,jS,Nat.reduceLeDiff,Nat.reduceLT,Nat.reduceSub,VX,Nat.reduceEqDiff,Nat.reduceAdd]
    exact bT (d:=6) gU (aJ (v:=VB false) rfl)
   |
    true =>
    have q1:=q9 rfl
    have e9:=r9 rfl
    simp only[cF,bL,bN,lT,e0,q1,eC,a2,hq3,e9,aF,bB,aL,aR,eG,fV,dZ,fW,jS,Nat.reduceLeDiff,Nat.reduceLT,Nat.reduceSub,VX,Nat.reduceEqDiff,Nat.reduceAdd]
    exact bT (d:=6) gU (aJ (v:=VB false) rfl)
  ·rw[FJ hm] at eC
   have a1:=afB d t
   have a3:=ahA d t
   have a2:=aeI d t
   have eD:=qK d (by omega)
   have eF:=qK t (by omega)
   cases hk:iL d with
   |
    false =>
    rw[hk] at eD
    have YH:pM neg d (some t)=none:=if_pos (.inl hk)
    rw[YH]
    cases neg with
    |
     false =>
     have q1:=q0 rfl
     have S3:=r0 rfl
     subst S3
     simp only[cF,bL,bN,lT,e0,q1,eC,eD,a1,a2,Int.reduceLT,aF,bB,aL,aR,eG,fV,dZ,fW,jS,Nat.reduceLeDiff,Nat.reduceLT,Nat.reduceSub,VX,Nat.reduceEqDiff,Nat.reduceAdd]
     exact bT (d:=6) gU (aJ (v:=VB false) rfl)
    |
     true =>
     have q1:=q9 rfl
     have e9:=r9 rfl
     simp only[cF,bL,bN,lT,e0,q1,eC,eD,a1,a2,Int.reduceLT,e9,aF,bB,aL,aR,eG,fV,dZ,fW,jS,Nat.reduceLeDiff,Nat.reduceLT,Nat.reduceSub,VX,Nat.reduceEqDiff,Nat.reduceAdd]
     exact bT (d:=6) gU (aJ (v:=VB false) rfl)
   |
    true =>
    rw[hk] at eD
    have hbt:=yC hk
    have eN:=tW d (kG.1 hk).1 (by omega)
    by_cases hz:neg=true∧bZ d=0
    ·have YH:pM neg d (some t)=none:=if_pos (.inr hz)
     rw[YH]
     obtain⟨rfl,Iv⟩:=hz
     have q1:=q9 rfl
     have e9:=r9 rfl
     have C3:(((aC 1000000000 (bZ d)).length:Nat):Int)=0:=Ez.2 Iv
     simp only[cF,bL,bN,lT,e0,q1,eC,eD,a1,a2,eN,e9,cO,C3,Int.reduceLT,aF,bB,aL,aR,eG,fV,dZ,fW,jS,Nat.reduceLeDiff,Nat.reduceLT,Nat.reduceSub,VX,Nat.reduceEqDiff,Nat.reduceAdd]
     exact bT (d:=6) gU (aJ (v:=VB false) rfl)
    ·have EC:neg=true→¬(((aC 1000000000 (bZ d)).length:Nat):Int)=0:=fun h h0=>hz ⟨h,Ez.1 h0⟩
     have YH:pM neg d (some t)=if iL t=true∧1<bZ t∧Nat.gcd (bZ d) (bZ t)=1 then some (mkRat (lB neg (bZ d)) (bZ t)) else none:=if_neg (by rw[hk];rintro(h | h);exact absurd h (by decide);exact hz h)
     rw[YH]
     clear YH
     cases ht:iL t with
     |
      false =>
      rw[ht] at eF
      rw[if_neg (fun h=>absurd h.1 (by decide))]
      cases neg with
      |
       false =>
       have q1:=q0 rfl
       have S3:=r0 rfl
       subst S3
       simp only[cF,bL,bN,lT,e0,q1,eC,eD,eF,a1,a2,a3,eN,Int.reduceLT,Int.reduceEq,aF,bB,aL,aR,eG,fV,dZ,fW,jS,Nat.reduceLeDiff,Nat.reduceLT,Nat.reduceSub,VX,Nat.reduceEqDiff,Nat.reduceAdd]
       exact bT (d:=6) gU (aJ (v:=VB false) rfl)
      |
       true =>
       have q1:=q9 rfl
       have e9:=r9 rfl
       have C3:=EC rfl
       simp only[cF,bL,bN,lT,e0,q1,eC,eD,eF,a1,a2,a3,eN,Int.reduceLT,Int.reduceEq,e9,cO,C3,aF,bB,aL,aR,eG,fV,dZ,fW,jS,Nat.reduceLeDiff,Nat.reduceLT,Nat.reduceSub,VX,Nat.reduceEqDiff,Nat.reduceAdd]
       exact bT (d:=6) gU (aJ (v:=VB false) rfl)
     |
      true =>
      rw[ht] at eF
      have Ju:=yC ht
      have eM:=tW t (kG.1 ht).1 (by omega)
      have c2:∀lo H K,_:=fun lo H K=>Kv (n:=bZ t) (lo:=lo) (H:=H) (K:=K) (Nat.le_of_lt (pH (by omega)))
      have c3:=E1 (bZ d) (bZ t) (pH (by omega)) (pH (by omega))
      by_cases h1:fB (bZ t) 1≤0
      ·have hle:¬1<bZ t:=fun h=>by unfold fB at h1;rw[if_neg (by omega),if_neg (by omega)] at h1;exact absurd h1 (by decide)
       rw[if_neg (fun h=>hle h.2.1)]
       cases neg with
       |
        false =>
        have q1:=q0 rfl
        have S3:=r0 rfl
        subst S3
        simp only[cF,bL,bN,lT,e0,q1,eC,eD,eF,a1,a2,a3,eN,eM,c2,h1,Int.reduceLT,Int.reduceEq,aF,bB,aL,aR,eG,fV,dZ,fW,jS,Nat.reduceLeDiff,Nat.reduceLT,Nat.reduceSub,VX,Nat.reduceEqDiff,Nat.reduceAdd]
        exact bT (d:=6) gU (aJ (v:=VB false) rfl)
       |
        true =>
        have q1:=q9 rfl
        have e9:=r9 rfl
        have C3:=EC rfl
        simp only[cF,bL,bN,lT,e0,q1,eC,eD,eF,a1,a2,a3,eN,eM,c2,h1,Int.reduceLT,Int.reduceEq,e9,cO,C3,aF,bB,aL,aR,eG,fV,dZ,fW,jS,Nat.reduceLeDiff,Nat.reduceLT,Nat.reduceSub,VX,Nat.reduceEqDiff,Nat.reduceAdd]
        exact bT (d:=6) gU (aJ (v:=VB false) rfl)
      ·have bH:1<bZ t:=by
        rcases Nat.lt_or_ge 1 (bZ t) with h | h
        ·exact h
        ·exfalso
         apply h1
         unfold fB
         split<;>(try split)<;>first | decide | omega
       have Zu:bl (Nat.gcd (bZ d) (bZ t))≤665:=Nat.le_trans (kY (Nat.le_of_dvd (by omega) (Nat.gcd_dvd_right _ _))) Ju
       have c4:∀lo H K,_:=fun lo H K=>Kv (n:=Nat.gcd (bZ d) (bZ t)) (lo:=lo) (H:=H) (K:=K) (Nat.le_of_lt (pH (by omega)))
       by_cases hg:Nat.gcd (bZ d) (bZ t)=1
       ·have h4:fB (Nat.gcd (bZ d) (bZ t)) 1=0:=by rw[hg];rfl
        rw[if_pos ⟨rfl,bH,hg⟩]
        simp only[]
        rw[K5 (by omega) hg hz]
        cases neg with
        |
         false =>
         have q1:=q0 rfl
         have S3:=r0 rfl
         subst S3
         simp only[cF,bL,bN,lT,e0,q1,eC,eD,eF,a1,a2,a3,eN,eM,c2,c3,c4,h1,h4,Int.reduceLT,Int.reduceEq,aF,bB,aL,aR,eG,fV,dZ,fW,jS,Nat.reduceLeDiff,Nat.reduceLT,Nat.reduceSub,VX,Nat.reduceEqDiff,Nat.reduceAdd]
         exact bT (d:=6) (rO (aJ (v:=VB false) rfl) (aJ (cI _)) (aJ (cI _))) (aJ (v:=VB true) rfl)
        |
         true =>
         have q1:=q9 rfl
         have e9:=r9 rfl
         have C3:=EC rfl
         simp only[cF,bL,bN,lT,e0,q1,eC,eD,eF,a1,a2,a3,eN,eM,c2,c3,c4,h1,h4,Int.reduceLT,Int.reduceEq,e9,cO,C3,aF,bB,aL,aR,eG,fV,dZ,fW,jS,Nat.reduceLeDiff,Nat.reduceLT,Nat.reduceSub,VX,Nat.reduceEqDiff,Nat.reduceAdd]
         exact bT (d:=6) (rO (aJ (v:=VB true) rfl) (aJ (cI _)) (aJ (cI _))) (aJ (v:=VB true) rfl)
       ·have h4:¬fB (Nat.gcd (bZ d) (bZ t)) 1=0:=by
         unfold fB
         split<;>(try split)<;>first | decide | omega
        rw[if_neg (fun h=>hg h.2.2)]
        cases neg with
        |
         false =>
         have q1:=q0 rfl
         have S3:=r0 rfl
         subst S3
         simp only[cF,bL,bN,lT,e0,q1,eC,eD,eF,a1,a2,a3,eN,eM,c2,c3,c4,h1,h4,Int.reduceLT,Int.reduceEq,aF,bB,aL,aR,eG,fV,dZ,fW,jS,Nat.reduceLeDiff,Nat.reduceLT,Nat.reduceSub,VX,Nat.reduceEqDiff,Nat.reduceAdd]
         exact bT (d:=6) gU (aJ (v:=VB false) rfl)
        |
         true =>
         have q1:=q9 rfl
         have e9:=r9 rfl
         have C3:=EC rfl
         simp only[cF,bL,bN,lT,e0,q1,eC,eD,eF,a1,a2,a3,eN,eM,c2,c3,c4,h1,h4,Int.reduceLT,Int.reduceEq,e9,cO,C3,aF,bB,aL,aR,eG,fV,dZ,fW,jS,Nat.reduceLeDiff,Nat.reduceLT,Nat.reduceSub,VX,Nat.reduceEqDiff,Nat.reduceAdd]
         exact bT (d:=6) gU (aJ (v:=VB false) rfl)
end Go.PM
namespace Go.PM
open Go.Lib
theorem aiM {a b:Rat}:(decide (a.num<0) != decide (b.num<0))=true→(decide (a<b)=decide (a.num<0)):=by
 intro h
 have h1:a.num<0↔a<0:=by rw[←Int.not_le,Rat.num_nonneg];constructor<;>intro h<;>grind
 have h2:b.num<0↔b<0:=by rw[←Int.not_le,Rat.num_nonneg];constructor<;>intro h<;>grind
 by_cases q1:a.num<0<;>by_cases q2:b.num<0
 ·simp[q1,q2] at h
 ·have:=h1.1 q1
  have:=mt h2.2 q2
  rw[decide_eq_true q1,decide_eq_true (by grind)]
 ·have:=h2.1 q2
  have:=mt h1.2 q1
  rw[decide_eq_false q1,decide_eq_false (by grind)]
 ·simp[q1,q2] at h
set_option maxHeartbeats 1000000 in
theorem Md (a b:Rat) (NA:bQ a≤1099511627776) (I8:bQ b≤1099511627776):TC 80 [bM a,bM b] (VB (decide (a<b))):=by
 refine TC.walk ⟨true,false⟩ MH rfl (Nat.le_of_ble_eq_true rfl) (by simp only[aM,zX];rfl) rfl ?_
 have b1 := @sF a
 have b2 := @sF b
 have b3 := @qE a
 have b4 := @qE b
 have b5:=oH a.num.natAbs b.den
 have b6:=oH b.num.natAbs a.den
 have c1:=iJ a.num.natAbs b.den (Nat.le_of_lt (pH (by omega))) (Nat.le_of_lt (pH (by omega)))
 have c2:=iJ b.num.natAbs a.den (Nat.le_of_lt (pH (by omega))) (Nat.le_of_lt (pH (by omega)))
 have c3:=vJ (a.num.natAbs*b.den) (b.num.natAbs*a.den) (Nat.le_of_lt (pH (by omega))) (Nat.le_of_lt (pH (by omega)))
 have bH:=Rat.lt_iff (a:=a) (b:=b)
 by_cases q1:a.num<0<;>by_cases q2:b.num<0
 ·have aaY:a<b↔0<fB (a.num.natAbs*b.den) (b.num.natAbs*a.den):=by
   rw[bH,Wi]
   have e1:a.num = -(a.num.natAbs:Int):=by omega
   have e2:b.num = -(b.num.natAbs:Int):=by omega
   generalize a.num.natAbs=m at *
   generalize b.num.natAbs=n at *
   rw[e1,e2,Int.neg_mul,Int.neg_mul,←Int.natCast_mul,←Int.natCast_mul]
   omega
  by_cases q3:0<fB (a.num.natAbs*b.den) (b.num.natAbs*a.den)
  ·rw[decide_eq_true (aaY.2 q3)]
   simp only[nI,kW,c1,c2,c3,q1,q2,q3,pK,decide_true,decide_false,bne_self_eq_false,Bool.bne_true,Bool.bne_false,Bool.true_bne,Bool.false_bne,Bool.not_true,Bool.not_false,bS,fK,gQ,gK,aL,jS,Nat.reduceLeDiff,Nat.reduceLT,Nat.reduceSub,VX,Nat.reduceEqDiff,Nat.reduceAdd]
   exact aK rfl
  ·rw[decide_eq_false (mt aaY.1 q3)]
   simp only[nI,kW,c1,c2,c3,q1,q2,q3,pK,decide_true,decide_false,bne_self_eq_false,Bool.bne_true,Bool.bne_false,Bool.true_bne,Bool.false_bne,Bool.not_true,Bool.not_false,bS,fK,gQ,gK,aL,jS,Nat.reduceLeDiff,Nat.reduceLT,Nat.reduceSub,VX,Nat.reduceEqDiff,Nat.reduceAdd]
   exact aK rfl
 ·have hl:=aiM (a:=a) (b:=b) (by simp[q1,q2])
  rw[hl,decide_eq_true q1]
  simp only[nI,kW,q1,q2,pK,decide_true,decide_false,bne_self_eq_false,Bool.bne_true,Bool.bne_false,Bool.true_bne,Bool.false_bne,Bool.not_true,Bool.not_false,bS,fK,gQ,gK,aL,jS,Nat.reduceLeDiff,Nat.reduceLT,Nat.reduceSub,VX,Nat.reduceEqDiff,Nat.reduceAdd]
  exact aK rfl
 ·have hl:=aiM (a:=a) (b:=b) (by simp[q1,q2])
  rw[hl,decide_eq_false q1]
  simp only[nI,kW,q1,q2,pK,decide_true,decide_false,bne_self_eq_false,Bool.bne_true,Bool.bne_false,Bool.true_bne,Bool.false_bne,Bool.not_true,Bool.not_false,bS,fK,gQ,gK,aL,jS,Nat.reduceLeDiff,Nat.reduceLT,Nat.reduceSub,VX,Nat.reduceEqDiff,Nat.reduceAdd]
  exact aK rfl
 ·have aaY:a<b↔fB (a.num.natAbs*b.den) (b.num.natAbs*a.den)<0:=by
   rw[bH,vG]
   have e1:a.num=(a.num.natAbs:Int):=by omega
   have e2:b.num=(b.num.natAbs:Int):=by omega
   generalize a.num.natAbs=m at *
   generalize b.num.natAbs=n at *
   rw[e1,e2,←Int.natCast_mul,←Int.natCast_mul]
   omega
  by_cases q3:fB (a.num.natAbs*b.den) (b.num.natAbs*a.den)<0
  ·rw[decide_eq_true (aaY.2 q3)]
   simp only[nI,kW,c1,c2,c3,q1,q2,q3,pK,decide_true,decide_false,bne_self_eq_false,Bool.bne_true,Bool.bne_false,Bool.true_bne,Bool.false_bne,Bool.not_true,Bool.not_false,bS,fK,gQ,gK,aL,jS,Nat.reduceLeDiff,Nat.reduceLT,Nat.reduceSub,VX,Nat.reduceEqDiff,Nat.reduceAdd]
   exact aK rfl
  ·rw[decide_eq_false (mt aaY.1 q3)]
   simp only[nI,kW,c1,c2,c3,q1,q2,q3,pK,decide_true,decide_false,bne_self_eq_false,Bool.bne_true,Bool.bne_false,Bool.true_bne,Bool.false_bne,Bool.not_true,Bool.not_false,bS,fK,gQ,gK,aL,jS,Nat.reduceLeDiff,Nat.reduceLT,Nat.reduceSub,VX,Nat.reduceEqDiff,Nat.reduceAdd]
   exact aK rfl
end Go.PM
namespace Go.PM
open Go.Lib
theorem Ry {l:List UInt8} {q:Rat} (h:Aa l=some q):DE l = .fN [bM q,VB true]:=by unfold DE;rw[h]
theorem QM {l:List UInt8} (h:Aa l=none):DE l = .fN [KU,VB false]:=by unfold DE;rw[h]
end Go.PM
namespace Go.PM
open Go.Lib
def RJ (o:Option (List Rat)):VV:=match o with
 | some qs => .fN [aQ bM qs,VB true]
 | none => .fN [aQ bM [],VB false]
theorem TE:RJ none = .fN [aQ bM [],VB false]:=rfl
theorem TT (qs:List Rat):RJ (some qs) = .fN [aQ bM qs,VB true]:=rfl
theorem Ee (q:Rat):(aB (bM q)).length=3:=rfl
theorem FI (qs:List Rat):bA (aQ bM qs)=true:=oD Ee zX
theorem XX (q:Rat):AP (bM q)=true:=by simp[AP,bM,cB,iM]
theorem Of (qs:List Rat):iU (aQ bM qs)=true:=DI Ee N4 XX
theorem WW (o:Option (List Rat)):iU (RJ o)=true:=by
 unfold RJ
 split
 ·exact Gi (Of _) rfl
 ·exact Gi (Of []) rfl
set_option maxHeartbeats 1000000 in
theorem Mv (xs:List ByteArray) (hn:xs.length≤1000000000) (hs:∀s∈xs,s.size≤1000000000):TC 57 [fM xs] (RJ (EN xs)):=by
 refine TC.walk ⟨true,false⟩ Mq rfl (Nat.le_of_ble_eq_true rfl) (by simp[aM,kR]) (WW _) ?_
 unfold EN
 by_cases T7:(300:Int)<(xs.length:Int)
 ·rw[if_neg (by omega)]
  simp only[BX,zK,T7,VX,Nat.reduceEqDiff,Nat.reduceAdd]
  exact Ps
 rw[if_pos (by omega)]
 have e0:=fun H=>iA (H:=H) (lr:=false) (z:=[.bool false,.slice none 0 0,.slice none 0 0]) rfl
 simp only[BX,zK,T7,e0,VX,Nat.reduceEqDiff,Nat.reduceAdd]
 refine Lb (fun(s:Nat×List Rat) ρ H=>s.1≤xs.length∧(xs.take s.1).mapM pQ=some s.2∧H=[.row s.1 (s.2.map bM) 3 true]∧ρ 4 = .ref 0 s.1 0 s.1 s.1∧ρ 0=fM xs∧ρ 13=VI xs.length∧ρ 14=VI s.1) (fun s=>xs.length-s.1) (0,[]) ⟨Nat.zero_le _,rfl,rfl,rfl,rfl,rfl,rfl⟩ ?_
 rintro⟨i,out⟩ ρ H ⟨hi,KV,rfl,g4,g13,g14,g15⟩
 simp only at hi KV g4 g15
 have jR:out.length=i:=by rw[qZ KV,List.length_take];omega
 by_cases cK:(i:Int)<(xs.length:Int)
 ·obtain⟨x,hx⟩:∃x,xs[i]? = some x:=⟨_,List.getElem?_eq_getElem (by omega)⟩
  have hxm:=List.mem_of_getElem? hx
  have e1:=fun H=>aI (f:=sV) (t := .op) (H:=H) (size:=1) (k := .i64) hx rfl
  have wi:IntKind.i64.wrap ((i:Int)+1)=((i+1:Nat):Int):=wrapN (i+1) (by omega) (by omega)
  have e2:=Kb x.data.toList (by have:=hs x hxm;rw[Array.length_toList];show x.size≤_;omega)
  rw[←Zg] at e2
  cases hp:pQ x with
  |
   none =>
   rw[QM hp] at e2
   rw[mapM_none hp hxm]
   simp only[rL,g4,g13,g14,g15,cK,e1,e2,Js,Lp,QV,aY,aV,aO,jS,Nat.reduceLeDiff,Nat.reduceLT,Nat.reduceSub,GM,pR,sI,wK,Bh,Ck,bne_iff_ne,ne_eq,not_false_eq_true,not_true_eq_false,VX,Nat.reduceEqDiff,Nat.reduceAdd]
   exact Ps
  |
   some q =>
   rw[Ry hp] at e2
   have eL:∀H,jY false [.bool false,.slice none 0 0,.slice none 0 0] 1 [(0,bM q)] H=some (.tree [bM q] (.cl 3),H):=fun H=>gJ rfl rfl rfl
   have eS:∀H,dF 3 (.tree [bM q] (.cl 3)) H=some [bM q]:=fun H=>dV rfl rfl
   have eP:eE 0 3 56 (.ref 0 i 0 i i) [bM q] [.row i (out.map bM) 3 true,.row 0 [bM q] 3 true]=some (.ref 0 (i+1) 0 (i+1) (i+1),[.row (i+1) ((out++[q]).map bM) 3 true,.row 0 [bM q] 3 true]):=by
    rw[gZ (f:=bM) (xs:=out) (by rw[aU]) jR.symm (Nat.le_refl _) (by decide) (by decide) (by omega),List.set_cons_zero]
   simp only[rL,g4,g13,g14,g15,cK,e1,e2,eL,eS,eP,wi,bS,jL,gD,aL,bB,aR,jS,Nat.reduceLeDiff,Nat.reduceLT,Nat.reduceSub,GM,pR,sI,wK,Bh,Ck,bne_iff_ne,ne_eq,not_false_eq_true,not_true_eq_false,VX,Nat.reduceEqDiff,Nat.reduceAdd]
   refine⟨(i+1,out++[q]),by simp only;omega,?_,by simp only;omega,by simp only[iK hx];exact Eb KV hp,rfl,?_⟩
   ·rw[A0 (mT _ (fJ zX)),Iq]
   ·simp only[uS,g13,g14,BI (kR _),Im (Nat.lt_succ_self 0),VX,Nat.reduceEqDiff,Nat.reduceAdd,List.take_zero,kI,List.all_nil,List.length_nil,uS,Ly,BI]
 ·have lS:i=xs.length:=by omega
  subst lS
  rw[List.take_length] at KV
  rw[KV]
  simp only[rL,g4,g13,g14,g15,cK,VX,Nat.reduceEqDiff,Nat.reduceAdd]
  refine bT (d:=6) ?_ (aJ (v:=VB true) rfl)
  have:=RZ (d:=5) (w:=true) (f:=bM) (e:=3) (b:=0) (g:=xs.length) (c:=xs.length) (xs:=out) (H:=[.row xs.length (out.map bM) 3 true]) zX (by rw[aU]) (by omega)
  rw[jR] at this
  exact this
set_option maxHeartbeats 1000000 in
theorem HU {lo:Nat} {H:aA} {q:Rat} (h:lo≤H.length):cD lo 3 (.ptr H.length 0 0 0) (bM q) (H++[cell0])=some (H++[.row 0 [bM q] 3 true]):=by
 rw[bX (g:=0) (e:=3) (j:=0) iD (by exact Nat.zero_lt_one) h rfl rfl,GN]
 rfl
theorem Zz {H K:aA} {q:Rat}:cN true 3 (.ptr H.length 0 0 0) (H ++ .row 0 [bM q] 3 true::K)=some (bM q):=by
 rw[bR,Hp,aU]
 exact gD _
theorem wO {lo:Nat} {H:aA} {v:VV} (qs:List Rat) {B:Nat} (hv:Rd bM 3 qs H v) (fG:lo≤H.length) (hb:∀q∈qs,bQ q≤B) (hk:qs.length*(B+1)+1≤1099511627776) (hB:B≤1099511627776) (hn:qs.length≤1000000000) :
  kS 60 [v] lo H (NC (fun _ _ _ r=>r=bM (cU qs)) H):=by
 refine kS.walk ⟨true,false⟩ Kf (Nat.le_of_ble_eq_true rfl) ?_
 have e1:=Dv
 have e2:=hv.len (H++[cell0,.row 0 [bM 0] 3 true]) (List.prefix_append _ _)
 have s0:cD lo 3 (.ptr (H.length+1) 0 0 0) (bM 0) (H++[cell0,cell0])=some (H++[cell0,.row 0 [bM 0] 3 true]):=by
  have:=HU (lo:=lo) (H:=H++[cell0]) (q:=0) (by rw[List.length_append];omega)
  simpa only[List.length_append,List.length_cons,List.length_nil,Nat.zero_add,List.append_assoc,List.cons_append,List.nil_append] using this
 simp only[EW,CC,e1,e2,s0,List.length_append,List.length_cons,List.length_nil,List.append_assoc,List.cons_append,List.nil_append,kC,VX,Nat.reduceEqDiff,Nat.reduceAdd,Nat.reduceLeDiff,Nat.reduceLT,Nat.reduceSub]
 refine aP (fun(i:Nat) ρ H1=>i≤qs.length∧H <+: H1∧aH H1 H.length 0=some ([rz],3,true)∧aH H1 (H.length+1) 0=some ([bM (cU (qs.take i))],3,true)∧ρ 2 = .ptr H.length 0 0 0∧ρ 3 = .ptr (H.length+1) 0 0 0∧ρ 0=v∧ρ 7=VI qs.length∧ρ 8=VI i) (fun i=>qs.length-i) 0 ⟨Nat.zero_le _,List.prefix_append _ _,Hp.trans aU,Wg.trans (jB.trans aU),rfl,rfl,rfl,rfl,rfl⟩ ?_
 rintro i ρ H1 ⟨hi,hp,vO,AW,g2,g3,g0,g7,g8⟩
 have BP:=eW AW
 have s3:cN true 3 (.ptr (H.length+1) 0 0 0) H1=some (bM (cU (qs.take i))):=by
  rw[bR,AW]
  exact gD _
 by_cases cK:(i:Int)<(qs.length:Int)
 ·obtain⟨q,hq⟩:∃q,qs[i]? = some q:=⟨_,List.getElem?_eq_getElem (by omega)⟩
  obtain⟨p,a1,a2⟩:=hv.get H1 hp i q hq
  have a2':=(a2 true).trans (gD _)
  have wi:IntKind.i64.wrap ((i:Int)+1)=((i+1:Nat):Int):=wrapN (i+1) (by omega) (by omega)
  have h1:=Fv hb i
  have h2:=hb q (List.mem_of_getElem? hq)
  have h3:(i+1)*(B+1)≤qs.length*(B+1):=Nat.mul_le_mul_right _ (by omega)
  have e3:=EX (cU (qs.take i)) q (by omega) (by omega)
  rw[←Eh hq] at e3
  have s4:=bX (lo:=lo) (v:=bM (cU (qs.take (i+1)))) (j:=0) AW (by exact Nat.zero_lt_one) (by omega) rfl rfl
  rw[List.set_cons_zero] at s4
  simp only[vE,g2,g3,g0,g7,g8,cK,a1,a2',e3,s3,s4,wi,kC,VX,Nat.reduceEqDiff,Nat.reduceAdd,Nat.reduceLeDiff,Nat.reduceLT,Nat.reduceSub]
  exact⟨i+1,by omega,by omega,mC hp (by omega),aZ (by omega) vO,bJ AW,by (repeat' apply And.intro)<;>first | rfl | trivial | assumption⟩
 ·have lS:i=qs.length:=by omega
  subst lS
  rw[List.take_length] at s3
  have s4:=bX (lo:=lo) (v:=bM (cU qs)) (j:=0) vO (by exact Nat.zero_lt_one) fG rfl rfl
  rw[List.set_cons_zero] at s4
  have s5:cN true 3 (.ptr H.length 0 0 0) (H1.set H.length (.row 0 [bM (cU qs)] 3 true))=some (bM (cU qs)):=by
   rw[bR,bJ vO]
   exact gD _
  simp only[vE,g2,g3,g7,g8,cK,s3,s4,s5,kC,VX,Nat.reduceEqDiff,Nat.reduceAdd,Nat.reduceLeDiff,Nat.reduceLT,Nat.reduceSub]
  exact⟨mC hp (Nat.le_refl _),rfl⟩
theorem Wd {q:Rat}:q.num<0↔q<0:=by rw[←Int.not_le,Rat.num_nonneg];constructor<;>intro h<;>grind
theorem F8 (qs:List Rat) (hn:qs.length≤1000000000):TC 58 [aQ bM qs] (VB (!(qs.any fun q=>decide (q<0)))):=by
 refine TC.walk ⟨true,false⟩ FG rfl (Nat.le_of_ble_eq_true rfl) (by simp[aM,FI]) rfl ?_
 simp only[Bo,yS,VX,Nat.reduceEqDiff,Nat.reduceAdd]
 refine aP (fun(i:Nat) ρ H=>i≤qs.length∧H=[]∧(∀j x,j<i→qs[j]? = some x→¬x<0)∧ρ 0=aQ bM qs∧ρ 5=VI qs.length∧ρ 6=VI i) (fun i=>qs.length-i) 0 ⟨Nat.zero_le _,rfl,fun j x h=>by omega,rfl,rfl,rfl⟩ ?_
 rintro i ρ H ⟨hi,rfl,mD,g0,g5,g6⟩
 by_cases cK:(i:Int)<(qs.length:Int)
 ·obtain⟨q,hq⟩:∃q,qs[i]? = some q:=⟨_,List.getElem?_eq_getElem (by omega)⟩
  have e2:=fun H=>aI (f:=bM) (t := .op) (H:=H) (size:=3) (k := .i64) hq rfl
  have wi:IntKind.i64.wrap ((i:Int)+1)=((i+1:Nat):Int):=wrapN (i+1) (by omega) (by omega)
  by_cases lM:q.num<0
  ·have Ip:qs.any (fun q=>decide (q<0))=true:=List.any_eq_true.2 ⟨q,List.mem_of_getElem? hq,decide_eq_true (Wd.1 lM)⟩
   rw[Ip]
   simp only[lY,g0,g5,g6,cK,e2,lM,fK,bS,jL,gD,aL,bB,aR,jS,Nat.reduceLeDiff,Nat.reduceLT,Nat.reduceSub,GM,pR,sI,wK,Bh,Ck,bne_iff_ne,ne_eq,not_false_eq_true,not_true_eq_false,VX,Nat.reduceEqDiff,Nat.reduceAdd]
   exact aK rfl
  ·simp only[lY,g0,g5,g6,cK,e2,lM,wi,fK,bS,jL,gD,aL,bB,aR,jS,Nat.reduceLeDiff,Nat.reduceLT,Nat.reduceSub,GM,pR,sI,wK,Bh,Ck,bne_iff_ne,ne_eq,not_false_eq_true,not_true_eq_false,VX,Nat.reduceEqDiff,Nat.reduceAdd]
   refine⟨i+1,by omega,by omega,fun j y hj hy => ?_,rfl⟩
   rcases Nat.lt_or_ge j i with Jy | Jy
   ·exact mD j y Jy hy
   ·have:j=i:=by omega
    subst this
    rw[hq] at hy
    cases hy
    exact mt Wd.2 lM
 ·have lS:i=qs.length:=by omega
  subst lS
  have Ip:qs.any (fun q=>decide (q<0))=false:=by
   rw[List.any_eq_false]
   intro x hx
   obtain⟨j,hj⟩:=List.getElem?_of_mem hx
   simpa using mD j x (List.getElem?_eq_some_iff.1 hj).1 hj
  rw[Ip]
  simp only[lY,g0,g5,g6,cK,VX,Nat.reduceEqDiff,Nat.reduceAdd]
  exact aK rfl
end Go.PM
namespace Go.PM
open Go.Lib
end Go.PM