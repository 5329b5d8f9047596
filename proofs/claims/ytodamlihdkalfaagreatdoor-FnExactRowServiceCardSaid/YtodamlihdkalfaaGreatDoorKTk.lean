/- Texts of a claim, in one: part 11. -/
import Derived.KernelRfl
import Derived.Test.YtodamlihdkalfaaGreatDoorKTj
set_option linter.unusedSimpArgs false
set_option linter.unusedVariables false
namespace Go.PM
def rO {β:Type} (k:Int):List (List β)→List (List ByteArray)
 | []=>[]
 | x::xs=>iG k x.length::rO (k+x.length) xs
def cU {β:Type} (xs:List (List β)):Nat:=(xs.map List.length).sum
section
variable {β:Type}
theorem Jj (xs:List (List β)) (k:Int):(rO k xs).length=xs.length:=by
 induction xs generalizing k with
 | nil=>rfl
 | cons x xs ih=>simp[rO,ih]
theorem Hg {xs:List (List β)} {i:Nat} {x:List β} (h:xs[i]? = some x):cU (xs.take (i+1))=cU (xs.take i)+x.length:=by
 rw[List.take_add_one,h]
 simp[cU]
theorem DU {xs:List (List β)} {i:Nat} {x:List β} {k:Int} (h:xs[i]? = some x):(rO k xs)[i]? = some (iG (k+cU (xs.take i)) x.length):=by
 induction xs generalizing i k with
 | nil=>cases h
 |
  cons y ys ih =>
  cases i with
  | zero=>injection h with h;subst h;simp[rO,cU]
  |
   succ i =>
   simp only[rO,List.getElem?_cons_succ] at h ⊢
   rw[ih h]
   simp only[List.take_succ_cons,cU,List.map_cons,List.sum_cons,Int.natCast_add]
   rw[Int.add_assoc]
theorem KZ {xs:List (List β)} (i:Nat):cU (xs.take i)≤cU xs:=by
 induction xs generalizing i with
 | nil=>simp[cU]
 |
  cons x xs ih =>
  cases i with
  | zero=>simp[cU]
  |
   succ i =>
   have:=ih i
   simp only[List.take_succ_cons,cU,List.map_cons,List.sum_cons] at this ⊢
   omega
end
theorem CN (k:Int) (xs:List (List ByteArray)) (hk:0≤k∧k≤10000000) (hn:xs.length≤10000000) (ht:cU xs≤10000000):TC 83 [tD (rO k xs),VI k] (VI (k+cU xs)):=by
 refine TC.walk ⟨true,false⟩ CQ rfl (Nat.le_of_ble_eq_true rfl) (Gs (DR _) rfl) rfl ?_
 simp only[xO,tF,VX,Nat.reduceEqDiff,Nat.reduceAdd]
 refine aR (fun(i:Nat) ρ H=>i≤xs.length∧H=[]∧ρ 0=tD (rO k xs)∧ρ 1=VI (k+cU (xs.take i))∧ρ 5=VI i) (fun i=>xs.length-i) 0 ⟨Nat.zero_le _,rfl,rfl,by simp only[VX,Nat.reduceEqDiff,Nat.reduceAdd];simp[cU],rfl⟩ ?_
 rintro i ρ H ⟨hi,rfl,h0,h1,h5⟩
 have hlen:=Jj xs k
 by_cases dD:(i:Int)<(xs.length:Int)
 ·obtain⟨x,hx⟩:∃x,xs[i]? = some x:=⟨_,List.getElem?_eq_getElem (by omega)⟩
  have e1:=aJ (f:=fC) (t := .op) (H:=[]) (size:=1) (k := .i64) (DU (k:=k) hx) rfl
  have l1:=Hg hx
  have l2:=KZ (xs:=xs) (i+1)
  have e3:=pD (k+cU (xs.take i)) x.length (by omega) (by omega)
  have pY:¬(k+(cU (xs.take i):Int)+(x.length:Int))<0:=by omega
  have wi:IntKind.i64.wrap ((i:Int)+1)=((i+1:Nat):Int):=wrapN (i+1) (by omega) (by omega)
  simp only[mR,h0,h1,h5,dD,e1,e3,wi,hlen,pY,eq_self,VX,Nat.reduceEqDiff,Nat.reduceAdd]
  refine⟨i+1,by omega,by omega,?_⟩
  rw[l1,Int.natCast_add,←Int.add_assoc]
  (repeat' apply And.intro)<;>first | rfl | trivial
 ·have oJ:i=xs.length:=by omega
  subst oJ
  simp only[mR,h0,h1,h5,dD,hlen,VX,Nat.reduceEqDiff,Nat.reduceAdd]
  rw[List.take_of_length_le (Nat.le_refl _)]
  exact aI rfl
theorem CL {lo b g c:Nat} {H:aA} (rs:List (wU ByteArray)) (k:Int) (hr:aF H b g=some (rs.map nN,1,true)) (hR:LH sV 1 lo H.length b H rs) (eI:lo≤b) (hk:0≤k∧k≤10000000) (hn:rs.length≤10000000) (ht:cU (rs.map (·.xs))≤10000000) :
  iY 71 [.ref b g 0 rs.length c,VI k] lo H fun r H'=>r=VI (k+cU (rs.map (·.xs)))∧H'.length=H.length∧(∀b' g' x,(∀r∈rs,r.b≠b')→aF H b' g'=some x→aF H' b' g'=some x) ∧
   ∀i r,rs[i]? = some r→aF H' r.b r.g=some ((iG (k+cU ((rs.map (·.xs)).take i)) r.xs.length).map sV,1,true):=by
 refine iY.walk ⟨true,false⟩ tG (Nat.le_of_ble_eq_true rfl) ?_
 simp only[pT,nX,VX,Nat.reduceEqDiff,Nat.reduceAdd]
 refine aR (fun(i:Nat) ρ H1=>i≤rs.length∧H1.length=H.length∧(∀b' g' x,(∀r∈rs,r.b≠b')→aF H b' g'=some x→aF H1 b' g'=some x) ∧
   (∀j r,rs[j]? = some r→aF H1 r.b r.g=some ((if j<i then iG (k+cU ((rs.map (·.xs)).take j)) r.xs.length else r.xs).map sV,1,true))∧ρ 0 = .ref b g 0 rs.length c∧ρ 1=VI (k+cU ((rs.map (·.xs)).take i))∧ρ 5=VI i) (fun i=>rs.length-i) 0
  ⟨Nat.zero_le _,rfl,fun _ _ _ _ h=>h,fun j r h=>by rw[if_neg (by omega)];exact(hR.row r (List.mem_of_getElem? h)).2.2.2.2,rfl,by simp only[VX,Nat.reduceEqDiff,Nat.reduceAdd];simp[cU],rfl⟩ ?_
 rintro i ρ H1 ⟨hi,hH1,hold,Y7,h0,h1,h5⟩
 have hR1:=hold b g _ (fun r hr=>(hR.row r hr).2.2.1) hr
 have el:=dR (o:=0) (n:=rs.length) (c:=c) hR1
 by_cases dD:(i:Int)<(rs.length:Int)
 ·obtain⟨r,Ei⟩:∃r,rs[i]? = some r:=⟨_,List.getElem?_eq_getElem (by omega)⟩
  have Tn:=hR.row r (List.mem_of_getElem? Ei)
  have hxi:(rs.map (·.xs))[i]? = some r.xs:=by simp[Ei]
  have l1:=Hg hxi
  have l2:=KZ (xs:=rs.map (·.xs)) (i+1)
  have e1:=aP (o:=0) (n:=rs.length) (c:=c) (i:=i) (k := .i64) hR1 (by omega)
  have e2:cQ false 1 (.ptr b g i 0) H1=some (nN r):=by rw[pI (f:=nN) hR1 Ei];rfl
  have wi:IntKind.i64.wrap ((i:Int)+1)=((i+1:Nat):Int):=wrapN (i+1) (by omega) (by omega)
  simp only[jQ,h0,h1,h5,dD,el,e1,e2,Nat.zero_add,VX,Nat.reduceEqDiff,Nat.reduceAdd]
  have mU:=Y7 i r Ei
  rw[if_neg (by omega)] at mU
  refine dL rfl ((oU r.xs _ mU (Nat.le_refl _) Tn.1 (by omega) (by omega)).mono ?_)
  rintro v H2 ⟨rfl,rfl⟩
  simp only[h5,wi,VX,Nat.reduceEqDiff,Nat.reduceAdd]
  refine⟨i+1,by omega,by omega,by simpa using hH1,fun b' g' x oC h=>aL (oC r (List.mem_of_getElem? Ei)) (hold b' g' x oC h),fun j r' hj => ?_,h0,?_,rfl⟩
  ·by_cases NI:j=i
   ·subst NI
    rw[Ei] at hj
    injection hj with hj
    subst hj
    rw[if_pos (by omega),dE mU,List.drop_length,List.append_nil]
   ·have eV:r.b≠r'.b:=fun he=>NI (by
     have h1:(rs.map (·.b))[i]? = some r.b:=by simp[Ei]
     have h2:(rs.map (·.b))[j]? = some r.b:=by simp[hj,he]
     exact OJ hR.nd h2 h1)
    rw[aL eV (Y7 j r' hj)]
    by_cases aU:j<i
    ·rw[if_pos aU,if_pos (by omega)]
    ·rw[if_neg aU,if_neg (by omega)]
  ·rw[l1,Int.natCast_add,←Int.add_assoc]
 ·have oJ:i=rs.length:=by omega
  subst oJ
  simp only[jQ,h0,h1,h5,dD,el,VX,Nat.reduceEqDiff,Nat.reduceAdd]
  rw[List.take_of_length_le (by simp)]
  refine⟨rfl,hH1,hold,fun j r hj => ?_⟩
  have:=Y7 j r hj
  rw[if_pos (List.getElem?_eq_some_iff.1 hj).1] at this
  exact this
theorem A9 {lo:Nat} {H:aA} (k:Int):iY 71 [.tree [] .nil,VI k] lo H fun r H'=>r=VI k∧H'=H:=by
 refine iY.walk ⟨true,false⟩ tG (Nat.le_of_ble_eq_true rfl) ?_
 simp only[pT,nX,VX,Nat.reduceEqDiff,Nat.reduceAdd]
 refine aR (fun(_:Unit) ρ H1=>H1=H∧ρ 0 = .tree [] .nil∧ρ 1=VI k∧ρ 5=VI 0) (fun _=>0) () ⟨rfl,rfl,rfl,rfl⟩ ?_
 rintro _ ρ H1 ⟨rfl,h0,h1,h5⟩
 simp only[jQ,h0,h1,h5,List.length_nil,Int.natCast_zero,Int.lt_irrefl,Int.reduceLT,VX,Nat.reduceEqDiff,Nat.reduceAdd]
theorem ZK {lo hi jF:Nat} {aY:List (List ByteArray)} {H:aA} {v:VV} {k:Int} {K:VV→aA→Prop} (hv:RG sV 1 aY lo hi H v) (eI:jF≤lo) (hk:0≤k∧k≤10000000) (hn:aY.length≤10000000) (ht:cU aY≤10000000)
  (hK:∀H',H'.length=H.length→RG sV 1 (rO k aY) lo hi H' v→(∀b g x,b<lo∨hi≤b→aF H b g=some x→aF H' b g=some x)→K (VI (k+cU aY)) H') :
  cM 71 [v,VI k] jF H K:=by
 rcases hv with⟨rfl,rfl⟩ | ⟨b,g,c,rs,h1,h2,rfl,h4,h5,rfl,h7⟩
 ·refine dL rfl ((A9 k).mono ?_)
  rintro r H' ⟨rfl,rfl⟩
  have:=hK H' rfl (.inl ⟨rfl,rfl⟩) fun _ _ _ _ h=>h
  simpa[cU] using this
 ·have h7':LH sV 1 jF H.length b H rs:=⟨h7.nd,fun r hr=>⟨Nat.le_trans eI (h7.row r hr).1,jA (h7.row r hr).2.2.2.2,(h7.row r hr).2.2⟩⟩
  rw[List.length_map] at h4 hn ⊢
  refine dL rfl ((CL (lo:=jF) (c:=c) rs k h5 h7' (Nat.le_trans eI h1) hk hn ht).mono ?_)
  rintro r H' ⟨rfl,hl,hold,qN⟩
  refine hK _ hl ?_ fun b' g' x oC h=>hold b' g' x (fun r hr=>by have:=h7.row r hr;omega) h
  have Ei:∀i,i<rs.length→∃r,rs[i]? = some r:=fun i hi=>⟨_,List.getElem?_eq_getElem hi⟩
  have hml:(rO k (rs.map (·.xs))).length=rs.length:=by rw[Jj,List.length_map]
  let VY:List (wU ByteArray):=rs.zipWith (fun r x=>{ r with xs:=x }) (rO k (rs.map (·.xs)))
  have sK:∀(i:Nat) (r:wU ByteArray),rs[i]? = some r→VY[i]? = some { r with xs:=iG (k+cU ((rs.map (·.xs)).take i)) r.xs.length }:=fun i r hr=>by
   have hm:=DU (k:=k) (xs:=rs.map (·.xs)) (i:=i) (x:=r.xs) (by simp[hr])
   show (List.zipWith _ _ _)[i]? = _
   rw[List.getElem?_zipWith,hr,hm]
  have A7:VY.length=rs.length:=by simp[VY,hml]
  have hex:∀ {γ:Type} (F G:wU ByteArray→γ),(∀(i:Nat) (r:wU ByteArray),rs[i]? = some r→F { r with xs:=iG (k+cU ((rs.map (·.xs)).take i)) r.xs.length }=G r)→VY.map F=rs.map G:=fun F G hFG=>by
   apply List.ext_getElem?
   intro i
   rcases Nat.lt_or_ge i rs.length with h | h
   ·obtain⟨r,hr⟩:=Ei i h
    rw[List.getElem?_map,List.getElem?_map,sK i r hr,hr]
    simp only[Option.map_some,hFG i r hr]
   ·rw[List.getElem?_eq_none (by rw[List.length_map,A7];exact h),List.getElem?_eq_none (by rw[List.length_map];exact h)]
  have arQ:VY.map (·.b)=rs.map (·.b):=hex _ _ fun _ _ _=>rfl
  have Q8:VY.map nN=rs.map nN:=hex _ _ fun i r _=>by simp[nN,Oj]
  have aqF:VY.map (·.xs)=rO k (rs.map (·.xs)):=by
   apply List.ext_getElem?
   intro i
   rcases Nat.lt_or_ge i rs.length with h | h
   ·obtain⟨r,hr⟩:=Ei i h
    rw[List.getElem?_map,sK i r hr,DU (x:=r.xs) (by simp[hr])]
    rfl
   ·rw[List.getElem?_eq_none (by rw[List.length_map,A7];exact h),List.getElem?_eq_none (by rw[hml];exact h)]
  refine .inr ⟨b,g,c,VY,h1,h2,by rw[hml,List.length_map],by rw[hml];exact h4,?_,aqF,by rw[arQ];exact h7.nd,fun r' D7 => ?_⟩
  ·rw[Q8]
   exact hold _ _ _ (fun r hr=>(h7.row r hr).2.2.1) h5
  ·obtain⟨i,hi⟩:=List.getElem?_of_mem D7
   obtain⟨r,hr⟩:=Ei i (by rw[←A7];exact(List.getElem?_eq_some_iff.1 hi).1)
   rw[sK i r hr] at hi
   injection hi with hi
   subst hi
   have hm:=h7.row r (List.mem_of_getElem? hr)
   exact⟨hm.1,hm.2.1,hm.2.2.1,by rw[oX];exact hm.2.2.2.1,qN i r hr⟩
def svT (k:Int) (s:CE):CE:=⟨iG k s.b.length,rO (k+s.b.length) s.g,iG (k+s.b.length+cU s.g) s.e.length⟩
def V7 (s:CE):Nat:=s.b.length+cU s.g+s.e.length
theorem FK (s t:CE) (hb:s.b.length≤1000000000) (hn:s.g.length≤1000000000) (Oa:∀x∈s.g,x.length≤1000000000) (he:s.e.length≤1000000000):TC 22 [N4 s,N4 t] (VB (decide (s.b=t.b∧s.g=t.g∧s.e=t.e))):=by
 refine TC.walk ⟨true,false⟩ Gb rfl (Nat.le_of_ble_eq_true rfl) (Gs (vX _) (vX _)) rfl ?_
 have e1:=nA s.b t.b hb
 have e2:=Ed s.g t.g hn Oa
 have e3:=nA s.e t.e he
 by_cases h1:s.b=t.b
 ·rw[decide_eq_true h1] at e1
  by_cases h2:s.g=t.g
  ·rw[decide_eq_true h2] at e2
   by_cases h3:s.e=t.e
   ·rw[decide_eq_true h3] at e3
    rw[decide_eq_true ⟨h1,h2,h3⟩]
    simp only[mO,kC,N4,e1,e2,e3,gP,List.getElem?_cons_zero,List.getElem?_cons_succ,VX,Nat.reduceEqDiff,Nat.reduceAdd]
    exact aI rfl
   ·rw[decide_eq_false h3] at e3
    rw[decide_eq_false (fun h=>h3 h.2.2)]
    simp only[mO,kC,N4,e1,e2,e3,gP,List.getElem?_cons_zero,List.getElem?_cons_succ,VX,Nat.reduceEqDiff,Nat.reduceAdd]
    exact aI rfl
  ·rw[decide_eq_false h2] at e2
   rw[decide_eq_false (fun h=>h2 h.2.1)]
   simp only[mO,kC,N4,e1,e2,gP,List.getElem?_cons_zero,List.getElem?_cons_succ,VX,Nat.reduceEqDiff,Nat.reduceAdd]
   exact aI rfl
 ·rw[decide_eq_false h1] at e1
  rw[decide_eq_false (fun h=>h1 h.1)]
  simp only[mO,kC,N4,e1,gP,List.getElem?_cons_zero,List.getElem?_cons_succ,VX,Nat.reduceEqDiff,Nat.reduceAdd]
  exact aI rfl
theorem DE (k:Int) (s:CE) (hk:0≤k∧k≤1000000) (hn:s.g.length≤1000000) (ht:V7 s≤1000000):TC 24 [N4 (svT k s),VI k] (VI (k+V7 s)):=by
 unfold V7 at ht ⊢
 refine TC.walk ⟨true,false⟩ DT rfl (Nat.le_of_ble_eq_true rfl) (Gs (vX _) rfl) rfl ?_
 have e1:=pD k s.b.length (by omega) (by omega)
 have e2:=CN (k+s.b.length) s.g (by omega) (by omega) (by omega)
 have e3:=pD (k+s.b.length+cU s.g) s.e.length (by omega) (by omega)
 have h1:¬(k+(s.b.length:Int))<0:=by omega
 have h2:¬(k+(s.b.length:Int)+(cU s.g:Int))<0:=by omega
 have h3:¬(k+(s.b.length:Int)+(cU s.g:Int)+(s.e.length:Int))<0:=by omega
 have h4:k+((s.b.length+cU s.g+s.e.length:Nat):Int)=k+(s.b.length:Int)+(cU s.g:Int)+(s.e.length:Int):=by omega
 rw[h4]
 simp only[zK,wF,N4,svT,e1,e2,e3,h1,h2,h3,gP,List.getElem?_cons_zero,List.getElem?_cons_succ,VX,Nat.reduceEqDiff,Nat.reduceAdd]
 exact aI rfl
theorem M8.cell {α:Type} {f:α→VV} {e lo hi:Nat} {H:aA} {v:VV} {aY:List α} (h:M8 f e aY lo hi H v):aZ v=true:=by
 rcases h with⟨rfl,rfl⟩ | ⟨b,g,c,h1,h2,rfl,h3⟩<;>rfl
theorem RG.cell {α:Type} {f:α→VV} {e lo hi:Nat} {H:aA} {v:VV} {aY:List (List α)} (h:RG f e aY lo hi H v):aZ v=true:=by
 rcases h with⟨rfl,rfl⟩ | ⟨b,g,c,rs,h1,h2,rfl,h3⟩<;>rfl
theorem Yz {lo hi jF:Nat} {s:CE} {H:aA} {v:VV} {k:Int} {K:VV→aA→Prop} (hv:Hm s lo hi H v) (eI:jF≤lo) (hk:0≤k∧k≤1000000) (hn:s.g.length≤1000000) (ht:V7 s≤1000000)
  (hK:∀H',H'.length=H.length→Hm (svT k s) lo hi H' v→(∀b g x,b<lo∨hi≤b→aF H b g=some x→aF H' b g=some x)→K (VI (k+V7 s)) H') :
  cM 23 [v,VI k] jF H K:=by
 unfold V7 at ht hK
 obtain⟨a,b,c,m1,m2,rfl,l1,l2,l3,ha,hb,hc⟩:=hv
 have ca:=ha.cell
 have cb:=hb.cell
 have cc:=hc.cell
 refine dL rfl (iY.walk ⟨true,false⟩ Dx (Nat.le_of_ble_eq_true rfl) ?_)
 simp only[yI,wE,ca,cb,cc,DH,gP,List.all_cons,List.all_nil,List.getElem?_cons_zero,List.getElem?_cons_succ,VX,Nat.reduceEqDiff,Nat.reduceAdd]
 refine TD ha eI (by omega) (by omega) fun H1 h1 h2 h3 => ?_
 have Bv:=hb.bO (H':=H1) fun b g x k1 k2=>h3 b g x (by omega)
 have Uu:=hc.bO (H':=H1) fun b g x k1 k2=>h3 b g x (by omega)
 simp only[gP,List.getElem?_cons_zero,List.getElem?_cons_succ,VX,Nat.reduceEqDiff,Nat.reduceAdd]
 refine ZK Bv (by omega) (by omega) (by omega) (by omega) fun H2 h4 h5 h6 => ?_
 have ha2:=h2.bO (H':=H2) fun b g x k1 k2=>h6 b g x (by omega)
 have Qv:=Uu.bO (H':=H2) fun b g x k1 k2=>h6 b g x (by omega)
 simp only[gP,List.getElem?_cons_zero,List.getElem?_cons_succ,VX,Nat.reduceEqDiff,Nat.reduceAdd]
 refine TD Qv (by omega) (by omega) (by omega) fun H3 h7 h8 h9 => ?_
 have ha3:=ha2.bO (H':=H3) fun b g x k1 k2=>h9 b g x (by omega)
 have hb3:=h5.bO (H':=H3) fun b g x k1 k2=>h9 b g x (by omega)
 simp only[VX,Nat.reduceEqDiff,Nat.reduceAdd]
 have h4':k+((s.b.length+cU s.g+s.e.length:Nat):Int)=k+(s.b.length:Int)+(cU s.g:Int)+(s.e.length:Int):=by omega
 rw[←h4']
 exact hK H3 (by omega) ⟨a,b,c,m1,m2,rfl,l1,l2,l3,ha3,hb3,h8⟩ fun b g x k1 k2=>h9 b g x (by omega) (h6 b g x (by omega) (h3 b g x (by omega) k2))
end Go.PM
namespace Go.PM
open Go.Lib
section
variable {α:Type} {f:α→VV} {e:Nat}
def LP (f:α→VV) (e:Nat) (aY:List (List α)) (lo hi:Nat) (H:aA) (v:VV):Prop :=
 (v = .tree [] .nil∧aY=[])∨∃b g rs,lo≤b∧b<hi∧v = .ref b g 0 aY.length aY.length∧aF H b g=some (rs.map nN,1,true)∧rs.map (·.xs)=aY∧LH f e lo hi b H rs
theorem LP.rg {aY:List (List α)} {lo hi:Nat} {H:aA} {v:VV} (h:LP f e aY lo hi H v):RG f e aY lo hi H v:=by
 rcases h with h | ⟨b,g,rs,h1,h2,h3,h5,h6,h7⟩
 ·exact .inl h
 ·exact .inr ⟨b,g,_,rs,h1,h2,h3,Nat.le_refl _,h5,h6,h7⟩
theorem LP.bO {aY:List (List α)} {lo hi:Nat} {H H':aA} {v:VV} (h:LP f e aY lo hi H v) (hk:cJ lo hi H H'):LP f e aY lo hi H' v:=by
 rcases h with h | ⟨b,g,rs,h1,h2,h3,h5,h6,h7⟩
 ·exact .inl h
 ·exact .inr ⟨b,g,rs,h1,h2,h3,hk _ _ _ h1 h2 h5,h6,h7.nd,fun r hr=>by
   obtain⟨k1,k2,k3,k4,k5⟩:=h7.row r hr
   exact⟨k1,k2,k3,k4,hk _ _ _ k1 k2 k5⟩⟩
theorem LP.wide {aY:List (List α)} {lo hi jF nO:Nat} {H:aA} {v:VV} (h:LP f e aY lo hi H v) (hl:jF≤lo) (hh:hi≤nO):LP f e aY jF nO H v:=by
 rcases h with h | ⟨b,g,rs,h1,h2,h3,h5,h6,h7⟩
 ·exact .inl h
 ·exact .inr ⟨b,g,rs,by omega,by omega,h3,h5,h6,h7.nd,fun r hr=>by
   obtain⟨k1,k2,k3,k4,k5⟩:=h7.row r hr
   exact⟨by omega,by omega,k3,k4,k5⟩⟩
theorem LP.fD {aY:List (List α)} {lo hi:Nat} {H:aA} {v:VV} (h:LP f e aY lo hi H v):aZ v=true∧aB v=[v]∧isAny v=false:=by
 rcases h with⟨rfl,rfl⟩ | ⟨b,g,rs,h1,h2,rfl,h3⟩<;>exact⟨rfl,rfl,rfl⟩
theorem LP.afU {aY:List (List α)} {lo hi:Nat} {H:aA} {v:VV} (h:LP f e aY lo hi H v):nR v H=some (VI aY.length):=by
 rcases h with⟨rfl,rfl⟩ | ⟨b,g,rs,h1,h2,rfl,h5,h6,h7⟩
 ·rfl
 ·exact dR h5
theorem LP.snoc {aY:List (List α)} {lo jF hi:Nat} {H:aA} {v:VV} (h:LP f e aY lo hi H v) (eI:jF≤lo) (hn:aY.length≤1000000000) (r:wU α) (hhi:hi≤r.b) (yE:lo≤r.b) (hc:r.xs.length≤r.c) (hr:aF H r.b r.g=some (r.xs.map f,e,true)) :
  ∃v' H3,eK jF 1 24 v [.ref r.b r.g 0 r.xs.length r.c] H=some (v',H3)∧LP f e (aY++[r.xs]) lo H3.length H3 v'∧(∀b' g' x,b'<lo→aF H b' g'=some x→aF H3 b' g'=some x)∧H.length≤H3.length ∧
   (∀n,n≤lo→wT n H→wT n H3)∧(∀H0:aA,H0.length≤lo→H0 <+: H→H0 <+: H3)∧(∀b' g' x,aF H b' g'=some x→(∀g0 n0 c0,v ≠ .ref b' g0 0 n0 c0)→aF H3 b' g'=some x):=by
 have hb:=jA hr
 rcases h with⟨rfl,rfl⟩ | ⟨b,g,rs,h1,h2,rfl,h5,h6,h7⟩
 ·refine⟨.ref H.length 0 0 1 1,H++[.row 0 [nN r] 1 true],by simp[eK,nN],.inr ⟨H.length,0,[r],by omega,by simp,rfl,dZ,rfl,by simp,fun s hs => ?_⟩,fun _ _ _ _ h=>fZ h,by simp,fun n hn hO=>hO.app (by simp[kU,dB,nN];omega),fun H0 _ hp=>Yq hp,fun _ _ _ h _=>fZ h⟩
  rw[List.mem_singleton] at hs
  subst hs
  exact⟨yE,by simp;omega,by omega,hc,fZ hr⟩
 ·subst h6
  rw[List.length_map] at hn ⊢
  have qW:=iI (f:=nN) (xs:=rs) (x:=r) (lo:=jF) (bytes:=24) h5 rfl (by omega) (by decide) (by decide) (by omega)
  refine⟨_,_,qW,.inr ⟨b,g+1,rs++[r],h1,by rw[List.length_set];exact jA h5,by simp,dE h5,by simp,?_,fun s hs => ?_⟩,fun b' g' x oC h=>aL (by omega) h,by simp,fun n hn hO=>hO.set (by omega) ?_,fun H0 hl hp=>JF hp (by omega),fun b' g' x h eV=>aL (fun he=>eV g _ _ (by rw[he])) h⟩
  ·rw[List.map_append,List.nodup_append]
   refine⟨h7.nd,by simp,fun a ha c hc' => ?_⟩
   obtain⟨s,hs,rfl⟩:=List.mem_map.1 ha
   have:=h7.row s hs
   simp only[List.map_cons,List.map_nil,List.mem_singleton] at hc'
   omega
  ·rcases List.mem_append.1 hs with hs | hs
   ·obtain⟨k1,k2,k3,k4,k5⟩:=h7.row s hs
    exact⟨k1,by rw[List.length_set];exact jA k5,k3,k4,aL (by omega) k5⟩
   ·rw[List.mem_singleton] at hs
    subst hs
    exact⟨yE,by rw[List.length_set];exact hb,by omega,hc,aL (by omega) hr⟩
  ·rw[BI]
   intro x hx
   obtain⟨s,hs,rfl⟩:=List.mem_map.1 hx
   rcases List.mem_append.1 hs with hs | hs
   ·have:=h7.row s hs
    simp[nN,dB];omega
   ·rw[List.mem_singleton] at hs
    subst hs
    simp[nN,dB];omega
end
def Kl {α:Type} (f:α→VV) (e:Nat) (o:Option (List α)) (lo hi:Nat) (H:aA) (v:VV):Prop:=match o with
 | none=>v = .tree [] .nil
 | some ys=>G0 f e ys lo hi H v
theorem G0.bO {α:Type} {f:α→VV} {e:Nat} {ys:List α}:∀ {lo hi H H' v},G0 f e ys lo hi H v→cJ lo hi H H'→G0 f e ys lo hi H' v:=by
 rintro lo hi H H' v ⟨b,g,c,h1,h2,h3,h4,h5⟩ hk
 exact⟨b,g,c,h1,h2,h3,h4,hk _ _ _ h1 h2 h5⟩
theorem Kl.bO {α:Type} {f:α→VV} {e:Nat} {o:Option (List α)}:∀ {lo hi H H' v},Kl f e o lo hi H v→cJ lo hi H H'→Kl f e o lo hi H' v:=by
 intro lo hi H H' v h hk
 cases o with
 | none=>exact h
 | some ys=>exact G0.bO h hk
theorem Kl.lg {α:Type} {f:α→VV} {e lo hi:Nat} {H:aA} {v:VV} {o:Option (List α)} (h:Kl f e o lo hi H v):M8 f e (o.getD []) lo hi H v:=by
 cases o with
 | none=>exact .inl ⟨h,rfl⟩
 |
  some ys =>
  obtain⟨b,g,c,h1⟩:=h
  exact .inr ⟨b,g,c,h1⟩
theorem Ad {n n':Nat} {L:aA} (h:n≤n') (hL:dH n' L=true):dH n L=true:=by
 unfold dH at hL ⊢
 rw[List.all_eq_true] at hL ⊢
 intro x hx
 have:=hL x hx
 cases x with
 | dead=>rfl
 | row g es e w=>exact yH h es this
theorem wA {n:Nat} {H:aA} (h:n≤H.length):AO H (List.replicate n .dead++List.replicate (H.length-n) .dead):=by
 refine⟨by simp;omega,fun b g es e w hb => ?_⟩
 rw[List.replicate_append_replicate] at hb
 have:=List.eq_of_mem_replicate (List.mem_of_getElem? hb)
 cases this
theorem uJ {n k:Nat}:dH n (List.replicate k .dead)=true:=by
 unfold dH
 rw[List.all_eq_true]
 intro x hx
 rw[List.eq_of_mem_replicate hx]
def Hy (q:Rat):ByteArray:=⟨(C7 q).toArray⟩
def oA (qs:List Rat):Option (List ByteArray):=if qs.all tM=true then some (qs.map Hy) else none
theorem NR {qs:List Rat} {q:Rat} (hq:q∈qs) (h:tM q=false):oA qs=none:=if_neg (fun ha=>by
 rw[List.all_eq_true] at ha
 rw[ha q hq] at h
 cases h)
theorem K3 {qs:List Rat} (h:∀q∈qs,tM q=true):oA qs=some (qs.map Hy):=if_pos (List.all_eq_true.2 h)
set_option maxHeartbeats 1000000 in
theorem sS (qs:List Rat) (hn:qs.length≤1000000) (hb:∀q∈qs,fS q≤1099511627776):FC 111 [bH bD qs] (QA (Kl sV 1 (oA qs)) (oA qs).isSome):=by
 refine FC.IF ⟨true,false⟩ HP (Nat.le_of_ble_eq_true rfl) fun n => ?_
 have e0:∀K,jX false [.string ⟨#[]⟩] 0 [] K=some (.ref K.length 0 0 0 0,K++[.row 0 [] 1 true]):=fun K=>iS rfl
 simp only[C8,AJ,e0,List.length_replicate,gX,VX,Nat.reduceEqDiff,Nat.reduceAdd,Nat.reduceLeDiff,Nat.reduceLT,Nat.reduceSub]
 refine Jc (fun(i:Nat) ρ H=>i≤qs.length∧(∀q∈qs.take i,tM q=true)∧H=List.replicate n bM.dead++[bM.row i (((qs.take i).map Hy).map sV) 1 true]∧ρ 4 = .ref n i 0 i i∧ρ 10=bH bD qs∧ρ 11=VI qs.length∧ρ 12=VI i) (fun i=>qs.length-i) 0 ⟨Nat.zero_le _,by simp,rfl,rfl,rfl,rfl,rfl⟩ ?_
 rintro i ρ H ⟨hi,oW,rfl,g4,g10,g11,g12⟩
 have mU:aF (List.replicate n bM.dead++[bM.row i (((qs.take i).map Hy).map sV) 1 true]) n i=some (((qs.take i).map Hy).map sV,1,true):=by rw[tU,aV]
 by_cases dD:(i:Int)<(qs.length:Int)
 ·obtain⟨q,hq⟩:∃q,qs[i]? = some q:=⟨_,List.getElem?_eq_getElem (by omega)⟩
  have hqm:=List.mem_of_getElem? hq
  have a1:=fun H=>aJ (f:=bD) (t := .op) (H:=H) (size:=3) (k := .i64) hq rfl
  have wi:IntKind.i64.wrap ((i:Int)+1)=((i+1:Nat):Int):=wrapN (i+1) (by omega) (by omega)
  have e2:=HU q (hb q hqm)
  have s1:=WT (lo:=n) (H:=List.replicate n bM.dead++[bM.row i (((qs.take i).map Hy).map sV) 1 true]) (q:=q) (by simp)
  have s2:=aaT (H:=List.replicate n bM.dead++[bM.row i (((qs.take i).map Hy).map sV) 1 true]) (K:=[]) (q:=q)
  cases hf:tM q with
  |
   false =>
   rw[hf] at e2
   rw[NR hqm hf]
   simp only[nM,g4,g10,g11,g12,dD,a1,e2,s1,s2,vI,gX,VX,Nat.reduceEqDiff,Nat.reduceAdd,Nat.reduceLeDiff,Nat.reduceLT,Nat.reduceSub]
   exact⟨_,wA (by simp),rfl,uJ,.tree [] .nil,rfl,rfl⟩
  |
   true =>
   rw[hf] at e2
   have eL:∀H,jX false [.string ⟨#[]⟩] 1 [(0,aQ (C7 q))] H=some (.tree [sV (Hy q)] (.cl 1),H):=fun H=>fY rfl rfl rfl
   have eS:∀H,cN 1 (.tree [sV (Hy q)] (.cl 1)) H=some [sV (Hy q)]:=fun H=>eO rfl rfl
   have eP:eK n 1 16 (.ref n i 0 i i) [sV (Hy q)] (List.replicate n bM.dead++[bM.row i (((qs.take i).map Hy).map sV) 1 true]++[.row 0 [bD q] 3 true])=some (.ref n (i+1) 0 (i+1) (i+1),(List.replicate n bM.dead++[bM.row (i+1) (((qs.take (i+1)).map Hy).map sV) 1 true])++[.row 0 [bD q] 3 true]):=by
    rw[iI (f:=sV) (xs:=(qs.take i).map Hy) (fZ mU) (by simp;omega) (Nat.le_refl _) (by decide) (by decide) (by omega),nJ hq]
    simp only[List.map_append,List.append_assoc,Cd]
    rfl
   simp only[nM,g4,g10,g11,g12,dD,a1,e2,s1,s2,eL,eS,eP,wi,vI,gX,VX,Nat.reduceEqDiff,Nat.reduceAdd,Nat.reduceLeDiff,Nat.reduceLT,Nat.reduceSub]
   rw[List.take_left' (by simp)]
   refine⟨i+1,by omega,by rw[abC,zR (kP _ (eH fun _=>rfl)),Gd],by omega,fun p hp => ?_,rfl,?_⟩
   ·rw[nJ hq] at hp
    rcases List.mem_append.1 hp with h | h
    ·exact oW p h
    ·rw[List.mem_singleton] at h;subst h;exact hf
   ·simp only[rW,g10,g11,yS (uS _),Gk (show n<(List.replicate n bM.dead++[bM.row i (((qs.take i).map Hy).map sV) 1 true]).length by simp),VX,Nat.reduceEqDiff,Nat.reduceAdd,List.take_zero,iL,List.all_nil,List.length_nil,rW,I2,yS]
 ·have oJ:i=qs.length:=by omega
  subst oJ
  rw[List.take_length] at oW mU
  rw[K3 oW]
  simp only[nM,g4,g10,g11,g12,dD,List.take_length,gX,VX,Nat.reduceEqDiff,Nat.reduceAdd,Nat.reduceLeDiff,Nat.reduceLT,Nat.reduceSub]
  refine⟨_,⟨rfl,fun _ _ _ _ _ h=>h⟩,by simp[dB,kU,jW],by simp only[dH,List.all_cons,List.all_nil,Bool.and_true];exact EB (fun _=>rfl) _,.ref n qs.length 0 qs.length qs.length,rfl,⟨n,qs.length,qs.length,Nat.le_refl _,by simp,by simp,by simp,mU⟩⟩
def vG (m:List (List Rat)):Option (List (List ByteArray)):=m.mapM oA
theorem rA {n lo:Nat} {args gR:List VV} {F:Nat} {P:Nat→Nat→aA→VV→Prop} {ok:Bool} {H:aA} {K:VV→aA→Prop} (h:FC F gR (QA P ok)) (rH:Au.contains F=true) (hf:args.mapM (PM.fz depth H)=some gR) (hO:wT n H)
  (hP:∀ {lo hi H H' v},P lo hi H v→cJ lo hi H H'→P lo hi H' v) (hk:∀v H',H <+: H'→wT n H'→dB n v=true→P H.length H'.length H' v→K (.dS [v,.sc (.bool ok)]) H'):cM F args lo H K:=by
 refine h.YM rH hf ?_
 rintro r L ⟨v,rfl,hv⟩ hr hL
 have hvo:dB H.length v=true:=by
  simp only[dB,kU,Bool.and_eq_true] at hr
  exact hr.1
 refine hk v _ (List.prefix_append _ _) (hO.pre ?_) (Mh hO.len v hvo) ?_
 ·exact Ad hO.len hL
 ·rw[List.length_append]
  exact hP hv cJ.move
set_option maxHeartbeats 2000000 in
theorem F6 (m:List (List Rat)) (hn:m.length≤1000000) (hb:∀r∈m,r.length≤1000000∧∀q∈r,fS q≤1099511627776):FC 149 [bH (bH bD) m] (QA (CG ((vG m).getD [])) (vG m).isSome):=by
 refine FC.IF ⟨true,false⟩ FY (Nat.le_of_ble_eq_true rfl) fun n => ?_
 have s0:bX n 1 (.ptr (n+1) 0 0 0) (.agg [.tree [] .nil]) (List.replicate n bM.dead++[bM.row 0 [.tree [] .nil] 1 true,.row 0 [.tree [] .nil] 1 true])=some (List.replicate n bM.dead++[bM.row 0 [.tree [] .nil] 1 true,.row 0 [.agg [.tree [] .nil]] 1 true]):=by
  rw[dG (e:=1) (g:=0) (j:=0) (by rw[TB,zF,aV]) (by exact Nat.zero_lt_one) (by omega) rfl rfl,agX]
  rfl
 simp only[BJ,zX,s0,C5,List.length_replicate,List.length_cons,List.length_nil,List.append_assoc,List.cons_append,List.nil_append,rG,gX,VX,Nat.reduceEqDiff,Nat.reduceAdd,Nat.reduceLeDiff,Nat.reduceLT,Nat.reduceSub]
 refine aR (fun(i:Nat) ρ H=>i≤m.length∧wT n H∧(∃x v aY,aF H n 0=some ([.tree [] .nil],1,true)∧aF H (n+1) 0=some ([x],1,true)∧aB x=[v]∧vG (m.take i)=some aY∧LP sV 1 aY (n+2) H.length H v)∧ρ 2 = .ptr n 0 0 0∧ρ 4 = .ptr (n+1) 0 0 0∧ρ 10=bH (bH bD) m∧ρ 11=VI m.length∧ρ 12=VI i) (fun i=>m.length-i) 0
  ⟨Nat.zero_le _,⟨[.row 0 [.tree [] .nil] 1 true,.row 0 [.agg [.tree [] .nil]] 1 true],rfl,rfl⟩,⟨.agg [.tree [] .nil],.tree [] .nil,[],by rw[tU,aV],by rw[TB,zF,aV],rfl,rfl,.inl ⟨rfl,rfl⟩⟩,rfl,rfl,rfl,rfl,rfl⟩ ?_
 rintro i ρ H ⟨hi,hO,⟨x,v,aY,Bx,Wc,hx,EJ,hv⟩,g2,g4,g10,g11,g12⟩
 have Cp:=jA Wc
 by_cases dD:(i:Int)<(m.length:Int)
 ·obtain⟨r,hr⟩:∃r,m[i]? = some r:=⟨_,List.getElem?_eq_getElem (by omega)⟩
  have Tn:=hb r (List.mem_of_getElem? hr)
  have a1:=fun H=>aJ (f:=bH bD) (t := .op) (H:=H) (size:=1) (k := .i64) hr rfl
  have wi:IntKind.i64.wrap ((i:Int)+1)=((i+1:Nat):Int):=wrapN (i+1) (by omega) (by omega)
  simp only[qK,g2,g4,g10,g11,g12,dD,a1,gX,VX,Nat.reduceEqDiff,Nat.reduceAdd,Nat.reduceLeDiff,Nat.reduceLT,Nat.reduceSub]
  refine rA (n:=n) (sS r Tn.1 Tn.2) rfl (Pj (aI (uS _))) hO Kl.bO fun u H2 p2 hO2 _ hu => ?_
  cases ht:oA r with
  |
   none =>
   rw[ht] at hu
   have hu:u = .tree [] .nil:=hu
   subst hu
   have aaU:vG m=none:=mapM_none ht (List.mem_of_getElem? hr)
   rw[aaU]
   have s1:bX n 1 (.ptr n 0 0 0) (.agg [.tree [] .nil]) H2=some (H2.set n (.row 0 [.agg [.tree [] .nil]] 1 true)):=by
    rw[dG (bL p2 Bx) (by exact Nat.zero_lt_one) (Nat.le_refl _) rfl rfl]
    rfl
   have s2:cQ true 1 (.ptr n 0 0 0) (H2.set n (.row 0 [.agg [.tree [] .nil]] 1 true))=some (.agg [.tree [] .nil]):=by
    rw[cG,dE (bL p2 Bx)]
    rfl
   simp only[g2,g4,s1,s2,Option.isSome_none,gX,VX,Nat.reduceEqDiff,Nat.reduceAdd,Nat.reduceLeDiff,Nat.reduceLT,Nat.reduceSub]
   exact⟨_,wA (by rw[List.length_set];have:=p2.length_le;omega),rfl,uJ,.agg [.tree [] .nil],rfl,_,rfl,.inl ⟨rfl,rfl⟩⟩
  |
   some ys =>
   rw[ht] at hu
   obtain⟨b,g,c,k1,k2,rfl,k3,k4⟩:=hu
   ·have eL:∀K,jX false [.slice none 0 0] 1 [(0,.ref b g 0 ys.length c)] K=some (.tree [.ref b g 0 ys.length c] (.cl 1),K):=fun K=>fY rfl rfl rfl
    have eS:∀K,cN 1 (.tree [.ref b g 0 ys.length c] (.cl 1)) K=some [.ref b g 0 ys.length c]:=fun K=>eO rfl rfl
    obtain⟨v',H3,ap,VP,bO,hlen,Q7,wS,_⟩:=(hv.bO (cJ.pre p2)).snoc (jF:=n) (by omega) (by rw[mM EJ,List.length_take];omega) ⟨b,g,c,ys⟩ k1 (by simp only;omega) k3 k4
    have agT:=bO _ _ _ (by omega) (bL p2 Wc)
    have l1:cQ false 1 (.ptr (n+1) 0 0 0) H2=some v:=by
     rw[cG,bL p2 Wc]
     simp[dP,hx]
    have l2:aF H2 (n+1) 0=some ([x],1,true):=bL p2 Wc
    have sT:=VP.fD
    have s1:bX n 1 (.ptr (n+1) 0 0 0) v' H3=some (H3.set (n+1) (.row 0 [v'] 1 true)):=by
     rw[dG agT (by exact Nat.zero_lt_one) (by omega) (by rw[sT.2.1];rfl) (by rw[sT.2.1];simp[sT.1])]
     rfl
    have hO3:=(Q7 n (by omega) hO2).set (b:=n+1) (g:=0) (e:=1) (es:=[v']) (w:=true) (by omega) (by
     rcases VP with⟨rfl,_⟩ | ⟨b',g',VY,q1,q2,rfl,_⟩
     ·rfl
     ·simp[kU,dB];omega)
    simp only[g4,g12,wi,eL,eS,l1,ap,s1,agT,l2,jN,Nat.add_zero,Option.isSome_some,gX,VX,Nat.reduceEqDiff,Nat.reduceAdd,Nat.reduceLeDiff,Nat.reduceLT,Nat.reduceSub]
    refine⟨i+1,by omega,by omega,hO3,⟨v',v',aY++[ys],aL (by omega) (bO _ _ _ (by omega) (bL p2 Bx)),dE agT,sT.2.1,?_,?_⟩,by (repeat' apply And.intro)<;>first | rfl | trivial | assumption⟩
    ·rw[nJ hr]
     exact CH EJ ht
    ·rw[List.length_set]
     exact VP.bO (cJ.set (by omega))
 ·have oJ:i=m.length:=by omega
  subst oJ
  rw[List.take_length] at EJ
  rw[EJ]
  have sT:=hv.fD
  have l1:cQ true 1 (.ptr (n+1) 0 0 0) H=some (.agg [v]):=by
   rw[cG,Wc]
   simp[dP,hx]
  have s1:bX n 1 (.ptr n 0 0 0) (.agg [v]) H=some (H.set n (.row 0 [.agg [v]] 1 true)):=by
   rw[dG Bx (by exact Nat.zero_lt_one) (Nat.le_refl _) rfl (by simp[aB,sT.1])]
   rfl
  have s2:cQ true 1 (.ptr n 0 0 0) (H.set n (.row 0 [.agg [v]] 1 true))=some (.agg [v]):=by
   rw[cG,dE Bx]
   rfl
  simp only[qK,g2,g4,g10,g11,g12,dD,l1,s1,s2,Option.isSome_some,gX,VX,Nat.reduceEqDiff,Nat.reduceAdd,Nat.reduceLeDiff,Nat.reduceLT,Nat.reduceSub]
  have Q7:dB n v=true:=by
   rcases hv with⟨rfl,_⟩ | ⟨b',g',VY,q1,q2,rfl,_⟩
   ·rfl
   ·simp[dB];omega
  obtain⟨L,rfl,hL⟩:=hO
  refine⟨L.set 0 (.row 0 [.agg [v]] 1 true),⟨by simp,fun _ _ _ _ _ h=>by rw[Cd];exact h⟩,by simp[dB,kU,Q7,jW],?_,.agg [v],rfl,v,rfl,?_⟩
  ·have:=(wT.set (n:=n) (b:=n) (g:=0) (e:=1) (es:=[.agg [v]]) (w:=true) ⟨L,rfl,hL⟩ (Nat.le_refl _) (by simp[kU,dB,Q7]))
   rw[Cd] at this
   obtain⟨L',h1,h2⟩:=this
   rw[List.append_cancel_left h1]
   exact h2
  ·rw[←Cd,List.length_set]
   have:=hv.rg.bO (H':=(List.replicate n bM.dead++L).set n (.row 0 [.agg [v]] 1 true)) (cJ.set (by omega))
   rw[C5] at this
   exact this.wide (by omega) (Nat.le_refl _)
end Go.PM
namespace Go.PM
open Go.Lib
section
variable {g:List (List Rat)} {e row:List Rat} {n i:Nat} {st:List Bool}
end
end Go.PM
namespace Go.PM
def oG:aE:=(LS [LO 2 (.new [(.bool false),(.slice none 0 0),(.slice none 0 0)]),LO 3 (.mv LF)] (LS [LM 7 0,LO 8 (.call 89 [(LT 7)]),LM 6 8,LO 9 (LX 6 0),LO 10 (LX 6 1),LO 4 (.new [(.bool false),(.slice none 0 0),(.slice none 0 0)]),LN (.store 3 (LT 4) (LT 9)),LM 5 10] (LS [LO 11 (LK 4),LM 12 5,LM 13 12,LY 13 14 (LK 4),⟨(some 15),(.call 104 [(LT 14)]),(some (13,true)),true,[]⟩,LY 13 16 (.bin .gtr (LT 15) (LI 0)),LO 17 (.pick (LT 13) (LT 16) LF),LN (.store 3 (LT 2) (LT 11)),LM 3 17] .ret)))
def sA:aT:=⟨18,[(.cell 2 true 3),(.tmp 3)],oG⟩
theorem HI:hC 201=some sA:=by kernel_rfl
end Go.PM
namespace Go.PM
def jO:aE:=(LS [LO 13 (.bin .lss (LT 12) (LT 11))] (.seq (.cond (LT 13) .skip (.exit 0)) (.seq (.block 1 (LS [LO 14 (.iaddr 1 (LT 10) (LT 12)),LO 15 (LL 14),LM 6 15] (LS [LM 17 6,LO 18 (.call 201 [(LT 17)]),LM 16 18,LO 19 (LX 16 0),LO 20 (LX 16 1),LO 7 (.new [(.bool false),(.slice none 0 0),(.slice none 0 0)]),LN (.store 3 (LT 7) (LT 19)),LM 8 20] (.seq (LS [LM 21 8,LO 22 (.un .not (LT 21))] (.cond (LT 22) (LS [LO 2 (.mv (.const (.slice none 0 0))),LO 3 (.mv LF)] .ret) .skip)) (.eG [LM 23 4,LO 24 (LK 7),LO 25 (.lit [(.bool false),(.slice none 0 0),(.slice none 0 0)] 1 [(0,(LT 24))]),LO 26 (.app 3 56 (LT 23) (LT 25)),LM 4 26]))))) (.eG [LO 27 (.bin .add (LT 12) (LI 1)),LM 12 27]))))
def zC:aE:=(LS [LO 2 (.mv (.const (.slice none 0 0))),LO 3 (.mv LF)] (LS [LO 9 (.lit [(.bool false),(.slice none 0 0),(.slice none 0 0)] 0 []),LM 4 9] (.seq (LS [LM 10 0,LO 11 (.len (LT 10)),LO 12 (.mv (LI 0))] (.block 0 (.loop jO))) (LS [LM 28 4,LM 2 28,LO 3 (.mv LG)] .ret))))
def Bt:aT:=⟨29,[(.tmp 2),(.tmp 3)],zC⟩
theorem Fz:hC 126=some Bt:=by kernel_rfl
end Go.PM
namespace Go.PM
open Go.Lib
theorem aeA {n k lo hi:Nat} {H:aA} {P:Nat→Nat→aA→VV→Prop} {v:VV} {ok:Bool} (hk:n≤k) (hl:k≤H.length) (hT:Ez n k H) (hv:dB n v=true)
  (wW:∀ {lo hi H H' v},P lo hi H v→cJ lo hi H H'→P lo hi H' v) (N5:∀ {lo hi jF nO:Nat} {H:aA} {v:VV},P lo hi H v→jF≤lo→hi≤nO→P jF nO H v) (hp:P lo hi H v) (eI:k≤lo) (hhi:hi≤H.length) :
  ∃L,AO H (List.replicate n .dead++L)∧dB n (.dS [v,.sc (.bool ok)])=true∧dH n L=true∧QA P ok n (.dS [v,.sc (.bool ok)]) L:=by
 obtain⟨L,k1,k2,k3⟩:=WA hk hl hT
 refine⟨L,k1,by simp[dB,kU,hv,jW],k2,v,rfl,?_⟩
 have hl3:=k1.1
 rw[List.length_append,List.length_replicate] at hl3
 exact N5 (wW hp (H':=List.replicate n bM.dead++L) fun b g x h1 h2 h3=>k3 b g x (by omega) h3) (by omega) (by omega)
theorem CG.wide {aY:List (List ByteArray)}:∀ {lo hi jF nO:Nat} {H:aA} {v:VV},CG aY lo hi H v→jF≤lo→hi≤nO→CG aY jF nO H v:=by
 rintro lo hi jF nO H v ⟨c,h1,h2⟩ hl hh
 exact⟨c,h1,h2.wide hl hh⟩
theorem CG.own {n lo hi:Nat} {H:aA} {v:VV} {aY:List (List ByteArray)} (h:CG aY lo hi H v) (hn:n≤lo):∃c,v = .agg [c]∧aZ c=true∧aB c=[c]∧dB n c=true:=by
 obtain⟨c,rfl,h | ⟨b,g,cc,rs,h1,h2,rfl,h3⟩⟩:=h
 ·obtain⟨rfl,_⟩:=h
  exact⟨_,rfl,rfl,rfl,rfl⟩
 ·exact⟨_,rfl,rfl,rfl,by simp[dB];omega⟩
theorem Hm.wide {s:CE}:∀ {lo hi jF nO:Nat} {H:aA} {v:VV},Hm s lo hi H v→jF≤lo→hi≤nO→Hm s jF nO H v:=by
 rintro lo hi jF nO H v ⟨a,b,c,m1,m2,h1,k1,k2,k3,h2,h3,h4⟩ hl hh
 exact⟨a,b,c,m1,m2,h1,by omega,k2,by omega,h2.wide hl (Nat.le_refl _),h3,h4.wide (Nat.le_refl _) hh⟩
theorem Ez.arX {n k:Nat} {H L:aA} (h:Ez n k H) (hL:dH n L=true):Ez n k (H++L):=by
 intro b g es e w hb hr
 rcases Nat.lt_or_ge b H.length with aU | Cb
 ·rw[List.getElem?_append_left aU] at hr
  exact h b g es e w hb hr
 ·rw[List.getElem?_append_right Cb] at hr
  exact List.all_eq_true.1 hL _ (List.mem_of_getElem? hr)
theorem Ez.start {n:Nat} {H:aA}:Ez n H.length H:=fun b g es e w hb hr=>by
 rw[List.getElem?_eq_none hb] at hr
 cases hr
def M5 (o:Option Rat):VV:=match o with
 | none => .dS [Fa,VB false]
 | some q => .dS [bD q,VB (decide (0<q))]
theorem Wo (o:Option Rat):gA (M5 o)=true:=by
 unfold M5
 split<;>simp[gA,oS,Ew,J0,jW]
theorem HT (x:ByteArray) (hx:x.size≤1000000000):TC 201 [sV x] (M5 (pQ x)):=by
 refine TC.walk ⟨true,false⟩ HI rfl (Nat.le_of_ble_eq_true rfl) rfl (Wo _) ?_
 have e2:=I1 x.data.toList (by rw[Array.length_toList];show x.size≤_;omega)
 rw[←XP] at e2
 cases hp:pQ x with
 |
  none =>
  rw[PC hp] at e2
  simp only[sA,oG,e2,M5,B7,DD,IU,cW,cY,cH,qT,Nat.reduceLeDiff,Nat.reduceLT,Nat.reduceSub,El,mP,pJ,sR,zJ,As,bne_iff_ne,ne_eq,not_false_eq_true,not_true_eq_false,gX,VX,Nat.reduceEqDiff,Nat.reduceAdd,Nat.reduceLeDiff,Nat.reduceLT,Nat.reduceSub]
  exact aI (uC UX rfl)
 |
  some q =>
  rw[O3 hp] at e2
  have e1:=HJ q
  by_cases h:0<q
  ·have h':=K2.2 h
   simp only[sA,oG,e1,e2,M5,h',h,decide_true,aO,uG,vI,cW,cY,cH,qT,Nat.reduceLeDiff,Nat.reduceLT,Nat.reduceSub,El,mP,pJ,sR,zJ,As,bne_iff_ne,ne_eq,not_false_eq_true,not_true_eq_false,gX,VX,Nat.reduceEqDiff,Nat.reduceAdd,Nat.reduceLeDiff,Nat.reduceLT,Nat.reduceSub]
   exact aI (uC (lH _) rfl)
  ·have h':¬0<C6 q:=fun k=>h (K2.1 k)
   simp only[sA,oG,e1,e2,M5,h',h,decide_false,aO,uG,vI,cW,cY,cH,qT,Nat.reduceLeDiff,Nat.reduceLT,Nat.reduceSub,El,mP,pJ,sR,zJ,As,bne_iff_ne,ne_eq,not_false_eq_true,not_true_eq_false,gX,VX,Nat.reduceEqDiff,Nat.reduceAdd,Nat.reduceLeDiff,Nat.reduceLT,Nat.reduceSub]
   exact aI (uC (lH _) rfl)
def F9 (x:ByteArray):Option Rat:=match pQ x with
 | some q=>if 0<q then some q else none
 | none=>none
def Gu (xs:List ByteArray):Option (List Rat):=xs.mapM F9
theorem K5 {x:ByteArray} {q:Rat} (h:F9 x=some q):pQ x=some q∧0<q:=by
 unfold F9 at h
 split at h
 ·rename_i p hp
  split at h
  ·rename_i h0
   cases h
   exact⟨hp,h0⟩
  ·cases h
 ·cases h
theorem aaW {x:ByteArray} {q:Rat} (h:pQ x=some q):fS q≤665:=by
 have h1:uX [x]=some [q]:=by
  unfold uX
  rw[if_pos (by simp),List.mapM_cons,h]
  rfl
 exact(JK h1).1 q List.mem_cons_self
theorem F2 {xs:List ByteArray} {qs:List Rat} (h:Gu xs=some qs):qs.length=xs.length∧∀q∈qs,fS q≤665∧0<q :=
 ⟨mM h,fun q hq=>mapM_mem (P:=fun q=>fS q≤665∧0<q) (fun x q hx=>⟨aaW (K5 hx).1,(K5 hx).2⟩) h q hq⟩
set_option maxHeartbeats 1000000 in
theorem Gn (xs:List ByteArray) (hn:xs.length≤1000000000) (hs:∀s∈xs,s.size≤1000000000):TC 126 [fC xs] (Qc (Gu xs)):=by
 refine TC.walk ⟨true,false⟩ Fz rfl (Nat.le_of_ble_eq_true rfl) (by simp[aM,gF]) (VG _) ?_
 unfold Gu
 have e0:=fun H=>iS (H:=H) (lr:=false) (z:=[.bool false,.slice none 0 0,.slice none 0 0]) rfl
 simp only[Bt,zC,e0,gX,VX,Nat.reduceEqDiff,Nat.reduceAdd,Nat.reduceLeDiff,Nat.reduceLT,Nat.reduceSub]
 refine Jc (fun(s:Nat×List Rat) ρ H=>s.1≤xs.length∧(xs.take s.1).mapM F9=some s.2∧H=[.row s.1 (s.2.map bD) 3 true]∧ρ 4 = .ref 0 s.1 0 s.1 s.1∧ρ 10=fC xs∧ρ 11=VI xs.length∧ρ 12=VI s.1) (fun s=>xs.length-s.1) (0,[]) ⟨Nat.zero_le _,rfl,rfl,rfl,rfl,rfl,rfl⟩ ?_
 rintro⟨i,out⟩ ρ H ⟨hi,Kd,rfl,g4,g10,g11,g12⟩
 simp only at hi Kd g4 g12
 have jE:out.length=i:=by rw[mM Kd,List.length_take];omega
 by_cases dD:(i:Int)<(xs.length:Int)
 ·obtain⟨x,hx⟩:∃x,xs[i]? = some x:=⟨_,List.getElem?_eq_getElem (by omega)⟩
  have hxm:=List.mem_of_getElem? hx
  have e1:=fun H=>aJ (f:=sV) (t := .op) (H:=H) (size:=1) (k := .i64) hx rfl
  have wi:IntKind.i64.wrap ((i:Int)+1)=((i+1:Nat):Int):=wrapN (i+1) (by omega) (by omega)
  have e2:=HT x (hs x hxm)
  cases hp:pQ x with
  |
   none =>
   rw[hp] at e2
   have hq:F9 x=none:=by unfold F9;rw[hp]
   rw[mapM_none hq hxm]
   simp only[M5] at e2
   simp only[jO,g4,g10,g11,g12,dD,e1,e2,B7,DD,IU,cW,cY,cH,qT,Nat.reduceLeDiff,Nat.reduceLT,Nat.reduceSub,El,mP,pJ,sR,zJ,As,bne_iff_ne,ne_eq,not_false_eq_true,not_true_eq_false,gX,VX,Nat.reduceEqDiff,Nat.reduceAdd,Nat.reduceLeDiff,Nat.reduceLT,Nat.reduceSub]
   exact Nq
  |
   some q =>
   rw[hp] at e2
   by_cases h0:0<q
   ·simp only[M5,decide_eq_true h0] at e2
    have hq:F9 x=some q:=by unfold F9;rw[hp];exact if_pos h0
    have eL:∀H,jX false [.bool false,.slice none 0 0,.slice none 0 0] 1 [(0,bD q)] H=some (.tree [bD q] (.cl 3),H):=fun H=>fY rfl rfl rfl
    have eS:∀H,cN 3 (.tree [bD q] (.cl 3)) H=some [bD q]:=fun H=>eO rfl rfl
    have eP:eK 0 3 56 (.ref 0 i 0 i i) [bD q] [.row i (out.map bD) 3 true,.row 0 [bD q] 3 true]=some (.ref 0 (i+1) 0 (i+1) (i+1),[.row (i+1) ((out++[q]).map bD) 3 true,.row 0 [bD q] 3 true]):=by
     rw[iI (f:=bD) (xs:=out) (by rw[aV]) jE.symm (Nat.le_refl _) (by decide) (by decide) (by omega),List.set_cons_zero]
    simp only[jO,g4,g10,g11,g12,dD,e1,e2,eL,eS,eP,wi,aO,uG,vI,cW,cY,cH,qT,Nat.reduceLeDiff,Nat.reduceLT,Nat.reduceSub,El,mP,pJ,sR,zJ,As,bne_iff_ne,ne_eq,not_false_eq_true,not_true_eq_false,gX,VX,Nat.reduceEqDiff,Nat.reduceAdd,Nat.reduceLeDiff,Nat.reduceLT,Nat.reduceSub]
    refine⟨(i+1,out++[q]),by simp only;omega,?_,by simp only;omega,by simp only[nJ hx];exact CH Kd hq,rfl,?_⟩
    ·rw[zR (kP _ (eH lH)),Gd]
    ·simp only[rW,g10,g11,yS (gF _),Gk (Nat.lt_succ_self 0),VX,Nat.reduceEqDiff,Nat.reduceAdd,List.take_zero,iL,List.all_nil,List.length_nil,rW,I2,yS]
   ·simp only[M5,decide_eq_false h0] at e2
    have hq:F9 x=none:=by unfold F9;rw[hp];exact if_neg h0
    rw[mapM_none hq hxm]
    simp only[jO,g4,g10,g11,g12,dD,e1,e2,aO,uG,vI,cW,cY,cH,qT,Nat.reduceLeDiff,Nat.reduceLT,Nat.reduceSub,El,mP,pJ,sR,zJ,As,bne_iff_ne,ne_eq,not_false_eq_true,not_true_eq_false,gX,VX,Nat.reduceEqDiff,Nat.reduceAdd,Nat.reduceLeDiff,Nat.reduceLT,Nat.reduceSub]
    exact Nq
 ·have oJ:i=xs.length:=by omega
  subst oJ
  rw[List.take_length] at Kd
  rw[Kd]
  simp only[jO,g4,g10,g11,g12,dD,gX,VX,Nat.reduceEqDiff,Nat.reduceAdd,Nat.reduceLeDiff,Nat.reduceLT,Nat.reduceSub]
  refine bK (d:=6) ?_ (aH (v:=VB true) rfl)
  have:=Ou (d:=5) (w:=true) (f:=bD) (e:=3) (b:=0) (g:=xs.length) (c:=xs.length) (xs:=out) (H:=[.row xs.length (out.map bD) 3 true]) lH (by rw[aV]) (by omega)
  rw[jE] at this
  exact this
def Nr (f:Rat→VV) (b:List Rat) (g:List (List Rat)) (e:List Rat):VV := .agg [bH f b,bH (bH f) g,bH f e]
def sF:CE:=⟨[],[],[]⟩
def iD (b:List Rat) (g:List (List Rat)) (e:List Rat):Option CE:=match oA b,vG g,oA e with
 | some x,some y,some z=>if b.length≤6 then some ⟨x,y,z⟩ else none
 | _,_,_=>none
theorem Kl.acF {α:Type} {f:α→VV} {e lo hi:Nat} {H:aA} {v:VV} {o:Option (List α)} (h:Kl f e o lo hi H v):aZ v=true∧aB v=[v]∧isAny v=false:=by
 cases o with
 |
  none =>
  have h:v = .tree [] .nil:=h
  subst h
  exact⟨rfl,rfl,rfl⟩
 |
  some ys =>
  obtain⟨b,g,c,h1,h2,rfl,h3⟩:=h
  exact⟨rfl,rfl,rfl⟩
theorem Qa {lo hi:Nat} {H:aA} (h:lo≤hi):Hm sF lo hi H (.agg [.tree [] .nil,.tree [] .nil,.tree [] .nil]) :=
 ⟨_,_,_,lo,lo,rfl,Nat.le_refl _,Nat.le_refl _,h,.inl ⟨rfl,rfl⟩,.inl ⟨rfl,rfl⟩,.inl ⟨rfl,rfl⟩⟩
set_option maxHeartbeats 4000000 in
theorem D3 (b:List Rat) (g:List (List Rat)) (e:List Rat) (hb:b.length≤1000000∧∀q∈b,fS q≤1099511627776) (hg:g.length≤1000000∧∀r∈g,r.length≤1000000∧∀q∈r,fS q≤1099511627776) (he:e.length≤1000000∧∀q∈e,fS q≤1099511627776) :
  FC 129 [Nr bD b g e] (QA (Hm ((iD b g e).getD sF)) (iD b g e).isSome):=by
 refine FC.IF ⟨true,false⟩ Dz (Nat.le_of_ble_eq_true rfl) fun n => ?_
 simp only[zG,vD,Nr,gP,List.getElem?_cons_zero,List.getElem?_cons_succ,C5,List.length_replicate,gX,VX,Nat.reduceEqDiff,Nat.reduceAdd,Nat.reduceLeDiff,Nat.reduceLT,Nat.reduceSub]
 generalize QB:List.replicate n bM.dead++[bM.row 0 [.agg [.tree [] .nil,.tree [] .nil,.tree [] .nil]] 3 true]=H0
 have hO0:wT n H0:=⟨[.row 0 [.agg [.tree [] .nil,.tree [] .nil,.tree [] .nil]] 3 true],QB.symm,rfl⟩
 have Bx:aF H0 n 0=some ([.agg [.tree [] .nil,.tree [] .nil,.tree [] .nil]],3,true):=by rw[←QB,tU,aV]
 have wR:H0.length=n+1:=by rw[←QB];simp
 refine rA (n:=n) (sS b hb.1 hb.2) rfl (Pj (aI (uS _))) hO0 Kl.bO fun u H1 p1 hO1 hou hu => ?_
 simp only[gP,List.getElem?_cons_zero,List.getElem?_cons_succ,gX,VX,Nat.reduceEqDiff,Nat.reduceAdd,Nat.reduceLeDiff,Nat.reduceLT,Nat.reduceSub]
 refine rA (n:=n) (F6 g hg.1 hg.2) rfl (Pj (aI (WN _))) hO1 CG.bO fun w H2 p2 hO2 how hw => ?_
 obtain⟨c,rfl,hc⟩:=hw
 have NG:aZ c=true∧aB c=[c]∧isAny c=false:=by
  rcases hc with⟨rfl,_⟩ | ⟨b,g,cc,rs,h1,h2,rfl,h3⟩<;>exact⟨rfl,rfl,rfl⟩
 have hoc:dB n c=true:=by
  simp only[dB,kU,Bool.and_eq_true] at how
  exact how.1
 have s1:bX n 1 (.ptr H2.length 0 0 0) (.agg [c]) (H2++[bM.row 0 [.tree [] .nil] 1 true])=some (H2++[bM.row 0 [.agg [c]] 1 true]):=by
  rw[dG (e:=1) (g:=0) (j:=0) dZ (by exact Nat.zero_lt_one) hO2.len rfl (by simp[aB,NG.1]),zU]
  rfl
 simp only[s1,gP,rG,List.getElem?_cons_zero,List.getElem?_cons_succ,gX,VX,Nat.reduceEqDiff,Nat.reduceAdd,Nat.reduceLeDiff,Nat.reduceLT,Nat.reduceSub]
 have apU:wT n (H2++[bM.row 0 [.agg [c]] 1 true]):=hO2.app (by simp[kU,dB,hoc])
 generalize hH2:H2++[.row 0 [.agg [c]] 1 true]=H2' at *
 have TJ:H2 <+: H2':=⟨_,hH2⟩
 have hr6:aF H2' H2.length 0=some ([.agg [c]],1,true):=by rw[←hH2];exact dZ
 refine rA (n:=n) (sS e he.1 he.2) rfl (Pj (aI (uS _))) apU Kl.bO fun z H3 p3 hO3 hoz hz => ?_
 have apA:H0 <+: H3:=p1.trans (p2.trans (TJ.trans p3))
 have Qm:=bL apA Bx
 have amB:=bL p3 hr6
 have aqV:=p1.length_le
 have asZ:=p2.length_le
 have arJ:=p3.length_le
 have azM:=TJ.length_le
 have hcu:=hu.acF
 have hcz:=hz.acF
 have fin:∀(a1 a2 a3:VV),aZ a1=true→aZ a2=true→aZ a3=true →
   bX n 3 (.ptr n 0 0 0) (.agg [a1,a2,a3]) H3=some (H3.set n (.row 0 [.agg [a1,a2,a3]] 3 true))∧cQ true 3 (.ptr n 0 0 0) (H3.set n (.row 0 [.agg [a1,a2,a3]] 3 true))=some (.agg [a1,a2,a3]):=fun a1 a2 a3 h1 h2 h3=>by
  constructor
  ·rw[dG Qm (by exact Nat.zero_lt_one) (Nat.le_refl _) rfl (by simp[aB,h1,h2,h3])]
   rfl
  ·rw[cG,dE Qm]
   rfl
 obtain⟨f1,f2⟩:=fin (.tree [] .nil) (.tree [] .nil) (.tree [] .nil) rfl rfl rfl
 have ld6:cQ false 1 (.ptr H2.length 0 0 0) H3=some c:=by
  rw[cG,amB]
  rfl
 have bad:iD b g e=none→∃L,AO (H3.set n (.row 0 [.agg [.tree [] .nil,.tree [] .nil,.tree [] .nil]] 3 true)) (List.replicate n .dead++L)∧dB n (.dS [.agg [.tree [] .nil,.tree [] .nil,.tree [] .nil],.sc (.bool false)])=true∧dH n L=true∧QA (Hm ((iD b g e).getD sF)) (iD b g e).isSome n (.dS [.agg [.tree [] .nil,.tree [] .nil,.tree [] .nil],.sc (.bool false)]) L:=fun L5=>by
  rw[L5]
  exact⟨_,wA (by rw[List.length_set];omega),rfl,uJ,_,rfl,Qa (Nat.le_add_right _ _)⟩
 cases oC:oA b with
 |
  none =>
  have L5:iD b g e=none:=by unfold iD;rw[oC]
  have bad:=bad L5
  cases vG g<;>cases oA e <;>
  ·simp only[gP,List.getElem?_cons_zero,List.getElem?_cons_succ,f1,f2,Option.isSome_none,Option.isSome_some,gX,VX,Nat.reduceEqDiff,Nat.reduceAdd,Nat.reduceLeDiff,Nat.reduceLT,Nat.reduceSub]
   exact bad
 |
  some x =>
  cases P4:vG g with
  |
   none =>
   have L5:iD b g e=none:=by unfold iD;rw[oC,P4]
   have bad:=bad L5
   cases oA e <;>
   ·simp only[gP,List.getElem?_cons_zero,List.getElem?_cons_succ,f1,f2,Option.isSome_none,Option.isSome_some,gX,VX,Nat.reduceEqDiff,Nat.reduceAdd,Nat.reduceLeDiff,Nat.reduceLT,Nat.reduceSub]
    exact bad
  |
   some y =>
   cases YH:oA e with
   |
    none =>
    have L5:iD b g e=none:=by unfold iD;rw[oC,P4,YH]
    have bad:=bad L5
    simp only[gP,List.getElem?_cons_zero,List.getElem?_cons_succ,f1,f2,Option.isSome_none,Option.isSome_some,gX,VX,Nat.reduceEqDiff,Nat.reduceAdd,Nat.reduceLeDiff,Nat.reduceLT,Nat.reduceSub]
    exact bad
   |
    some z' =>
    by_cases h6:(6:Int)<(b.length:Int)
    ·have L5:iD b g e=none:=by unfold iD;rw[oC,P4,YH];exact if_neg (by omega)
     have bad:=bad L5
     simp only[gP,List.getElem?_cons_zero,List.getElem?_cons_succ,f1,f2,h6,Option.isSome_none,Option.isSome_some,gX,VX,Nat.reduceEqDiff,Nat.reduceAdd,Nat.reduceLeDiff,Nat.reduceLT,Nat.reduceSub]
     exact bad
    ·have aeS:iD b g e=some ⟨x,y,z'⟩:=by unfold iD;rw[oC,P4,YH];exact if_pos (by omega)
     rw[aeS]
     rw[oC] at hu
     rw[P4] at hc
     rw[YH] at hz
     obtain⟨f3,f4⟩:=fin u c z hcu.1 NG.1 hcz.1
     simp only[gP,List.getElem?_cons_zero,List.getElem?_cons_succ,f3,f4,h6,ld6,amB,hcu,NG,hcz,jN,Nat.add_zero,Option.isSome_some,qT,Nat.reduceLeDiff,Nat.reduceLT,Nat.reduceSub,gX,VX,Nat.reduceEqDiff,Nat.reduceAdd,Nat.reduceLeDiff,Nat.reduceLT,Nat.reduceSub]
     have hO4:wT n (H3.set n (.row 0 [.agg [u,c,z]] 3 true)):=hO3.set (Nat.le_refl _) (by simp[kU,dB,hou,hoc,hoz])
     obtain⟨L,Xd,hL2⟩:=hO4
     have hlen:n+L.length=H3.length:=by
      have:=congrArg List.length Xd
      rw[List.length_set,List.length_append,List.length_replicate] at this
      exact this.symm
     refine⟨L,⟨by rw[Xd],fun _ _ _ _ _ h=>by rw[Xd];exact h⟩,by simp[dB,kU,hou,hoc,hoz,jW],hL2,_,rfl,u,c,z,H1.length,H2'.length,rfl,by omega,by omega,by omega,?_,?_,?_⟩
     ·rw[←Xd]
      refine(Kl.lg (Kl.bO hu ?_)).wide (by omega) (Nat.le_refl _)
      exact(cJ.pre (p2.trans (TJ.trans p3))).trans (cJ.set (by omega))
     ·rw[←Xd]
      refine((hc.bO ?_).wide (Nat.le_refl _) (by omega))
      exact(cJ.pre (TJ.trans p3)).trans (cJ.set (by omega))
     ·rw[←Xd,hlen]
      refine(Kl.lg (Kl.bO hz ?_))
      exact cJ.set (by omega)
end Go.PM
namespace Go.PM
open Go.Lib
theorem YU (d:Nat) (h:d≤9223372036854775807):TC 235 [VI (d:Int)] (aQ (decDigits d)):=by
 have:=KI (d:Int) (by omega) (by omega)
 rw[if_neg (by omega),List.nil_append,Int.natAbs_natCast] at this
 exact this
theorem Xq {n i:Nat} (hi:i+1=(aC 1000000000 n).length):n / 1000000000^i=n / 1000000000^i % 1000000000:=by
 have h1:=UT (b:=1000000000) (by decide) n (i+1)
 rw[List.drop_of_length_le (by omega)] at h1
 have h2:=(kD (b:=1000000000) (by decide)).1 h1.symm
 rw[Al] at h2
 rcases Nat.div_eq_zero_iff.1 h2 with h | h
 ·exact absurd h (by decide)
 ·exact(Nat.mod_eq_of_lt h).symm
theorem GR (l:List UInt8) (a b:Nat):(⟨l.toArray⟩:ByteArray).extract a b=⟨((l.drop a).take (b-a)).toArray⟩:=by
 rw[ByteArray.ext_iff,ByteArray.data_extract]
 simp[List.extract_toArray,List.extract_eq_take_drop]
theorem XC (l:List UInt8) {a b:Nat} (h:a≤b) (hb:b≤l.length):sE (aQ l) (some (VI (a:Int))) (some (VI (b:Int)))=some (aQ ((l.drop a).take (b-a))):=by
 have hs:(⟨l.toArray⟩:ByteArray).size=l.length:=by simp[ByteArray.size]
 have e1:(0:Int)≤b∧(b:Int)≤(l.length:Int):=by omega
 have e2:(0:Int)≤a∧(a:Int)≤(b:Int):=by omega
 simp only[sE,D5,xJ,hs,eA,e1,e2,and_self,if_true,Int.toNat_natCast,GR]
theorem KT (l:List UInt8) {a:Nat} (h:a≤l.length):sE (aQ l) (some (VI (a:Int))) none=some (aQ (l.drop a)):=by
 have hs:(⟨l.toArray⟩:ByteArray).size=l.length:=by simp[ByteArray.size]
 have e2:(0:Int)≤a∧(a:Int)≤(l.length:Int):=by omega
 simp only[sE,D5,xJ,hs,eA,e2,and_self,if_true,Int.toNat_natCast,GR]
 rw[List.take_of_length_le (by simp)]
theorem amX (l:List UInt8) (h:1≤l.length):sE (aQ l) (some (VI 1)) none=some (aQ (l.drop 1)):=KT l h
theorem UI {a:Nat} (h:a<1000000000):IntKind.i64.wrap ((a:Int)+1000000000)=((a+1000000000:Nat):Int):=wrapN _ (by omega) (by omega)
theorem lR (n:Nat) (hn:bl n≤2199023255552):TC 212 [cK n] (aQ (decDigits n)):=by
 refine TC.walk ⟨true,false⟩ Ey rfl (Nat.le_of_ble_eq_true rfl) (by simp[aM,cT]) rfl ?_
 by_cases h0:n=0
 ·subst h0
  have hl:(((aC 1000000000 0).length:Nat):Int)=0:=by rw[bS];rfl
  simp only[tC,pO,eT,hl,VX,Nat.reduceEqDiff,Nat.reduceAdd]
  rw[gV (by decide)]
  exact aI rfl
 have hl:¬(((aC 1000000000 n).length:Nat):Int)=0:=by have:=(Fq (n:=n)).2 h0;omega
 obtain⟨L,hL⟩:∃L,(aC 1000000000 n).length=L+1:=⟨(aC 1000000000 n).length-1,by omega⟩
 have Ce:=Vr (n:=n) (by omega)
 have hlT:=abY n
 have hdl:=yT n
 have w1:IntKind.i64.wrap (((L+1:Nat):Int)-1)=(L:Int):=wrapN _ (by omega) (by omega)
 have w2:IntKind.i64.wrap (((L+1:Nat):Int)-2)=(L:Int)-1:=by rw[wrap64 (by omega) (by omega)];omega
 have at':∀i,i≤L→bJ 1 (cK n) (VI (i:Int)) []=some (.dA (tV (n / 1000000000^i % 1000000000)) 0):=fun i hi=>aJ (f:=tV) (t := .op) (H:=[]) (size:=1) (k := .i64) (PT (b:=1000000000) (by decide) (n:=n) (i:=i) (by omega)) rfl
 have eL:=at' L (Nat.le_refl _)
 have W2:=Xq (n:=n) (i:=L) (by omega)
 rw[←W2] at eL
 have NP:n / 1000000000^L≠0:=(Ig (b:=1000000000) (by decide)).1 (by omega)
 have hqT:n / 1000000000^L<1000000000:=by rw[W2];exact Nat.mod_lt _ (by decide)
 have c1:=YU (n / 1000000000^L) (by omega)
 rw[hL] at hl
 simp only[tC,pO,eT,hL,hl,w1,w2,eL,c1,VX,Nat.reduceEqDiff,Nat.reduceAdd]
 refine aR (fun(j:Nat) ρ H=>j≤L∧H=[]∧ρ 0=cK n∧ρ 3=aQ (decDigits (n / 1000000000^j))∧ρ 4=VI ((j:Int)-1)) (fun j=>j) L ⟨Nat.le_refl _,rfl,rfl,rfl,rfl⟩ ?_
 rintro j ρ H ⟨hj,rfl,g0,g3,g4⟩
 by_cases hz:(0:Int)≤(j:Int)-1
 ·obtain⟨i,rfl⟩:∃i,j=i+1:=⟨j-1,by omega⟩
  have NI:((i+1:Nat):Int)-1=(i:Int):=by omega
  rw[NI] at g4 hz
  have e1:=at' i (by omega)
  have hm:=Nat.mod_lt (n / 1000000000^i) (show 0<1000000000 by decide)
  have hq1:n / 1000000000^(i+1)≠0:=(Ig (b:=1000000000) (by decide)).1 (by omega)
  have hdm:=Nat.mod_add_div (n / 1000000000^i) 1000000000
  rw[←Al] at hdm
  have hch:=Gj (Nat.pos_of_ne_zero hq1) hm
  have hle:n / 1000000000^i≤n:=Nat.div_le_self _ _
  have YX:=yT (n / 1000000000^i)
  have hbi:=Cg hle
  rw[show n / 1000000000^(i+1)*1000000000+n / 1000000000^i % 1000000000=n / 1000000000^i by omega] at hch
  generalize hAA:n / 1000000000^i=A at *
  generalize n / 1000000000^(i+1)=B at *
  have w4:IntKind.i64.wrap ((i:Int)-1)=(i:Int)-1:=wrap64 (by omega) (by omega)
  have c2:=YU (A % 1000000000+1000000000) (by omega)
  rw[ZS hm] at c2
  have e2:=amX (d10 1::Be 9 (A % 1000000000)) (by simp)
  rw[List.drop_succ_cons,List.drop_zero] at e2
  have hlen:=congrArg List.length hch
  rw[List.length_append] at hlen
  have a1:=oN (decDigits B) (Be 9 (A % 1000000000)) (by omega)
  rw[←hch] at a1
  have arU:i≤L:=by omega
  have hmu:i<i+1:=by omega
  have w3:=UI hm
  simp only[pE,g0,g3,g4,hz,e1,w3,w4,c2,e2,a1,VX,Nat.reduceEqDiff,Nat.reduceAdd]
  refine⟨i,hmu,arU,?_⟩
  rw[hAA]
  exact⟨rfl,rfl⟩
 ·have R9:j=0:=by omega
  subst R9
  rw[Nat.pow_zero,Nat.div_one] at g3
  simp only[pE,g0,g3,g4,hz,VX,Nat.reduceEqDiff,Nat.reduceAdd]
  exact aI rfl
theorem IC (q:Rat) (hk:fS q≤1099511627776):TC 176 [bU q] (VB (tM q)):=by
 refine TC.walk ⟨true,false⟩ JJ rfl (Nat.le_of_ble_eq_true rfl) (by simp[aM,uF]) rfl ?_
 have la:=Rp hk
 have lb:=Rb hk
 have t1:=lR q.num.natAbs (by omega)
 have t2:=lR q.den (by omega)
 have hf:tM q=(decide (((decDigits q.num.natAbs).length:Int)≤200)&&decide (((decDigits q.den).length:Int)≤200)):=by
  unfold tM
  congr 1<;>exact decide_eq_decide.2 (by omega)
 rw[hf]
 by_cases hl:((decDigits q.num.natAbs).length:Int)≤200
 ·simp only[Aw,wL,t1,t2,hl,bC,fU,vS,zP,zB,bF,qT,Nat.reduceLeDiff,Nat.reduceLT,Nat.reduceSub,VX,Nat.reduceEqDiff,Nat.reduceAdd]
  exact aI rfl
 ·simp only[Aw,wL,t1,t2,hl,bC,fU,vS,zP,zB,bF,qT,Nat.reduceLeDiff,Nat.reduceLT,Nat.reduceSub,VX,Nat.reduceEqDiff,Nat.reduceAdd]
  exact aI rfl
theorem I3 (q:Rat) (hk:fS q≤1099511627776):TC 163 [bU q] (aQ (C7 q)):=by
 refine TC.walk ⟨true,false⟩ IA rfl (Nat.le_of_ble_eq_true rfl) (by simp[aM,uF]) rfl ?_
 have la:=Rp hk
 have lb:=Rb hk
 have t1:=lR q.num.natAbs (by omega)
 have t2:=lR q.den (by omega)
 have d1:=yT q.num.natAbs
 have d2:=yT q.den
 have c1:∀lo H K,_:=fun lo H K=>ME (n:=q.den) (lo:=lo) (H:=H) (K:=K) (Nat.le_of_lt (Vr (by omega)))
 have a1:cV .add (.string ⟨#[45]⟩) (.string ⟨(decDigits q.num.natAbs).toArray⟩)=some (.string ⟨(45::decDigits q.num.natAbs).toArray⟩):=oN [45] _ (by simp only[List.length_cons,List.length_nil];omega)
 have a2:cV .add (.string ⟨#[47]⟩) (.string ⟨(decDigits q.den).toArray⟩)=some (.string ⟨(47::decDigits q.den).toArray⟩):=oN [47] (decDigits q.den) (by simp only[List.length_cons,List.length_nil];omega)
 have a3:=oN (45::decDigits q.num.natAbs) (47::decDigits q.den) (by simp only[List.length_cons];omega)
 have a4:=oN (decDigits q.num.natAbs) (47::decDigits q.den) (by simp only[List.length_cons];omega)
 have hs:C7 q=(if q.num<0 then (45::decDigits q.num.natAbs) else decDigits q.num.natAbs)++(if q.den=1 then [] else 47::decDigits q.den):=by
  unfold C7
  by_cases hn:q.num<0
  ·rw[if_pos hn,if_pos hn];rfl
  ·rw[if_neg hn,if_neg hn];rfl
 rw[hs]
 by_cases hd:lF q.den 1=0
 ·rw[if_pos (L6.1 hd),List.append_nil]
  by_cases hn:q.num<0
  all_goals
   simp only[AA,uN,t1,t2,a1,a2,a3,a4,c1,hd,hn,fW,fU,vS,zP,zB,bF,qT,Nat.reduceLeDiff,Nat.reduceLT,Nat.reduceSub,VX,Nat.reduceEqDiff,Nat.reduceAdd]
   exact aI rfl
 ·rw[if_neg (mt L6.2 hd)]
  by_cases hn:q.num<0
  all_goals
   simp only[AA,uN,t1,t2,a1,a2,a3,a4,c1,hd,hn,fW,fU,vS,zP,zB,bF,qT,Nat.reduceLeDiff,Nat.reduceLT,Nat.reduceSub,VX,Nat.reduceEqDiff,Nat.reduceAdd]
   exact aI rfl
theorem JH (q:Rat) (hk:fS q≤1099511627776):TC 93 [bU q] (OI q):=by
 refine TC.walk ⟨true,false⟩ JN rfl (Nat.le_of_ble_eq_true rfl) (by simp[aM,uF]) (VA q) ?_
 have t1:=IC q hk
 have t2:=I3 q hk
 unfold OI
 by_cases h:tM q=true
 ·rw[h] at t1
  rw[if_pos h]
  simp only[AD,vU,t1,t2,fU,oF,vB,bF,qT,Nat.reduceLeDiff,Nat.reduceLT,Nat.reduceSub,VX,Nat.reduceEqDiff,Nat.reduceAdd]
  exact aI rfl
 ·have h':tM q=false:=by simpa using h
  rw[h'] at t1
  rw[if_neg h]
  simp only[AD,vU,t1,fU,oF,vB,bF,qT,Nat.reduceLeDiff,Nat.reduceLT,Nat.reduceSub,VX,Nat.reduceEqDiff,Nat.reduceAdd]
  exact aI rfl
end Go.PM
namespace Go.PM
open Go.Lib
def gD (c:UInt8):List UInt8→List (List UInt8)
 | []=>[[]]
 |
  x::r=>if x=c then []::gD c r else match gD c r with
  | []=>[[x]]
  | a::t=>(x::a)::t
theorem Jn {c:UInt8} {r:List UInt8}:∀ {a:List UInt8},c∉a→gD c (a++c::r)=a::gD c r:=by
 intro a
 induction a with
 | nil=>intro _;rw[List.nil_append,gD,if_pos rfl]
 |
  cons x a ih =>
  intro h
  rw[List.mem_cons,not_or] at h
  rw[List.cons_append,gD,if_neg (fun he=>h.1 he.symm),ih h.2]
theorem DB {c:UInt8}:∀ {a:List UInt8},c∉a→gD c a=[a]:=by
 intro a
 induction a with
 | nil=>intro _;rfl
 |
  cons x a ih =>
  intro h
  rw[List.mem_cons,not_or] at h
  rw[gD,if_neg (fun he=>h.1 he.symm),ih h.2]
theorem Q1 {c:UInt8} (l:List UInt8):gD c l≠[]:=by
 cases l with
 | nil=>simp[gD]
 |
  cons x r =>
  rw[gD]
  split
  ·simp
  ·split<;>simp
theorem Pn {c:UInt8} {l:List UInt8} (h:(kL c l).2=none):gD c l=[l]:=DB (yU h).2.2
theorem G3 {c:UInt8} {l r:List UInt8} (h:(kL c l).2=some r):gD c l=(kL c l).1::gD c r:=by
 obtain⟨_,h2,h3⟩:=Gl h
 have:=Jn (r:=r) h3
 rw[←h2] at this
 exact this
theorem N6 {c:UInt8} {l:List UInt8} (h:c∈l):2≤(gD c l).length:=by
 cases hc:(kL c l).2 with
 | none=>exact absurd h (yU hc).2.2
 |
  some r =>
  rw[G3 hc,List.length_cons]
  have:=List.length_pos_iff.2 (Q1 (c:=c) r)
  omega
theorem UJ {l:List UInt8} {i:Nat} (h:i<l.length):(l.take (i+1)).all gN=((l.take i).all gN&&gN (l.getD i 0)):=by
 rw[List.take_add_one,List.all_append]
 have:l[i]? = some (l.getD i 0):=by rw[List.getElem?_eq_getElem h,List.getD_eq_getElem?_getD,List.getElem?_eq_getElem h];rfl
 rw[this]
 simp
set_option maxHeartbeats 1000000 in
theorem mY (l:List UInt8) (hl:l.length≤1000000000000):TC 223 [aQ l] (VB (gI l)):=by
 refine TC.walk ⟨true,false⟩ Gw rfl (Nat.le_of_ble_eq_true rfl) rfl rfl ?_
 simp only[BT,zL,VX,Nat.reduceEqDiff,Nat.reduceAdd]
 refine aR (fun(i:Nat) ρ H=>i≤l.length∧H=[]∧(l.take i).all gN=true∧ρ 0=aQ l∧ρ 3=VI i) (fun i=>l.length-i) 0 ⟨Nat.zero_le _,rfl,rfl,rfl,rfl⟩ ?_
 rintro i ρ H ⟨hi,rfl,hd,g0,g3⟩
 by_cases dD:(i:Int)<(l.length:Int)
 ·have Rn:i<l.length:=by omega
  have e1:=BD l Rn
  have wi:IntKind.i64.wrap ((i:Int)+1)=((i+1:Nat):Int):=wrapN (i+1) (by omega) (by omega)
  have ht:=UJ Rn
  rw[hd,Bool.true_and] at ht
  have RA:gN (l.getD i 0)=(decide (48≤(l.getD i 0).toNat)&&decide ((l.getD i 0).toNat≤57)):=rfl
  have nF:gN (l.getD i 0)=false→gI l=false:=by
   intro h
   rw[h] at ht
   have:l.all gN=false:=by rw[←List.take_append_drop (i+1) l,List.all_append,ht,Bool.false_and]
   unfold gI
   rw[this]
   rfl
  generalize (l.getD i 0).toNat=c at *
  by_cases q1:(c:Int)<48
  ·rw[nF (by rw[RA,decide_eq_false (by omega)];rfl)]
   simp only[dN,g0,g3,bC,dD,e1,q1,VX,Nat.reduceEqDiff,Nat.reduceAdd]
   exact aI rfl
  ·by_cases q2:(57:Int)<(c:Int)
   ·rw[nF (by rw[RA,decide_eq_false (show ¬c≤57 by omega),Bool.and_false])]
    simp only[dN,g0,g3,bC,dD,e1,q1,q2,VX,Nat.reduceEqDiff,Nat.reduceAdd]
    exact aI rfl
   ·rw[RA,decide_eq_true (by omega),decide_eq_true (by omega),Bool.and_self] at ht
    simp only[dN,g0,g3,bC,dD,e1,q1,q2,wi,VX,Nat.reduceEqDiff,Nat.reduceAdd]
    exact⟨i+1,by omega,by omega,ht,rfl⟩
 ·have oJ:i=l.length:=by omega
  subst oJ
  rw[List.take_length] at hd
  by_cases h1:(1:Int)≤(l.length:Int)
  ·by_cases h2:(l.length:Int)≤200
   ·by_cases h3:(l.length:Int)=1
    ·rw[iM.2 ⟨hd,by omega,by omega,.inl (by omega)⟩]
     simp only[dN,g0,g3,bC,dD,ge_iff_le,h1,h2,h3,Int.reduceLE,Int.reduceLT,VX,Nat.reduceEqDiff,Nat.reduceAdd]
     exact aI rfl
    ·have e1:=FU l (by omega)
     by_cases h4:(((l.getD 0 0).toNat:Int)=48)
     ·have hk:gI l=false:=by
       cases h:gI l with
       | false=>rfl
       |
        true =>
        rcases(iM.1 h).2.2.2 with h5 | h5
        ·omega
        ·exact absurd (UInt8.toNat_inj.1 (by rw[show (48:UInt8).toNat=48 from rfl];omega)) h5
      rw[hk]
      simp only[dN,g0,g3,bC,dD,ge_iff_le,h1,h2,h3,h4,e1,VX,Nat.reduceEqDiff,Nat.reduceAdd]
      exact aI rfl
     ·have h5:l.getD 0 0≠48:=fun h=>h4 (by rw[h];rfl)
      rw[iM.2 ⟨hd,by omega,by omega,.inr h5⟩]
      simp only[dN,g0,g3,bC,dD,ge_iff_le,h1,h2,h3,h4,e1,VX,Nat.reduceEqDiff,Nat.reduceAdd]
      exact aI rfl
   ·have hk:gI l=false:=by
     cases h:gI l with
     | false=>rfl
     | true=>have:=(iM.1 h).2.2.1;omega
    rw[hk]
    simp only[dN,g0,g3,bC,dD,ge_iff_le,h1,h2,VX,Nat.reduceEqDiff,Nat.reduceAdd]
    exact aI rfl
  ·have hk:gI l=false:=by
    cases h:gI l with
    | false=>rfl
    | true=>have:=(iM.1 h).2.1;omega
   rw[hk]
   simp only[dN,g0,g3,bC,dD,ge_iff_le,h1,VX,Nat.reduceEqDiff,Nat.reduceAdd]
   exact aI rfl
set_option maxHeartbeats 1000000 in
theorem Dn (l:List UInt8) (c:UInt8) (hl:l.length≤1000000000000):TC 222 [aQ l,.sc (.int .u8 (c.toNat:Int))] (bH aQ (gD c l)):=by
 refine TC.walk ⟨true,false⟩ KN rfl (Nat.le_of_ble_eq_true rfl) rfl (BZ (size:=1) (fun _=>rfl) (fun _=>rfl) fun _=>rfl) ?_
 have e3:∀lr,jX lr [.string ⟨#[]⟩] 0 [] []=some (.ref 0 0 0 0 0,[.row 0 (([]:List (List UInt8)).map aQ) 1 true]):=fun lr=>iS (H:=[]) (lr:=lr) (z:=[.string ⟨#[]⟩]) rfl
 have e4:∀(x:List UInt8) (H:aA),jX false [.string ⟨#[]⟩] 1 [(0,aQ x)] H=some (.tree [aQ x] (.cl 1),H):=fun x H=>fY (z:=[.string ⟨#[]⟩]) rfl rfl rfl
 have e5:∀(x:List UInt8) (H:aA),cN 1 (.tree [aQ x] (.cl 1)) H=some [aQ x]:=fun x H=>eO rfl rfl
 simp only[G5,Dp,e3,VX,Nat.reduceEqDiff,Nat.reduceAdd]
 refine aR (fun(s:List (List UInt8)×Nat×Nat) ρ H=>H=[.row s.1.length (s.1.map aQ) 1 true]∧s.2.1≤s.2.2∧s.2.2≤l.length+1∧s.1.length≤s.2.1 ∧
  ((s.2.2≤l.length∧gD c l=s.1++gD c (l.drop s.2.1)∧c∉(l.drop s.2.1).take (s.2.2-s.2.1))∨(s.2.2=l.length+1∧gD c l=s.1)) ∧
  ρ 0=aQ l∧ρ 1 = .sc (.int .u8 (c.toNat:Int))∧ρ 5 = .ref 0 s.1.length 0 s.1.length s.1.length∧ρ 6=VI s.2.1∧ρ 7=VI s.2.2) (fun s=>l.length+1-s.2.2) ([],0,0) ⟨rfl,Nat.zero_le _,Nat.zero_le _,Nat.zero_le _,.inl ⟨Nat.zero_le _,rfl,by simp⟩,rfl,rfl,rfl,rfl,rfl⟩ ?_
 rintro⟨out,fr,i⟩ ρ H ⟨rfl,hfi,hi,jE,Gq,g0,g1,g5,g6,g7⟩
 simp only at hfi hi jE Gq g5 g6 g7
 by_cases dD:(i:Int)≤(l.length:Int)
 ·have Rn:i≤l.length:=by omega
  obtain⟨hp,hc⟩:gD c l=out++gD c (l.drop fr)∧c∉(l.drop fr).take (i-fr):=by
   rcases Gq with⟨_,h1,h2⟩ | ⟨h,_⟩
   ·exact⟨h1,h2⟩
   ·omega
  have wi:IntKind.i64.wrap ((i:Int)+1)=((i+1:Nat):Int):=wrapN (i+1) (by omega) (by omega)
  have e2:=XC l hfi Rn
  have eP:=iI (f:=aQ) (xs:=out) (x:=(l.drop fr).take (i-fr)) (lo:=0) (b:=0) (g:=out.length) (n:=out.length) (e:=1) (bytes:=16) (H:=[.row out.length (out.map aQ) 1 true]) aV rfl (Nat.zero_le _) (by decide) (by decide) (by omega)
  have FT:([.row out.length (out.map aQ) 1 true]:aA).set 0 (.row (out.length+1) ((out++[(l.drop fr).take (i-fr)]).map aQ) 1 true)=[.row (out.length+1) ((out++[(l.drop fr).take (i-fr)]).map aQ) 1 true]:=rfl
  rw[FT] at eP
  by_cases q1:i=l.length
  ·subst q1
   have YW:gD c l=out++[(l.drop fr).take (l.length-fr)]:=by
    rw[hp]
    have:(l.drop fr).take (l.length-fr)=l.drop fr:=List.take_of_length_le (by rw[List.length_drop];omega)
    rw[this] at hc ⊢
    rw[DB hc]
   simp only[mH,g0,g1,g5,g6,g7,bC,dD,eq_self,e2,e4,e5,eP,wi,VX,Nat.reduceEqDiff,Nat.reduceAdd]
   refine⟨(out++[(l.drop fr).take (l.length-fr)],l.length+1,l.length+1),by simp only;omega,?_,by simp only;omega,by simp only;omega,?_,.inr ⟨rfl,YW⟩,?_⟩
   ·simp
   ·simp only[List.length_append,List.length_cons,List.length_nil];omega
   ·simp
  ·have ZA:i<l.length:=by omega
   have q1':¬(i:Int)=(l.length:Int):=by omega
   have e1:=BD l ZA
   have hgd:l.drop i=l.getD i 0::l.drop (i+1):=by rw[List.drop_eq_getElem_cons ZA,List.getD_eq_getElem?_getD,List.getElem?_eq_getElem ZA];rfl
   by_cases q2:l.getD i 0=c
   ·have q2':((l.getD i 0).toNat:Int)=(c.toNat:Int):=by rw[q2]
    have YW:gD c l=(out++[(l.drop fr).take (i-fr)])++gD c (l.drop (i+1)):=by
     have O8:l.drop fr=(l.drop fr).take (i-fr)++c::l.drop (i+1):=by
      have h1:(l.drop fr).drop (i-fr)=l.drop i:=by rw[List.drop_drop];congr 1;omega
      conv=>lhs;rw[←List.take_append_drop (i-fr) (l.drop fr),h1,hgd,q2]
     rw[hp]
     conv=>lhs;rw[O8]
     rw[Jn hc,List.append_assoc]
     rfl
    simp only[mH,g0,g1,g5,g6,g7,bC,dD,q1',e1,q2',eq_self,e2,e4,e5,eP,wi,VX,Nat.reduceEqDiff,Nat.reduceAdd]
    refine⟨(out++[(l.drop fr).take (i-fr)],i+1,i+1),by simp only;omega,?_,by simp only;omega,by simp only;omega,?_,.inl ⟨by simp only;omega,YW,by simp⟩,?_⟩
    ·simp
    ·simp only[List.length_append,List.length_cons,List.length_nil];omega
    ·simp
   ·have q2':¬((l.getD i 0).toNat:Int)=(c.toNat:Int):=fun h=>q2 (UInt8.toNat_inj.1 (by omega))
    simp only[mH,g0,g1,g5,g6,g7,bC,dD,q1',e1,q2',wi,VX,Nat.reduceEqDiff,Nat.reduceAdd]
    refine⟨(out,fr,i+1),by simp only;omega,rfl,by simp only;omega,by simp only;omega,jE,.inl ⟨by simp only;omega,hp,?_⟩,rfl,rfl,rfl⟩
    simp only
    rw[show i+1-fr=(i-fr)+1 by omega,List.take_add_one,List.mem_append,not_or]
    refine⟨hc,?_⟩
    have:(l.drop fr)[i-fr]? = some (l.getD i 0):=by
     rw[List.getElem?_drop,show fr+(i-fr)=i by omega,List.getD_eq_getElem?_getD,List.getElem?_eq_getElem ZA]
     rfl
    rw[this]
    simp
    exact fun h=>q2 h.symm
 ·have YW:gD c l=out:=by
   rcases Gq with⟨h,_⟩ | ⟨_,h⟩
   ·omega
   ·exact h
  rw[YW]
  simp only[mH,g0,g5,g7,bC,dD,VX,Nat.reduceEqDiff,Nat.reduceAdd]
  exact DL (es:=out.map aQ) aV (by simp) (Nat.le_refl _) (eH fun _=>rfl)
theorem Wg {l:List UInt8} (h:l.all gN=true) {i:Nat} (hi:i<l.length):48≤(l.getD i 0).toNat∧(l.getD i 0).toNat≤57:=by
 have:=List.all_eq_true.1 h (l.getD i 0) (by rw[List.getD_eq_getElem?_getD,List.getElem?_eq_getElem hi];exact List.getElem_mem hi)
 simpa[gN] using this
theorem JI {l:List UInt8} (hd:l.all gN=true) (hl:l.length≤1000000000000) {fr tq:Nat} (hft:fr≤tq) (h9:tq-fr≤9) (htl:tq≤l.length) {H:aA} {lo:Nat} {ρ:dI} {Q:VQ} (h0:ρ 0=aQ l) (h4:ρ 4=VI tq) (h6:ρ 6=VI 0) (h7:ρ 7=VI fr)
  (hQ:∀aS,(∀t,t<6→aS t=ρ t)→aS 6=VI (bN ((l.drop fr).take (tq-fr)))→Q .normal aS H):VW ⟨true,false⟩ lo (.loop kY) (xY 2 Q) ρ H:=by
 refine aR (fun(i:Nat) aS H'=>fr≤i∧i≤tq∧H'=H∧(∀t,t<6→aS t=ρ t)∧aS 6=VI (bN ((l.drop fr).take (i-fr)))∧aS 7=VI i) (fun i=>tq-i) fr ⟨Nat.le_refl _,hft,rfl,fun _ _=>rfl,by rw[h6,Nat.sub_self];rfl,h7⟩ ?_
 rintro i aS H' ⟨hfi,hi,rfl,hk,g6,g7⟩
 have g0:=(hk 0 (by decide)).trans h0
 have g4:=(hk 4 (by decide)).trans h4
 by_cases dD:(i:Int)<(tq:Int)
 ·have Rn:i<l.length:=by omega
  have e1:=BD l Rn
  obtain⟨c1,c2⟩:=Wg hd Rn
  have wi:IntKind.i64.wrap ((i:Int)+1)=((i+1:Nat):Int):=wrapN (i+1) (by omega) (by omega)
  have hcd:((l.drop fr).take (i-fr)).all gN=true:=by
   rw[List.all_eq_true] at hd ⊢
   exact fun x hx=>hd x (List.mem_of_mem_drop (List.mem_of_mem_take hx))
  have aU:=Eb hcd
  rw[List.length_take,List.length_drop,Nat.min_eq_left (by omega)] at aU
  have hp9:10^(i-fr)≤10^8:=Nat.pow_le_pow_right (by decide) (by omega)
  have e8:(10:Nat)^8=100000000:=by decide
  have qN:bN ((l.drop fr).take (i+1-fr))=bN ((l.drop fr).take (i-fr))*10+dv (l.getD i 0):=by
   have:(l.drop fr)[i-fr]? = some (l.getD i 0):=by
    rw[List.getElem?_drop,show fr+(i-fr)=i by omega,List.getD_eq_getElem?_getD,List.getElem?_eq_getElem Rn]
    rfl
   rw[show i+1-fr=(i-fr)+1 by omega,List.take_add_one,this]
   exact VD _ _
  have hdv:dv (l.getD i 0)=(l.getD i 0).toNat-48:=rfl
  rw[hdv] at qN
  generalize (l.getD i 0).toNat=c at *
  generalize bN ((l.drop fr).take (i-fr))=D at *
  have w1:IntKind.i64.wrap (10*(D:Int))=((10*D:Nat):Int):=wrapN _ (by omega) (by omega)
  have w2:IntKind.u8.wrap ((c:Int)-48)=((c-48:Nat):Int):=by
   simp[IntKind.wrap,IntKind.bits,IntKind.signed]
   omega
  have w3:IntKind.i64.wrap ((c-48:Nat):Int)=((c-48:Nat):Int):=wrapN _ rfl (by omega)
  have w4:IntKind.i64.wrap (((10*D:Nat):Int)+((c-48:Nat):Int))=((D*10+(c-48):Nat):Int):=wrapN _ (by omega) (by omega)
  simp only[kY,g0,g4,g6,g7,dD,e1,w1,w2,w3,w4,wi,VX,Nat.reduceEqDiff,Nat.reduceAdd]
  refine⟨i+1,by omega,by omega,by omega,fun t ht => ?_,by rw[qN],rfl⟩
  try simp only[sN]
  repeat rw[if_neg (by omega)]
  exact hk t ht
 ·have oJ:i=tq:=by omega
  subst oJ
  simp only[kY,g4,g7,dD,VX,Nat.reduceEqDiff,Nat.reduceAdd]
  refine hQ _ (fun t ht => ?_) ?_
  ·try simp only[sN]
   repeat rw[if_neg (by omega)]
   exact hk t ht
  ·simp only[g6,VX,Nat.reduceEqDiff,Nat.reduceAdd]
set_option maxHeartbeats 1000000 in
theorem qQ (l:List UInt8) (hd:l.all gN=true) (hl:l.length≤1000000000):TC 224 [aQ l] (cK (bN l)):=by
 refine TC.walk ⟨true,false⟩ Ej rfl (Nat.le_of_ble_eq_true rfl) rfl (qM _) ?_
 have e3:∀lr,jX lr [.int .i64 0] 0 [] []=some (.ref 0 0 0 0 0,[.row 0 (([]:List Nat).map tV) 1 true]):=fun lr=>iS (H:=[]) (lr:=lr) (z:=[.int .i64 0]) rfl
 have e4:∀(x:Nat) (H:aA),jX false [.int .i64 0] 1 [(0,tV x)] H=some (.tree [tV x] (.cl 1),H):=fun x H=>fY (z:=[.int .i64 0]) rfl rfl rfl
 have e5:∀(x:Nat) (H:aA),cN 1 (.tree [tV x] (.cl 1)) H=some [tV x]:=fun x H=>eO rfl rfl
 simp only[AQ,xK,e3,bC,VX,Nat.reduceEqDiff,Nat.reduceAdd]
 refine aR (fun(s:List Nat×Int) ρ H=>H=[.row s.1.length (s.1.map tV) 1 true]∧s.2≤l.length ∧ -9≤s.2∧s.1.length+s.2.toNat≤l.length∧(∀d∈s.1,d<1000000000)∧bN l=val 1000000000 s.1+1000000000^s.1.length*bN (l.take s.2.toNat) ∧
  ρ 0=aQ l∧ρ 3 = .ref 0 s.1.length 0 s.1.length s.1.length∧ρ 4=VI s.2) (fun s=>s.2.toNat) ([],(l.length:Int)) ⟨rfl,Int.le_refl _,by simp only;omega,by simp,by simp,?_,rfl,rfl,rfl⟩ ?_
 ·simp only[Int.toNat_natCast,List.take_length,List.length_nil,Nat.pow_zero,Nat.one_mul,val,Nat.zero_add]
 rintro⟨out,z⟩ ρ H ⟨rfl,hz,hz9,jE,hds,hv,g0,g3,g4⟩
 simp only at hz hz9 jE hds hv g3 g4
 by_cases jB:0<z
 ·obtain⟨tq,rfl⟩:∃tq:Nat,z=tq:=⟨z.toNat,by omega⟩
  rw[Int.toNat_natCast] at jE hv
  have hto:0<tq:=by omega
  have key:∀fr:Nat,fr≤tq→tq-fr≤9→bN (l.take tq)=bN (l.take fr)*10^(tq-fr)+bN ((l.drop fr).take (tq-fr))∧bN ((l.drop fr).take (tq-fr))<1000000000:=by
   intro fr h1 h2
   have hcd:((l.drop fr).take (tq-fr)).all gN=true:=by
    rw[List.all_eq_true] at hd ⊢
    exact fun x hx=>hd x (List.mem_of_mem_drop (List.mem_of_mem_take hx))
   have hlen:((l.drop fr).take (tq-fr)).length=tq-fr:=by rw[List.length_take,List.length_drop];omega
   constructor
   ·have:=List.take_add (l:=l) (i:=fr) (j:=tq-fr)
    rw[show fr+(tq-fr)=tq by omega] at this
    rw[this,J4,hlen]
   ·have:=Eb hcd
    rw[hlen] at this
    exact Nat.lt_of_lt_of_le this (Nat.le_trans (Nat.pow_le_pow_right (by decide) h2) (by decide))
  have eP:=fun X=>iI (f:=tV) (xs:=out) (x:=X) (lo:=0) (b:=0) (g:=out.length) (n:=out.length) (e:=1) (bytes:=8) (H:=[.row out.length (out.map tV) 1 true]) aV rfl (Nat.zero_le _) (by decide) (by decide) (by omega)
  have FT:∀X,([.row out.length (out.map tV) 1 true]:aA).set 0 (.row (out.length+1) ((out++[X]).map tV) 1 true)=[.row (out.length+1) ((out++[X]).map tV) 1 true]:=fun _=>rfl
  simp only[FT] at eP
  by_cases h9:(9:Int)<(tq:Int)
  ·obtain⟨k1,k2⟩:=key (tq-9) (by omega) (by omega)
   have wz:IntKind.i64.wrap ((tq:Int)-9)=((tq-9:Nat):Int):=wrapN _ (by omega) (by omega)
   rw[show tq-(tq-9)=9 by omega] at k1 k2
   rw[show (10:Nat)^9=1000000000 by decide] at k1
   simp only[kS,g0,g3,g4,jB,h9,wz,VX,Nat.reduceEqDiff,Nat.reduceAdd]
   refine JI (l:=l) hd (by omega) (fr:=tq-9) (tq:=tq) (by omega) (by omega) (by omega) ?_ ?_ ?_ ?_ fun uA q q6 => ?_
   all_goals first | (simp only[g0,g4,VX,Nat.reduceEqDiff,Nat.reduceAdd];done) | skip
   rw[show tq-(tq-9)=9 by omega] at q6
   have u3:uA 3 = .ref 0 out.length 0 out.length out.length:=by rw[q 3 (by decide)];simp only[g3,VX,Nat.reduceEqDiff,Nat.reduceAdd]
   have u0:uA 0=aQ l:=by rw[q 0 (by decide)];simp only[g0,VX,Nat.reduceEqDiff,Nat.reduceAdd]
   have u4:uA 4=VI tq:=by rw[q 4 (by decide)];simp only[g4,VX,Nat.reduceEqDiff,Nat.reduceAdd]
   generalize bN ((l.drop (tq-9)).take 9)=X at *
   have e4:=e4 X
   have e5:=e5 X
   have eP:=eP X
   simp only[u0,u3,u4,q6,e4,e5,eP,wz,VX,Nat.reduceEqDiff,Nat.reduceAdd]
   refine⟨(out++[X],((tq-9:Nat):Int)),by simp only;omega,?_,by simp only;omega,by simp only;omega,?_,?_,?_,?_⟩
   ·simp
   ·simp only[List.length_append,List.length_cons,List.length_nil];omega
   ·intro d hdm
    rcases List.mem_append.1 hdm with h | h
    ·exact hds d h
    ·rw[List.mem_singleton] at h;omega
   ·simp only[Int.toNat_natCast]
    rw[hv,k1,sJ,List.length_append,List.length_singleton,Nat.pow_succ]
    grind
   ·simp
  ·obtain⟨k1,k2⟩:=key 0 (by omega) (by omega)
   rw[List.take_zero,JW,Nat.zero_mul,Nat.zero_add,Nat.sub_zero] at k1
   rw[Nat.sub_zero] at k2
   have wz:IntKind.i64.wrap ((tq:Int)-9)=(tq:Int)-9:=wrap64 (by omega) (by omega)
   simp only[kS,g0,g3,g4,jB,h9,VX,Nat.reduceEqDiff,Nat.reduceAdd]
   refine JI (l:=l) hd (by omega) (fr:=0) (tq:=tq) (by omega) (by omega) (by omega) ?_ ?_ ?_ ?_ fun uA q q6 => ?_
   all_goals first | (simp only[g0,g4,VX,Nat.reduceEqDiff,Nat.reduceAdd];done) | (simp only[VX,Nat.reduceEqDiff,Nat.reduceAdd];rfl) | skip
   rw[Nat.sub_zero] at q6
   have u3:uA 3 = .ref 0 out.length 0 out.length out.length:=by rw[q 3 (by decide)];simp only[g3,VX,Nat.reduceEqDiff,Nat.reduceAdd]
   have u0:uA 0=aQ l:=by rw[q 0 (by decide)];simp only[g0,VX,Nat.reduceEqDiff,Nat.reduceAdd]
   have u4:uA 4=VI tq:=by rw[q 4 (by decide)];simp only[g4,VX,Nat.reduceEqDiff,Nat.reduceAdd]
   generalize bN ((l.drop 0).take tq)=X at *
   have e4:=e4 X
   have e5:=e5 X
   have eP:=eP X
   simp only[u0,u3,u4,q6,e4,e5,eP,wz,VX,Nat.reduceEqDiff,Nat.reduceAdd]
   refine⟨(out++[X],(tq:Int)-9),by simp only;omega,?_,by simp only;omega,by simp only;omega,?_,?_,?_,?_⟩
   ·simp
   ·simp only[List.length_append,List.length_cons,List.length_nil];omega
   ·intro d hdm
    rcases List.mem_append.1 hdm with h | h
    ·exact hds d h
    ·rw[List.mem_singleton] at h;omega
   ·simp only
    rw[show ((tq:Int)-9).toNat=0 by omega,List.take_zero,JW,Nat.mul_zero,Nat.add_zero,hv,k1,sJ]
   ·simp
 ·have h0:z.toNat=0:=by omega
  rw[h0,List.take_zero,JW,Nat.mul_zero,Nat.add_zero] at hv
  rw[hv]
  have ct:=TC.abQ (f:=tV) (xs:=out) (size:=1) (e:=1) (w:=true) (H:=[.row out.length (out.map tV) 1 true]) (b:=0) (gn:=out.length) (n:=out.length) (c:=out.length) (pR out hds (by show out.length≤70368744177664;omega)) aV rfl (Nat.le_refl _) D4 (fun _=>rfl) rfl rfl
  simp only[kS,g0,g3,g4,jB,ct,VX,Nat.reduceEqDiff,Nat.reduceAdd]
  exact aI (cT _)
end Go.PM
namespace Go.PM
open Go.Lib
def Bg (l:List UInt8):VV:=match vQ l with
 | some q => .dS [bU q,VB true]
 | none => .dS [Fa,VB false]
theorem rI (q:Rat):aN (bU q)=true:=by simp[bU,aN,aM,cT,jW]
theorem KU (q:Rat):gA (bU q)=true:=by simp[bU,gA,oS,qM,jW]
theorem Q5 (l:List UInt8):gA (Bg l)=true:=by
 unfold Bg
 split<;>simp[gA,oS,KU,J0,jW]
theorem JO {neg:Bool} {t b:Nat} (hb:b≠0) (hg:Nat.gcd t b=1) (hn:¬(neg=true∧t=0)):bU (mkRat (Gh neg t) b) = .agg [VB neg,cK t,cK b]:=by
 obtain⟨e1,e2⟩:=Hv (neg:=neg) hb hg
 refine S4 ?_ (by rw[e1,CB]) e2
 rw[e1]
 cases neg with
 | false=>unfold Gh;simp
 |
  true =>
  have:t≠0:=fun h=>hn ⟨rfl,h⟩
  unfold Gh
  simp
  omega
theorem Ck {n:Nat}:(((aC 1000000000 n).length:Nat):Int)=0↔n=0:=by
 rw[←kD (b:=1000000000) (n:=n) (by decide),←List.length_eq_zero_iff]
 omega
theorem N2 {neg:Bool} {d t:List UInt8} (h:(47:UInt8)∈t):mF neg d (some t)=none:=by
 have ht:gI t=false:=by
  cases hk:gI t with
  | false=>rfl
  | true=>exact absurd h (YD (iM.1 hk).1)
 unfold mF
 split
 ·rfl
 ·simp only
  rw[if_neg (fun h=>by rw[ht] at h;exact absurd h.1 (by decide))]
theorem at_one (x:List UInt8) (H:aA):bJ 1 (bH aQ [x]) (VI 0) H=some (.dA (aQ x) 0):=aJ (f:=aQ) (t := .op) (H:=H) (size:=1) (k := .i64) (xs:=[x]) (i:=0) rfl rfl
theorem ZT (x y:List UInt8) (H:aA):bJ 1 (bH aQ [x,y]) (VI 0) H=some (.dA (aQ x) 0):=aJ (f:=aQ) (t := .op) (H:=H) (size:=1) (k := .i64) (xs:=[x,y]) (i:=0) rfl rfl
theorem Z0 (x y:List UInt8) (H:aA):bJ 1 (bH aQ [x,y]) (VI 1) H=some (.dA (aQ y) 0):=aJ (f:=aQ) (t := .op) (H:=H) (size:=1) (k := .i64) (xs:=[x,y]) (i:=1) rfl rfl
theorem SF (x:List UInt8) (H:aA):nR (bH aQ [x]) H=some (VI 1):=fI (f:=aQ) (xs:=[x])
theorem aaL (x y:List UInt8) (H:aA):nR (bH aQ [x,y]) H=some (VI 2):=fI (f:=aQ) (xs:=[x,y])
set_option maxRecDepth 100000 in
set_option maxHeartbeats 4000000 in
theorem Hx (l:List UInt8) (hl:l.length≤1000000000):TC 175 [aQ l] (Bg l):=by
 refine TC.walk ⟨true,false⟩ HC rfl (Nat.le_of_ble_eq_true rfl) rfl (Q5 l) ?_
 by_cases wR:l=[]
 ·subst wR
  have eC:TC 222 [.sc (.string ⟨#[]⟩),.sc (.int .u8 47)] (bH aQ [[]]):=Dn [] 47 (by simp)
  have eD:TC 223 [.sc (.string ⟨#[]⟩)] (VB false):=mY [] (by simp)
  have e1:yK (.string ⟨#[]⟩)=some (.int .i64 0):=rfl
  have a1:=at_one []
  have a2:=SF []
  simp only[bR,bA,e1,eC,eD,a1,a2,Int.reduceLT,Int.reduceLE,aO,qT,Nat.reduceLeDiff,Nat.reduceLT,Nat.reduceSub,VX,Nat.reduceEqDiff,Nat.reduceAdd]
  exact bK (d:=6) fP (aH (v:=VB false) rfl)
 have hp:0<l.length:=List.length_pos_iff.2 wR
 have jB:(0:Int)<(l.length:Int):=by omega
 have e0:=FU l hp
 unfold Bg
 unfold vQ
 have pY:isNeg l=decide (((l.getD 0 0).toNat:Int)=45):=by
  unfold isNeg
  rw[decide_eq_true (show 1≤l.length from hp),Bool.true_and]
  refine decide_eq_decide.2 ⟨fun h=>by rw[h];rfl,fun h=>UInt8.toNat_inj.1 (by rw[show (45:UInt8).toNat=45 from rfl];omega)⟩
 have Qu:(if isNeg l=true then l.drop 1 else l).length≤l.length:=by split<;>simp
 have q0:isNeg l=false→¬((l.getD 0 0).toNat:Int)=45:=fun h=>by rw[pY] at h;exact of_decide_eq_false h
 have q9:isNeg l=true→((l.getD 0 0).toNat:Int)=45:=fun h=>by rw[pY] at h;exact of_decide_eq_true h
 have r0:isNeg l=false→(if isNeg l=true then l.drop 1 else l)=l:=fun h=>by rw[h];rfl
 have r9:isNeg l=true→sE (aQ l) (some (VI 1)) none=some (aQ (if isNeg l=true then l.drop 1 else l)):=fun h=>by rw[h];exact KT l (a:=1) hp
 generalize (if isNeg l=true then l.drop 1 else l)=r at *
 generalize isNeg l=neg at *
 clear pY
 have eC:TC 222 [aQ r,.sc (.int .u8 47)] (bH aQ (gD 47 r)):=Dn r 47 (by omega)
 obtain⟨l1,l2⟩:=PD (c:=47) (l:=r)
 cases hs:(kL 47 r).2 with
 |
  none =>
  have hd:=(yU hs).2.1
  rw[Pn hs] at eC
  rw[hd]
  have a1:=at_one r
  have a2:=SF r
  have eD:=mY r (by omega)
  cases hk:gI r with
  |
   false =>
   rw[hk] at eD
   have V3:mF neg r none=none:=if_pos (.inl hk)
   rw[V3]
   cases neg with
   |
    false =>
    have q1:=q0 rfl
    have Qu:=r0 rfl
    subst Qu
    simp only[bR,bA,bC,jB,e0,q1,eC,eD,a1,a2,Int.reduceLT,aO,cI,bF,bT,fW,eZ,dO,fA,qT,Nat.reduceLeDiff,Nat.reduceLT,Nat.reduceSub,VX,Nat.reduceEqDiff,Nat.reduceAdd]
    exact bK (d:=6) fP (aH (v:=VB false) rfl)
   |
    true =>
    have q1:=q9 rfl
    have e9:=r9 rfl
    simp only[bR,bA,bC,jB,e0,q1,eC,eD,a1,a2,Int.reduceLT,e9,aO,cI,bF,bT,fW,eZ,dO,fA,qT,Nat.reduceLeDiff,Nat.reduceLT,Nat.reduceSub,VX,Nat.reduceEqDiff,Nat.reduceAdd]
    exact bK (d:=6) fP (aH (v:=VB false) rfl)
  |
   true =>
   rw[hk] at eD
   have hbt:=vP hk
   have eN:=qQ r (iM.1 hk).1 (by omega)
   by_cases hz:neg=true∧bN r=0
   ·have V3:mF neg r none=none:=if_pos (.inr hz)
    rw[V3]
    obtain⟨rfl,F4⟩:=hz
    have q1:=q9 rfl
    have e9:=r9 rfl
    have Ga:(((aC 1000000000 (bN r)).length:Nat):Int)=0:=Ck.2 F4
    simp only[bR,bA,bC,jB,e0,q1,eC,eD,a1,a2,eN,e9,eT,Ga,Int.reduceLT,aO,cI,bF,bT,fW,eZ,dO,fA,qT,Nat.reduceLeDiff,Nat.reduceLT,Nat.reduceSub,VX,Nat.reduceEqDiff,Nat.reduceAdd]
    exact bK (d:=6) fP (aH (v:=VB false) rfl)
   ·have DX:neg=true→¬(((aC 1000000000 (bN r)).length:Nat):Int)=0:=fun h h0=>hz ⟨h,Ck.1 h0⟩
    have V3:mF neg r none=some (mkRat (Gh neg (bN r)) 1):=if_neg (by rw[hk];rintro(h | h);exact absurd h (by decide);exact hz h)
    rw[V3]
    simp only[]
    rw[JO (by decide) (Nat.gcd_one_right _) hz]
    cases neg with
    |
     false =>
     have q1:=q0 rfl
     have Qu:=r0 rfl
     subst Qu
     simp only[bR,bA,bC,jB,e0,q1,eC,eD,a1,a2,eN,Int.reduceLT,Int.reduceEq,aO,cI,bF,bT,fW,eZ,dO,fA,qT,Nat.reduceLeDiff,Nat.reduceLT,Nat.reduceSub,VX,Nat.reduceEqDiff,Nat.reduceAdd]
     exact bK (d:=6) (pP (aH (v:=VB false) rfl) (aH (cT _)) Nn) (aH (v:=VB true) rfl)
    |
     true =>
     have q1:=q9 rfl
     have e9:=r9 rfl
     have Ga:=DX rfl
     simp only[bR,bA,bC,jB,e0,q1,eC,eD,a1,a2,eN,Int.reduceLT,Int.reduceEq,e9,eT,Ga,aO,cI,bF,bT,fW,eZ,dO,fA,qT,Nat.reduceLeDiff,Nat.reduceLT,Nat.reduceSub,VX,Nat.reduceEqDiff,Nat.reduceAdd]
     exact bK (d:=6) (pP (aH (v:=VB true) rfl) (aH (cT _)) Nn) (aH (v:=VB true) rfl)
 |
  some t =>
  have ltt:=l2 t hs
  rw[G3 hs] at eC
  generalize (kL 47 r).1=d at *
  by_cases hm:(47:UInt8)∈t
  ·rw[N2 hm]
   have hP:=N6 hm
   generalize hPP:gD 47 t=P at *
   have a2:∀H,nR (bH aQ (d::P)) H=some (VI ((d::P).length:Int)):=fun H=>fI (f:=aQ) (xs:=d::P)
   have hq3:(2:Int)<((d::P).length:Int):=by rw[List.length_cons];omega
   generalize hQQ:d::P=PP at *
   clear hQQ hPP hP
   cases neg with
   |
    false =>
    have q1:=q0 rfl
    have Qu:=r0 rfl
    subst Qu
    simp only[bR,bA,bC,jB,e0,q1,eC,a2,hq3,aO,cI,bF,bT,fW,eZ,dO,fA,qT,Nat.reduceLeDiff,Nat.reduceLT,Nat.reduceSub,VX,Nat.reduceEqDiff,Nat.reduceAdd]
    exact bK (d:=6) fP (aH (v:=VB false) rfl)
   |
    true =>
    have q1:=q9 rfl
    have e9:=r9 rfl
    simp only[bR,bA,bC,jB,e0,q1,eC,a2,hq3,e9,aO,cI,bF,bT,fW,eZ,dO,fA,qT,Nat.reduceLeDiff,Nat.reduceLT,Nat.reduceSub,VX,Nat.reduceEqDiff,Nat.reduceAdd]
    exact bK (d:=6) fP (aH (v:=VB false) rfl)
  ·rw[DB hm] at eC
   have a1:=ZT d t
   have a3:=Z0 d t
   have a2:=aaL d t
   have eD:=mY d (by omega)
   have eF:=mY t (by omega)
   cases hk:gI d with
   |
    false =>
    rw[hk] at eD
    have V3:mF neg d (some t)=none:=if_pos (.inl hk)
    rw[V3]
    cases neg with
    |
     false =>
     have q1:=q0 rfl
     have Qu:=r0 rfl
     subst Qu
     simp only[bR,bA,bC,jB,e0,q1,eC,eD,a1,a2,Int.reduceLT,aO,cI,bF,bT,fW,eZ,dO,fA,qT,Nat.reduceLeDiff,Nat.reduceLT,Nat.reduceSub,VX,Nat.reduceEqDiff,Nat.reduceAdd]
     exact bK (d:=6) fP (aH (v:=VB false) rfl)
    |
     true =>
     have q1:=q9 rfl
     have e9:=r9 rfl
     simp only[bR,bA,bC,jB,e0,q1,eC,eD,a1,a2,Int.reduceLT,e9,aO,cI,bF,bT,fW,eZ,dO,fA,qT,Nat.reduceLeDiff,Nat.reduceLT,Nat.reduceSub,VX,Nat.reduceEqDiff,Nat.reduceAdd]
     exact bK (d:=6) fP (aH (v:=VB false) rfl)
   |
    true =>
    rw[hk] at eD
    have hbt:=vP hk
    have eN:=qQ d (iM.1 hk).1 (by omega)
    by_cases hz:neg=true∧bN d=0
    ·have V3:mF neg d (some t)=none:=if_pos (.inr hz)
     rw[V3]
     obtain⟨rfl,F4⟩:=hz
     have q1:=q9 rfl
     have e9:=r9 rfl
     have Ga:(((aC 1000000000 (bN d)).length:Nat):Int)=0:=Ck.2 F4
     simp only[bR,bA,bC,jB,e0,q1,eC,eD,a1,a2,eN,e9,eT,Ga,Int.reduceLT,aO,cI,bF,bT,fW,eZ,dO,fA,qT,Nat.reduceLeDiff,Nat.reduceLT,Nat.reduceSub,VX,Nat.reduceEqDiff,Nat.reduceAdd]
     exact bK (d:=6) fP (aH (v:=VB false) rfl)
    ·have DX:neg=true→¬(((aC 1000000000 (bN d)).length:Nat):Int)=0:=fun h h0=>hz ⟨h,Ck.1 h0⟩
     have V3:mF neg d (some t)=if gI t=true∧1<bN t∧Nat.gcd (bN d) (bN t)=1 then some (mkRat (Gh neg (bN d)) (bN t)) else none:=if_neg (by rw[hk];rintro(h | h);exact absurd h (by decide);exact hz h)
     rw[V3]
     clear V3
     cases ht:gI t with
     |
      false =>
      rw[ht] at eF
      rw[if_neg (fun h=>absurd h.1 (by decide))]
      cases neg with
      |
       false =>
       have q1:=q0 rfl
       have Qu:=r0 rfl
       subst Qu
       simp only[bR,bA,bC,jB,e0,q1,eC,eD,eF,a1,a2,a3,eN,Int.reduceLT,Int.reduceEq,aO,cI,bF,bT,fW,eZ,dO,fA,qT,Nat.reduceLeDiff,Nat.reduceLT,Nat.reduceSub,VX,Nat.reduceEqDiff,Nat.reduceAdd]
       exact bK (d:=6) fP (aH (v:=VB false) rfl)
      |
       true =>
       have q1:=q9 rfl
       have e9:=r9 rfl
       have Ga:=DX rfl
       simp only[bR,bA,bC,jB,e0,q1,eC,eD,eF,a1,a2,a3,eN,Int.reduceLT,Int.reduceEq,e9,eT,Ga,aO,cI,bF,bT,fW,eZ,dO,fA,qT,Nat.reduceLeDiff,Nat.reduceLT,Nat.reduceSub,VX,Nat.reduceEqDiff,Nat.reduceAdd]
       exact bK (d:=6) fP (aH (v:=VB false) rfl)
     |
      true =>
      rw[ht] at eF
      have I9:=vP ht
      have eM:=qQ t (iM.1 ht).1 (by omega)
      have c2:∀lo H K,_:=fun lo H K=>ME (n:=bN t) (lo:=lo) (H:=H) (K:=K) (Nat.le_of_lt (Vr (by omega)))
      have c3:=Kn (bN d) (bN t) (Vr (by omega)) (Vr (by omega))
      by_cases h1:lF (bN t) 1≤0
      ·have hle:¬1<bN t:=fun h=>by unfold lF at h1;rw[if_neg (by omega),if_neg (by omega)] at h1;exact absurd h1 (by decide)
       rw[if_neg (fun h=>hle h.2.1)]
       cases neg with
       |
        false =>
        have q1:=q0 rfl
        have Qu:=r0 rfl
        subst Qu
        simp only[bR,bA,bC,jB,e0,q1,eC,eD,eF,a1,a2,a3,eN,eM,c2,h1,Int.reduceLT,Int.reduceEq,aO,cI,bF,bT,fW,eZ,dO,fA,qT,Nat.reduceLeDiff,Nat.reduceLT,Nat.reduceSub,VX,Nat.reduceEqDiff,Nat.reduceAdd]
        exact bK (d:=6) fP (aH (v:=VB false) rfl)
       |
        true =>
        have q1:=q9 rfl
        have e9:=r9 rfl
        have Ga:=DX rfl
        simp only[bR,bA,bC,jB,e0,q1,eC,eD,eF,a1,a2,a3,eN,eM,c2,h1,Int.reduceLT,Int.reduceEq,e9,eT,Ga,aO,cI,bF,bT,fW,eZ,dO,fA,qT,Nat.reduceLeDiff,Nat.reduceLT,Nat.reduceSub,VX,Nat.reduceEqDiff,Nat.reduceAdd]
        exact bK (d:=6) fP (aH (v:=VB false) rfl)
      ·have aU:1<bN t:=by
        rcases Nat.lt_or_ge 1 (bN t) with h | h
        ·exact h
        ·exfalso
         apply h1
         unfold lF
         split<;>(try split)<;>first | decide | omega
       have hgl:bl (Nat.gcd (bN d) (bN t))≤665:=Nat.le_trans (Cg (Nat.le_of_dvd (by omega) (Nat.gcd_dvd_right _ _))) I9
       have c4:∀lo H K,_:=fun lo H K=>ME (n:=Nat.gcd (bN d) (bN t)) (lo:=lo) (H:=H) (K:=K) (Nat.le_of_lt (Vr (by omega)))
       by_cases hg:Nat.gcd (bN d) (bN t)=1
       ·have h4:lF (Nat.gcd (bN d) (bN t)) 1=0:=by rw[hg];rfl
        rw[if_pos ⟨rfl,aU,hg⟩]
        simp only[]
        rw[JO (by omega) hg hz]
        cases neg with
        |
         false =>
         have q1:=q0 rfl
         have Qu:=r0 rfl
         subst Qu
         simp only[bR,bA,bC,jB,e0,q1,eC,eD,eF,a1,a2,a3,eN,eM,c2,c3,c4,h1,h4,Int.reduceLT,Int.reduceEq,aO,cI,bF,bT,fW,eZ,dO,fA,qT,Nat.reduceLeDiff,Nat.reduceLT,Nat.reduceSub,VX,Nat.reduceEqDiff,Nat.reduceAdd]
         exact bK (d:=6) (pP (aH (v:=VB false) rfl) (aH (cT _)) (aH (cT _))) (aH (v:=VB true) rfl)
        |
         true =>
         have q1:=q9 rfl
         have e9:=r9 rfl
         have Ga:=DX rfl
         simp only[bR,bA,bC,jB,e0,q1,eC,eD,eF,a1,a2,a3,eN,eM,c2,c3,c4,h1,h4,Int.reduceLT,Int.reduceEq,e9,eT,Ga,aO,cI,bF,bT,fW,eZ,dO,fA,qT,Nat.reduceLeDiff,Nat.reduceLT,Nat.reduceSub,VX,Nat.reduceEqDiff,Nat.reduceAdd]
         exact bK (d:=6) (pP (aH (v:=VB true) rfl) (aH (cT _)) (aH (cT _))) (aH (v:=VB true) rfl)
       ·have h4:¬lF (Nat.gcd (bN d) (bN t)) 1=0:=by
         unfold lF
         split<;>(try split)<;>first | decide | omega
        rw[if_neg (fun h=>hg h.2.2)]
        cases neg with
        |
         false =>
         have q1:=q0 rfl
         have Qu:=r0 rfl
         subst Qu
         simp only[bR,bA,bC,jB,e0,q1,eC,eD,eF,a1,a2,a3,eN,eM,c2,c3,c4,h1,h4,Int.reduceLT,Int.reduceEq,aO,cI,bF,bT,fW,eZ,dO,fA,qT,Nat.reduceLeDiff,Nat.reduceLT,Nat.reduceSub,VX,Nat.reduceEqDiff,Nat.reduceAdd]
         exact bK (d:=6) fP (aH (v:=VB false) rfl)
        |
         true =>
         have q1:=q9 rfl
         have e9:=r9 rfl
         have Ga:=DX rfl
         simp only[bR,bA,bC,jB,e0,q1,eC,eD,eF,a1,a2,a3,eN,eM,c2,c3,c4,h1,h4,Int.reduceLT,Int.reduceEq,e9,eT,Ga,aO,cI,bF,bT,fW,eZ,dO,fA,qT,Nat.reduceLeDiff,Nat.reduceLT,Nat.reduceSub,VX,Nat.reduceEqDiff,Nat.reduceAdd]
         exact bK (d:=6) fP (aH (v:=VB false) rfl)
end Go.PM
namespace Go.PM
open Go.Lib
end Go.PM
namespace Go.PM
open Go.Lib
theorem Qg {l:List UInt8} {q:Rat} (h:vQ l=some q):Bg l = .dS [bU q,VB true]:=by unfold Bg;rw[h]
theorem OR {l:List UInt8} (h:vQ l=none):Bg l = .dS [Fa,VB false]:=by unfold Bg;rw[h]
end Go.PM
namespace Go.PM
open Go.Lib
def N1 (o:Option (List Rat)):VV:=match o with
 | some qs => .dS [bH bU qs,VB true]
 | none => .dS [bH bU [],VB false]
theorem RC:N1 none = .dS [bH bU [],VB false]:=rfl
theorem Rk (qs:List Rat):N1 (some qs) = .dS [bH bU qs,VB true]:=rfl
theorem LU (q:Rat):(aB (bU q)).length=3:=rfl
theorem oZ (qs:List Rat):aN (bH bU qs)=true:=jH LU rI
theorem Uq (q:Rat):yB (bU q)=true:=by simp[yB,bU,cK,jD]
theorem FF (qs:List Rat):gA (bH bU qs)=true:=BZ LU KU Uq
theorem Us (o:Option (List Rat)):gA (N1 o)=true:=by
 unfold N1
 split
 ·exact BX (FF _) rfl
 ·exact BX (FF []) rfl
set_option maxHeartbeats 1000000 in
theorem Js (xs:List ByteArray) (hn:xs.length≤1000000000) (hs:∀s∈xs,s.size≤1000000000):TC 115 [fC xs] (N1 (uX xs)):=by
 refine TC.walk ⟨true,false⟩ Jb rfl (Nat.le_of_ble_eq_true rfl) (by simp[aM,gF]) (Us _) ?_
 unfold uX
 by_cases ZC:(300:Int)<(xs.length:Int)
 ·rw[if_neg (by omega)]
  simp only[An,vJ,ZC,VX,Nat.reduceEqDiff,Nat.reduceAdd]
  exact Nq
 rw[if_pos (by omega)]
 have e0:=fun H=>iS (H:=H) (lr:=false) (z:=[.bool false,.slice none 0 0,.slice none 0 0]) rfl
 simp only[An,vJ,ZC,e0,VX,Nat.reduceEqDiff,Nat.reduceAdd]
 refine Jc (fun(s:Nat×List Rat) ρ H=>s.1≤xs.length∧(xs.take s.1).mapM pQ=some s.2∧H=[.row s.1 (s.2.map bU) 3 true]∧ρ 4 = .ref 0 s.1 0 s.1 s.1∧ρ 0=fC xs∧ρ 13=VI xs.length∧ρ 14=VI s.1) (fun s=>xs.length-s.1) (0,[]) ⟨Nat.zero_le _,rfl,rfl,rfl,rfl,rfl,rfl⟩ ?_
 rintro⟨i,out⟩ ρ H ⟨hi,Kd,rfl,g4,g13,g14,g15⟩
 simp only at hi Kd g4 g15
 have jE:out.length=i:=by rw[mM Kd,List.length_take];omega
 by_cases dD:(i:Int)<(xs.length:Int)
 ·obtain⟨x,hx⟩:∃x,xs[i]? = some x:=⟨_,List.getElem?_eq_getElem (by omega)⟩
  have hxm:=List.mem_of_getElem? hx
  have e1:=fun H=>aJ (f:=sV) (t := .op) (H:=H) (size:=1) (k := .i64) hx rfl
  have wi:IntKind.i64.wrap ((i:Int)+1)=((i+1:Nat):Int):=wrapN (i+1) (by omega) (by omega)
  have e2:=Hx x.data.toList (by have:=hs x hxm;rw[Array.length_toList];show x.size≤_;omega)
  rw[←XP] at e2
  cases hp:pQ x with
  |
   none =>
   rw[OR hp] at e2
   rw[mapM_none hp hxm]
   simp only[oO,g4,g13,g14,g15,dD,e1,e2,B7,DD,IU,cW,cY,cH,qT,Nat.reduceLeDiff,Nat.reduceLT,Nat.reduceSub,El,mP,pJ,sR,zJ,As,bne_iff_ne,ne_eq,not_false_eq_true,not_true_eq_false,VX,Nat.reduceEqDiff,Nat.reduceAdd]
   exact Nq
  |
   some q =>
   rw[Qg hp] at e2
   have eL:∀H,jX false [.bool false,.slice none 0 0,.slice none 0 0] 1 [(0,bU q)] H=some (.tree [bU q] (.cl 3),H):=fun H=>fY rfl rfl rfl
   have eS:∀H,cN 3 (.tree [bU q] (.cl 3)) H=some [bU q]:=fun H=>eO rfl rfl
   have eP:eK 0 3 56 (.ref 0 i 0 i i) [bU q] [.row i (out.map bU) 3 true,.row 0 [bU q] 3 true]=some (.ref 0 (i+1) 0 (i+1) (i+1),[.row (i+1) ((out++[q]).map bU) 3 true,.row 0 [bU q] 3 true]):=by
    rw[iI (f:=bU) (xs:=out) (by rw[aV]) jE.symm (Nat.le_refl _) (by decide) (by decide) (by omega),List.set_cons_zero]
   simp only[oO,g4,g13,g14,g15,dD,e1,e2,eL,eS,eP,wi,fU,vB,oF,bF,cI,bT,qT,Nat.reduceLeDiff,Nat.reduceLT,Nat.reduceSub,El,mP,pJ,sR,zJ,As,bne_iff_ne,ne_eq,not_false_eq_true,not_true_eq_false,VX,Nat.reduceEqDiff,Nat.reduceAdd]
   refine⟨(i+1,out++[q]),by simp only;omega,?_,by simp only;omega,by simp only[nJ hx];exact CH Kd hp,rfl,?_⟩
   ·rw[zR (kP _ (eH rI)),Gd]
   ·simp only[rW,g13,g14,yS (gF _),Gk (Nat.lt_succ_self 0),VX,Nat.reduceEqDiff,Nat.reduceAdd,List.take_zero,iL,List.all_nil,List.length_nil,rW,I2,yS]
 ·have oJ:i=xs.length:=by omega
  subst oJ
  rw[List.take_length] at Kd
  rw[Kd]
  simp only[oO,g4,g13,g14,g15,dD,VX,Nat.reduceEqDiff,Nat.reduceAdd]
  refine bK (d:=6) ?_ (aH (v:=VB true) rfl)
  have:=Ou (d:=5) (w:=true) (f:=bU) (e:=3) (b:=0) (g:=xs.length) (c:=xs.length) (xs:=out) (H:=[.row xs.length (out.map bU) 3 true]) rI (by rw[aV]) (by omega)
  rw[jE] at this
  exact this
theorem SN {q:Rat}:q.num<0↔q<0:=by rw[←Int.not_le,Rat.num_nonneg];constructor<;>intro h<;>grind
end Go.PM
namespace Go.PM
open Go.Lib
end Go.PM
namespace Go.PM
end Go.PM
namespace Go.PM
open Go.Lib
end Go.PM
namespace Go.PM
def rK:aE:=(.seq (LS [LM 14 6,LM 15 0,LO 16 (.bin .lss (LT 14) (LT 15))] (.cond (LT 16) .skip (.exit 2))) (.seq (.block 3 (.eG [LM 19 5,LO 20 (.call 136 []),LO 21 (.lit [(.bool false),(.slice none 0 0),(.slice none 0 0)] 1 [(0,(LT 20))]),LO 22 (.app 3 56 (LT 19) (LT 21)),LM 5 22])) (.eG [LM 17 6,LO 18 (.bin .add (LT 17) (LI 1)),LM 6 18])))
def rV:aE:=(.seq (LS [LM 8 4,LM 9 0,LO 10 (.bin .lss (LT 8) (LT 9))] (.cond (LT 10) .skip (.exit 0))) (.seq (.block 1 (LS [LO 13 (.lit [(.bool false),(.slice none 0 0),(.slice none 0 0)] 0 []),LM 5 13] (.seq (LS [LO 6 (.mv (LI 0))] (.block 2 (.loop rK))) (.eG [LM 23 3,LM 24 5,LO 25 (.lit [(.slice none 0 0)] 1 [(0,(LT 24))]),LO 26 (.app 1 24 (LT 23) (LT 25)),LM 3 26])))) (.eG [LM 11 4,LO 12 (.bin .add (LT 11) (LI 1)),LM 4 12])))
def AN:aE:=(LS [LO 2 (.mv (.const (.slice none 0 0)))] (LS [LO 7 (.lit [(.slice none 0 0)] 0 []),LM 3 7] (.seq (LS [LO 4 (.mv (LI 0))] (.block 0 (.loop rV))) (LS [LM 27 3,LM 2 27] .ret))))
def Di:aT:=⟨28,[(.tmp 2)],AN⟩
theorem HS:hC 123=some Di:=by kernel_rfl
def kE:aE:=(.seq (LS [LM 4 3,LM 5 0,LO 6 (.len (LT 5)),LO 7 (.bin .lss (LT 4) (LT 6))] (.cond (LT 7) .skip (.exit 0))) (.seq (.block 1 (LS [LM 10 0,LM 11 3,LO 12 (.iaddr 3 (LT 10) (LT 11)),LO 13 (LK 12),LO 14 (.call 141 [(LT 13)]),LM 15 14,LZ 15 16 (.mv (LT 0)),LZ 15 17 (.mv (LT 3)),LZ 15 18 (.iaddr 3 (LT 16) (LT 17)),LZ 15 19 (LK 18),LZ 15 20 (.call 232 [(LT 19)]),LO 21 (.pick (LT 15) LG (LT 20))] (.cond (LT 21) (LS [LO 2 (.mv LF)] .ret) .skip))) (.eG [LM 8 3,LO 9 (.bin .add (LT 8) (LI 1)),LM 3 9])))
def A2:aE:=(LS [LO 2 (.mv LF)] (.seq (LS [LO 3 (.mv (LI 0))] (.block 0 (.loop kE))) (LS [LO 2 (.mv LG)] .ret)))
def Dm:aT:=⟨22,[(.tmp 2)],A2⟩
theorem HH:hC 199=some Dm:=by kernel_rfl
end Go.PM
namespace Go.PM
end Go.PM
namespace Go.PM
open Go.Lib
theorem aeM {b g j o e:Nat} {H:aA} {es:List VV} {w:Bool} {x x':VV} (h:aF H b g=some (es,e,w)) (hx:es[j]? = some x) (hf:PM.fz 7 H x=some x'):PM.fz depth H (.ptr b g j o)=some (x'.dA o):=by
 show PM.fz (7+1) H _=_
 unfold PM.fz
 have:aN (.ptr b g j o)=false:=rfl
 simp[this,h,hx,hf]
end Go.PM
namespace Go.PM
open Go.Lib
set_option maxHeartbeats 1000000 in
theorem pZ (qs:List Rat) (hn:qs.length≤1000000) (hb:∀q∈qs,fS q≤1099511627776):FC 200 [bH bU qs] (QA (Kl sV 1 (oA qs)) (oA qs).isSome):=by
 refine FC.IF ⟨true,false⟩ Ea (Nat.le_of_ble_eq_true rfl) fun n => ?_
 have e0:∀K,jX false [.string ⟨#[]⟩] 0 [] K=some (.ref K.length 0 0 0 0,K++[.row 0 [] 1 true]):=fun K=>iS rfl
 simp only[AT,xB,e0,List.length_replicate,gX,VX,Nat.reduceEqDiff,Nat.reduceAdd,Nat.reduceLeDiff,Nat.reduceLT,Nat.reduceSub]
 refine aR (fun(i:Nat) ρ H=>i≤qs.length∧(∀q∈qs.take i,tM q=true)∧H=List.replicate n bM.dead++[bM.row i (((qs.take i).map Hy).map sV) 1 true]∧ρ 4 = .ref n i 0 i i∧ρ 0=bH bU qs∧ρ 10=VI qs.length∧ρ 11=VI i) (fun i=>qs.length-i) 0 ⟨Nat.zero_le _,by simp,rfl,rfl,rfl,rfl,rfl⟩ ?_
 rintro i ρ H ⟨hi,oW,rfl,g4,g0,g10,g11⟩
 have mU:aF (List.replicate n bM.dead++[bM.row i (((qs.take i).map Hy).map sV) 1 true]) n i=some (((qs.take i).map Hy).map sV,1,true):=by rw[tU,aV]
 by_cases dD:(i:Int)<(qs.length:Int)
 ·obtain⟨q,hq⟩:∃q,qs[i]? = some q:=⟨_,List.getElem?_eq_getElem (by omega)⟩
  have hqm:=List.mem_of_getElem? hq
  have a1:=fun H=>aJ (f:=bU) (t := .op) (H:=H) (size:=3) (k := .i64) hq rfl
  have wi:IntKind.i64.wrap ((i:Int)+1)=((i+1:Nat):Int):=wrapN (i+1) (by omega) (by omega)
  have e2:=JH q (hb q hqm)
  unfold OI at e2
  cases hf:tM q with
  |
   false =>
   rw[if_neg (by simp[hf])] at e2
   rw[NR hqm hf]
   simp only[kV,g4,g0,g10,g11,dD,a1,e2,oF,gX,VX,Nat.reduceEqDiff,Nat.reduceAdd,Nat.reduceLeDiff,Nat.reduceLT,Nat.reduceSub]
   exact⟨_,wA (by simp),rfl,uJ,.tree [] .nil,rfl,rfl⟩
  |
   true =>
   rw[if_pos hf] at e2
   have eL:∀H,jX false [.string ⟨#[]⟩] 1 [(0,aQ (C7 q))] H=some (.tree [sV (Hy q)] (.cl 1),H):=fun H=>fY rfl rfl rfl
   have eS:∀H,cN 1 (.tree [sV (Hy q)] (.cl 1)) H=some [sV (Hy q)]:=fun H=>eO rfl rfl
   have eP:eK n 1 16 (.ref n i 0 i i) [sV (Hy q)] (List.replicate n bM.dead++[bM.row i (((qs.take i).map Hy).map sV) 1 true])=some (.ref n (i+1) 0 (i+1) (i+1),List.replicate n bM.dead++[bM.row (i+1) (((qs.take (i+1)).map Hy).map sV) 1 true]):=by
    rw[iI (f:=sV) (xs:=(qs.take i).map Hy) mU (by simp;omega) (Nat.le_refl _) (by decide) (by decide) (by omega),nJ hq]
    simp only[List.map_append,Cd]
    rfl
   simp only[kV,g4,g0,g10,g11,dD,a1,e2,eL,eS,eP,wi,oF,gX,VX,Nat.reduceEqDiff,Nat.reduceAdd,Nat.reduceLeDiff,Nat.reduceLT,Nat.reduceSub]
   refine⟨i+1,by omega,by omega,fun p hp => ?_,by (repeat' apply And.intro)<;>first | rfl | trivial | assumption⟩
   rw[nJ hq] at hp
   rcases List.mem_append.1 hp with h | h
   ·exact oW p h
   ·rw[List.mem_singleton] at h;subst h;exact hf
 ·have oJ:i=qs.length:=by omega
  subst oJ
  rw[List.take_length] at oW mU
  rw[K3 oW]
  simp only[kV,g4,g10,g11,dD,List.take_length,gX,VX,Nat.reduceEqDiff,Nat.reduceAdd,Nat.reduceLeDiff,Nat.reduceLT,Nat.reduceSub]
  refine⟨_,⟨rfl,fun _ _ _ _ _ h=>h⟩,by simp[dB,kU,jW],by simp only[dH,List.all_cons,List.all_nil,Bool.and_true];exact EB (fun _=>rfl) _,.ref n qs.length 0 qs.length qs.length,rfl,⟨n,qs.length,qs.length,Nat.le_refl _,by simp,by simp,by simp,mU⟩⟩
end Go.PM
namespace Go.PM
section
variable {α:Type}
def vec (n:Nat) (f:Nat→α):List α:=(List.range n).map f
def Zp (n m:Nat) (F:Nat→Nat→α):List (List α):=vec n fun a=>vec m (F a)
theorem Af (n:Nat) (f:Nat→α):(vec n f).length=n:=by simp[vec]
theorem Nt (n m:Nat) (F:Nat→Nat→α):(Zp n m F).length=n:=Af ..
theorem Ih {n i:Nat} {f:Nat→α} (h:i<n):(vec n f)[i]? = some (f i):=by simp[vec,h]
theorem Ir {n i:Nat} {f:Nat→α} (h:n≤i):(vec n f)[i]? = none:=by rw[List.getElem?_eq_none];rw[Af];exact h
theorem yX {n:Nat} {f g:Nat→α} (h:∀i,i<n→f i=g i):vec n f=vec n g:=List.map_congr_left fun i hi=>h i (List.mem_range.1 hi)
theorem Gv {n m:Nat} {F G:Nat→Nat→α} (h:∀a b,a<n→b<m→F a b=G a b):Zp n m F=Zp n m G:=yX fun a ha=>yX fun b hb=>h a b ha hb
theorem TT {n m i:Nat} {F:Nat→Nat→α} (h:i<n):(Zp n m F)[i]? = some (vec m (F i)):=Ih h
theorem Tp {n j:Nat} {f:Nat→α} {y:α}:(vec n f).set j y=vec n fun b=>if b=j then y else f b:=by
 apply List.ext_getElem?
 intro b
 rw[List.getElem?_set,Af]
 by_cases hb:b<n
 ·rw[Ih hb,Ih hb]
  by_cases hj:j=b
  ·subst hj;simp[hb]
  ·simp[hj,Ne.symm hj]
 ·rw[Ir (by omega),Ir (by omega)]
  split
  ·rw[if_neg (by omega)]
  ·rfl
theorem aaN {n m i:Nat} {F:Nat→Nat→α} {g:Nat→α}:(Zp n m F).set i (vec m g)=Zp n m fun a b=>if a=i then g b else F a b:=by
 rw[Zp,Tp]
 refine yX fun a _ => ?_
 split
 ·rename_i h
  exact yX fun b _=>(if_pos h).symm
 ·rename_i h
  exact yX fun b _=>(if_neg h).symm
theorem Lf {n:Nat} {x:α}:List.replicate n x=vec n fun _=>x:=by
 apply List.ext_getElem?
 intro i
 by_cases h:i<n
 ·rw[Ih h,List.getElem?_replicate,if_pos h]
 ·rw[Ir (by omega),List.getElem?_replicate,if_neg h]
theorem Ly {n m:Nat} {x:α}:List.replicate n (List.replicate m x)=Zp n m fun _ _=>x:=by rw[Lf,Lf];rfl
theorem T1 {n:Nat} {f:Nat→α} {x:α}:x∈vec n f↔∃i,i<n∧f i=x:=by simp[vec]
theorem Ss {n m:Nat} {F:Nat→Nat→α} {r:List α} (h:r∈Zp n m F):∃i,i<n∧r=vec m (F i):=by
 obtain⟨i,hi,rfl⟩:=T1.1 h
 exact⟨i,hi,rfl⟩
end
end Go.PM