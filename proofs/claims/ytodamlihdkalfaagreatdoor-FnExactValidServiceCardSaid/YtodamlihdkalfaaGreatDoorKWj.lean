/- Texts of a claim, in one: part 10. -/
import Derived.Lib.Bytealg
import Derived.Lib.ParseIntB
import Derived.Test.YtodamlihdkalfaaGreatDoorKWi
set_option linter.unusedSimpArgs false
set_option linter.unusedVariables false
namespace Go.PM
theorem LW {ds:List Nat} {H:aA}:fF 1 (iB ds) H=some (ds.map tV):=by
 have:((ds.map tV).all fun x=>(aB x).length == 1&&(aB x).all bU)=true:=by
  rw[List.all_eq_true]
  intro x hx
  obtain⟨d,_,rfl⟩:=List.mem_map.1 hx
  rfl
 simp only[fF,iB,aC,this,if_true]
theorem C6 (n:Nat) {H:aA}:fF 1 (bT n) H=some ((aD 1000000000 n).map tV):=LW
theorem Hk {a n:Nat} (hn:(aD 1000000000 a).length=n+1):∃d,(aD 1000000000 a)[n]? = some d∧d≠0∧d<1000000000:=by
 obtain⟨d,hd⟩:∃d,(aD 1000000000 a)[n]? = some d:=⟨_,List.getElem?_eq_getElem (by omega)⟩
 refine⟨d,hd,fun h0 => ?_,fC (by decide) a d (List.mem_of_getElem? hd)⟩
 have:=Lg (b:=1000000000) (by decide) a
 rw[List.getLast?_eq_getElem?,hn,Nat.add_sub_cancel,hd,h0] at this
 exact this rfl
theorem UL {a d:Nat} (h:aD 1000000000 a=[d]):a=d∧0<d∧d<1000000000:=by
 have h1:=bX (b:=1000000000) (by decide) a
 rw[h,val_one] at h1
 obtain⟨e,h2,h3,h4⟩:=Hk (a:=a) (n:=0) (by rw[h];rfl)
 rw[h] at h2
 cases h2
 exact⟨h1.symm,by omega,h4⟩
theorem adC {a:Nat} (h:(aD 1000000000 a).length≤2):a<1000000000000000000:=by
 have h1:=jN (b:=1000000000) (by decide) a
 have h2:1000000000^(aD 1000000000 a).length≤1000000000^2:=Nat.pow_le_pow_right (by decide) h
 omega
theorem YW {H:aA} {u v:VV} (hu:aP u=true) (hv:aP v=true):fz depth H (.eG [u,v])=some (.eG [u,v]):=aJ (by simp only[aP,aN,hu,hv,Bool.and_self])
theorem aiS {X N:Nat} (h:(aD 1000000000 X).length≤N):Ml 0 1 (.ref 0 0 0 N N) (bT X) [.row 0 ((List.replicate N 0).map tV) 1 true]=some (VI ((aD 1000000000 X).length:Int),[.row 0 ((aD 1000000000 X++List.replicate (N-(aD 1000000000 X).length) 0).map tV) 1 true]):=by
 have e:((aD 1000000000 X).map tV).take N=(aD 1000000000 X).map tV:=List.take_of_length_le (by simpa using h)
 simp only[Ml,bT,LW,aR,e,List.length_map,List.length_replicate,Nat.zero_add]
 rw[if_pos ⟨trivial,Nat.le_refl _,h⟩]
 simp only[cR,List.set_cons_zero,List.take_zero,List.nil_append,Nat.zero_add,List.length_map,List.map_append,List.map_replicate,List.drop_replicate]
theorem tP (a b:Nat) (hb:b≠0) (ha:(aD 1000000000 a).length<17592186044416) (uR:(aD 1000000000 b).length<17592186044416):TC 214 [bT a,bT b] (.eG [bT (a / b),bT (a % b)]):=by
 refine TC.walk ⟨true,false⟩ GF rfl (Nat.le_of_ble_eq_true rfl) (by simp[aN,cA]) (by simp[gK,pB,mW]) ?_
 have s1:=BF a (by omega)
 have s2:=BF b (by omega)
 have fin:∀ {H:aA},fz depth H (.eG [bT (a / b),bT (a % b)])=some (.eG [bT (a / b),bT (a % b)]):=YW (cA _) (cA _)
 by_cases YZ:(aD 1000000000 a).length≤2∧(aD 1000000000 b).length≤2
 ·rw[if_pos YZ.1] at s1
  rw[if_pos YZ.2] at s2
  have la:=adC YZ.1
  have q1:=IQ a b (by omega) (by omega)
  have q2:=Kz a b (by omega)
  have hdl:a / b≤a:=Nat.div_le_self _ _
  have hml:a % b≤a:=Nat.mod_le _ _
  have n1:TC 161 [VI ((a / b:Nat):Int)] (bT (a / b)):=qC ((a / b:Nat):Int) (Int.ofNat_le.2 (show a / b≤9223372036854775807 from Nat.le_trans hdl (by omega)))
  have n2:TC 161 [VI ((a % b:Nat):Int)] (bT (a % b)):=qC ((a % b:Nat):Int) (Int.ofNat_le.2 (show a % b≤9223372036854775807 from Nat.le_trans hml (by omega)))
  simp only[eZ,dF,s1,s2,q1,q2,n1,n2,VX,Nat.reduceEqDiff,Nat.reduceAdd]
  exact fin
 have c1:=uF a b (by omega) (by omega)
 obtain⟨x1,t1,KW⟩:∃(x:Int) (t:Bool),(if (aD 1000000000 a).length≤2 then VV.eG [VI a,VB true] else .eG [VI 0,VB false]) = .eG [VI x,VB t]:=by split<;>exact⟨_,_,rfl⟩
 have hs2:∃(x:Int) (t:Bool),(if (aD 1000000000 b).length≤2 then VV.eG [VI b,VB true] else .eG [VI 0,VB false]) = .eG [VI x,VB t]∧(t1=true→t=false):=by
  by_cases h:(aD 1000000000 b).length≤2
  ·rw[if_pos h]
   refine⟨_,_,rfl,fun ht => ?_⟩
   rw[if_neg (fun h'=>YZ ⟨h',h⟩)] at KW
   injection KW with KW
   injection KW with _ KW
   injection KW with KW _
   injection KW with KW
   injection KW with KW
   subst ht
   cases KW
  ·rw[if_neg h]
   exact⟨_,_,rfl,fun _=>rfl⟩
 obtain⟨x2,t2,hs2,ht⟩:=hs2
 rw[KW] at s1
 rw[hs2] at s2
 by_cases Hi:fD a b<0
 ·have aX:a<b:=vV.1 Hi
  have e0:∀lr,tY lr [.int .i64 0] 0 [] []=some (.ref 0 0 0 0 0,[.row 0 [] 1 true]):=fun lr=>vC (H:=[]) rfl
  have e1:∀lr,tY lr [.int .i64 0] 0 [] [.row 0 [] 1 true]=some (.ref 1 0 0 0 0,[.row 0 [] 1 true,.row 0 [] 1 true]):=fun lr=>vC (H:=[.row 0 [] 1 true]) rfl
  rw[Nat.div_eq_of_lt aX,Nat.mod_eq_of_lt aX]
  have hz:fz (6+1) [.row 0 [] 1 true,.row 0 [] 1 true] (.ref 0 0 0 0 0)=some (bT 0):=by rw[Gx];rfl
  by_cases ha0:a=0
  ·subst ha0
   have ap:eJ 0 1 8 (.ref 1 0 0 0 0) ((aD 1000000000 0).map tV) [.row 0 [] 1 true,.row 0 [] 1 true]=some (.ref 1 0 0 0 0,[.row 0 [] 1 true,.row 0 [] 1 true]):=by
    rw[bZ];rfl
   have GC:fz (6+1) [.row 0 [] 1 true,.row 0 [] 1 true] (.ref 1 0 0 0 0)=some (bT 0):=by rw[Gx];rfl
   cases t1 with
   |
    false =>
    simp only[eZ,dF,s1,s2,c1,Hi,e0,e1,ap,C6,VX,Nat.reduceEqDiff,Nat.reduceAdd]
    exact bE (d:=6) hz GC
   |
    true =>
    rw[ht rfl] at s2
    simp only[eZ,dF,s1,s2,c1,Hi,e0,e1,ap,C6,VX,Nat.reduceEqDiff,Nat.reduceAdd]
    exact bE (d:=6) hz GC
  ·have hln:(aD 1000000000 a).length≠0:=fun h=>ha0 ((oJ (b:=1000000000) (by decide)).1 (List.length_eq_zero_iff.1 h))
   have ap:eJ 0 1 8 (.ref 1 0 0 0 0) ((aD 1000000000 a).map tV) [.row 0 [] 1 true,.row 0 [] 1 true]=some (.ref 1 1 0 (aD 1000000000 a).length (aD 1000000000 a).length,[.row 0 [] 1 true,.row 1 ((aD 1000000000 a).map tV) 1 true]):=by
    have hr:aK [.row 0 [] 1 true,.row 0 [] 1 true] 1 0=some ([],1,true):=rfl
    simp only[eJ,hr,List.length_map,Nat.zero_add,List.length_nil,Nat.add_zero]
    rw[if_pos ⟨by decide,by decide⟩,if_pos ⟨trivial,Nat.zero_le _,Nat.le_refl _⟩,if_neg (by omega),if_pos (by omega)]
    simp
   have DN:fz (6+1) [.row 0 [] 1 true,.row 1 ((aD 1000000000 a).map tV) 1 true] (.ref 0 0 0 0 0)=some (bT 0):=by rw[Gx];rfl
   have GC:fz (6+1) [.row 0 [] 1 true,.row 1 ((aD 1000000000 a).map tV) 1 true] (.ref 1 1 0 (aD 1000000000 a).length (aD 1000000000 a).length)=some (bT a):=by
    have:aP (.ref 1 1 0 (aD 1000000000 a).length (aD 1000000000 a).length)=false:=rfl
    have hr:aK [.row 0 [] 1 true,.row 1 ((aD 1000000000 a).map tV) 1 true] 1 1=some ((aD 1000000000 a).map tV,1,true):=rfl
    unfold fz
    simp only[this,hr,Bool.false_eq_true,if_false]
    rw[if_pos ⟨by simp,Nat.le_refl _⟩,List.drop_zero,List.take_of_length_le (by simp),mapM_pure (n:=5) (dZ fun _=>rfl)]
    rfl
   cases t1 with
   |
    false =>
    simp only[eZ,dF,s1,s2,c1,Hi,e0,e1,ap,C6,VX,Nat.reduceEqDiff,Nat.reduceAdd]
    exact bE (d:=6) DN GC
   |
    true =>
    rw[ht rfl] at s2
    simp only[eZ,dF,s1,s2,c1,Hi,e0,e1,ap,C6,VX,Nat.reduceEqDiff,Nat.reduceAdd]
    exact bE (d:=6) DN GC
 have DA:b≤a:=by have := @vV a b;omega
 have hbn:(aD 1000000000 b).length≠0:=fun h=>hb ((oJ (b:=1000000000) (by decide)).1 (List.length_eq_zero_iff.1 h))
 by_cases h1:(((aD 1000000000 b).length:Nat):Int)=1
 ·obtain⟨d,hd⟩:∃d,aD 1000000000 b=[d]:=List.length_eq_one_iff.1 (by omega)
  obtain⟨Zc,CP,hdT⟩:=UL hd
  have e1:bF 1 (bT b) (VI 0) []=some (.cP (tV d) 0):=by
   rw[bT,hd]
   exact aG (f:=tV) (t := .op) (H:=[]) (size:=1) (k := .i64) (xs:=[d]) (i:=0) rfl rfl
  have c2:=xE a d CP hdT (by omega)
  rw[←Zc] at c2
  have Sk:a % b≤b:=Nat.le_of_lt (Nat.mod_lt _ (by omega))
  have n2:TC 161 [VI ((a % b:Nat):Int)] (bT (a % b)):=qC ((a % b:Nat):Int) (Int.ofNat_le.2 (show a % b≤9223372036854775807 from Nat.le_trans Sk (by omega)))
  have e2:tV d=tV b:=by rw[Zc]
  rw[e2] at e1
  cases t1 with
  |
   false =>
   simp only[eZ,dF,s1,s2,c1,Hi,cQ,h1,e1,c2,n2,VX,Nat.reduceEqDiff,Nat.reduceAdd]
   exact fin
  |
   true =>
   rw[ht rfl] at s2
   simp only[eZ,dF,s1,s2,c1,Hi,cQ,h1,e1,c2,n2,VX,Nat.reduceEqDiff,Nat.reduceAdd]
   exact fin
 obtain⟨n,hn⟩:∃n,(aD 1000000000 b).length=n+2:=⟨(aD 1000000000 b).length-2,by omega⟩
 obtain⟨t,htd,ht0,htT⟩:=Hk (a:=b) (n:=n+1) hn
 obtain⟨s,hs⟩:∃s,s=1000000000 / (t+1):=⟨_,rfl⟩
 have Qt:1≤s:=by rw[hs];exact(Nat.le_div_iff_mul_le (by omega)).2 (by omega)
 have hsT:s<1000000000:=by rw[hs];exact Nat.div_lt_self (by decide) (by omega)
 have uU:(t+1)*s≤1000000000:=by rw[hs];exact Nat.mul_div_le _ _
 have hla:=fA (b:=1000000000) (by decide) DA
 have w0:IntKind.i64.wrap (((n+2:Nat):Int)-1)=((n+1:Nat):Int):=wrapN _ (by omega) (by omega)
 have w1:IntKind.i64.wrap ((t:Int)+1)=((t+1:Nat):Int):=wrapN _ (by omega) (by omega)
 have q0:fB .quo (.int .i64 1000000000) (.int .i64 ((t+1:Nat):Int))=some (.int .i64 (s:Int)):=by rw[hs];exact IQ 1000000000 (t+1) (by decide) (by omega)
 have et:∀H,bF 1 (bT b) (VI ((n+1:Nat):Int)) H=some (.cP (tV t) 0):=fun H=>aG (f:=tV) (t := .op) (size:=1) (k := .i64) htd rfl
 have Vk:¬(((n+2:Nat):Int)=1):=by omega
 obtain⟨N,hN⟩:∃N,N=(aD 1000000000 a).length+1:=⟨_,rfl⟩
 have wN:IntKind.i64.wrap (((aD 1000000000 a).length:Int)+1)=(N:Int):=wrapN _ (by omega) (by omega)
 have mkN:=Ni N (by omega)
 have c3:=yJ a s Qt hsT ha
 have c4:=yJ b s Qt hsT uR
 have acQ:b*s<1000000000^(n+2):=by
  have h2:=(yY (n:=n+1) (fC (b:=1000000000) (by decide) b) hn htd).2
  rw[bX (by decide)] at h2
  have h3:b*s<(t+1)*1000000000^(n+1)*s:=Nat.mul_lt_mul_of_pos_right h2 Qt
  have h4:(t+1)*1000000000^(n+1)*s=(t+1)*s*1000000000^(n+1):=by grind
  have h9:(t+1)*s*1000000000^(n+1)≤1000000000*1000000000^(n+1):=Nat.mul_le_mul_right _ uU
  have h10:1000000000*1000000000^(n+1)=1000000000^(n+2):=by rw[Nat.pow_succ 1000000000 (n+1)];exact Nat.mul_comm _ _
  rw[h4] at h3
  rw[h10] at h9
  exact Nat.lt_of_lt_of_le h3 h9
 have hVl:(aD 1000000000 (b*s)).length=n+2:=by
  have h2:=oF (b:=1000000000) (by decide) acQ
  have h3:b≤b*s:=Nat.le_mul_of_pos_right b Qt
  have h4:=fA (b:=1000000000) (by decide) h3
  omega
 have hAl:(aD 1000000000 (a*s)).length≤N:=by
  have h2:=MQ (b:=1000000000) (by decide) a s
  have h3:(aD 1000000000 s).length≤1:=oF (by decide) (by rw[Nat.pow_one];exact hsT)
  omega
 have cp:=aiS hAl
 obtain⟨m,hm⟩:∃m,m+(n+2)=N:=⟨N-(n+2),by omega⟩
 have wm:IntKind.i64.wrap ((N:Int)-((n+2:Nat):Int))=(m:Int):=wrapN _ (by omega) (by omega)
 have wm1:IntKind.i64.wrap ((m:Int)-1)=(m:Int)-1:=wrap64 (by omega) (by omega)
 obtain⟨DG,aaU⟩:∃DG,DG=aD 1000000000 (a*s)++List.replicate (N-(aD 1000000000 (a*s)).length) 0:=⟨_,rfl⟩
 rw[←aaU] at cp
 have mkm:yP [.int .i64 0] 8 (VI (m:Int)) (VI (m:Int)) [.row 0 (DG.map tV) 1 true]=some (.ref 1 0 0 m m,[.row 0 (DG.map tV) 1 true]++[.row 0 ((List.replicate m 0).map tV) 1 true]):=oW (f:=tV) (x:=0) (H:=[.row 0 (DG.map tV) 1 true]) rfl (by omega) (by omega)
 have lN:∀K,aK K 0 0=some (DG.map tV,1,true)→pX (.ref 0 0 0 N N) K=some (VI (N:Int)):=fun K h=>eV h
 have l1:=lN [.row 0 (DG.map tV) 1 true] rfl
 have l2:=lN (H2 DG (List.replicate m 0)) rfl
 have aeQ:DG.length=N:=by rw[aaU,List.length_append,List.length_replicate];omega
 have ajG:∀d∈DG,d<1000000000:=fun d hd=>by
  rw[aaU] at hd
  rcases List.mem_append.1 hd with h | h
  ·exact fC (by decide) _ d h
  ·rw[List.eq_of_mem_replicate h];decide
 have afA:val 1000000000 DG=a*s:=by rw[aaU,wR,rD,Nat.mul_zero,Nat.add_zero,bX (by decide)]
 generalize N4:aD 1000000000 (b*s)=vs at *
 have Fc:∀d∈vs,d<1000000000:=by rw[←N4];exact fC (by decide) _
 have KR:val 1000000000 vs=b*s:=by rw[←N4];exact bX (by decide) _
 have lV:∀H,pX (bT (b*s)) H=some (VI ((n+2:Nat):Int)):=fun H=>by rw[cQ,N4,hVl]
 obtain⟨v1,f1⟩:∃v1,vs[n+1]? = some v1:=⟨_,List.getElem?_eq_getElem (by omega)⟩
 obtain⟨v0,f0⟩:∃v0,vs[n]? = some v0:=⟨_,List.getElem?_eq_getElem (by omega)⟩
 have hv1:1≤v1:=by
  obtain⟨d,hd,CP,_⟩:=Hk (a:=b*s) (n:=n+1) (by rw[N4];exact hVl)
  rw[N4,f1] at hd
  cases hd
  omega
 have BD:val 1000000000 (DG.drop m)<val 1000000000 vs:=by
  have h2:=pH (b:=1000000000) DG m
  rw[List.length_take,aeQ,Nat.min_eq_left (by omega),afA] at h2
  have h3:a<b*1000000000^m:=by
   have y1:=jN (b:=1000000000) (by decide) a
   have y2:=II (b:=1000000000) (by decide) hb
   rw[hn] at y2
   have y3:1000000000^(n+2-1)*1000000000^m≤b*1000000000^m:=Nat.mul_le_mul_right _ y2
   rw[←Nat.pow_add,show n+2-1+m=(aD 1000000000 a).length by omega] at y3
   exact Nat.lt_of_lt_of_le y1 y3
  have h4:a*s<b*1000000000^m*s:=Nat.mul_lt_mul_of_pos_right h3 Qt
  have h5:b*1000000000^m*s=1000000000^m*(b*s):=by grind
  rw[KR]
  have h6:1000000000^m*val 1000000000 (DG.drop m)<1000000000^m*(b*s):=by
   rw[←h5]
   exact Nat.lt_of_le_of_lt (by rw[h2];exact Nat.le_add_left _ _) h4
  exact Nat.lt_of_mul_lt_mul_left h6
 have body:VW ⟨true,false⟩ 0 (.loop iO)=VW ⟨true,false⟩ 0 (.loop iO):=rfl
 have tail:∀(us os:List Nat),us.length=N→(∀d∈us,d<1000000000)→os.length=m→(∀d∈os,d<1000000000)→val 1000000000 us+val 1000000000 vs*val 1000000000 os=a*s→val 1000000000 us<val 1000000000 vs →
   (∀lo K,cW 211 [.ref 0 0 0 N N] lo (H2 us os) K=K (bT (a % b*s)) (cJ (H2 us os) [0])) ∧
   (∀lo K,cW 211 [.ref 1 0 0 m m] lo (cJ (H2 us os) [0]) K=K (bT (a / b)) (cJ (cJ (H2 us os) [0]) [1]))∧TC 237 [bT (a % b*s),VI (s:Int)] (.eG [bT (a % b),VI ((a % b*s % s:Nat):Int)]):=by
  intro us os N3 Hw fU lB hv aX
  rw[KR] at hv aX
  have hq:val 1000000000 os=a / b:=by
   rw[←Nat.mul_div_mul_right a b Qt,←hv,Nat.add_mul_div_left _ _ (Nat.lt_of_le_of_lt (Nat.zero_le _) aX),Nat.div_eq_of_lt aX,Nat.zero_add]
  have hr:val 1000000000 us=a % b*s:=by
   rw[←Nat.mul_mod_mul_right,←hv,Nat.add_mul_mod_self_left,Nat.mod_eq_of_lt aX]
  refine⟨fun lo K => ?_,fun lo K => ?_,?_⟩
  ·have h:=sY us Hw (by omega)
   rw[hr] at h
   exact TC.Z0 (f:=tV) h Rb N3.symm (Nat.le_refl _) EO (fun _=>rfl) rfl rfl lo K
  ·have h:=sY os lB (by omega)
   rw[hq] at h
   have nA:aK (cJ (H2 us os) [0]) 1 0=some (os.map tV,1,true):=rfl
   exact TC.Z0 (f:=tV) h nA fU.symm (Nat.le_refl _) EO (fun _=>rfl) rfl rfl lo K
  ·have h:=xE (a % b*s) s Qt hsT (by
    have h2:=fA (b:=1000000000) (by decide) (Nat.le_trans (Nat.le_of_lt aX) (show b*s≤b*s from Nat.le_refl _))
    rw[hr,N4] at h2
    omega)
   rwa [Nat.mul_div_cancel _ Qt] at h
 clear body
 have nV:bT (b*s)=iB vs:=by rw[bT,N4]
 cases t1 with
 |
  false =>
  simp only[eZ,dF,s1,s2,c1,Hi,cQ,hn,Vk,w0,w1,q0,et,wN,mkN,c3,c4,cp,lV,l1,l2,wm,wm1,mkm,List.cons_append,List.nil_append,VX,Nat.reduceEqDiff,Nat.reduceAdd]
  refine Mq (DG:=DG) (VO:=List.replicate m 0) (vs:=vs) (N:=N) (m:=m) (n:=n) (A:=a*s) (s:=s) aeQ hm (by omega) ajG hVl Fc f1 f0 hv1 afA BD (by simp) (Ai (by decide) _) (by rfl) (by rfl) (by simp only[VX,Nat.reduceEqDiff,Nat.reduceAdd];exact nV) (by rfl) (by rfl) (by rfl) ?_
  intro wQ us os r12 ZP r16 N3 Hw fU lB hv aX
  obtain⟨x1,x2,x3⟩:=tail us os N3 Hw fU lB hv aX
  simp only[r12,ZP,r16,x1,x2,x3,VX,Nat.reduceEqDiff,Nat.reduceAdd]
  exact fin
 |
  true =>
  rw[ht rfl] at s2
  simp only[eZ,dF,s1,s2,c1,Hi,cQ,hn,Vk,w0,w1,q0,et,wN,mkN,c3,c4,cp,lV,l1,l2,wm,wm1,mkm,List.cons_append,List.nil_append,VX,Nat.reduceEqDiff,Nat.reduceAdd]
  refine Mq (DG:=DG) (VO:=List.replicate m 0) (vs:=vs) (N:=N) (m:=m) (n:=n) (A:=a*s) (s:=s) aeQ hm (by omega) ajG hVl Fc f1 f0 hv1 afA BD (by simp) (Ai (by decide) _) (by rfl) (by rfl) (by simp only[VX,Nat.reduceEqDiff,Nat.reduceAdd];exact nV) (by rfl) (by rfl) (by rfl) ?_
  intro wQ us os r12 ZP r16 N3 Hw fU lB hv aX
  obtain⟨x1,x2,x3⟩:=tail us os N3 Hw fU lB hv aX
  simp only[r12,ZP,r16,x1,x2,x3,VX,Nat.reduceEqDiff,Nat.reduceAdd]
  exact fin
end Go.PM
namespace Go.PM
theorem gQ (n:Nat) {H:aA}:pX (bH n) H=some (VI (aD 4294967296 n).length):=dM
theorem IL {n:Nat}:(0:Int)<((aD 4294967296 n).length:Int)↔n≠0:=by
 constructor
 ·intro h h0
  subst h0
  rw[bZ] at h
  simp at h
 ·intro h
  have:=(oJ (b:=4294967296) (by decide) (n:=n))
  have h2:aD 4294967296 n≠[]:=fun hx=>h (this.1 hx)
  have:=List.length_pos_iff.2 h2
  omega
theorem QA {n:Nat} (h:(aD 4294967296 n).length≤2):n<18446744073709551616:=by
 have h1:=jN (b:=4294967296) (by decide) n
 have h2:4294967296^(aD 4294967296 n).length≤4294967296^2:=Nat.pow_le_pow_right (by decide) h
 omega
theorem CV (a b:Nat) (ha:(aD 4294967296 a).length≤17592186044416) (hb:(aD 4294967296 b).length≤17592186044416):TC 171 [bH a,bH b] (bH (Nat.gcd a b)):=by
 refine TC.walk ⟨true,false⟩ GH rfl (Nat.le_of_ble_eq_true rfl) (by simp[aN,bP]) (qA _) ?_
 simp only[Ci,AF,VX,Nat.reduceEqDiff,Nat.reduceAdd]
 refine aW (fun(t:Nat×Nat) ρ H=>H=[]∧Nat.gcd t.1 t.2=Nat.gcd a b∧(aD 4294967296 t.1).length≤17592186044416∧(aD 4294967296 t.2).length≤17592186044416∧ρ 0=bH t.1∧ρ 1=bH t.2) (fun t=>t.2) (a,b) ⟨rfl,rfl,ha,hb,rfl,rfl⟩ ?_
 rintro⟨x,y⟩ ρ H ⟨rfl,hg,hx,hy,g0,g1⟩
 simp only at hg hx hy g0 g1
 have c1:=AB x hx
 have c2:=AB y hy
 by_cases WV:y=0
 ·subst WV
  have hl:¬(0:Int)<((aD 4294967296 0).length:Int):=by rw[IL];omega
  rw[Nat.gcd_zero_right] at hg
  simp only[iP,g0,g1,gQ,hl,VX,Nat.reduceEqDiff,Nat.reduceAdd]
  rw[hg]
  exact aJ (bP _)
 have hl:(0:Int)<((aD 4294967296 y).length:Int):=IL.2 WV
 by_cases h1:(aD 4294967296 x).length≤2∧(aD 4294967296 y).length≤2
 ·rw[if_pos h1.1] at c1
  rw[if_pos h1.2] at c2
  simp only[iP,g0,g1,gQ,hl,c1,c2,VX,Nat.reduceEqDiff,Nat.reduceAdd]
  refine aW (fun(t:Nat×Nat) ρ H=>H=[]∧Nat.gcd t.1 t.2=Nat.gcd a b∧t.1<18446744073709551616∧t.2<18446744073709551616∧ρ 5=VK .u64 t.1∧ρ 7=VK .u64 t.2) (fun t=>t.2) (x,y) ⟨rfl,hg,QA h1.1,QA h1.2,rfl,rfl⟩ ?_
  rintro⟨u,v⟩ pM H ⟨rfl,hg2,hu,hv,k5,k7⟩
  simp only at hg2 hu hv k5 k7
  by_cases hv0:v=0
  ·subst hv0
   rw[Nat.gcd_zero_right] at hg2
   have hz:¬(0:Int)<((0:Nat):Int):=by omega
   have c3:=mI u hu
   simp only[sN,k5,k7,hz,c3,VX,Nat.reduceEqDiff,Nat.reduceAdd]
   rw[hg2]
   exact aJ (bP _)
  ·have hz:(0:Int)<(v:Int):=by omega
   have r1:=Nz u v (by omega)
   simp only[sN,k5,k7,hz,r1,VX,Nat.reduceEqDiff,Nat.reduceAdd]
   refine⟨(v,u % v),?_,?_,hv,?_,rfl,rfl⟩
   ·exact Nat.mod_lt _ (by omega)
   ·simp only
    rw[←hg2,Nat.gcd_comm u v,Nat.gcd_rec v u,Nat.gcd_comm]
   ·simp only
    have:=Nat.mod_lt u (show 0<v by omega)
    omega
 ·have c3:=xM x y WV hx hy
  have next:∃s':Nat×Nat,s'.2<y∧Nat.gcd s'.1 s'.2=Nat.gcd a b∧(aD 4294967296 s'.1).length≤17592186044416∧(aD 4294967296 s'.2).length≤17592186044416∧bH y=bH s'.1∧bH (x % y)=bH s'.2:=by
   have hm:=Nat.mod_lt x (show 0<y by omega)
   refine⟨(y,x % y),hm,?_,hy,?_,rfl,rfl⟩
   ·simp only
    rw[←hg,Nat.gcd_comm x y,Nat.gcd_rec y x,Nat.gcd_comm]
   ·simp only
    have:=fA (b:=4294967296) (by decide) (Nat.le_of_lt hm)
    omega
  by_cases h2:(aD 4294967296 x).length≤2
  ·have h3:¬(aD 4294967296 y).length≤2:=fun h=>h1 ⟨h2,h⟩
   rw[if_pos h2] at c1
   rw[if_neg h3] at c2
   simp only[iP,g0,g1,gQ,hl,c1,c2,c3,VX,Nat.reduceEqDiff,Nat.reduceAdd]
   exact next
  ·rw[if_neg h2] at c1
   by_cases h3:(aD 4294967296 y).length≤2
   ·rw[if_pos h3] at c2
    simp only[iP,g0,g1,gQ,hl,c1,c2,c3,VX,Nat.reduceEqDiff,Nat.reduceAdd]
    exact next
   ·rw[if_neg h3] at c2
    simp only[iP,g0,g1,gQ,hl,c1,c2,c3,VX,Nat.reduceEqDiff,Nat.reduceAdd]
    exact next
end Go.PM
namespace Go.PM
open Go.Lib
theorem bO (a:List UInt8):AW (.string ⟨a.toArray⟩)=some (.int .i64 (a.length:Int)):=by simp[AW,ByteArray.size]
end Go.PM
namespace Go.PM
open Go.Lib
def aO (q:Rat):VV := .agg [VB (decide (q.num<0)),bH q.num.natAbs,bH q.den]
theorem pI (q:Rat):aP (aO q)=true:=by simp[aO,aP,aN,bP,nJ]
theorem CZ (q:Rat):gK (aO q)=true:=by simp[aO,gK,pB,qA,nJ]
theorem IJ {q:Rat} {neg:Bool} {t b:Nat} (h0:q.num<0↔neg=true) (h1:q.num.natAbs=t) (h2:q.den=b):aO q = .agg [VB neg,bH t,bH b]:=by
 subst h1 h2
 unfold aO
 congr 4
 cases neg<;>simp_all
theorem Zs {neg:Bool} {t b:Nat} (hb:b≠0) (ht:t≠0):aO (mkRat (pR neg t) b) = .agg [VB neg,bH (t / Nat.gcd t b),bH (b / Nat.gcd t b)]:=by
 refine IJ ?_ ?_ (Rv hb)
 ·rw[Kh hb,SW]
  have h1:t / Nat.gcd t b≠0:=by
   have:=Nat.div_pos (Nat.le_of_dvd (by omega) (Nat.gcd_dvd_left t b)) (Nat.gcd_pos_of_pos_left b (by omega))
   omega
  simp[h1]
 ·rw[Kh hb,zQ]
theorem Vv:aO 0 = .agg [VB false,.tree [] .op,bH 1]:=by
 rw[IJ (q:=0) (neg:=false) (t:=0) (b:=1) (by simp) rfl rfl,C7]
theorem bB (n:Nat):bU (bH n)=true:=rfl
theorem aZ (n:Nat):isAny (bH n)=false:=rfl
theorem aQ (n:Nat):aB (bH n)=[bH n]:=rfl
theorem dL (q:Rat):isAny (aO q)=false:=rfl
theorem aI (q:Rat):aB (aO q)=[VB (decide (q.num<0)),bH q.num.natAbs,bH q.den]:=rfl
theorem dQ (q:Rat):dR true 3 (aO q) 0=some (aO q):=rfl
theorem qS (q:Rat):dR false 1 (aO q) 0=some (VB (decide (q.num<0))):=rfl
theorem qP (q:Rat):dR false 1 (aO q) 1=some (bH q.num.natAbs):=rfl
theorem vY (q:Rat):dR false 1 (aO q) 2=some (bH q.den):=rfl
theorem qN {d:Nat} {H:aA} {u u' v v' w w':VV} (h1:fz (d+1) H u=some u') (h2:fz (d+1) H v=some v') (h3:fz (d+1) H w=some w'):fz (d+2) H (.agg [u,v,w])=some (.agg [u',v',w']):=by
 have e:fz (d+2) H (.agg [u,v,w])=if aP (.agg [u,v,w])=true then some (.agg [u,v,w]) else ([u,v,w].mapM (fz (d+1) H)).map .agg:=rfl
 rw[e]
 by_cases hp:aP (.agg [u,v,w])=true
 ·rw[if_pos hp]
  simp only[aP,aN,Bool.and_eq_true,and_true] at hp
  rw[aH hp.1] at h1
  rw[aH hp.2.1] at h2
  rw[aH hp.2.2] at h3
  cases h1
  cases h2
  cases h3
  rfl
 ·rw[if_neg hp,List.mapM_cons,h1,List.mapM_cons,h2,List.mapM_cons,h3]
  rfl
theorem Xv {d:Nat} {H:aA} {v:Value} (h:nJ v=true):fz (d+1) H (.sc v)=some (.sc v):=aH h
theorem Fy {H:aA} {neg:Bool} {t b:Nat}:fz depth H (.agg [VB neg,bH t,bH b])=some (.agg [VB neg,bH t,bH b]):=aJ (by simp[aP,aN,bP,nJ])
theorem zD {H:aA} (q:Rat):fz depth H (aO q)=some (aO q):=aJ (pI q)
theorem gM {n:Nat} (h:bl n≤4398046511104):(aD 4294967296 n).length≤17592186044416:=by
 have:=ahR n
 omega
theorem Ae (neg:Bool) (t b:Nat) (hb:b≠0) (ht:bl t≤4398046511104) (uR:bl b≤4398046511104):TC 100 [VB neg,bH t,bH b] (aO (mkRat (pR neg t) b)):=by
 refine TC.walk ⟨true,false⟩ K9 rfl (Nat.le_of_ble_eq_true rfl) (by simp[aN,bP,aP,nJ]) (CZ _) ?_
 by_cases h0:t=0
 ·subst h0
  have hl:(((aD 4294967296 0).length:Nat):Int)=0:=by rw[bZ];rfl
  have c1:TC 101 [.sc (.int .u64 1)] (bH 1):=mI 1 (by decide)
  rw[QD,Rat.zero_mkRat,Vv,←C7]
  simp only[uY,qJ,gQ,hl,c1,bB,aZ,aQ,iH,Nat.reduceLeDiff,Nat.reduceLT,Nat.reduceSub,VX,Nat.reduceEqDiff,Nat.reduceAdd]
  exact qN (Xv rfl) wA (aH (bP _))
 ·have hl:¬(((aD 4294967296 t).length:Nat):Int)=0:=by have:=IL.2 h0;omega
  have c1:=CV t b (gM ht) (gM uR)
  have V4:Nat.gcd t b≠0:=Nat.gcd_ne_zero_right hb
  have YS:bl (Nat.gcd t b)≤4398046511104:=Nat.le_trans (rZ (Nat.gcd_le_right t (by omega))) uR
  have c2:=xM t _ V4 (gM ht) (gM YS)
  have c3:=xM b _ V4 (gM uR) (gM YS)
  rw[Zs hb h0]
  by_cases h1:((aD 4294967296 (Nat.gcd t b)).length:Int)=1
  ·obtain⟨d,hd⟩:∃d,aD 4294967296 (Nat.gcd t b)=[d]:=List.length_eq_one_iff.1 (by omega)
   obtain⟨UW,_,_⟩:=Qc hd
   have e1:bF 1 (bH (Nat.gcd t b)) (.sc (.int .i64 0)) [.row 0 [.agg [VB false,.tree [] .nil,.tree [] .nil]] 3 true]=some (.cP (uV d) 0):=aG (f:=uV) (xs:=aD 4294967296 (Nat.gcd t b)) (i:=0) (k := .i64) (by rw[hd];rfl) rfl
   by_cases h2:(d:Int)=1
   ·have hg1:Nat.gcd t b=1:=by omega
    simp only[uY,qJ,gQ,hl,c1,h1,h2,e1,bB,aZ,aQ,iH,Nat.reduceLeDiff,Nat.reduceLT,Nat.reduceSub,VX,Nat.reduceEqDiff,Nat.reduceAdd]
    rw[hg1,Nat.div_one,Nat.div_one]
    exact Fy
   ·simp only[uY,qJ,gQ,hl,c1,c2,c3,h1,h2,e1,bB,aZ,aQ,iH,Nat.reduceLeDiff,Nat.reduceLT,Nat.reduceSub,VX,Nat.reduceEqDiff,Nat.reduceAdd]
    exact Fy
  ·simp only[uY,qJ,gQ,hl,c1,c2,c3,h1,bB,aZ,aQ,iH,Nat.reduceLeDiff,Nat.reduceLT,Nat.reduceSub,VX,Nat.reduceEqDiff,Nat.reduceAdd]
   exact Fy
theorem Vs {n:Int} (h0 : -9223372036854775808≤n) (h:n<0):IntKind.u64.wrap (0-IntKind.u64.wrap n)=(n.natAbs:Int):=by
 rw[wrap_u64,wrap_u64]
 omega
theorem Gw (n:Int) (h0 : -9223372036854775808≤n) (h1:n≤9223372036854775807):TC 107 [VI n] (VK .u64 (n.natAbs:Int)):=by
 refine TC.walk ⟨true,false⟩ Gg rfl (Nat.le_of_ble_eq_true rfl) rfl rfl ?_
 by_cases h:n<0
 ·simp only[yM,tK,h,Vs h0 h,VX,Nat.reduceEqDiff,Nat.reduceAdd]
  exact aJ rfl
 ·have w:IntKind.u64.wrap n=(n.natAbs:Int):=by rw[wrap_u64];omega
  simp only[yM,tK,h,w,VX,Nat.reduceEqDiff,Nat.reduceAdd]
  exact aJ rfl
theorem Yr (n:Int):aO (n:Rat) = .agg [VB (decide (n<0)),bH n.natAbs,bH 1]:=IJ (by simp) (by simp) (by simp)
theorem Fe (n:Int) (h0 : -9223372036854775808≤n) (h1:n≤9223372036854775807):TC 97 [VI n] (aO (n:Rat)):=by
 refine TC.walk ⟨true,false⟩ NM rfl (Nat.le_of_ble_eq_true rfl) rfl (CZ _) ?_
 have c1:=Gw n h0 h1
 have c2:=mI n.natAbs (by omega)
 have c3:TC 101 [.sc (.int .u64 1)] (bH 1):=mI 1 (by decide)
 rw[Yr]
 simp only[Jz,E6,c1,c2,c3,bB,aZ,aQ,iH,Nat.reduceLeDiff,Nat.reduceLT,Nat.reduceSub,VX,Nat.reduceEqDiff,Nat.reduceAdd]
 exact Fy
theorem TI {q:Rat}:(((aD 4294967296 q.num.natAbs).length:Nat):Int)=0↔q.num=0:=by
 have:=IL (n:=q.num.natAbs)
 omega
theorem gN (q:Rat):TC 104 [aO q] (VI (jO q)):=by
 refine TC.walk ⟨true,false⟩ E0 rfl (Nat.le_of_ble_eq_true rfl) (by simp[aN,pI]) rfl ?_
 unfold jO
 by_cases h0:q.num=0
 ·have hl:=TI.2 h0
  rw[if_pos h0]
  simp only[qL,nL,gQ,hl,aI,qS,qP,bB,aZ,aQ,iH,Nat.reduceLeDiff,Nat.reduceLT,Nat.reduceSub,VX,Nat.reduceEqDiff,Nat.reduceAdd]
  exact aJ rfl
 ·have hl:¬(((aD 4294967296 q.num.natAbs).length:Nat):Int)=0:=fun h=>h0 (TI.1 h)
  rw[if_neg h0]
  by_cases h1:q.num<0
  ·simp only[qL,nL,gQ,hl,h1,aI,qS,qP,bB,aZ,aQ,iH,Nat.reduceLeDiff,Nat.reduceLT,Nat.reduceSub,VX,Nat.reduceEqDiff,Nat.reduceAdd]
   exact aJ rfl
  ·simp only[qL,nL,gQ,hl,h1,aI,qS,qP,bB,aZ,aQ,iH,Nat.reduceLeDiff,Nat.reduceLT,Nat.reduceSub,VX,Nat.reduceEqDiff,Nat.reduceAdd]
   exact aJ rfl
end Go.PM
namespace Go.PM
open Go.Lib
theorem vM (a b:Bool):I3 false (.bool a) (.bool b)=some (.bool (a == b)):=by
 show some (Value.bool ((a == b) != false))=_
 rw[Bool.bne_false]
theorem BC (a b:Bool):I3 true (.bool a) (.bool b)=some (.bool (a != b)):=by
 show some (Value.bool ((a == b) != true))=_
 cases a<;>cases b<;>rfl
theorem Hh {q:Rat} {k:Nat} (h:iR q≤k):bl q.num.natAbs≤k:=Nat.le_trans Am h
theorem GN {q:Rat} {k:Nat} (h:iR q≤k):bl q.den≤k:=Nat.le_trans Ak h
theorem Gs {X Y B:Nat} {a b:Rat} (hB:B≠0) (ha:mkRat (pR (decide (a.num<0)) X) B=a) (hb:mkRat (pR (decide (b.num<0)) Y) B=b) :
  ((decide (a.num<0))=(decide (b.num<0))→mkRat (pR (decide (a.num<0)) (X+Y)) B=a+b) ∧
  ((decide (a.num<0))≠(decide (b.num<0))→Y≤X→mkRat (pR (decide (a.num<0)) (X-Y)) B=a+b) ∧
  ((decide (a.num<0))≠(decide (b.num<0))→X≤Y→mkRat (pR (decide (b.num<0)) (Y-X)) B=a+b):=by
 refine⟨fun h => ?_,fun h hx => ?_,fun h hx => ?_⟩
 ·conv=>rhs;rw[←ha,←hb,Ck _ _ hB,←h,NC]
 ·conv=>rhs;rw[←ha,←hb,Ck _ _ hB,Rk h hx]
 ·conv=>rhs;rw[←ha,←hb,Ck _ _ hB,QY h hx]
theorem KK (a b:Rat) (W5:iR a≤1099511627776) (R6:iR b≤1099511627776):TC 99 [aO a,aO b] (aO (a+b)):=by
 refine TC.walk ⟨true,false⟩ GI rfl (Nat.le_of_ble_eq_true rfl) (by simp[aN,pI]) (CZ _) ?_
 have ca:=gN a
 have cb:=gN b
 by_cases ha0:a.num=0
 ·have:a=0:=Rat.num_eq_zero.1 ha0
  rw[kP ha0] at ca
  rw[this,Rat.zero_add,←this]
  simp only[gD,dW,ca,cb,aI,dQ,dL,bB,aZ,aQ,iH,Nat.reduceLeDiff,Nat.reduceLT,Nat.reduceSub,VX,Nat.reduceEqDiff,Nat.reduceAdd]
  exact zD _
 have hsa:¬jO a=0:=fun h=>ha0 (Rat.num_eq_zero.2 (Ku.1 h))
 by_cases QO:b.num=0
 ·have:b=0:=Rat.num_eq_zero.1 QO
  rw[kP QO] at cb
  rw[this,Rat.add_zero,←this]
  simp only[gD,dW,ca,cb,hsa,aI,dQ,dL,bB,aZ,aQ,iH,Nat.reduceLeDiff,Nat.reduceLT,Nat.reduceSub,VX,Nat.reduceEqDiff,Nat.reduceAdd]
  exact zD _
 have Y0:¬jO b=0:=fun h=>QO (Rat.num_eq_zero.2 (Ku.1 h))
 have la:=Hh W5
 have lb:=Hh R6
 have lda:=GN W5
 have ldb:=GN R6
 have fin:∀(X Y B:Nat),bl X≤2199023255552→bl Y≤2199023255552→bl B≤2199023255552→B≠0→mkRat (pR (decide (a.num<0)) X) B=a→mkRat (pR (decide (b.num<0)) Y) B=b →
   TC 174 [bH X,bH Y] (bH (X+Y))∧TC 170 [bH X,bH Y] (VI (fD X Y)) ∧
   (Y≤X→TC 181 [bH X,bH Y] (bH (X-Y)))∧(X≤Y→TC 181 [bH Y,bH X] (bH (Y-X))) ∧
   (∀neg,TC 100 [VB neg,bH (X+Y),bH B] (aO (mkRat (pR neg (X+Y)) B))) ∧
   (∀neg,TC 100 [VB neg,bH (X-Y),bH B] (aO (mkRat (pR neg (X-Y)) B))) ∧
   (∀neg,TC 100 [VB neg,bH (Y-X),bH B] (aO (mkRat (pR neg (Y-X)) B))):=by
  intro X Y B hX hY hB hB0 _ _
  refine⟨Cp X Y (gM (by omega)) (gM (by omega)),jY X Y (gM (by omega)) (gM (by omega)),fun h=>CM X Y h (gM (by omega)),fun h=>CM Y X h (gM (by omega)),fun neg=>Ae neg _ _ hB0 ?_ (by omega),fun neg=>Ae neg _ _ hB0 ?_ (by omega),fun neg=>Ae neg _ _ hB0 ?_ (by omega)⟩
  ·exact Nat.le_trans (RE hX hY) (by omega)
  ·exact Nat.le_trans (rZ (Nat.sub_le _ _)) (by omega)
  ·exact Nat.le_trans (rZ (Nat.sub_le _ _)) (by omega)
 by_cases hd:a.den=b.den
 ·have Y5:=a.den_nz
  have cc:=jY a.den b.den (gM (by omega)) (gM (by omega))
  rw[show fD a.den b.den=0 from Dc.2 hd] at cc
  have eb:mkRat (pR (decide (b.num<0)) b.num.natAbs) a.den=b:=by rw[hd,IW]
  obtain⟨f1,f2,f3,f4,f5,f6,f7⟩:=fin a.num.natAbs b.num.natAbs a.den (by omega) (by omega) (by omega) Y5 (IW a) eb
  obtain⟨p1,p2,p3⟩:=Gs Y5 (IW a) eb
  by_cases hn:decide (a.num<0)=decide (b.num<0)
  ·have QN:(decide (a.num<0) == decide (b.num<0))=true:=by simpa using hn
   rw[←p1 hn]
   simp only[gD,dW,ca,cb,hsa,Y0,cc,f1,f5,vM,BC,QN,aI,dQ,qS,qP,vY,dL,bB,aZ,aQ,iH,Nat.reduceLeDiff,Nat.reduceLT,Nat.reduceSub,VX,Nat.reduceEqDiff,Nat.reduceAdd]
   exact zD _
  ·have QN:(decide (a.num<0) == decide (b.num<0))=false:=by simpa using hn
   by_cases hx:(0:Int)≤fD a.num.natAbs b.num.natAbs
   ·have hle:b.num.natAbs≤a.num.natAbs:=by have := @vV a.num.natAbs b.num.natAbs;omega
    have c3:=f3 hle
    rw[←p2 hn hle]
    simp only[gD,dW,ca,cb,hsa,Y0,cc,f2,c3,f6,hx,vM,BC,QN,aI,dQ,qS,qP,vY,dL,bB,aZ,aQ,iH,Nat.reduceLeDiff,Nat.reduceLT,Nat.reduceSub,VX,Nat.reduceEqDiff,Nat.reduceAdd]
    exact zD _
   ·have hle:a.num.natAbs≤b.num.natAbs:=by have := @vV a.num.natAbs b.num.natAbs;omega
    have c3:=f4 hle
    rw[←p3 hn hle]
    simp only[gD,dW,ca,cb,hsa,Y0,cc,f2,c3,f7,hx,vM,BC,QN,aI,dQ,qS,qP,vY,dL,bB,aZ,aQ,iH,Nat.reduceLeDiff,Nat.reduceLT,Nat.reduceSub,VX,Nat.reduceEqDiff,Nat.reduceAdd]
    exact zD _
 ·have Y5:=Nat.mul_ne_zero a.den_nz b.den_nz
  have cc:=jY a.den b.den (gM (by omega)) (gM (by omega))
  have N1:¬fD a.den b.den=0:=fun h=>hd (Dc.1 h)
  have m1:=lR a.num.natAbs b.den (gM (by omega)) (gM (by omega))
  have m2:=lR b.num.natAbs a.den (gM (by omega)) (gM (by omega))
  have m3:=lR a.den b.den (gM (by omega)) (gM (by omega))
  have ea:mkRat (pR (decide (a.num<0)) (a.num.natAbs*b.den)) (a.den*b.den)=a:=C2 a b.den_nz
  have eb:mkRat (pR (decide (b.num<0)) (b.num.natAbs*a.den)) (a.den*b.den)=b:=by rw[Nat.mul_comm a.den];exact C2 b a.den_nz
  have k1:=sP a.num.natAbs b.den
  have k2:=sP b.num.natAbs a.den
  have k3:=sP a.den b.den
  obtain⟨f1,f2,f3,f4,f5,f6,f7⟩:=fin _ _ _ (by omega) (by omega) (by omega) Y5 ea eb
  obtain⟨p1,p2,p3⟩:=Gs Y5 ea eb
  by_cases hn:decide (a.num<0)=decide (b.num<0)
  ·have QN:(decide (a.num<0) == decide (b.num<0))=true:=by simpa using hn
   rw[←p1 hn]
   simp only[gD,dW,ca,cb,hsa,Y0,cc,N1,m1,m2,m3,f1,f5,vM,BC,QN,aI,dQ,qS,qP,vY,dL,bB,aZ,aQ,iH,Nat.reduceLeDiff,Nat.reduceLT,Nat.reduceSub,VX,Nat.reduceEqDiff,Nat.reduceAdd]
   exact zD _
  ·have QN:(decide (a.num<0) == decide (b.num<0))=false:=by simpa using hn
   by_cases hx:(0:Int)≤fD (a.num.natAbs*b.den) (b.num.natAbs*a.den)
   ·have hle:b.num.natAbs*a.den≤a.num.natAbs*b.den:=by have := @vV (a.num.natAbs*b.den) (b.num.natAbs*a.den);omega
    have c3:=f3 hle
    rw[←p2 hn hle]
    simp only[gD,dW,ca,cb,hsa,Y0,cc,N1,m1,m2,m3,f2,c3,f6,hx,vM,BC,QN,aI,dQ,qS,qP,vY,dL,bB,aZ,aQ,iH,Nat.reduceLeDiff,Nat.reduceLT,Nat.reduceSub,VX,Nat.reduceEqDiff,Nat.reduceAdd]
    exact zD _
   ·have hle:a.num.natAbs*b.den≤b.num.natAbs*a.den:=by have := @vV (a.num.natAbs*b.den) (b.num.natAbs*a.den);omega
    have c3:=f4 hle
    rw[←p3 hn hle]
    simp only[gD,dW,ca,cb,hsa,Y0,cc,N1,m1,m2,m3,f2,c3,f7,hx,vM,BC,QN,aI,dQ,qS,qP,vY,dL,bB,aZ,aQ,iH,Nat.reduceLeDiff,Nat.reduceLT,Nat.reduceSub,VX,Nat.reduceEqDiff,Nat.reduceAdd]
    exact zD _
theorem HY (q:Rat) : -1≤jO q∧jO q≤1:=by
 rcases Int.lt_trichotomy q.num 0 with h | h | h
 ·rw[mR h];omega
 ·rw[kP h];omega
 ·rw[mJ h];omega
theorem Re (m n:Nat) : -1≤fD m n∧fD m n≤1:=by
 rcases Nat.lt_trichotomy m n with h | h | h
 ·rw[fD,if_pos h];omega
 ·subst h;rw[fD,if_neg (by omega),if_pos rfl];omega
 ·rw[fD,if_neg (by omega),if_neg (by omega)];omega
theorem Jl (a b:Rat) (W5:iR a≤1099511627776) (R6:iR b≤1099511627776):TC 206 [aO a,aO b] (VI (KQ a b)):=by
 refine TC.walk ⟨true,false⟩ F8 rfl (Nat.le_of_ble_eq_true rfl) (by simp[aN,pI]) rfl ?_
 have ca:=gN a
 have cb:=gN b
 have la:=Hh W5
 have lb:=Hh R6
 have lda:=GN W5
 have ldb:=GN R6
 have k1:=sP a.num.natAbs b.den
 have k2:=sP b.num.natAbs a.den
 have m1:=lR a.num.natAbs b.den (gM (by omega)) (gM (by omega))
 have m2:=lR b.num.natAbs a.den (gM (by omega)) (gM (by omega))
 have c1:=jY (a.num.natAbs*b.den) (b.num.natAbs*a.den) (gM (by omega)) (gM (by omega))
 have ra:=HY a
 have rb:=HY b
 have rc:=Re (a.num.natAbs*b.den) (b.num.natAbs*a.den)
 unfold KQ
 by_cases hs:jO a=jO b
 ·rw[if_pos hs]
  have w:IntKind.i64.wrap (0-fD (a.num.natAbs*b.den) (b.num.natAbs*a.den)) = -fD (a.num.natAbs*b.den) (b.num.natAbs*a.den):=by rw[wrap64 (by omega) (by omega)];omega
  by_cases hn:a.num<0
  ·rw[if_pos hn]
   simp only[sB,oV,ca,cb,hs,m1,m2,c1,hn,w,aI,dQ,qS,qP,vY,dL,bB,aZ,aQ,iH,Nat.reduceLeDiff,Nat.reduceLT,Nat.reduceSub,VX,Nat.reduceEqDiff,Nat.reduceAdd]
   exact aJ rfl
  ·rw[if_neg hn]
   simp only[sB,oV,ca,cb,hs,m1,m2,c1,hn,aI,dQ,qS,qP,vY,dL,bB,aZ,aQ,iH,Nat.reduceLeDiff,Nat.reduceLT,Nat.reduceSub,VX,Nat.reduceEqDiff,Nat.reduceAdd]
   exact aJ rfl
 ·rw[if_neg hs]
  have w:IntKind.i64.wrap (jO a-jO b)=jO a-jO b:=wrap64 (by omega) (by omega)
  simp only[sB,oV,ca,cb,hs,w,aI,dQ,qS,qP,vY,dL,bB,aZ,aQ,iH,Nat.reduceLeDiff,Nat.reduceLT,Nat.reduceSub,VX,Nat.reduceEqDiff,Nat.reduceAdd]
  exact aJ rfl
theorem GX (a:Rat) (W5:iR a≤1099511627776):TC 196 [aO a] (VB (decide (a=1))):=by
 refine TC.walk ⟨true,false⟩ Ew rfl (Nat.le_of_ble_eq_true rfl) (by simp[aN,pI]) rfl ?_
 have c1:=Jl a 1 W5 (by rw[Lk];decide)
 have c2:TC 97 [VI 1] (aO 1):=Fe 1 (by decide) (by decide)
 by_cases h:KQ a 1=0
 ·rw[decide_eq_true (Lf.1 h)]
  simp only[tH,rB,c1,c2,h,aI,dQ,dL,bB,aZ,aQ,iH,Nat.reduceLeDiff,Nat.reduceLT,Nat.reduceSub,VX,Nat.reduceEqDiff,Nat.reduceAdd]
  exact aJ rfl
 ·rw[decide_eq_false (mt Lf.2 h)]
  simp only[tH,rB,c1,c2,h,aI,dQ,dL,bB,aZ,aQ,iH,Nat.reduceLeDiff,Nat.reduceLT,Nat.reduceSub,VX,Nat.reduceEqDiff,Nat.reduceAdd]
  exact aJ rfl
end Go.PM
namespace Go.PM
theorem xC {n:Nat}:(0:Int)<((aD 1000000000 n).length:Int)↔n≠0:=by
 constructor
 ·intro h h0
  subst h0
  rw[bZ] at h
  simp at h
 ·intro h
  have:=(oJ (b:=1000000000) (by decide) (n:=n))
  have h2:aD 1000000000 n≠[]:=fun hx=>h (this.1 hx)
  have:=List.length_pos_iff.2 h2
  omega
theorem rS {n:Nat} (h:bl n≤4398046511104):(aD 1000000000 n).length<17592186044416:=by
 have:=ahI n
 omega
theorem Ed (a b:Nat) (ha:(aD 1000000000 a).length<17592186044416) (hb:(aD 1000000000 b).length<17592186044416):TC 213 [bT a,bT b] (bT (Nat.gcd a b)):=by
 refine TC.walk ⟨true,false⟩ Ld rfl (Nat.le_of_ble_eq_true rfl) (by simp[aN,cA]) (mW _) ?_
 simp only[HV,DQ,VX,Nat.reduceEqDiff,Nat.reduceAdd]
 refine aW (fun(t:Nat×Nat) ρ H=>H=[]∧Nat.gcd t.1 t.2=Nat.gcd a b∧(aD 1000000000 t.1).length<17592186044416∧(aD 1000000000 t.2).length<17592186044416∧ρ 0=bT t.1∧ρ 1=bT t.2) (fun t=>t.2) (a,b) ⟨rfl,rfl,ha,hb,rfl,rfl⟩ ?_
 rintro⟨x,y⟩ ρ H ⟨rfl,hg,hx,hy,g0,g1⟩
 simp only at hg hx hy g0 g1
 by_cases WV:y=0
 ·subst WV
  have hl:¬(0:Int)<((aD 1000000000 0).length:Int):=by rw[xC];omega
  rw[Nat.gcd_zero_right] at hg
  simp only[yQ,g0,g1,cQ,hl,VX,Nat.reduceEqDiff,Nat.reduceAdd]
  rw[hg]
  exact aJ (cA _)
 ·have hl:(0:Int)<((aD 1000000000 y).length:Int):=xC.2 WV
  have c3:=tP x y WV hx hy
  have hm:=Nat.mod_lt x (show 0<y by omega)
  simp only[yQ,g0,g1,cQ,hl,c3,VX,Nat.reduceEqDiff,Nat.reduceAdd]
  refine⟨(y,x % y),hm,?_,hy,?_,rfl,rfl⟩
  ·simp only
   rw[←hg,Nat.gcd_comm x y,Nat.gcd_rec y x,Nat.gcd_comm]
  ·simp only
   have:=fA (b:=1000000000) (by decide) (Nat.le_of_lt hm)
   omega
def bG (q:Rat):VV := .agg [VB (decide (q.num<0)),bT q.num.natAbs,bT q.den]
theorem Hm (q:Rat):aP (bG q)=true:=by simp[bG,aP,aN,cA,nJ]
theorem Cs (q:Rat):gK (bG q)=true:=by simp[bG,gK,pB,mW,nJ]
theorem Nq {q:Rat} {neg:Bool} {t b:Nat} (h0:q.num<0↔neg=true) (h1:q.num.natAbs=t) (h2:q.den=b):bG q = .agg [VB neg,bT t,bT b]:=by
 subst h1 h2
 unfold bG
 congr 4
 cases neg<;>simp_all
theorem aS (n:Nat):bU (bT n)=true:=rfl
theorem bC (n:Nat):isAny (bT n)=false:=rfl
theorem aU (n:Nat):aB (bT n)=[bT n]:=rfl
theorem oK (q:Rat):isAny (bG q)=false:=rfl
theorem fK (q:Rat):aB (bG q)=[VB (decide (q.num<0)),bT q.num.natAbs,bT q.den]:=rfl
theorem jI (q:Rat):dR true 3 (bG q) 0=some (bG q):=rfl
theorem qF (q:Rat):dR false 1 (bG q) 0=some (VB (decide (q.num<0))):=rfl
theorem uO (q:Rat):dR false 1 (bG q) 1=some (bT q.num.natAbs):=rfl
theorem uT (q:Rat):dR false 1 (bG q) 2=some (bT q.den):=rfl
theorem wH {H:aA} {neg:Bool} {t b:Nat}:fz depth H (.agg [VB neg,bT t,bT b])=some (.agg [VB neg,bT t,bT b]):=aJ (by simp[aP,aN,cA,nJ])
theorem FG {H:aA} (q:Rat):fz depth H (bG q)=some (bG q):=aJ (Hm q)
theorem W2 (n:Int):bG (n:Rat) = .agg [VB (decide (n<0)),bT n.natAbs,bT 1]:=Nq (by simp) (by simp) (by simp)
theorem ND {n lo:Nat} {H:aA} {K:VV→aA→Prop} (h:(aD 1000000000 n).length≤17592186044416):cW 178 [bT n,.tree [VI 1] (.cl 1)] lo H K=K (VI (fD n 1)) H:=by
 have c:=uF n 1 h (by rw[Cl (by decide) (by decide) (by decide)];simp)
 have e:bT 1 = .tree [VI 1] .op:=by rw[bT,Cl (by decide) (by decide) (by decide)];rfl
 rw[e] at c
 exact TC.args c rfl (by simp only[aN,cA];rfl) (fz2 (aJ (cA n)) (abL rfl)) (by simp only[List.flatMap_cons,List.flatMap_nil,Bt (cA n),Xy (es:=[VI 1]) rfl,List.append_nil]) lo K
theorem eQ {d:Int} {H:aA}:tY false [.int .i64 0] 1 [(0,VI d)] H=some (.tree [VI d] (.cl 1),H):=sE
theorem fO {e:Nat} {es:List VV}:bU (.tree es (.cl e))=true:=rfl
theorem dK {k:TK} {es:List VV}:aB (.tree es k)=[.tree es k]:=rfl
theorem fP {k:TK} {es:List VV}:isAny (.tree es k)=false:=rfl
theorem Nn {d:Nat} {H:aA}:fz (d+2) H (.tree [VI 1] (.cl 1))=some (bT 1):=by
 rw[WX]
 unfold fz
 have:aP (.tree [VI 1] (.cl 1))=false:=by simp[aP]
 simp only[this,Bool.false_eq_true,if_false]
 rfl
theorem xR (neg:Bool) (t b:Nat) (hb:b≠0) (ht:bl t≤4398046511104) (uR:bl b≤4398046511104):TC 164 [VB neg,bT t,bT b] (bG (mkRat (pR neg t) b)):=by
 refine TC.walk ⟨true,false⟩ Kq rfl (Nat.le_of_ble_eq_true rfl) (by simp[aN,cA,aP,nJ]) (Cs _) ?_
 have V4:Nat.gcd t b≠0:=Nat.gcd_ne_zero_right hb
 have YS:bl (Nat.gcd t b)≤4398046511104:=Nat.le_trans (rZ (Nat.gcd_le_right t (by omega))) uR
 have c1:=Ed t b (rS ht) (rS uR)
 have c2:=tP t _ V4 (rS ht) (rS YS)
 have c3:=tP b _ V4 (rS uR) (rS YS)
 have c4:∀lo H K,_:=fun lo H K=>ND (n:=Nat.gcd t b) (lo:=lo) (H:=H) (K:=K) (Nat.le_of_lt (rS YS))
 have Sb:bG (mkRat (pR neg t) b) = .agg [VB (neg&&decide (t / Nat.gcd t b≠0)),bT (t / Nat.gcd t b),bT (b / Nat.gcd t b)]:=by
  refine Nq ?_ (by rw[Kh hb,zQ]) (Rv hb)
  rw[Kh hb,SW,Bool.and_eq_true,decide_eq_true_eq]
 rw[Sb]
 by_cases h1:fD (Nat.gcd t b) 1=0
 ·have hg1:=Dc.1 h1
  have e1:t / Nat.gcd t b=t:=by rw[hg1,Nat.div_one]
  have e2:b / Nat.gcd t b=b:=by rw[hg1,Nat.div_one]
  rw[e1,e2]
  cases neg with
  |
   false =>
   simp only[mT,jU,c1,c4,h1,eQ,aS,bC,aU,iH,Nat.reduceLeDiff,Nat.reduceLT,Nat.reduceSub,VX,Nat.reduceEqDiff,Nat.reduceAdd]
   exact wH
  |
   true =>
   by_cases h0:t=0
   ·have hl:¬(0:Int)<((aD 1000000000 t).length:Int):=by rw[xC];omega
    simp only[mT,jU,c1,c4,h1,hl,cQ,eQ,aS,bC,aU,iH,Nat.reduceLeDiff,Nat.reduceLT,Nat.reduceSub,VX,Nat.reduceEqDiff,Nat.reduceAdd]
    rw[h0]
    exact wH
   ·have hl:(0:Int)<((aD 1000000000 t).length:Int):=xC.2 h0
    simp only[mT,jU,c1,c4,h1,hl,cQ,eQ,aS,bC,aU,iH,Nat.reduceLeDiff,Nat.reduceLT,Nat.reduceSub,VX,Nat.reduceEqDiff,Nat.reduceAdd]
    rw[decide_eq_true h0]
    exact wH
 ·cases neg with
  |
   false =>
   simp only[mT,jU,c1,c2,c3,c4,h1,eQ,aS,bC,aU,iH,Nat.reduceLeDiff,Nat.reduceLT,Nat.reduceSub,VX,Nat.reduceEqDiff,Nat.reduceAdd]
   exact wH
  |
   true =>
   generalize t / Nat.gcd t b=t' at *
   by_cases h0:t'=0
   ·have hl:¬(0:Int)<((aD 1000000000 t').length:Int):=by rw[xC];omega
    simp only[mT,jU,c1,c2,c3,c4,h1,hl,cQ,eQ,aS,bC,aU,iH,Nat.reduceLeDiff,Nat.reduceLT,Nat.reduceSub,VX,Nat.reduceEqDiff,Nat.reduceAdd]
    rw[h0]
    exact wH
   ·have hl:(0:Int)<((aD 1000000000 t').length:Int):=xC.2 h0
    simp only[mT,jU,c1,c2,c3,c4,h1,hl,cQ,eQ,aS,bC,aU,iH,Nat.reduceLeDiff,Nat.reduceLT,Nat.reduceSub,VX,Nat.reduceEqDiff,Nat.reduceAdd]
    rw[decide_eq_true h0]
    exact wH
theorem Ec (n:Int) (h0 : -9223372036854775808<n) (h1:n≤9223372036854775807):TC 166 [VI n] (bG (n:Rat)):=by
 refine TC.walk ⟨true,false⟩ K4 rfl (Nat.le_of_ble_eq_true rfl) rfl (Cs _) ?_
 rw[W2]
 by_cases h:n<0
 ·have w:IntKind.i64.wrap (0-n)=(n.natAbs:Int):=wrapN _ (by omega) (by omega)
  have c1:TC 161 [VI (n.natAbs:Int)] (bT n.natAbs):=qC (n.natAbs:Int) (by omega)
  rw[decide_eq_true h]
  simp only[B7,Ac,h,w,c1,eQ,aS,bC,aU,fO,dK,fP,iH,Nat.reduceLeDiff,Nat.reduceLT,Nat.reduceSub,VX,Nat.reduceEqDiff,Nat.reduceAdd]
  exact qN (d:=6) (Xv rfl) (aH (cA _)) (Nn (d:=5))
 ·have c1:TC 161 [VI n] (bT n.natAbs):=by
   have:=qC n h1
   rwa [show n.toNat=n.natAbs by omega] at this
  rw[decide_eq_false h]
  simp only[B7,Ac,h,c1,eQ,aS,bC,aU,fO,dK,fP,iH,Nat.reduceLeDiff,Nat.reduceLT,Nat.reduceSub,VX,Nat.reduceEqDiff,Nat.reduceAdd]
  exact qN (d:=6) (Xv rfl) (aH (cA _)) (Nn (d:=5))
theorem K7:TC 124 [] (bG 1):=by
 refine TC.walk ⟨true,false⟩ KU rfl (Nat.le_of_ble_eq_true rfl) rfl (Cs _) ?_
 have c1:TC 166 [VI 1] (bG 1):=Ec 1 (by decide) (by decide)
 simp only[HJ,Ea,c1,fK,jI,oK,aS,iH,Nat.reduceLeDiff,Nat.reduceLT,Nat.reduceSub,VX,Nat.reduceEqDiff,Nat.reduceAdd]
 exact FG _
theorem JS:TC 136 [] (bG 0):=by
 refine TC.walk ⟨true,false⟩ Kg rfl (Nat.le_of_ble_eq_true rfl) rfl (Cs _) ?_
 have c1:TC 166 [VI 0] (bG 0):=Ec 0 (by decide) (by decide)
 simp only[FQ,Cz,c1,fK,jI,oK,aS,iH,Nat.reduceLeDiff,Nat.reduceLT,Nat.reduceSub,VX,Nat.reduceEqDiff,Nat.reduceAdd]
 exact FG _
theorem K8 (a b:Rat) (W5:iR a≤1099511627776) (R6:iR b≤1099511627776):TC 94 [bG a,bG b] (bG (a+b)):=by
 refine TC.walk ⟨true,false⟩ KY rfl (Nat.le_of_ble_eq_true rfl) (by simp[aN,Hm]) (Cs _) ?_
 have la:=Hh W5
 have lb:=Hh R6
 have lda:=GN W5
 have ldb:=GN R6
 have Y5:=Nat.mul_ne_zero a.den_nz b.den_nz
 have m1:=lL a.num.natAbs b.den (Nat.le_of_lt (rS (by omega))) (Nat.le_of_lt (rS (by omega)))
 have m2:=lL b.num.natAbs a.den (Nat.le_of_lt (rS (by omega))) (Nat.le_of_lt (rS (by omega)))
 have m3:=lL a.den b.den (Nat.le_of_lt (rS (by omega))) (Nat.le_of_lt (rS (by omega)))
 have ea:mkRat (pR (decide (a.num<0)) (a.num.natAbs*b.den)) (a.den*b.den)=a:=C2 a b.den_nz
 have eb:mkRat (pR (decide (b.num<0)) (b.num.natAbs*a.den)) (a.den*b.den)=b:=by rw[Nat.mul_comm a.den];exact C2 b a.den_nz
 have k1:=sP a.num.natAbs b.den
 have k2:=sP b.num.natAbs a.den
 have k3:=sP a.den b.den
 obtain⟨p1,p2,p3⟩:=Gs Y5 ea eb
 have hX:bl (a.num.natAbs*b.den)≤2199023255552:=by omega
 have hY:bl (b.num.natAbs*a.den)≤2199023255552:=by omega
 have hB:bl (a.den*b.den)≤4398046511104:=by omega
 generalize a.num.natAbs*b.den=X at *
 generalize b.num.natAbs*a.den=Y at *
 generalize a.den*b.den=B at *
 have f1:=Gu X Y (rS (by omega)) (rS (by omega))
 have f2:=uF X Y (Nat.le_of_lt (rS (by omega))) (Nat.le_of_lt (rS (by omega)))
 have hS:bl (X+Y)≤4398046511104:=Nat.le_trans (RE hX hY) (by decide)
 have hD1:bl (X-Y)≤4398046511104:=Nat.le_trans (rZ (Nat.sub_le _ _)) (by omega)
 have hD2:bl (Y-X)≤4398046511104:=Nat.le_trans (rZ (Nat.sub_le _ _)) (by omega)
 have f5:=fun neg=>xR neg (X+Y) B Y5 hS hB
 have f6:=fun neg=>xR neg (X-Y) B Y5 hD1 hB
 have f7:=fun neg=>xR neg (Y-X) B Y5 hD2 hB
 by_cases hn:decide (a.num<0)=decide (b.num<0)
 ·have QN:(decide (a.num<0) == decide (b.num<0))=true:=by simpa using hn
  rw[←p1 hn]
  simp only[zT,uH,m1,m2,m3,f1,f5,vM,BC,QN,fK,jI,qF,uO,uT,oK,aS,bC,aU,iH,Nat.reduceLeDiff,Nat.reduceLT,Nat.reduceSub,VX,Nat.reduceEqDiff,Nat.reduceAdd]
  exact FG _
 ·have QN:(decide (a.num<0) == decide (b.num<0))=false:=by simpa using hn
  by_cases hx:(0:Int)≤fD X Y
  ·have hle:Y≤X:=by have := @vV X Y;omega
   have c3:=zI X Y hle (Nat.le_of_lt (rS (by omega)))
   rw[←p2 hn hle]
   simp only[zT,uH,m1,m2,m3,f2,c3,f6,hx,vM,BC,QN,fK,jI,qF,uO,uT,oK,aS,bC,aU,iH,Nat.reduceLeDiff,Nat.reduceLT,Nat.reduceSub,VX,Nat.reduceEqDiff,Nat.reduceAdd]
   exact FG _
  ·have hle:X≤Y:=by have := @vV X Y;omega
   have c3:=zI Y X hle (Nat.le_of_lt (rS (by omega)))
   rw[←p3 hn hle]
   simp only[zT,uH,m1,m2,m3,f2,c3,f7,hx,vM,BC,QN,fK,jI,qF,uO,uT,oK,aS,bC,aU,iH,Nat.reduceLeDiff,Nat.reduceLT,Nat.reduceSub,VX,Nat.reduceEqDiff,Nat.reduceAdd]
   exact FG _
theorem yC (q:Rat):TC 141 [bG q] (VB (decide (q=0))):=by
 refine TC.walk ⟨true,false⟩ JT rfl (Nat.le_of_ble_eq_true rfl) (by simp[aN,Hm]) rfl ?_
 by_cases h0:q=0
 ·have hl:(((aD 1000000000 q.num.natAbs).length:Nat):Int)=0:=by rw[h0];simp[bZ]
  simp only[Bz,xJ,cQ,hl,fK,qF,uO,uT,aS,bC,aU,iH,Nat.reduceLeDiff,Nat.reduceLT,Nat.reduceSub,VX,Nat.reduceEqDiff,Nat.reduceAdd]
  rw[decide_eq_true h0]
  exact aJ rfl
 ·have hn:q.num≠0:=fun h=>h0 (Rat.num_eq_zero.1 h)
  have hl:¬(((aD 1000000000 q.num.natAbs).length:Nat):Int)=0:=by have := @xC q.num.natAbs;omega
  simp only[Bz,xJ,cQ,hl,fK,qF,uO,uT,aS,bC,aU,iH,Nat.reduceLeDiff,Nat.reduceLT,Nat.reduceSub,VX,Nat.reduceEqDiff,Nat.reduceAdd]
  rw[decide_eq_false h0]
  exact aJ rfl
end Go.PM
namespace Go.PM
open Go.Lib
end Go.PM
namespace Go.PM
open Go.Lib
theorem abB (a b:List UInt8):fB .neq (.string ⟨a.toArray⟩) (.string ⟨b.toArray⟩)=some (.bool (!decide (a=b))):=by
 have h:∀l:List UInt8,(ByteArray.toList ⟨l.toArray⟩)=l:=fun l=>by rw[ByteArray.toList_eq]
 show some (Value.bool (!(ByteArray.toList ⟨a.toArray⟩ == ByteArray.toList ⟨b.toArray⟩)))=_
 rw[h,h]
 congr 3
 cases h2:a == b
 ·rw[decide_eq_false (by simpa using h2)]
 ·rw[decide_eq_true (by simpa using h2)]
theorem SV (a b:List UInt8):fB .eql (.string ⟨a.toArray⟩) (.string ⟨b.toArray⟩)=some (.bool (decide (a=b))):=by
 have h:∀l:List UInt8,(ByteArray.toList ⟨l.toArray⟩)=l:=fun l=>by rw[ByteArray.toList_eq]
 show some (Value.bool (ByteArray.toList ⟨a.toArray⟩ == ByteArray.toList ⟨b.toArray⟩))=_
 rw[h,h]
 congr 2
 cases h2:a == b
 ·rw[decide_eq_false (by simpa using h2)]
 ·rw[decide_eq_true (by simpa using h2)]
end Go.PM
namespace Go.PM
open Go.Lib
abbrev bV (b:UInt8):VV := .sc (.int .u8 (b.toNat:Int))
theorem JF:∀bs:List UInt8,Gr (bs.map bV)=some bs
 | []=>rfl
 |
  b::bs=>by
  rw[List.map_cons]
  show (Gr (bs.map bV)).map (UInt8.ofNat ((b.toNat:Int)).toNat :: ·)=_
  rw[JF bs]
  simp
structure Ko (v:VV) (H:aA) (bs:List UInt8):Prop where
 len:pX v H=some (VI bs.length)
 src:fF 1 v H=some (bs.map bV)
 nsc:∀x,v ≠ .sc x
theorem Ko.str {v:VV} {H:aA} {bs:List UInt8} (h:Ko v H bs) {fl:Fl} {lo:Nat} {x:Operand} {ρ:cG} (hx:dY ρ x=v):vop fl lo (.b2s x) ρ H=some (cN bs,H):=by
 have h1:=h.nsc
 have h2:=h.src
 unfold vop
 dsimp only
 rw[hx]
 cases v with
 | sc x=>exact absurd rfl (h1 x)
 | _=>simp only[h2,JF,Option.map_some]
theorem Uf {bs:List UInt8} {k:TK} {H:aA}:fF 1 (.tree (bs.map bV) k) H=some (bs.map bV):=by
 have:((bs.map bV).all fun x=>(aB x).length == 1&&(aB x).all bU)=true:=by
  rw[List.all_eq_true]
  intro x hx
  obtain⟨d,_,rfl⟩:=List.mem_map.1 hx
  rfl
 simp only[fF,this,if_true]
theorem Ko.tree {bs:List UInt8} {k:TK} {H:aA}:Ko (.tree (bs.map bV) k) H bs:=⟨dM,Uf,fun x=>by simp⟩
theorem Ko.row {bs:List UInt8} {H:aA} {b g:Nat} {w:Bool} (h:aK H b g=some (bs.map bV,1,w)):Ko (.ref b g 0 bs.length bs.length) H bs:=by
 refine⟨eV h,?_,fun x=>by simp⟩
 have kW:(((bs.map bV).drop 0).take bs.length).all (fun x=>(aB x).all bU)=true:=by
  rw[List.all_eq_true]
  intro x hx
  obtain⟨d,_,rfl⟩:=List.mem_map.1 (List.mem_of_mem_drop (List.mem_of_mem_take hx))
  rfl
 simp only[fF,h]
 rw[if_pos ⟨trivial,by simp,kW⟩,List.drop_zero,List.take_of_length_le (by simp)]
theorem Ko.cons {v:VV} {H:aA} {bs:List UInt8} (h:Ko v H bs) (x:UInt8) (hl:bs.length≤1000000) (lo:Nat):∃v' H',eJ lo 1 1 (.tree [bV x] (.cl 1)) (bs.map bV) H=some (v',H')∧Ko v' H' (x::bs):=by
 by_cases hb:bs=[]
 ·subst hb
  exact⟨_,_,rfl,Ko.tree (bs:=[x])⟩
 ·have fQ:bs.length≠0:=fun h=>hb (List.length_eq_zero_iff.1 h)
  refine⟨.ref H.length 0 0 (x::bs).length (x::bs).length,H++[.row 0 ((x::bs).map bV) 1 true],?_,Ko.row (ON rfl)⟩
  simp only[eJ,List.length_map]
  rw[if_pos ⟨by decide,by decide⟩,if_pos trivial,if_neg fQ,if_pos (by simp;omega)]
  simp[Nat.add_comm]
end Go.PM
namespace Go.PM
abbrev chV (c:List (List ByteArray)):VV := .agg [jW c]
def Bb (n:Nat) (H:aA) (bare:Bool) (c:List (List ByteArray)) (r:VV):Prop:=∃c0,r = .agg [c0]∧sF n H bare c c0
theorem Bb.cZ {n:Nat} {H H':aA} {bare:Bool} {s:List (List ByteArray)} {c:VV} (h:Bb n H bare s c) (hk:∀b g x,n<b→aK H b g=some x→aK H' b g=some x):Bb n H' bare s c:=by
 obtain⟨c0,rfl,h0⟩:=h
 exact⟨c0,rfl,h0.cZ hk⟩
theorem Bb.pre {n:Nat} {H H':aA} {bare:Bool} {s:List (List ByteArray)} {c:VV} (h:Bb n H bare s c) (hh:H <+: H'):Bb n H' bare s c:=h.cZ fun _ _ _ _=>cT hh
theorem Bb.fz {n:Nat} {H:aA} {bare:Bool} {s:List (List ByteArray)} {c:VV} (h:Bb n H bare s c):PM.fz depth H c=some (chV s):=by
 obtain⟨c0,rfl,h0⟩:=h
 have f0:=h0.fz (d:=4)
 have e:PM.fz (7+1) H (.agg [c0])=if aP (.agg [c0])=true then some (.agg [c0]) else ([c0].mapM (PM.fz 7 H)).map .agg:=rfl
 show PM.fz (7+1) H (.agg [c0])=_
 rw[e]
 by_cases hp:aP (.agg [c0])=true
 ·rw[if_pos hp]
  have hu:aP c0=true:=by simpa[aP,aN] using hp
  rw[aH hu] at f0
  cases f0
  rfl
 ·rw[if_neg hp,List.mapM_cons,f0]
  rfl
theorem Za {n b:Nat} {s:List (List ByteArray)} {bare:Bool} {H H':aA} {c:VV} (hc:Bb n H bare s c) (h:aK H' b 0=some ([c],1,true)):cU true 1 (.ptr b 0 0 0) H'=some c:=by
 obtain⟨c0,rfl,_⟩:=hc
 rw[fI,h]
 rfl
end Go.PM
namespace Go.PM
open Go.Lib
def iJ (c:UInt8):Bool:=decide (48≤c.toNat)&&decide (c.toNat≤57)
def dv (c:UInt8):Nat:=c.toNat-48
def KB (a:Nat) (l:List UInt8):Nat:=l.foldl (fun a c=>a*10+dv c) a
def bN (l:List UInt8):Nat:=KB 0 l
theorem S7 (l:List UInt8):∀a,KB a l=a*10^l.length+bN l:=by
 induction l with
 | nil=>intro a;simp[KB,bN]
 |
  cons c l ih =>
  intro a
  have h1:KB a (c::l)=KB (a*10+dv c) l:=rfl
  have h2:bN (c::l)=KB (0*10+dv c) l:=rfl
  rw[h1,h2,ih,ih (0*10+dv c),List.length_cons,Nat.pow_succ]
  grind
theorem Kk (a b:List UInt8):bN (a++b)=bN a*10^b.length+bN b:=by
 have:bN (a++b)=KB (bN a) b:=by unfold bN KB;rw[List.foldl_append]
 rw[this,S7]
theorem Jp:bN []=0:=rfl
theorem UJ (a:List UInt8) (c:UInt8):bN (a++[c])=bN a*10+dv c:=by
 rw[Kk]
 simp[bN,KB]
theorem abS {c:UInt8} (h:iJ c=true):dv c<10:=by
 simp only[iJ,Bool.and_eq_true,decide_eq_true_eq] at h
 unfold dv
 omega
theorem F5:∀ {l:List UInt8},l.all iJ=true→bN l<10^l.length:=by
 intro l
 induction l with
 | nil=>intro _;decide
 |
  cons c l ih =>
  intro h
  rw[List.all_cons,Bool.and_eq_true] at h
  have h1:=abS h.1
  have h2:=ih h.2
  have h3:bN (c::l)=KB (0*10+dv c) l:=rfl
  rw[h3,S7,List.length_cons,Nat.pow_succ]
  have h4:(0*10+dv c)*10^l.length≤9*10^l.length:=Nat.mul_le_mul_right _ (by omega)
  omega
theorem acR {M:Nat} (hM:1000000000000000000≤M):∀(l:List UInt8) (k acc:Nat),l.all iJ=true→acc<10^k→k+l.length≤18→parseUintM M acc l = .ok (KB acc l):=by
 intro l
 induction l with
 | nil=>intro k acc _ _ _;rfl
 |
  cons c l ih =>
  intro k acc h hk hl
  rw[List.all_cons,Bool.and_eq_true] at h
  have h1:=abS h.1
  have h0:=h.1
  simp only[iJ,Bool.and_eq_true,decide_eq_true_eq] at h0
  rw[List.length_cons] at hl
  have h18:acc<10^17:=Nat.lt_of_lt_of_le hk (Nat.pow_le_pow_right (by decide) (by omega))
  have e17:(10:Nat)^17=100000000000000000:=by decide
  rw[e17] at h18
  have hd:c.toNat-48=dv c:=rfl
  rw[parseUintM,if_pos h0,if_neg (by omega),hd,if_neg (by omega),ih (k+1) _ h.2 (by rw[Nat.pow_succ];omega) (by omega)]
  rfl
theorem aeD {l:List UInt8} (h:l.all iJ=true) (h0:l≠[]) (hl:l.length≤18):parseUintB 64 l = .ok (bN l):=by
 unfold parseUintB
 rw[if_neg h0]
 exact acR (by decide) l 0 0 h (by decide) (by omega)
def iC (l:List UInt8):Bool:=l.all iJ&&decide (1≤l.length)&&decide (l.length≤200)&&(decide (l.length=1) || !decide (l.getD 0 0=48))
theorem jQ {l:List UInt8}:iC l=true↔l.all iJ=true∧1≤l.length∧l.length≤200∧(l.length=1∨l.getD 0 0≠48):=by
 unfold iC
 simp only[Bool.and_eq_true,Bool.or_eq_true,Bool.not_eq_true',decide_eq_true_eq,decide_eq_false_iff_not,ne_eq,and_assoc]
theorem xX {l:List UInt8} (h:iC l=true):bl (bN l)≤665:=by
 obtain⟨h1,h2,h3,_⟩:=jQ.1 h
 refine F0 (Nat.lt_of_lt_of_le (F5 h1) ?_)
 exact Nat.le_trans (Nat.pow_le_pow_right (by decide) h3) (by decide +kernel)
def lX (c:UInt8):List UInt8→List UInt8×Option (List UInt8)
 | []=>([],none)
 | x::r=>if x=c then ([],some r) else (x::(lX c r).1,(lX c r).2)
theorem Ax {c:UInt8}:∀ {l:List UInt8},(lX c l).2=none→indexByte l c = -1∧(lX c l).1=l∧c∉l:=by
 intro l
 induction l with
 | nil=>intro _;exact⟨rfl,rfl,by simp⟩
 |
  cons x l ih =>
  intro h
  unfold lX at h ⊢
  by_cases hx:x=c
  ·rw[if_pos hx] at h
   cases h
  ·rw[if_neg hx] at h ⊢
   obtain⟨h1,h2,h3⟩:=ih h
   refine⟨?_,by rw[h2],?_⟩
   ·rw[indexByte,if_neg (by simpa using hx),h1]
    rfl
   ·rw[List.mem_cons,not_or]
    exact⟨fun h=>hx h.symm,h3⟩
theorem G7 {c:UInt8}:∀ {l r:List UInt8},(lX c l).2=some r→indexByte l c=((lX c l).1.length:Int)∧l=(lX c l).1++c::r∧c∉(lX c l).1:=by
 intro l
 induction l with
 | nil=>intro r h;cases h
 |
  cons x l ih =>
  intro r h
  unfold lX at h ⊢
  by_cases hx:x=c
  ·rw[if_pos hx] at h ⊢
   cases h
   subst hx
   refine⟨?_,rfl,by simp⟩
   rw[indexByte,if_pos (by simp)]
   rfl
  ·rw[if_neg hx] at h ⊢
   obtain⟨h1,h2,h3⟩:=ih h
   refine⟨?_,?_,?_⟩
   ·rw[indexByte,if_neg (by simpa using hx),h1,if_neg]
    ·simp
    ·simp
   ·conv=>lhs;rw[h2]
    rfl
   ·rw[List.mem_cons,not_or]
    exact⟨fun h=>hx h.symm,h3⟩
def nY (neg:Bool) (d:List UInt8) (s:Option (List UInt8)):Option Rat :=
 if iC d=false∨(neg=true∧bN d=0) then none else
 match s with
 | none=>some (mkRat (pR neg (bN d)) 1)
 | some t=>if iC t=true∧1<bN t∧Nat.gcd (bN d) (bN t)=1 then some (mkRat (pR neg (bN d)) (bN t)) else none
def isNeg (l:List UInt8):Bool:=decide (1≤l.length)&&decide (l.getD 0 0=45)
def xB (l:List UInt8):Option Rat:=nY (isNeg l) ((lX 47 (if isNeg l then l.drop 1 else l)).1) ((lX 47 (if isNeg l then l.drop 1 else l)).2)
theorem Sf {neg:Bool} {d:List UInt8} {s:Option (List UInt8)} {q:Rat} (h:nY neg d s=some q):iC d=true∧¬(neg=true∧bN d=0)∧((s=none∧q=mkRat (pR neg (bN d)) 1)∨∃t,s=some t∧iC t=true∧1<bN t∧Nat.gcd (bN d) (bN t)=1∧q=mkRat (pR neg (bN d)) (bN t)):=by
 unfold nY at h
 split at h
 ·cases h
 ·rename_i hc
  rw[not_or] at hc
  refine⟨by simpa using hc.1,hc.2,?_⟩
  split at h
  ·exact .inl ⟨rfl,(Option.some.inj h).symm⟩
  ·rename_i t
   split at h
   ·rename_i ht
    exact .inr ⟨t,rfl,ht.1,ht.2.1,ht.2.2,(Option.some.inj h).symm⟩
   ·cases h
theorem OS {neg:Bool} {d:List UInt8} {s:Option (List UInt8)} {q:Rat} (h:nY neg d s=some q):iR q≤665:=by
 obtain⟨h1,_,h3⟩:=Sf h
 have hb:=xX h1
 rcases h3 with⟨_,rfl⟩ | ⟨t,_,h4,h5,_,rfl⟩
 ·exact Jw (by rw[zQ];exact hb) (F0 (by decide +kernel)) (by decide)
 ·exact Jw (by rw[zQ];exact hb) (xX h4) (by omega)
theorem Rj {l:List UInt8} {q:Rat} (h:xB l=some q):iR q≤665:=OS h
theorem HG {neg:Bool} {t b:Nat} (hb:b≠0) (hg:Nat.gcd t b=1):(mkRat (pR neg t) b).num=pR neg t∧(mkRat (pR neg t) b).den=b:=by
 rw[Kh hb,Rv hb,hg,Nat.div_one,Nat.div_one]
 exact⟨rfl,rfl⟩
theorem Em {c:UInt8} {l:List UInt8}:isNeg (c::l)=decide (c=45):=by simp[isNeg]
theorem XN {l:List UInt8} (h:l.all iJ=true):(47:UInt8)∉l:=by
 intro hm
 have:=List.all_eq_true.1 h _ hm
 exact absurd this (by decide)
end Go.PM
namespace Go.PM
open Go.Lib
theorem CD (l:List UInt8) {i:Nat} (h:i<l.length):FL (.string ⟨l.toArray⟩) (.int .i64 (i:Int))=some (.int .u8 ((l.getD i 0).toNat:Int)):=by
 have hs:(⟨l.toArray⟩:ByteArray).size=l.length:=by simp[ByteArray.size]
 have e1:(0:Int)≤i∧(i:Int)<(l.length:Int):=by omega
 simp only[FL,hs,e1,and_self,if_true,Int.toNat_natCast]
theorem Hn (l:List UInt8) (h:0<l.length):FL (.string ⟨l.toArray⟩) (.int .i64 0)=some (.int .u8 ((l.getD 0 0).toNat:Int)):=CD l h
theorem E9 (l:List UInt8) (a b:Nat):(⟨l.toArray⟩:ByteArray).extract a b=⟨((l.drop a).take (b-a)).toArray⟩:=by
 rw[ByteArray.ext_iff,ByteArray.data_extract]
 simp[List.extract_toArray,List.extract_eq_take_drop]
theorem EG (l:List UInt8) {a:Nat} (h:a≤l.length):vQ (cN l) (some (VI (a:Int))) none=some (cN (l.drop a)):=by
 have hs:(⟨l.toArray⟩:ByteArray).size=l.length:=by simp[ByteArray.size]
 have e2:(0:Int)≤a∧(a:Int)≤(l.length:Int):=by omega
 simp only[vQ,FH,zE,hs,eI,e2,and_self,if_true,Int.toNat_natCast,E9]
 rw[List.take_of_length_le (by simp)]
theorem I5 (l:List UInt8) {b:Nat} (hb:b≤l.length):vQ (cN l) none (some (VI (b:Int)))=some (cN (l.take b)):=by
 have hs:(⟨l.toArray⟩:ByteArray).size=l.length:=by simp[ByteArray.size]
 have e1:(0:Int)≤b∧(b:Int)≤(l.length:Int):=by omega
 simp only[vQ,FH,zE,hs,eI,e1,and_self,if_true,Int.toNat_natCast,E9]
 rw[List.drop_zero,Nat.sub_zero]
theorem Qo (l:List UInt8):fB .eql (.string ⟨l.toArray⟩) (.string ⟨#[]⟩)=some (.bool (decide (l=[]))):=SV l []
theorem HN (l:List UInt8):fB .neq (.string ⟨l.toArray⟩) (.string ⟨#[]⟩)=some (.bool (!decide (l=[]))):=abB l []
theorem Pn (l:List UInt8):TC 229 [cN l,cN [45]] (VB (isNeg l)):=by
 refine TC.walk ⟨true,false⟩ sG rfl (Nat.le_of_ble_eq_true rfl) rfl rfl ?_
 have e1:AW (.string ⟨#[45]⟩)=some (.int .i64 1):=rfl
 by_cases h:(1:Int)≤(l.length:Int)
 ·have e2:=I5 l (b:=1) (by omega)
  have e2:vQ (cN l) none (some (VI 1))=some (cN (l.take 1)):=e2
  have e3:fB .eql (.string ⟨(l.take 1).toArray⟩) (.string ⟨#[45]⟩)=some (.bool (decide (l.take 1=[45]))):=SV (l.take 1) [45]
  have e4:isNeg l=decide (l.take 1=[45]):=by
   cases l with
   | nil=>exact absurd h (by decide)
   | cons c l=>rw[Em];simp
  rw[e4]
  simp only[gV,gA,bO,e1,ge_iff_le,h,e2,e3,VX,Nat.reduceEqDiff,Nat.reduceAdd]
  exact aJ rfl
 ·have e4:isNeg l=false:=by unfold isNeg;rw[decide_eq_false (by omega)];rfl
  rw[e4]
  simp only[gV,gA,bO,e1,ge_iff_le,h,VX,Nat.reduceEqDiff,Nat.reduceAdd]
  exact aJ rfl
theorem Nd (l:List UInt8):TC 216 [cN l,cN [45]] (.eG [cN (if isNeg l then l.drop 1 else l),VB (isNeg l)]):=by
 refine TC.walk ⟨true,false⟩ sA rfl (Nat.le_of_ble_eq_true rfl) rfl rfl ?_
 have e0:=Pn l
 have e1:AW (.string ⟨#[45]⟩)=some (.int .i64 1):=rfl
 cases h:isNeg l with
 |
  true =>
  rw[h] at e0
  have hl:1≤l.length:=by
   cases l with
   | nil=>cases h
   | cons c l=>simp
  have e2:vQ (cN l) (some (VI 1)) none=some (cN (l.drop 1)):=EG l (a:=1) hl
  simp only[hJ,fW,e0,e1,e2,VX,Nat.reduceEqDiff,Nat.reduceAdd]
  exact aJ rfl
 |
  false =>
  rw[h] at e0
  simp only[hJ,fW,e0,Bool.false_eq_true,if_false,VX,Nat.reduceEqDiff,Nat.reduceAdd]
  exact aJ rfl
theorem Pr (l:List UInt8):TC 168 [cN l,cN [45]] (.eG [cN (if isNeg l then l.drop 1 else l),VB (isNeg l)]):=by
 refine TC.walk ⟨true,false⟩ DH rfl (Nat.le_of_ble_eq_true rfl) rfl rfl ?_
 have e0:=Nd l
 simp only[zG,vU,e0,VX,Nat.reduceEqDiff,Nat.reduceAdd]
 exact aJ rfl
theorem afD (l:List UInt8) (hl:l.length≤1000000000000):TC 215 [cN l,cN [47]] (.eG [cN (lX 47 l).1,cN ((lX 47 l).2.getD []),VB (lX 47 l).2.isSome]):=by
 refine TC.walk ⟨true,false⟩ wW rfl (Nat.le_of_ble_eq_true rfl) rfl rfl ?_
 have e0:=abD l 47
 have e1:AW (.string ⟨#[47]⟩)=some (.int .i64 1):=rfl
 cases h:(lX 47 l).2 with
 |
  none =>
  obtain⟨h1,h2,_⟩:=Ax h
  rw[h1] at e0
  rw[h2]
  simp only[kX,jS,e0,ge_iff_le,Int.reduceNeg,Int.reduceLE,VX,Nat.reduceEqDiff,Nat.reduceAdd]
  exact aJ rfl
 |
  some r =>
  obtain⟨h1,h2,_⟩:=G7 h
  rw[h1] at e0
  generalize (lX 47 l).1=a at *
  subst h2
  rw[List.length_append,List.length_cons] at hl
  have h0:(0:Int)≤(a.length:Int):=by omega
  have e2:=I5 (a++47::r) (b:=a.length) (by simp)
  have e3:=EG (a++47::r) (a:=a.length+1) (by simp)
  rw[List.take_left] at e2
  have ed:(a++47::r).drop (a.length+1)=r:=by rw[List.drop_append];simp
  rw[ed] at e3
  have w:IntKind.i64.wrap ((a.length:Int)+1)=((a.length+1:Nat):Int):=wrapN _ (by omega) (by omega)
  simp only[kX,jS,e0,e1,ge_iff_le,h0,w,e2,e3,VX,Nat.reduceEqDiff,Nat.reduceAdd]
  exact aJ rfl
theorem akB (l:List UInt8) (hl:l.length≤1000000000000):TC 167 [cN l,cN [47]] (.eG [cN (lX 47 l).1,cN ((lX 47 l).2.getD []),VB (lX 47 l).2.isSome]):=by
 refine TC.walk ⟨true,false⟩ Lb rfl (Nat.le_of_ble_eq_true rfl) rfl rfl ?_
 have e0:=afD l hl
 simp only[HP,D3,e0,VX,Nat.reduceEqDiff,Nat.reduceAdd]
 exact aJ rfl
def Au (l:List UInt8):VV:=if iC l=true then .eG [bH (bN l),VB true] else .eG [bH 0,VB false]
theorem UU (l:List UInt8):gK (Au l)=true:=by
 unfold Au
 split<;>simp[gK,pB,qA,nJ]
theorem adM {d:Nat}:fz (d+1) [.row 0 [] 1 true] (.ref 0 0 0 0 0)=some (bH 0):=by
 rw[C7]
 cases d with
 | zero=>rfl
 | succ d=>rfl
theorem Kf {n:Nat} (hn:n≤9) {lo:Nat} {H:aA} {ρ:cG} {Q:VQ} (h58:ρ 58=VI n) (h59:ρ 59=VI 0) (h9:ρ 9=VK .u64 1) (hQ:∀aM,(∀t,t<9→aM t=ρ t)→aM 9=VK .u64 ((10^n:Nat):Int)→Q .normal aM H):VW ⟨true,false⟩ lo (.loop qR) (pP 4 Q) ρ H:=by
 refine aW (fun(i:Nat) aM H'=>i≤n∧H'=H∧(∀t,t<9→aM t=ρ t)∧aM 58=VI n∧aM 59=VI i∧aM 9=VK .u64 ((10^i:Nat):Int)) (fun i=>n-i) 0 ⟨Nat.zero_le _,rfl,fun _ _=>rfl,h58,h59,h9⟩ ?_
 rintro i aM H' ⟨hi,rfl,hk,g58,g59,g9⟩
 by_cases cB:(i:Int)<(n:Int)
 ·have wi:IntKind.i64.wrap ((i:Int)+1)=((i+1:Nat):Int):=wrapN (i+1) (by omega) (by omega)
  have hp:10^i≤10^8:=Nat.pow_le_pow_right (by decide) (by omega)
  have e8:(10:Nat)^8=100000000:=by decide
  have wp:IntKind.u64.wrap (((10^i:Nat):Int)*10)=((10^(i+1):Nat):Int):=by
   rw[Nat.pow_succ]
   generalize 10^i=p at *
   have:=fN (p*10) (by omega)
   rw[Int.natCast_mul] at this
   rw[Int.natCast_mul]
   exact this
  simp only[qR,g58,g59,g9,cB,wi,wp,VX,Nat.reduceEqDiff,Nat.reduceAdd]
  refine⟨i+1,by omega,by omega,fun t ht => ?_,rfl,rfl⟩
  try simp only[uZ]
  repeat rw[if_neg (by omega)]
  exact hk t ht
 ·have pD:i=n:=by omega
  subst pD
  simp only[qR,g58,g59,cB,VX,Nat.reduceEqDiff,Nat.reduceAdd]
  refine hQ _ (fun t ht => ?_) ?_
  ·try simp only[uZ]
   repeat rw[if_neg (by omega)]
   exact hk t ht
  ·simp only[g9,VX,Nat.reduceEqDiff,Nat.reduceAdd]
theorem XL {l:List UInt8} {i:Nat} (h:i<l.length):(l.take (i+1)).all iJ=((l.take i).all iJ&&iJ (l.getD i 0)):=by
 rw[List.take_add_one,List.all_append]
 have:l[i]? = some (l.getD i 0):=by rw[List.getElem?_eq_getElem h,List.getD_eq_getElem?_getD,List.getElem?_eq_getElem h];rfl
 rw[this]
 simp
theorem Je {l:List UInt8} (hl:l.length≤1000000000000) {lo:Nat} {H:aA} {ρ:cG} {Q:VQ} (h0:ρ 0=cN l) (h29:ρ 29=VI l.length) (h30:ρ 30=VI 0)
  (hR:l.all iJ=false→∀aM:cG,aM 2 = .tree [] .nil→aM 3=VB false→Q .ret aM H) (hN:l.all iJ=true→∀aM:cG,(∀t,t<5→aM t=ρ t)→Q .normal aM H):VW ⟨true,false⟩ lo (.loop kK) (pP 0 Q) ρ H:=by
 refine aW (fun(i:Nat) aM H'=>i≤l.length∧H'=H∧(l.take i).all iJ=true∧(∀t,t<5→aM t=ρ t)∧aM 29=VI l.length∧aM 30=VI i) (fun i=>l.length-i) 0 ⟨Nat.zero_le _,rfl,rfl,fun _ _=>rfl,h29,h30⟩ ?_
 rintro i aM H' ⟨hi,rfl,hd,hk,g29,g30⟩
 have g0:=(hk 0 (by decide)).trans h0
 by_cases cB:(i:Int)<(l.length:Int)
 ·have RH:i<l.length:=by omega
  have e1:=CD l RH
  have wi:IntKind.i64.wrap ((i:Int)+1)=((i+1:Nat):Int):=wrapN (i+1) (by omega) (by omega)
  have ht:=XL RH
  rw[hd,Bool.true_and] at ht
  have Sd:iJ (l.getD i 0)=(decide (48≤(l.getD i 0).toNat)&&decide ((l.getD i 0).toNat≤57)):=rfl
  have kW:iJ (l.getD i 0)=false→l.all iJ=false:=by
   intro h
   rw[h] at ht
   rw[←List.take_append_drop (i+1) l,List.all_append,ht,Bool.false_and]
  generalize (l.getD i 0).toNat=c at *
  by_cases q1:(c:Int)<48
  ·have:=kW (by rw[Sd,decide_eq_false (by omega)];rfl)
   simp only[kK,g0,g29,g30,cB,e1,q1,VX,Nat.reduceEqDiff,Nat.reduceAdd]
   exact hR this _ (by simp only[VX,Nat.reduceEqDiff,Nat.reduceAdd]) (by simp only[VX,Nat.reduceEqDiff,Nat.reduceAdd])
  ·by_cases q2:(57:Int)<(c:Int)
   ·have:=kW (by rw[Sd,decide_eq_false (show ¬c≤57 by omega),Bool.and_false])
    simp only[kK,g0,g29,g30,cB,e1,q1,q2,VX,Nat.reduceEqDiff,Nat.reduceAdd]
    exact hR this _ (by simp only[VX,Nat.reduceEqDiff,Nat.reduceAdd]) (by simp only[VX,Nat.reduceEqDiff,Nat.reduceAdd])
   ·rw[Sd,decide_eq_true (by omega),decide_eq_true (by omega),Bool.and_self] at ht
    simp only[kK,g0,g29,g30,cB,e1,q1,q2,wi,VX,Nat.reduceEqDiff,Nat.reduceAdd]
    refine⟨i+1,by omega,by omega,ht,fun t ht => ?_,rfl⟩
    try simp only[uZ]
    repeat rw[if_neg (by omega)]
    exact hk t ht
 ·have pD:i=l.length:=by omega
  subst pD
  rw[List.take_length] at hd
  simp only[kK,g29,g30,cB,VX,Nat.reduceEqDiff,Nat.reduceAdd]
  refine hN hd _ fun t ht => ?_
  try simp only[uZ]
  repeat rw[if_neg (by omega)]
  exact hk t ht
set_option maxHeartbeats 2000000 in
theorem Jo {l:List UInt8} (hd:l.all iJ=true) (hl:l.length≤200) (fQ:l≠[]) {ρ:cG} {Q:VQ} (h0:ρ 0=cN l) (h4:ρ 4 = .ref 0 0 0 0 0)
  (hQ:∀(aM:cG),aM 4=bH (bN l)→Q .normal aM [.row 0 [] 1 false]):VW ⟨true,false⟩ 0 (.loop nB) (pP 2 Q) ρ [.row 0 [] 1 true]:=by
 refine aW (fun(s:List UInt8×List UInt8) aM H'=>l=s.1++s.2∧aM 0=cN s.2∧((H'=[.row 0 [] 1 true]∧aM 4 = .ref 0 0 0 0 0∧s.1=[])∨(H'=[.row 0 [] 1 false]∧aM 4=bH (bN s.1)))) (fun s=>s.2.length) ([],l) ⟨rfl,h0,.inl ⟨rfl,h4,rfl⟩⟩ ?_
 rintro⟨pre,rest⟩ aM H' ⟨OW,g0,hv⟩
 simp only at OW g0 hv
 have e1:=HN rest
 by_cases he:rest=[]
 ·subst he
  rw[List.append_nil] at OW
  subst OW
  rcases hv with⟨_,_,h⟩ | ⟨rfl,g4⟩
  ·exact absurd h fQ
  have VZ:fB .neq (.string ⟨#[]⟩) (.string ⟨#[]⟩)=some (.bool false):=by
   have:=HN []
   rw[decide_eq_true rfl] at this
   exact this
  simp only[nB,g0,VZ,VX,Nat.reduceEqDiff,Nat.reduceAdd]
  exact hQ _ (by simp only[g4,VX,Nat.reduceEqDiff,Nat.reduceAdd])
 ·rw[OW,List.all_append,Bool.and_eq_true] at hd
  obtain⟨hd1,hd2⟩:=hd
  rw[OW,List.length_append] at hl
  have kI:0<rest.length:=List.length_pos_iff.2 he
  have VZ:fB .neq (.string ⟨rest.toArray⟩) (.string ⟨#[]⟩)=some (.bool true):=by rw[e1,decide_eq_false he];rfl
  have wm:(rest.length:Int).tmod 9=((rest.length % 9:Nat):Int):=by rw[Int.tmod_eq_emod_of_nonneg (by omega)];simp
  have er:fB .rem (.int .i64 (rest.length:Int)) (.int .i64 9)=some (.int .i64 ((rest.length % 9:Nat):Int)):=by
   rw[←wm]
   rfl
  obtain⟨n,hn⟩:∃n,n=if rest.length % 9=0 then 9 else rest.length % 9:=⟨_,rfl⟩
  have hn1:1≤n∧n≤9∧n≤rest.length:=by
   rw[hn]
   split<;>omega
  obtain⟨n1,n9,nl⟩:=hn1
  have e2:=I5 rest nl
  have e3:=EG rest nl
  have hch:(rest.take n).length=n:=by rw[List.length_take];omega
  have hcd:(rest.take n).all iJ=true:=by
   rw[←List.take_append_drop n rest,List.all_append,Bool.and_eq_true] at hd2
   exact hd2.1
  have hp:=aaT (rest.take n) (bN (rest.take n)) (by omega) (aeD hcd (fun h=>by rw[h] at hch;simp at hch;omega) (by omega))
  have DR:=F5 hcd
  rw[hch] at DR
  have hp9:10^n≤10^9:=Nat.pow_le_pow_right (by decide) n9
  have e9:(10:Nat)^9=1000000000:=by decide
  have azJ:bN (rest.take n)<1000000000:=by omega
  have c1:=mI (10^n) (by omega)
  have c2:=mI (bN (rest.take n)) (by omega)
  have hbp:bl (bN pre)≤665:=by
   refine F0 (Nat.lt_of_lt_of_le (F5 hd1) ?_)
   exact Nat.le_trans (Nat.pow_le_pow_right (by decide) (by omega:pre.length≤200)) (by decide +kernel)
  have hb9:bl (10^n)≤64:=F0 (by omega)
  have hbm:=sP (bN pre) (10^n)
  have hbc:bl (bN (rest.take n))≤64:=F0 (by omega)
  have tm:=lR (bN pre) (10^n) (gM (by omega)) (gM (by omega))
  have c4:=Cp (bN pre*10^n) (bN (rest.take n)) (gM (by omega)) (gM (by omega))
  have mZ:bN pre*10^n+bN (rest.take n)=bN (pre++rest.take n):=by rw[Kk,hch]
  rw[mZ] at c4
  have fin:(rest.drop n).length<rest.length∧pre++rest=(pre++rest.take n)++rest.drop n:=⟨by rw[List.length_drop];omega,by rw[List.append_assoc,List.take_append_drop]⟩
  obtain⟨v4,g4,c3⟩:∃v4,aM 4=v4∧∀lo K,cW 180 [v4,bH (10^n)] lo H' K=K (bH (bN pre*10^n)) [.row 0 [] 1 false]:=by
   rcases hv with⟨rfl,g4,Xk⟩ | ⟨rfl,g4⟩
   ·refine⟨_,g4,fun lo K => ?_⟩
    subst Xk
    have:=tm.CS (H:=[.row 0 [] 1 true]) (args:=[.ref 0 0 0 0 0,bH (10^n)]) (lo:=lo) (k:=K) rfl (by simp[aN,bP]) (fz2 adM (aH (bP _))) rfl
    rw[this,show Fa (bH (bN []*10^n))=false from rfl,if_neg (by decide),List.flatMap_cons,List.flatMap_cons,List.flatMap_nil,Bt (bP _),G3 (n:=0) (c:=0) (es:=[]) (e:=1) (w:=true) aR rfl rfl]
    rfl
   ·exact⟨_,g4,fun lo K=>tm lo [.row 0 [] 1 false] K⟩
  clear hv
  obtain⟨P,hP⟩:∃P,P=10^n:=⟨_,rfl⟩
  rw[←hP] at c1 c4 c3
  have hnI:(rest.length % 9:Nat)=0∨¬(rest.length % 9:Nat)=0:=by omega
  rcases hnI with h9 | h9
  ·rw[if_pos h9] at hn
   subst hn
   have q:((rest.length % 9:Nat):Int)=0:=by omega
   have e2':vQ (cN rest) none (some (VI 9))=some (cN (rest.take 9)):=e2
   have e3':vQ (cN rest) (some (VI 9)) none=some (cN (rest.drop 9)):=e3
   simp only[nB,g0,g4,VZ,bO,er,q,e2',hp,VX,Nat.reduceEqDiff,Nat.reduceAdd]
   refine Kf (n:=9) (by decide) ?_ ?_ ?_ fun wQ k1 q9 => ?_
   ·simp only[VX,Nat.reduceEqDiff,Nat.reduceAdd];rfl
   ·simp only[VX,Nat.reduceEqDiff,Nat.reduceAdd]
   ·simp only[VX,Nat.reduceEqDiff,Nat.reduceAdd]
   rw[←hP] at q9
   have u0:wQ 0=cN rest:=by rw[k1 0 (by decide)];simp only[g0,VX,Nat.reduceEqDiff,Nat.reduceAdd]
   have u4:wQ 4=v4:=by rw[k1 4 (by decide)];simp only[g4,VX,Nat.reduceEqDiff,Nat.reduceAdd]
   have u6:wQ 6=VI 9:=by rw[k1 6 (by decide)];simp only[VX,Nat.reduceEqDiff,Nat.reduceAdd]
   have u7:wQ 7=VK .u64 (bN (rest.take 9)):=by rw[k1 7 (by decide)];simp only[VX,Nat.reduceEqDiff,Nat.reduceAdd]
   simp only[u0,u4,u6,u7,q9,c1,c2,c3,c4,e3',VX,Nat.reduceEqDiff,Nat.reduceAdd]
   exact⟨(pre++rest.take 9,rest.drop 9),fin.1,OW.trans fin.2,rfl,.inr rfl⟩
  ·rw[if_neg h9] at hn
   rw[←hn] at er
   have q:¬(n:Int)=0:=by omega
   simp only[nB,g0,g4,VZ,bO,er,q,e2,hp,VX,Nat.reduceEqDiff,Nat.reduceAdd]
   refine Kf (n:=n) n9 ?_ ?_ ?_ fun wQ k1 q9 => ?_
   ·simp only[VX,Nat.reduceEqDiff,Nat.reduceAdd]
   ·simp only[VX,Nat.reduceEqDiff,Nat.reduceAdd]
   ·simp only[VX,Nat.reduceEqDiff,Nat.reduceAdd]
   rw[←hP] at q9
   have u0:wQ 0=cN rest:=by rw[k1 0 (by decide)];simp only[g0,VX,Nat.reduceEqDiff,Nat.reduceAdd]
   have u4:wQ 4=v4:=by rw[k1 4 (by decide)];simp only[g4,VX,Nat.reduceEqDiff,Nat.reduceAdd]
   have u6:wQ 6=VI n:=by rw[k1 6 (by decide)];simp only[VX,Nat.reduceEqDiff,Nat.reduceAdd]
   have u7:wQ 7=VK .u64 (bN (rest.take n)):=by rw[k1 7 (by decide)];simp only[VX,Nat.reduceEqDiff,Nat.reduceAdd]
   simp only[u0,u4,u6,u7,q9,c1,c2,c3,c4,e3,VX,Nat.reduceEqDiff,Nat.reduceAdd]
   exact⟨(pre++rest.take n,rest.drop n),fin.1,OW.trans fin.2,rfl,.inr rfl⟩
set_option maxHeartbeats 2000000 in
theorem Cu (l:List UInt8) (hl:l.length≤1000000000000):TC 169 [cN l] (Au l):=by
 refine TC.walk ⟨true,false⟩ Jt rfl (Nat.le_of_ble_eq_true rfl) rfl (UU l) ?_
 have e1:=Qo l
 by_cases he:l=[]
 ·have hk:iC l=false:=by rw[he];rfl
  have VZ:fB .eql (.string ⟨l.toArray⟩) (.string ⟨#[]⟩)=some (.bool true):=by rw[e1,decide_eq_true he]
  unfold Au
  rw[hk]
  simp only[oY,lG,VZ,Bool.false_eq_true,if_false,VX,Nat.reduceEqDiff,Nat.reduceAdd]
  exact bE (d:=6) wA (aH (v:=VB false) rfl)
 have kI:0<l.length:=List.length_pos_iff.2 he
 by_cases aaD:(200:Int)<(l.length:Int)
 ·have hk:iC l=false:=by
   cases h:iC l with
   | false=>rfl
   | true=>have:=(jQ.1 h).2.2.1;omega
  unfold Au
  rw[hk]
  simp only[oY,lG,e1,he,decide_false,bO,aaD,Bool.false_eq_true,if_false,VX,Nat.reduceEqDiff,Nat.reduceAdd]
  exact bE (d:=6) wA (aH (v:=VB false) rfl)
 have e2:=Hn l kI
 by_cases hz:(((l.getD 0 0).toNat:Int)=48∧1<(l.length:Int))
 ·obtain⟨GC,V5⟩:=hz
  have hk:iC l=false:=by
   cases h:iC l with
   | false=>rfl
   |
    true =>
    rcases(jQ.1 h).2.2.2 with h1 | h1
    ·omega
    ·exact absurd (UInt8.toNat_inj.1 (by rw[show (48:UInt8).toNat=48 from rfl];omega)) h1
  unfold Au
  rw[hk]
  simp only[oY,lG,e1,he,decide_false,bO,aaD,e2,GC,V5,Bool.false_eq_true,if_false,VX,Nat.reduceEqDiff,Nat.reduceAdd]
  exact bE (d:=6) wA (aH (v:=VB false) rfl)
 have ajC:l.length=1∨l.getD 0 0≠48:=by
  by_cases h1:l.length=1
  ·exact .inl h1
  ·right
   intro h2
   apply hz
   rw[h2]
   exact⟨rfl,by omega⟩
 have e3:∀lr,tY lr [.int .u32 0] 0 [] []=some (.ref 0 0 0 0 0,[.row 0 [] 1 true]):=fun lr=>vC (H:=[]) (lr:=lr) (z:=[.int .u32 0]) rfl
 have kN:l.all iJ=true→iC l=true:=fun h=>jQ.2 ⟨h,kI,by omega,ajC⟩
 have kF:l.all iJ=false→iC l=false:=fun h=>by unfold iC;rw[h];rfl
 have rF:iC l=false→Au l = .eG [bH 0,VB false]:=fun h=>by unfold Au;rw[h];rfl
 have rT:iC l=true→Au l = .eG [bH (bN l),VB true]:=fun h=>if_pos h
 by_cases hA:(((l.getD 0 0).toNat:Int)=48)
 ·have hB:¬1<(l.length:Int):=fun h=>hz ⟨hA,h⟩
  simp only[oY,lG,e1,e3,he,decide_false,bO,aaD,e2,hA,hB,Bool.false_eq_true,if_false,VX,Nat.reduceEqDiff,Nat.reduceAdd]
  refine Je hl ?_ ?_ ?_ (fun hd wQ g2 g3 => ?_) fun hd wQ k1 => ?_
  ·simp only[VX,Nat.reduceEqDiff,Nat.reduceAdd]
  ·simp only[VX,Nat.reduceEqDiff,Nat.reduceAdd]
  ·simp only[VX,Nat.reduceEqDiff,Nat.reduceAdd]
  ·rw[rF (kF hd)]
   simp only[g2,g3,VX,Nat.reduceEqDiff,Nat.reduceAdd]
   exact bE (d:=6) wA (aH (v:=VB false) rfl)
  ·rw[rT (kN hd)]
   simp only[VX,Nat.reduceEqDiff,Nat.reduceAdd]
   refine Jo hd (by omega) he ?_ ?_ fun pM g4 => ?_
   ·rw[k1 0 (by decide)];simp only[VX,Nat.reduceEqDiff,Nat.reduceAdd]
   ·rw[k1 4 (by decide)];simp only[VX,Nat.reduceEqDiff,Nat.reduceAdd]
   ·simp only[g4,VX,Nat.reduceEqDiff,Nat.reduceAdd]
    exact bE (d:=6) (aH (bP _)) (aH (v:=VB true) rfl)
 ·simp only[oY,lG,e1,e3,he,decide_false,bO,aaD,e2,hA,Bool.false_eq_true,if_false,VX,Nat.reduceEqDiff,Nat.reduceAdd]
  refine Je hl ?_ ?_ ?_ (fun hd wQ g2 g3 => ?_) fun hd wQ k1 => ?_
  ·simp only[VX,Nat.reduceEqDiff,Nat.reduceAdd]
  ·simp only[VX,Nat.reduceEqDiff,Nat.reduceAdd]
  ·simp only[VX,Nat.reduceEqDiff,Nat.reduceAdd]
  ·rw[rF (kF hd)]
   simp only[g2,g3,VX,Nat.reduceEqDiff,Nat.reduceAdd]
   exact bE (d:=6) wA (aH (v:=VB false) rfl)
  ·rw[rT (kN hd)]
   simp only[VX,Nat.reduceEqDiff,Nat.reduceAdd]
   refine Jo hd (by omega) he ?_ ?_ fun pM g4 => ?_
   ·rw[k1 0 (by decide)];simp only[VX,Nat.reduceEqDiff,Nat.reduceAdd]
   ·rw[k1 4 (by decide)];simp only[VX,Nat.reduceEqDiff,Nat.reduceAdd]
   ·simp only[g4,VX,Nat.reduceEqDiff,Nat.reduceAdd]
    exact bE (d:=6) (aH (bP _)) (aH (v:=VB true) rfl)
def Jh:VV := .agg [VB false,bH 0,bH 0]
def CQ (l:List UInt8):VV:=match xB l with
 | some q => .eG [aO q,VB true]
 | none => .eG [Jh,VB false]
theorem Ou:gK Jh=true:=by simp[Jh,gK,pB,qA,nJ]
theorem RD (l:List UInt8):gK (CQ l)=true:=by
 unfold CQ
 split<;>simp[gK,pB,CZ,Ou,nJ]
theorem gC {d:Nat} {H:aA}:fz (d+2) H (.agg [VB false,.tree [] .nil,.tree [] .nil])=some Jh:=qN (aH (v:=VB false) rfl) wA wA
theorem KJ {neg:Bool} {t b:Nat} (hb:b≠0) (hg:Nat.gcd t b=1) (hn:¬(neg=true∧t=0)):aO (mkRat (pR neg t) b) = .agg [VB neg,bH t,bH b]:=by
 obtain⟨e1,e2⟩:=HG (neg:=neg) hb hg
 refine IJ ?_ (by rw[e1,zQ]) e2
 rw[e1]
 cases neg with
 | false=>unfold pR;simp
 |
  true =>
  have:t≠0:=fun h=>hn ⟨rfl,h⟩
  unfold pR
  simp
  omega
theorem Rp (l:List UInt8):xB l=nY (isNeg (lX 47 l).1) (if isNeg (lX 47 l).1 then (lX 47 l).1.drop 1 else (lX 47 l).1) (lX 47 l).2:=by
 cases l with
 | nil=>rfl
 |
  cons c r =>
  unfold xB
  by_cases h47:c=47
  ·subst h47
   rfl
  ·have e:lX 47 (c::r)=(c::(lX 47 r).1,(lX 47 r).2):=by rw[lX,if_neg h47]
   by_cases h45:c=45
   ·subst h45
    rw[e]
    rfl
   ·rw[e,Em,Em,decide_eq_false h45]
    simp only[Bool.false_eq_true,if_false,e]
theorem Qs {c:UInt8}:∀ {l:List UInt8},(lX c l).1.length≤l.length∧∀t,(lX c l).2=some t→t.length≤l.length:=by
 intro l
 cases h:(lX c l).2 with
 | none=>rw[(Ax h).2.1];exact⟨Nat.le_refl _,fun t ht=>by cases ht⟩
 |
  some r =>
  have:=congrArg List.length (G7 h).2.1
  rw[List.length_append,List.length_cons] at this
  exact⟨by omega,fun t ht=>by cases ht;omega⟩
theorem LP {n:Nat}:(((aD 4294967296 n).length:Nat):Int)=0↔n=0:=by
 rw[←oJ (b:=4294967296) (n:=n) (by decide),←List.length_eq_zero_iff]
 omega
set_option maxRecDepth 100000 in
set_option maxHeartbeats 4000000 in
theorem JI (l:List UInt8) (hl:l.length≤1000000000000):TC 89 [cN l] (CQ l):=by
 refine TC.walk ⟨true,false⟩ JC rfl (Nat.le_of_ble_eq_true rfl) rfl (RD l) ?_
 have e1:=akB l hl
 obtain⟨l1,l2⟩:=Qs (c:=47) (l:=l)
 have hq:=Rp l
 unfold CQ
 rw[hq]
 clear hq
 generalize (lX 47 l).1=f at *
 generalize (lX 47 l).2=s2 at *
 have e2:=Pr f
 have ld:(if isNeg f=true then f.drop 1 else f).length≤f.length:=by split<;>simp
 generalize (if isNeg f=true then f.drop 1 else f)=d at *
 generalize isNeg f=neg at *
 have e3:=Cu d (by omega)
 have c1:TC 101 [.sc (.int .u64 1)] (bH 1):=mI 1 (by decide)
 cases hd:iC d with
 |
  false =>
  have hp:nY neg d s2=none:=if_pos (.inl hd)
  rw[hp]
  unfold Au at e3
  rw[hd,if_neg (by decide)] at e3
  simp only[dT,cS,e1,e2,e3,aI,iH,Nat.reduceLeDiff,Nat.reduceLT,Nat.reduceSub,VX,Nat.reduceEqDiff,Nat.reduceAdd]
  exact bE (d:=6) gC (aH (v:=VB false) rfl)
 |
  true =>
  unfold Au at e3
  rw[hd,if_pos rfl] at e3
  by_cases hz:neg=true∧bN d=0
  ·have hp:nY neg d s2=none:=if_pos (.inr hz)
   rw[hp]
   obtain⟨rfl,DN⟩:=hz
   rw[DN] at e3
   have zB:(((aD 4294967296 0).length:Nat):Int)=0:=LP.2 rfl
   simp only[dT,cS,e1,e2,e3,gQ,zB,aI,iH,Nat.reduceLeDiff,Nat.reduceLT,Nat.reduceSub,VX,Nat.reduceEqDiff,Nat.reduceAdd]
   exact bE (d:=6) gC (aH (v:=VB false) rfl)
  ·have hbt:=xX hd
   have zB:neg=true→¬(((aD 4294967296 (bN d)).length:Nat):Int)=0:=fun h h0=>hz ⟨h,LP.1 h0⟩
   cases s2 with
   |
    none =>
    have hp:nY neg d none=some (mkRat (pR neg (bN d)) 1):=if_neg (by rw[hd];rintro(h | h);exact absurd h (by decide);exact hz h)
    rw[hp]
    simp only[]
    rw[KJ (by decide) (Nat.gcd_one_right _) hz]
    cases neg with
    |
     false =>
     simp only[dT,cS,e1,e2,e3,c1,Option.isSome_none,Option.getD_none,aI,aZ,bB,aQ,iH,Nat.reduceLeDiff,Nat.reduceLT,Nat.reduceSub,VX,Nat.reduceEqDiff,Nat.reduceAdd]
     exact bE (d:=6) (qN (aH (v:=VB false) rfl) (aH (bP _)) (aH (bP _))) (aH (v:=VB true) rfl)
    |
     true =>
     have zB:=zB rfl
     simp only[dT,cS,e1,e2,e3,c1,gQ,zB,Option.isSome_none,Option.getD_none,aI,aZ,bB,aQ,iH,Nat.reduceLeDiff,Nat.reduceLT,Nat.reduceSub,VX,Nat.reduceEqDiff,Nat.reduceAdd]
     exact bE (d:=6) (qN (aH (v:=VB true) rfl) (aH (bP _)) (aH (bP _))) (aH (v:=VB true) rfl)
   |
    some t =>
    have e4:=Cu t (by have:=l2 t rfl;omega)
    have hp:nY neg d (some t)=if iC t=true∧1<bN t∧Nat.gcd (bN d) (bN t)=1 then some (mkRat (pR neg (bN d)) (bN t)) else none:=if_neg (by rw[hd];rintro(h | h);exact absurd h (by decide);exact hz h)
    rw[hp]
    cases ht:iC t with
    |
     false =>
     rw[if_neg (fun h=>absurd h.1 (by decide))]
     unfold Au at e4
     rw[ht,if_neg (by decide)] at e4
     cases neg with
     |
      false =>
      simp only[dT,cS,e1,e2,e3,e4,c1,Option.isSome_some,Option.getD_some,aI,aZ,bB,aQ,iH,Nat.reduceLeDiff,Nat.reduceLT,Nat.reduceSub,VX,Nat.reduceEqDiff,Nat.reduceAdd]
      exact bE (d:=6) gC (aH (v:=VB false) rfl)
     |
      true =>
      have zB:=zB rfl
      simp only[dT,cS,e1,e2,e3,e4,c1,gQ,zB,Option.isSome_some,Option.getD_some,aI,aZ,bB,aQ,iH,Nat.reduceLeDiff,Nat.reduceLT,Nat.reduceSub,VX,Nat.reduceEqDiff,Nat.reduceAdd]
      exact bE (d:=6) gC (aH (v:=VB false) rfl)
    |
     true =>
     have Km:=xX ht
     unfold Au at e4
     rw[ht,if_pos rfl] at e4
     have c2:=jY (bN t) 1 (gM (by omega)) (gM (Nat.le_trans (F0 (n:=1) (k:=1) (by decide)) (by decide)))
     have c3:=CV (bN d) (bN t) (gM (by omega)) (gM (by omega))
     by_cases h1:fD (bN t) 1≤0
     ·have hle:¬1<bN t:=fun h=>by unfold fD at h1;rw[if_neg (by omega),if_neg (by omega)] at h1;exact absurd h1 (by decide)
      rw[if_neg (fun h=>hle h.2.1)]
      cases neg with
      |
       false =>
       simp only[dT,cS,e1,e2,e3,e4,c1,c2,h1,Option.isSome_some,Option.getD_some,aI,aZ,bB,aQ,iH,Nat.reduceLeDiff,Nat.reduceLT,Nat.reduceSub,VX,Nat.reduceEqDiff,Nat.reduceAdd]
       exact bE (d:=6) gC (aH (v:=VB false) rfl)
      |
       true =>
       have zB:=zB rfl
       simp only[dT,cS,e1,e2,e3,e4,c1,c2,h1,gQ,zB,Option.isSome_some,Option.getD_some,aI,aZ,bB,aQ,iH,Nat.reduceLeDiff,Nat.reduceLT,Nat.reduceSub,VX,Nat.reduceEqDiff,Nat.reduceAdd]
       exact bE (d:=6) gC (aH (v:=VB false) rfl)
     ·have aX:1<bN t:=by
       rcases Nat.lt_or_ge 1 (bN t) with h | h
       ·exact h
       ·exfalso
        apply h1
        unfold fD
        split
        ·decide
        ·rw[if_pos (by omega)];decide
      have YS:bl (Nat.gcd (bN d) (bN t))≤665:=Nat.le_trans (rZ (Nat.le_of_dvd (by omega) (Nat.gcd_dvd_right _ _))) Km
      have c4:=jY (Nat.gcd (bN d) (bN t)) 1 (gM (by omega)) (gM (Nat.le_trans (F0 (n:=1) (k:=1) (by decide)) (by decide)))
      by_cases hg:Nat.gcd (bN d) (bN t)=1
      ·have h4:fD (Nat.gcd (bN d) (bN t)) 1=0:=by rw[hg];rfl
       rw[if_pos ⟨rfl,aX,hg⟩]
       simp only[]
       rw[KJ (by omega) hg hz]
       cases neg with
       |
        false =>
        simp only[dT,cS,e1,e2,e3,e4,c1,c2,c3,c4,h1,h4,Option.isSome_some,Option.getD_some,aI,aZ,bB,aQ,iH,Nat.reduceLeDiff,Nat.reduceLT,Nat.reduceSub,VX,Nat.reduceEqDiff,Nat.reduceAdd]
        exact bE (d:=6) (qN (aH (v:=VB false) rfl) (aH (bP _)) (aH (bP _))) (aH (v:=VB true) rfl)
       |
        true =>
        have zB:=zB rfl
        simp only[dT,cS,e1,e2,e3,e4,c1,c2,c3,c4,h1,h4,gQ,zB,Option.isSome_some,Option.getD_some,aI,aZ,bB,aQ,iH,Nat.reduceLeDiff,Nat.reduceLT,Nat.reduceSub,VX,Nat.reduceEqDiff,Nat.reduceAdd]
        exact bE (d:=6) (qN (aH (v:=VB true) rfl) (aH (bP _)) (aH (bP _))) (aH (v:=VB true) rfl)
      ·have h4:¬fD (Nat.gcd (bN d) (bN t)) 1=0:=by
        unfold fD
        split<;>(try split)<;>first | decide | omega
       rw[if_neg (fun h=>hg h.2.2)]
       cases neg with
       |
        false =>
        simp only[dT,cS,e1,e2,e3,e4,c1,c2,c3,c4,h1,h4,Option.isSome_some,Option.getD_some,aI,aZ,bB,aQ,iH,Nat.reduceLeDiff,Nat.reduceLT,Nat.reduceSub,VX,Nat.reduceEqDiff,Nat.reduceAdd]
        exact bE (d:=6) gC (aH (v:=VB false) rfl)
       |
        true =>
        have zB:=zB rfl
        simp only[dT,cS,e1,e2,e3,e4,c1,c2,c3,c4,h1,h4,gQ,zB,Option.isSome_some,Option.getD_some,aI,aZ,bB,aQ,iH,Nat.reduceLeDiff,Nat.reduceLT,Nat.reduceSub,VX,Nat.reduceEqDiff,Nat.reduceAdd]
        exact bE (d:=6) gC (aH (v:=VB false) rfl)
end Go.PM
namespace Go.PM
open Go.Lib
theorem OU {l:List UInt8} {q:Rat} (h:xB l=some q):CQ l = .eG [aO q,VB true]:=by unfold CQ;rw[h]
theorem PW {l:List UInt8} (h:xB l=none):CQ l = .eG [Jh,VB false]:=by unfold CQ;rw[h]
theorem HQ:aB Jh=[VB false,bH 0,bH 0]:=rfl
theorem Jj:isAny Jh=false:=rfl
theorem Pe:dR true 3 Jh 0=some Jh:=rfl
end Go.PM
namespace Go.PM
open Go.Lib
theorem HC {q:Rat}:jO q=0↔q=0:=by
 rw[←Rat.num_eq_zero]
 rcases Int.lt_trichotomy q.num 0 with h | h | h
 ·rw[mR h];omega
 ·rw[kP h];simp[h]
 ·rw[mJ h];omega
end Go.PM