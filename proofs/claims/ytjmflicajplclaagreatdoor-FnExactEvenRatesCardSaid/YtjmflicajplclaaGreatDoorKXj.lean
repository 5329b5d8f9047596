/- Texts of a claim, in one: part 10. -/
import Derived.Lib.Bytealg
import Derived.Lib.ParseIntB
import Derived.Test.YtjmflicajplclaaGreatDoorKXi
set_option linter.unusedSimpArgs false
set_option linter.unusedVariables false
namespace Go.PM
theorem ND {ds:List Nat} {H:aA}:dF 1 (iM ds) H=some (ds.map tV):=by
 have:((ds.map tV).all fun x=>(aB x).length == 1&&(aB x).all cC)=true:=by
  rw[List.all_eq_true]
  intro x hx
  obtain⟨d,_,rfl⟩:=List.mem_map.1 hx
  rfl
 simp only[dF,iM,aQ,this,if_true]
theorem Eu (n:Nat) {H:aA}:dF 1 (cB n) H=some ((aC 1000000000 n).map tV):=ND
theorem HX {a n:Nat} (hn:(aC 1000000000 a).length=n+1):∃d,(aC 1000000000 a)[n]? = some d∧d≠0∧d<1000000000:=by
 obtain⟨d,hd⟩:∃d,(aC 1000000000 a)[n]? = some d:=⟨_,List.getElem?_eq_getElem (by omega)⟩
 refine⟨d,hd,fun h0 => ?_,fP (by decide) a d (List.mem_of_getElem? hd)⟩
 have:=OZ (b:=1000000000) (by decide) a
 rw[List.getLast?_eq_getElem?,hn,Nat.add_sub_cancel,hd,h0] at this
 exact this rfl
theorem W0 {a d:Nat} (h:aC 1000000000 a=[d]):a=d∧0<d∧d<1000000000:=by
 have h1:=cJ (b:=1000000000) (by decide) a
 rw[h,val_one] at h1
 obtain⟨e,h2,h3,h4⟩:=HX (a:=a) (n:=0) (by rw[h];rfl)
 rw[h] at h2
 cases h2
 exact⟨h1.symm,by omega,h4⟩
theorem akA {a:Nat} (h:(aC 1000000000 a).length≤2):a<1000000000000000000:=by
 have h1:=gW (b:=1000000000) (by decide) a
 have h2:1000000000^(aC 1000000000 a).length≤1000000000^2:=Nat.pow_le_pow_right (by decide) h
 omega
theorem Zo {H:aA} {u v:VV} (hu:bA u=true) (hv:bA v=true):fz depth H (.fN [u,v])=some (.fN [u,v]):=aK (by simp only[bA,aM,hu,hv,Bool.and_self])
theorem apD {X N:Nat} (h:(aC 1000000000 X).length≤N):NO 0 1 (.ref 0 0 0 N N) (cB X) [.row 0 ((List.replicate N 0).map tV) 1 true]=some (VI ((aC 1000000000 X).length:Int),[.row 0 ((aC 1000000000 X++List.replicate (N-(aC 1000000000 X).length) 0).map tV) 1 true]):=by
 have e:((aC 1000000000 X).map tV).take N=(aC 1000000000 X).map tV:=List.take_of_length_le (by simpa using h)
 simp only[NO,cB,ND,aU,e,List.length_map,List.length_replicate,Nat.zero_add]
 rw[if_pos ⟨trivial,Nat.le_refl _,h⟩]
 simp only[dG,List.set_cons_zero,List.take_zero,List.nil_append,Nat.zero_add,List.length_map,List.map_append,List.map_replicate,List.drop_replicate]
theorem vB (a b:Nat) (hb:b≠0) (ha:(aC 1000000000 a).length<17592186044416) (vL:(aC 1000000000 b).length<17592186044416):TC 185 [cB a,cB b] (.fN [cB (a / b),cB (a % b)]):=by
 refine TC.walk ⟨true,false⟩ Ir rfl (Nat.le_of_ble_eq_true rfl) (by simp[aM,cI]) (by simp[iU,sK,oA]) ?_
 have s1:=Cu a (by omega)
 have s2:=Cu b (by omega)
 have fin:∀ {H:aA},fz depth H (.fN [cB (a / b),cB (a % b)])=some (.fN [cB (a / b),cB (a % b)]):=Zo (cI _) (cI _)
 by_cases O0:(aC 1000000000 a).length≤2∧(aC 1000000000 b).length≤2
 ·rw[if_pos O0.1] at s1
  rw[if_pos O0.2] at s2
  have la:=akA O0.1
  have q1:=Ks a b (by omega) (by omega)
  have q2:=My a b (by omega)
  have hdl:a / b≤a:=Nat.div_le_self _ _
  have Kz:a % b≤a:=Nat.mod_le _ _
  have n1:TC 178 [VI ((a / b:Nat):Int)] (cB (a / b)):=rA ((a / b:Nat):Int) (Int.ofNat_le.2 (show a / b≤9223372036854775807 from Nat.le_trans hdl (by omega)))
  have n2:TC 178 [VI ((a % b:Nat):Int)] (cB (a % b)):=rA ((a % b:Nat):Int) (Int.ofNat_le.2 (show a % b≤9223372036854775807 from Nat.le_trans Kz (by omega)))
  simp only[fL,dS,s1,s2,q1,q2,n1,n2,VX,Nat.reduceEqDiff,Nat.reduceAdd]
  exact fin
 have c1:=vJ a b (by omega) (by omega)
 obtain⟨x1,t1,Nv⟩:∃(x:Int) (t:Bool),(if (aC 1000000000 a).length≤2 then VV.fN [VI a,VB true] else .fN [VI 0,VB false]) = .fN [VI x,VB t]:=by split<;>exact⟨_,_,rfl⟩
 have hs2:∃(x:Int) (t:Bool),(if (aC 1000000000 b).length≤2 then VV.fN [VI b,VB true] else .fN [VI 0,VB false]) = .fN [VI x,VB t]∧(t1=true→t=false):=by
  by_cases h:(aC 1000000000 b).length≤2
  ·rw[if_pos h]
   refine⟨_,_,rfl,fun ht => ?_⟩
   rw[if_neg (fun h'=>O0 ⟨h',h⟩)] at Nv
   injection Nv with Nv
   injection Nv with _ Nv
   injection Nv with Nv _
   injection Nv with Nv
   injection Nv with Nv
   subst ht
   cases Nv
  ·rw[if_neg h]
   exact⟨_,_,rfl,fun _=>rfl⟩
 obtain⟨x2,t2,hs2,ht⟩:=hs2
 rw[Nv] at s1
 rw[hs2] at s2
 by_cases F9:fB a b<0
 ·have bH:a<b:=vG.1 F9
  have e0:∀lr,jY lr [.int .i64 0] 0 [] []=some (.ref 0 0 0 0 0,[.row 0 [] 1 true]):=fun lr=>iA (H:=[]) rfl
  have e1:∀lr,jY lr [.int .i64 0] 0 [] [.row 0 [] 1 true]=some (.ref 1 0 0 0 0,[.row 0 [] 1 true,.row 0 [] 1 true]):=fun lr=>iA (H:=[.row 0 [] 1 true]) rfl
  rw[Nat.div_eq_of_lt bH,Nat.mod_eq_of_lt bH]
  have hz:fz (6+1) [.row 0 [] 1 true,.row 0 [] 1 true] (.ref 0 0 0 0 0)=some (cB 0):=by rw[I6];rfl
  by_cases ha0:a=0
  ·subst ha0
   have ap:eE 0 1 8 (.ref 1 0 0 0 0) ((aC 1000000000 0).map tV) [.row 0 [] 1 true,.row 0 [] 1 true]=some (.ref 1 0 0 0 0,[.row 0 [] 1 true,.row 0 [] 1 true]):=by
    rw[cG];rfl
   have C3:fz (6+1) [.row 0 [] 1 true,.row 0 [] 1 true] (.ref 1 0 0 0 0)=some (cB 0):=by rw[I6];rfl
   cases t1 with
   |
    false =>
    simp only[fL,dS,s1,s2,c1,F9,e0,e1,ap,Eu,VX,Nat.reduceEqDiff,Nat.reduceAdd]
    exact bT (d:=6) hz C3
   |
    true =>
    rw[ht rfl] at s2
    simp only[fL,dS,s1,s2,c1,F9,e0,e1,ap,Eu,VX,Nat.reduceEqDiff,Nat.reduceAdd]
    exact bT (d:=6) hz C3
  ·have hln:(aC 1000000000 a).length≠0:=fun h=>ha0 ((mJ (b:=1000000000) (by decide)).1 (List.length_eq_zero_iff.1 h))
   have ap:eE 0 1 8 (.ref 1 0 0 0 0) ((aC 1000000000 a).map tV) [.row 0 [] 1 true,.row 0 [] 1 true]=some (.ref 1 1 0 (aC 1000000000 a).length (aC 1000000000 a).length,[.row 0 [] 1 true,.row 1 ((aC 1000000000 a).map tV) 1 true]):=by
    have hr:aH [.row 0 [] 1 true,.row 0 [] 1 true] 1 0=some ([],1,true):=rfl
    simp only[eE,hr,List.length_map,Nat.zero_add,List.length_nil,Nat.add_zero]
    rw[if_pos ⟨by decide,by decide⟩,if_pos ⟨trivial,Nat.zero_le _,Nat.le_refl _⟩,if_neg (by omega),if_pos (by omega)]
    simp
   have EC:fz (6+1) [.row 0 [] 1 true,.row 1 ((aC 1000000000 a).map tV) 1 true] (.ref 0 0 0 0 0)=some (cB 0):=by rw[I6];rfl
   have C3:fz (6+1) [.row 0 [] 1 true,.row 1 ((aC 1000000000 a).map tV) 1 true] (.ref 1 1 0 (aC 1000000000 a).length (aC 1000000000 a).length)=some (cB a):=by
    have:bA (.ref 1 1 0 (aC 1000000000 a).length (aC 1000000000 a).length)=false:=rfl
    have hr:aH [.row 0 [] 1 true,.row 1 ((aC 1000000000 a).map tV) 1 true] 1 1=some ((aC 1000000000 a).map tV,1,true):=rfl
    unfold fz
    simp only[this,hr,Bool.false_eq_true,if_false]
    rw[if_pos ⟨by simp,Nat.le_refl _⟩,List.drop_zero,List.take_of_length_le (by simp),mapM_pure (n:=5) (fJ fun _=>rfl)]
    rfl
   cases t1 with
   |
    false =>
    simp only[fL,dS,s1,s2,c1,F9,e0,e1,ap,Eu,VX,Nat.reduceEqDiff,Nat.reduceAdd]
    exact bT (d:=6) EC C3
   |
    true =>
    rw[ht rfl] at s2
    simp only[fL,dS,s1,s2,c1,F9,e0,e1,ap,Eu,VX,Nat.reduceEqDiff,Nat.reduceAdd]
    exact bT (d:=6) EC C3
 have CR:b≤a:=by have := @vG a b;omega
 have hbn:(aC 1000000000 b).length≠0:=fun h=>hb ((mJ (b:=1000000000) (by decide)).1 (List.length_eq_zero_iff.1 h))
 by_cases h1:(((aC 1000000000 b).length:Nat):Int)=1
 ·obtain⟨d,hd⟩:∃d,aC 1000000000 b=[d]:=List.length_eq_one_iff.1 (by omega)
  obtain⟨hbd,Dp,hdT⟩:=W0 hd
  have e1:bP 1 (cB b) (VI 0) []=some (.dB (tV d) 0):=by
   rw[cB,hd]
   exact aI (f:=tV) (t := .op) (H:=[]) (size:=1) (k := .i64) (xs:=[d]) (i:=0) rfl rfl
  have c2:=zC a d Dp hdT (by omega)
  rw[←hbd] at c2
  have Uk:a % b≤b:=Nat.le_of_lt (Nat.mod_lt _ (by omega))
  have n2:TC 178 [VI ((a % b:Nat):Int)] (cB (a % b)):=rA ((a % b:Nat):Int) (Int.ofNat_le.2 (show a % b≤9223372036854775807 from Nat.le_trans Uk (by omega)))
  have e2:tV d=tV b:=by rw[hbd]
  rw[e2] at e1
  cases t1 with
  |
   false =>
   simp only[fL,dS,s1,s2,c1,F9,cO,h1,e1,c2,n2,VX,Nat.reduceEqDiff,Nat.reduceAdd]
   exact fin
  |
   true =>
   rw[ht rfl] at s2
   simp only[fL,dS,s1,s2,c1,F9,cO,h1,e1,c2,n2,VX,Nat.reduceEqDiff,Nat.reduceAdd]
   exact fin
 obtain⟨n,hn⟩:∃n,(aC 1000000000 b).length=n+2:=⟨(aC 1000000000 b).length-2,by omega⟩
 obtain⟨t,htd,ht0,htT⟩:=HX (a:=b) (n:=n+1) hn
 obtain⟨s,hs⟩:∃s,s=1000000000 / (t+1):=⟨_,rfl⟩
 have Sn:1≤s:=by rw[hs];exact(Nat.le_div_iff_mul_le (by omega)).2 (by omega)
 have hsT:s<1000000000:=by rw[hs];exact Nat.div_lt_self (by decide) (by omega)
 have vC:(t+1)*s≤1000000000:=by rw[hs];exact Nat.mul_div_le _ _
 have hla:=eJ (b:=1000000000) (by decide) CR
 have w0:IntKind.i64.wrap (((n+2:Nat):Int)-1)=((n+1:Nat):Int):=wrapN _ (by omega) (by omega)
 have w1:IntKind.i64.wrap ((t:Int)+1)=((t+1:Nat):Int):=wrapN _ (by omega) (by omega)
 have q0:dU .quo (.int .i64 1000000000) (.int .i64 ((t+1:Nat):Int))=some (.int .i64 (s:Int)):=by rw[hs];exact Ks 1000000000 (t+1) (by decide) (by omega)
 have et:∀H,bP 1 (cB b) (VI ((n+1:Nat):Int)) H=some (.dB (tV t) 0):=fun H=>aI (f:=tV) (t := .op) (size:=1) (k := .i64) htd rfl
 have WH:¬(((n+2:Nat):Int)=1):=by omega
 obtain⟨N,hN⟩:∃N,N=(aC 1000000000 a).length+1:=⟨_,rfl⟩
 have wN:IntKind.i64.wrap (((aC 1000000000 a).length:Int)+1)=(N:Int):=wrapN _ (by omega) (by omega)
 have mkN:=Pz N (by omega)
 have c3:=yF a s Sn hsT ha
 have c4:=yF b s Sn hsT vL
 have alE:b*s<1000000000^(n+2):=by
  have h2:=(AE (n:=n+1) (fP (b:=1000000000) (by decide) b) hn htd).2
  rw[cJ (by decide)] at h2
  have h3:b*s<(t+1)*1000000000^(n+1)*s:=Nat.mul_lt_mul_of_pos_right h2 Sn
  have h4:(t+1)*1000000000^(n+1)*s=(t+1)*s*1000000000^(n+1):=by grind
  have h9:(t+1)*s*1000000000^(n+1)≤1000000000*1000000000^(n+1):=Nat.mul_le_mul_right _ vC
  have h10:1000000000*1000000000^(n+1)=1000000000^(n+2):=by rw[Nat.pow_succ 1000000000 (n+1)];exact Nat.mul_comm _ _
  rw[h4] at h3
  rw[h10] at h9
  exact Nat.lt_of_lt_of_le h3 h9
 have hVl:(aC 1000000000 (b*s)).length=n+2:=by
  have h2:=mV (b:=1000000000) (by decide) alE
  have h3:b≤b*s:=Nat.le_mul_of_pos_right b Sn
  have h4:=eJ (b:=1000000000) (by decide) h3
  omega
 have hAl:(aC 1000000000 (a*s)).length≤N:=by
  have h2:=PC (b:=1000000000) (by decide) a s
  have h3:(aC 1000000000 s).length≤1:=mV (by decide) (by rw[Nat.pow_one];exact hsT)
  omega
 have cp:=apD hAl
 obtain⟨m,hm⟩:∃m,m+(n+2)=N:=⟨N-(n+2),by omega⟩
 have wm:IntKind.i64.wrap ((N:Int)-((n+2:Nat):Int))=(m:Int):=wrapN _ (by omega) (by omega)
 have wm1:IntKind.i64.wrap ((m:Int)-1)=(m:Int)-1:=wrap64 (by omega) (by omega)
 obtain⟨EF,agT⟩:∃EF,EF=aC 1000000000 (a*s)++List.replicate (N-(aC 1000000000 (a*s)).length) 0:=⟨_,rfl⟩
 rw[←agT] at cp
 have mkm:Bn [.int .i64 0] 8 (VI (m:Int)) (VI (m:Int)) [.row 0 (EF.map tV) 1 true]=some (.ref 1 0 0 m m,[.row 0 (EF.map tV) 1 true]++[.row 0 ((List.replicate m 0).map tV) 1 true]):=uO (f:=tV) (x:=0) (H:=[.row 0 (EF.map tV) 1 true]) rfl (by omega) (by omega)
 have lN:∀K,aH K 0 0=some (EF.map tV,1,true)→qB (.ref 0 0 0 N N) K=some (VI (N:Int)):=fun K h=>dP h
 have l1:=lN [.row 0 (EF.map tV) 1 true] rfl
 have l2:=lN (H2 EF (List.replicate m 0)) rfl
 have ajD:EF.length=N:=by rw[agT,List.length_append,List.length_replicate];omega
 have aqQ:∀d∈EF,d<1000000000:=fun d hd=>by
  rw[agT] at hd
  rcases List.mem_append.1 hd with h | h
  ·exact fP (by decide) _ d h
  ·rw[List.eq_of_mem_replicate h];decide
 have akX:val 1000000000 EF=a*s:=by rw[agT,yX,rW,Nat.mul_zero,Nat.add_zero,cJ (by decide)]
 generalize Qn:aC 1000000000 (b*s)=vs at *
 have Ho:∀d∈vs,d<1000000000:=by rw[←Qn];exact fP (by decide) _
 have M6:val 1000000000 vs=b*s:=by rw[←Qn];exact cJ (by decide) _
 have lV:∀H,qB (cB (b*s)) H=some (VI ((n+2:Nat):Int)):=fun H=>by rw[cO,Qn,hVl]
 obtain⟨v1,f1⟩:∃v1,vs[n+1]? = some v1:=⟨_,List.getElem?_eq_getElem (by omega)⟩
 obtain⟨v0,f0⟩:∃v0,vs[n]? = some v0:=⟨_,List.getElem?_eq_getElem (by omega)⟩
 have hv1:1≤v1:=by
  obtain⟨d,hd,Dp,_⟩:=HX (a:=b*s) (n:=n+1) (by rw[Qn];exact hVl)
  rw[Qn,f1] at hd
  cases hd
  omega
 have CN:val 1000000000 (EF.drop m)<val 1000000000 vs:=by
  have h2:=pV (b:=1000000000) EF m
  rw[List.length_take,ajD,Nat.min_eq_left (by omega),akX] at h2
  have h3:a<b*1000000000^m:=by
   have y1:=gW (b:=1000000000) (by decide) a
   have y2:=KA (b:=1000000000) (by decide) hb
   rw[hn] at y2
   have y3:1000000000^(n+2-1)*1000000000^m≤b*1000000000^m:=Nat.mul_le_mul_right _ y2
   rw[←Nat.pow_add,show n+2-1+m=(aC 1000000000 a).length by omega] at y3
   exact Nat.lt_of_lt_of_le y1 y3
  have h4:a*s<b*1000000000^m*s:=Nat.mul_lt_mul_of_pos_right h3 Sn
  have h5:b*1000000000^m*s=1000000000^m*(b*s):=by grind
  rw[M6]
  have h6:1000000000^m*val 1000000000 (EF.drop m)<1000000000^m*(b*s):=by
   rw[←h5]
   exact Nat.lt_of_le_of_lt (by rw[h2];exact Nat.le_add_left _ _) h4
  exact Nat.lt_of_mul_lt_mul_left h6
 have body:VW ⟨true,false⟩ 0 (.loop jC)=VW ⟨true,false⟩ 0 (.loop jC):=rfl
 have tail:∀(us os:List Nat),us.length=N→(∀d∈us,d<1000000000)→os.length=m→(∀d∈os,d<1000000000)→val 1000000000 us+val 1000000000 vs*val 1000000000 os=a*s→val 1000000000 us<val 1000000000 vs →
   (∀lo K,cZ 184 [.ref 0 0 0 N N] lo (H2 us os) K=K (cB (a % b*s)) (dD (H2 us os) [0])) ∧
   (∀lo K,cZ 184 [.ref 1 0 0 m m] lo (dD (H2 us os) [0]) K=K (cB (a / b)) (dD (dD (H2 us os) [0]) [1]))∧TC 202 [cB (a % b*s),VI (s:Int)] (.fN [cB (a % b),VI ((a % b*s % s:Nat):Int)]):=by
  intro us os Qk JN jR lW hv bH
  rw[M6] at hv bH
  have hq:val 1000000000 os=a / b:=by
   rw[←Nat.mul_div_mul_right a b Sn,←hv,Nat.add_mul_div_left _ _ (Nat.lt_of_le_of_lt (Nat.zero_le _) bH),Nat.div_eq_of_lt bH,Nat.zero_add]
  have hr:val 1000000000 us=a % b*s:=by
   rw[←Nat.mul_mod_mul_right,←hv,Nat.add_mul_mod_self_left,Nat.mod_eq_of_lt bH]
  refine⟨fun lo K => ?_,fun lo K => ?_,?_⟩
  ·have h:=tL us JN (by omega)
   rw[hr] at h
   exact TC.afC (f:=tV) h Tj Qk.symm (Nat.le_refl _) F4 (fun _=>rfl) rfl rfl lo K
  ·have h:=tL os lW (by omega)
   rw[hq] at h
   have gG:aH (dD (H2 us os) [0]) 1 0=some (os.map tV,1,true):=rfl
   exact TC.afC (f:=tV) h gG jR.symm (Nat.le_refl _) F4 (fun _=>rfl) rfl rfl lo K
  ·have h:=zC (a % b*s) s Sn hsT (by
    have h2:=eJ (b:=1000000000) (by decide) (Nat.le_trans (Nat.le_of_lt bH) (show b*s≤b*s from Nat.le_refl _))
    rw[hr,Qn] at h2
    omega)
   rwa [Nat.mul_div_cancel _ Sn] at h
 clear body
 have nV:cB (b*s)=iM vs:=by rw[cB,Qn]
 cases t1 with
 |
  false =>
  simp only[fL,dS,s1,s2,c1,F9,cO,hn,WH,w0,w1,q0,et,wN,mkN,c3,c4,cp,lV,l1,l2,wm,wm1,mkm,List.cons_append,List.nil_append,VX,Nat.reduceEqDiff,Nat.reduceAdd]
  refine O2 (EF:=EF) (YD:=List.replicate m 0) (vs:=vs) (N:=N) (m:=m) (n:=n) (A:=a*s) (s:=s) ajD hm (by omega) aqQ hVl Ho f1 f0 hv1 akX CN (by simp) (AQ (by decide) _) (by rfl) (by rfl) (by simp only[VX,Nat.reduceEqDiff,Nat.reduceAdd];exact nV) (by rfl) (by rfl) (by rfl) ?_
  intro xS us os r12 r13 r16 Qk JN jR lW hv bH
  obtain⟨x1,x2,x3⟩:=tail us os Qk JN jR lW hv bH
  simp only[r12,r13,r16,x1,x2,x3,VX,Nat.reduceEqDiff,Nat.reduceAdd]
  exact fin
 |
  true =>
  rw[ht rfl] at s2
  simp only[fL,dS,s1,s2,c1,F9,cO,hn,WH,w0,w1,q0,et,wN,mkN,c3,c4,cp,lV,l1,l2,wm,wm1,mkm,List.cons_append,List.nil_append,VX,Nat.reduceEqDiff,Nat.reduceAdd]
  refine O2 (EF:=EF) (YD:=List.replicate m 0) (vs:=vs) (N:=N) (m:=m) (n:=n) (A:=a*s) (s:=s) ajD hm (by omega) aqQ hVl Ho f1 f0 hv1 akX CN (by simp) (AQ (by decide) _) (by rfl) (by rfl) (by simp only[VX,Nat.reduceEqDiff,Nat.reduceAdd];exact nV) (by rfl) (by rfl) (by rfl) ?_
  intro xS us os r12 r13 r16 Qk JN jR lW hv bH
  obtain⟨x1,x2,x3⟩:=tail us os Qk JN jR lW hv bH
  simp only[r12,r13,r16,x1,x2,x3,VX,Nat.reduceEqDiff,Nat.reduceAdd]
  exact fin
end Go.PM
namespace Go.PM
theorem dN (n:Nat) {H:aA}:qB (bO n) H=some (VI (aC 4294967296 n).length):=eI
theorem xM {n:Nat}:(0:Int)<((aC 4294967296 n).length:Int)↔n≠0:=by
 constructor
 ·intro h h0
  subst h0
  rw[cG] at h
  simp at h
 ·intro h
  have:=(mJ (b:=4294967296) (by decide) (n:=n))
  have h2:aC 4294967296 n≠[]:=fun hx=>h (this.1 hx)
  have:=List.length_pos_iff.2 h2
  omega
theorem Sw {n:Nat} (h:(aC 4294967296 n).length≤2):n<18446744073709551616:=by
 have h1:=gW (b:=4294967296) (by decide) n
 have h2:4294967296^(aC 4294967296 n).length≤4294967296^2:=Nat.pow_le_pow_right (by decide) h
 omega
theorem DT (a b:Nat) (ha:(aC 4294967296 a).length≤17592186044416) (hb:(aC 4294967296 b).length≤17592186044416):TC 175 [bO a,bO b] (bO (Nat.gcd a b)):=by
 refine TC.walk ⟨true,false⟩ HO rfl (Nat.le_of_ble_eq_true rfl) (by simp[aM,bU]) (rD _) ?_
 simp only[D4,Ba,VX,Nat.reduceEqDiff,Nat.reduceAdd]
 refine aP (fun(t:Nat×Nat) ρ H=>H=[]∧Nat.gcd t.1 t.2=Nat.gcd a b∧(aC 4294967296 t.1).length≤17592186044416∧(aC 4294967296 t.2).length≤17592186044416∧ρ 0=bO t.1∧ρ 1=bO t.2) (fun t=>t.2) (a,b) ⟨rfl,rfl,ha,hb,rfl,rfl⟩ ?_
 rintro⟨x,y⟩ ρ H ⟨rfl,hg,hx,hy,g0,g1⟩
 simp only at hg hx hy g0 g1
 have c1:=A9 x hx
 have c2:=A9 y hy
 by_cases hy0:y=0
 ·subst hy0
  have hl:¬(0:Int)<((aC 4294967296 0).length:Int):=by rw[xM];omega
  rw[Nat.gcd_zero_right] at hg
  simp only[iV,g0,g1,dN,hl,VX,Nat.reduceEqDiff,Nat.reduceAdd]
  rw[hg]
  exact aK (bU _)
 have hl:(0:Int)<((aC 4294967296 y).length:Int):=xM.2 hy0
 by_cases h1:(aC 4294967296 x).length≤2∧(aC 4294967296 y).length≤2
 ·rw[if_pos h1.1] at c1
  rw[if_pos h1.2] at c2
  simp only[iV,g0,g1,dN,hl,c1,c2,VX,Nat.reduceEqDiff,Nat.reduceAdd]
  refine aP (fun(t:Nat×Nat) ρ H=>H=[]∧Nat.gcd t.1 t.2=Nat.gcd a b∧t.1<18446744073709551616∧t.2<18446744073709551616∧ρ 5=VK .u64 t.1∧ρ 7=VK .u64 t.2) (fun t=>t.2) (x,y) ⟨rfl,hg,Sw h1.1,Sw h1.2,rfl,rfl⟩ ?_
  rintro⟨u,v⟩ NP H ⟨rfl,hg2,hu,hv,k5,k7⟩
  simp only at hg2 hu hv k5 k7
  by_cases hv0:v=0
  ·subst hv0
   rw[Nat.gcd_zero_right] at hg2
   have hz:¬(0:Int)<((0:Nat):Int):=by omega
   have c3:=nC u hu
   simp only[sM,k5,k7,hz,c3,VX,Nat.reduceEqDiff,Nat.reduceAdd]
   rw[hg2]
   exact aK (bU _)
  ·have hz:(0:Int)<(v:Int):=by omega
   have r1:=O5 u v (by omega)
   simp only[sM,k5,k7,hz,r1,VX,Nat.reduceEqDiff,Nat.reduceAdd]
   refine⟨(v,u % v),?_,?_,hv,?_,rfl,rfl⟩
   ·exact Nat.mod_lt _ (by omega)
   ·simp only
    rw[←hg2,Nat.gcd_comm u v,Nat.gcd_rec v u,Nat.gcd_comm]
   ·simp only
    have:=Nat.mod_lt u (show 0<v by omega)
    omega
 ·have c3:=yN x y hy0 hx hy
  have next:∃s':Nat×Nat,s'.2<y∧Nat.gcd s'.1 s'.2=Nat.gcd a b∧(aC 4294967296 s'.1).length≤17592186044416∧(aC 4294967296 s'.2).length≤17592186044416∧bO y=bO s'.1∧bO (x % y)=bO s'.2:=by
   have hm:=Nat.mod_lt x (show 0<y by omega)
   refine⟨(y,x % y),hm,?_,hy,?_,rfl,rfl⟩
   ·simp only
    rw[←hg,Nat.gcd_comm x y,Nat.gcd_rec y x,Nat.gcd_comm]
   ·simp only
    have:=eJ (b:=4294967296) (by decide) (Nat.le_of_lt hm)
    omega
  by_cases h2:(aC 4294967296 x).length≤2
  ·have h3:¬(aC 4294967296 y).length≤2:=fun h=>h1 ⟨h2,h⟩
   rw[if_pos h2] at c1
   rw[if_neg h3] at c2
   simp only[iV,g0,g1,dN,hl,c1,c2,c3,VX,Nat.reduceEqDiff,Nat.reduceAdd]
   exact next
  ·rw[if_neg h2] at c1
   by_cases h3:(aC 4294967296 y).length≤2
   ·rw[if_pos h3] at c2
    simp only[iV,g0,g1,dN,hl,c1,c2,c3,VX,Nat.reduceEqDiff,Nat.reduceAdd]
    exact next
   ·rw[if_neg h3] at c2
    simp only[iV,g0,g1,dN,hl,c1,c2,c3,VX,Nat.reduceEqDiff,Nat.reduceAdd]
    exact next
end Go.PM
namespace Go.PM
open Go.Lib
theorem rP (a b:List UInt8) (h:a.length+b.length≤9223372036854775807):dU .add (.string ⟨a.toArray⟩) (.string ⟨b.toArray⟩)=some (.string ⟨(a++b).toArray⟩):=by
 have h1:(⟨a.toArray⟩:ByteArray).size=a.length:=by simp[ByteArray.size]
 have h2:(⟨b.toArray⟩:ByteArray).size=b.length:=by simp[ByteArray.size]
 have h3:¬(((⟨a.toArray⟩:ByteArray).size+(⟨b.toArray⟩:ByteArray).size:Nat):Int)>IntKind.i64.max:=by
  rw[h1,h2]
  show ¬_>(9223372036854775807:Int)
  omega
 simp only[dU,h3,if_false]
 congr 2
theorem bN (a:List UInt8):BK (.string ⟨a.toArray⟩)=some (.int .i64 (a.length:Int)):=by simp[BK,ByteArray.size]
theorem afQ:∀a:List UInt8,(aB (bC a)).length=1:=fun _=>rfl
theorem Xz {xs:List (List UInt8)} {H:aA} {lo b g n:Nat} (hr:aH H b g=some (xs.map bC,1,true)) (hn:xs.length=n) (fG:lo≤b) (DL:n≤9223372036854775806) :
  kS 216 [.ref b g 0 n n] lo H fun r H'=>r = .fN []∧H'=H.set b (.row g (xs.reverse.map bC) 1 true):=by
 refine kS.walk ⟨true,false⟩ sJ (Nat.le_of_ble_eq_true rfl) ?_
 have e0:qB (.ref b g 0 n n) H=some (VI n):=dP hr
 have w0:IntKind.i64.wrap ((n:Int)-1)=(n:Int)-1:=wrap64 (by omega) (by omega)
 simp only[lU,lA,e0,w0,VX,Nat.reduceEqDiff,Nat.reduceAdd]
 refine aP (fun(t:Nat×List (List UInt8)) ρ K=>t.1≤n∧K=H.set b (.row g (t.2.map bC) 1 true)∧t.2.length=n∧(∀k,k<n→t.2[k]? = if k<t.1∨n≤k+t.1 then xs[n-1-k]? else xs[k]?)∧ρ 0 = .ref b g 0 n n∧ρ 2=VI t.1∧ρ 3=VI ((n:Int)-1-(t.1:Int))) (fun t=>n-t.1) (0,xs) ⟨Nat.zero_le _,(xG hr).symm,hn,fun k hk=>by rw[if_neg (by simp only;omega)],rfl,rfl,by show VI ((n:Int)-1)=VI ((n:Int)-1-((0:Nat):Int));rw[Int.natCast_zero,Int.sub_zero]⟩ ?_
 rintro⟨i,ys⟩ ρ K ⟨hi,rfl,hl,hy,g0,g2,g3⟩
 simp only at hi hl hy g2 g3
 have WM:aH (H.set b (.row g (ys.map bC) 1 true)) b g=some (ys.map bC,1,true):=oF hr
 by_cases cK:(i:Int)<(n:Int)-1-(i:Int)
 ·have hj:(n:Int)-1-(i:Int)=((n-1-i:Nat):Int):=by omega
  obtain⟨x,hx⟩:∃x,ys[i]? = some x:=⟨_,List.getElem?_eq_getElem (by omega)⟩
  obtain⟨y,hyy⟩:∃y,ys[n-1-i]? = some y:=⟨_,List.getElem?_eq_getElem (by omega)⟩
  rw[hj] at g3 cK
  have a1:∀(zs:List (List UInt8)) (k:Nat),zs.length=n→k<n→bP 1 (.ref b g 0 n n) (VI (k:Int)) (H.set b (.row g (zs.map bC) 1 true))=some (.ptr b g k 0):=fun zs k h1 h2=>by rw[aS (oF hr) h2,Nat.zero_add]
  have l1:cN false 1 (.ptr b g (n-1-i) 0) (H.set b (.row g (ys.map bC) 1 true))=some (bC y):=qD WM hyy
  have l2:cN false 1 (.ptr b g i 0) (H.set b (.row g (ys.map bC) 1 true))=some (bC x):=qD WM hx
  have s1:cD lo 1 (.ptr b g i 0) (bC y) (H.set b (.row g (ys.map bC) 1 true))=some (H.set b (.row g ((ys.set i y).map bC) 1 true)):=by rw[eH (f:=bC) (e:=1) WM (by omega) fG rfl rfl,mU]
  have s2:cD lo 1 (.ptr b g (n-1-i) 0) (bC x) (H.set b (.row g ((ys.set i y).map bC) 1 true))=some (H.set b (.row g (((ys.set i y).set (n-1-i) x).map bC) 1 true)):=by rw[eH (f:=bC) (e:=1) (oF hr) (by rw[List.length_set];omega) fG rfl rfl,mU]
  have w1:IntKind.i64.wrap ((i:Int)+1)=((i+1:Nat):Int):=wrapN _ (by omega) (by omega)
  have w2:IntKind.i64.wrap (((n-1-i:Nat):Int)-1)=(n:Int)-1-((i+1:Nat):Int):=by rw[wrap64 (by omega) (by omega)];omega
  have b1:=a1 ys i hl (by omega)
  have b2:=a1 ys (n-1-i) hl (by omega)
  have b3:=a1 (ys.set i y) (n-1-i) (by rw[List.length_set];exact hl) (by omega)
  simp only[fT,g0,g2,g3,cK,b1,b2,b3,l1,l2,s1,s2,w1,w2,VX,Nat.reduceEqDiff,Nat.reduceAdd]
  refine⟨(i+1,(ys.set i y).set (n-1-i) x),by simp only;omega,by simp only;omega,rfl,by simp only[List.length_set];exact hl,fun k hk => ?_,by (repeat' apply And.intro)<;>first | rfl | trivial⟩
  simp only
  have hxx:=hy i (by omega)
  rw[if_neg (by omega),hx] at hxx
  have hyx:=hy (n-1-i) (by omega)
  rw[if_neg (by omega),hyy] at hyx
  rw[List.getElem?_set,List.getElem?_set,List.length_set]
  by_cases h1:n-1-i=k
  ·subst h1
   rw[if_pos rfl,if_pos (by omega),if_pos (by omega),show n-1-(n-1-i)=i by omega]
   exact hxx
  ·rw[if_neg h1]
   by_cases h2:i=k
   ·subst h2
    rw[if_pos rfl,if_pos (by omega),if_pos (by omega)]
    exact hyx
   ·rw[if_neg h2,hy k hk]
    by_cases h3:k<i∨n≤k+i
    ·rw[if_pos h3,if_pos (by omega)]
    ·rw[if_neg h3,if_neg (by omega)]
 ·have avL:ys=xs.reverse:=by
   apply List.ext_getElem?
   intro k
   rcases Nat.lt_or_ge k n with h | h
   ·rw[hy k h,List.getElem?_reverse (by omega),hn]
    split
    ·rfl
    ·rw[show n-1-k=k by omega]
   ·rw[List.getElem?_eq_none (by omega),List.getElem?_eq_none (by rw[List.length_reverse];omega)]
  subst avL
  simp only[fT,g0,g2,g3,cK,VX,Nat.reduceEqDiff,Nat.reduceAdd]
  try exact⟨rfl,rfl⟩
theorem WT (n:Nat):(aC 1000000000 n).length≤2*(aC 4294967296 n).length:=by
 refine mV (by decide) ?_
 have h1:=gW (b:=4294967296) (by decide) n
 have h2:4294967296^(aC 4294967296 n).length≤(1000000000^2)^(aC 4294967296 n).length:=Nat.pow_le_pow_left (by decide) _
 rw[←Nat.pow_mul] at h2
 omega
theorem afA {n:Nat} (hn:n≠0):(decDigits n).length≤9*(aC 1000000000 n).length:=by
 have h1:=gW (b:=1000000000) (by decide) n
 have h3:(aC 1000000000 n)≠[]:=fun h=>hn ((mJ (by decide)).1 h)
 have h4:=List.length_pos_iff.2 h3
 generalize (aC 1000000000 n).length=L at *
 obtain⟨k,hk⟩:∃k,9*L=k+1:=⟨9*L-1,by omega⟩
 have h5:(1000000000:Nat)^L=10^(9*L):=by rw[show (1000000000:Nat)=10^9 by decide,←Nat.pow_mul]
 rw[h5,hk] at h1
 rw[hk]
 exact yU n k h1
def mI (q:Nat):List UInt8:=if q=0 then [] else decDigits q
theorem Cs (n:Nat) (hn:(aC 4294967296 n).length≤68719476736):TC 196 [bO n] (bC (decDigits n)):=by
 refine TC.walk ⟨true,false⟩ Gs rfl (Nat.le_of_ble_eq_true rfl) (by simp[aM,bU]) rfl ?_
 by_cases h0:n=0
 ·subst h0
  have hl:(((aC 4294967296 0).length:Nat):Int)=0:=by rw[cG];rfl
  simp only[wH,tR,dN,hl,VX,Nat.reduceEqDiff,Nat.reduceAdd]
  rw[jE (by decide)]
  exact aK rfl
 have hl:¬(((aC 4294967296 n).length:Nat):Int)=0:=by have:=xM.2 h0;omega
 have e1:∀lr,jY lr [.string ⟨#[]⟩] 0 [] []=some (.ref 0 0 0 0 0,[.row 0 (([]:List (List UInt8)).map bC) 1 true]):=fun lr=>iA (H:=[]) (lr:=lr) (z:=[.string ⟨#[]⟩]) rfl
 have hTn:=WT n
 have hdl:=afA h0
 simp only[wH,tR,dN,hl,e1,VX,Nat.reduceEqDiff,Nat.reduceAdd]
 refine aP (fun(t:Nat×List (List UInt8)) ρ H=>H=[.row t.2.length (t.2.map bC) 1 true]∧t.1≤n∧t.2.length+(aC 1000000000 t.1).length=(aC 1000000000 n).length∧decDigits n=mI t.1++t.2.reverse.flatten∧ρ 0=bO t.1∧ρ 3 = .ref 0 t.2.length 0 t.2.length t.2.length) (fun t=>t.1) (n,[]) ⟨rfl,Nat.le_refl _,by simp,by simp[mI,h0],rfl,rfl⟩ ?_
 rintro⟨q,ps⟩ ρ H ⟨rfl,hq,hlen,Xy,g0,g3⟩
 simp only at hq hlen Xy g0 g3
 by_cases NR:q=0
 ·subst NR
  have hz:¬(0:Int)<((aC 4294967296 0).length:Int):=by rw[xM];omega
  rw[mI,if_pos rfl,List.nil_append] at Xy
  have hr:aH [.row ps.length (ps.map bC) 1 true] 0 ps.length=some (ps.map bC,1,true):=aU
  simp only[nQ,g0,g3,dN,hz,VX,Nat.reduceEqDiff,Nat.reduceAdd]
  refine gC rfl ((Xz hr rfl (Nat.le_refl _) (by omega)).mono ?_)
  rintro r H' ⟨rfl,rfl⟩
  have IA:([.row ps.length (ps.map bC) 1 true]:aA).set 0 (.row ps.length (ps.reverse.map bC) 1 true)=[.row ps.length (ps.reverse.map bC) 1 true]:=rfl
  have WM:aH [.row ps.length (ps.reverse.map bC) 1 true] 0 ps.length=some (ps.reverse.map bC,1,true):=aU
  have hfl:ps.reverse.flatten.length≤140737488355328:=by rw[←Xy];omega
  have cj:=(ajF ps.reverse (by rw[List.length_reverse];omega) hfl).flat (H:=[.row ps.length (ps.reverse.map bC) 1 true]) (args:=[.ref 0 ps.length 0 ps.length ps.length,bC []]) rfl (by simp only[aM,oD (f:=bC) afQ (fun _=>rfl),Bool.and_true];rfl) (fz2 (FB WM (by simp) (Nat.le_refl _) (fJ fun _=>rfl)) (aK rfl)) rfl
  simp only[IA,g3,cj,VX,Nat.reduceEqDiff,Nat.reduceAdd]
  rw[←Xy]
  exact aK rfl
 ·have hz:(0:Int)<((aC 4294967296 q).length:Int):=xM.2 NR
  have hql:=eJ (b:=4294967296) (by decide) hq
  have c1:TC 197 [bO q,.sc (.int .u32 1000000000)] (.fN [bO (q / 1000000000),uV (q % 1000000000)]):=wZ q 1000000000 (by decide) (by decide) (by omega)
  have hm:=Nat.mod_lt q (show 0<1000000000 by decide)
  have c2:=alT (q % 1000000000) (by omega)
  have wm:IntKind.u64.wrap ((q % 1000000000:Nat):Int)=((q % 1000000000:Nat):Int):=fR _ (by omega)
  have hdq:=jN (b:=1000000000) (by decide) NR
  have aCn:(aC 1000000000 q).length=(aC 1000000000 (q / 1000000000)).length+1:=by rw[hdq];rfl
  have Xk:=yU (q % 1000000000) 8 hm
  have hqq:=Nat.mod_add_div q 1000000000
  have e2:∀x:List UInt8,jY false [.string ⟨#[]⟩] 1 [(0,bC x)] [.row ps.length (ps.map bC) 1 true]=some (.tree [bC x] (.cl 1),[.row ps.length (ps.map bC) 1 true]):=fun x=>gJ (z:=[.string ⟨#[]⟩]) rfl rfl rfl
  have e3:∀x:List UInt8,dF 1 (.tree [bC x] (.cl 1)) [.row ps.length (ps.map bC) 1 true]=some [bC x]:=fun x=>dV rfl rfl
  have e4:∀x:List UInt8,eE 0 1 16 (.ref 0 ps.length 0 ps.length ps.length) [bC x] [.row ps.length (ps.map bC) 1 true]=some (.ref 0 (ps.length+1) 0 (ps.length+1) (ps.length+1),[.row (ps.length+1) ((ps++[x]).map bC) 1 true]):=fun x=>by
   rw[gZ (f:=bC) (x:=x) aU rfl (Nat.le_refl _) (by decide) (by decide) (by omega)]
   rfl
  have hle:q / 1000000000<q:=Nat.div_lt_self (by omega) (by decide)
  by_cases hqz:q / 1000000000=0
  ·have S4:¬(0:Int)<((aC 4294967296 (q / 1000000000)).length:Int):=by rw[xM];omega
   simp only[nQ,g0,g3,dN,hz,c1,c2,wm,S4,e2,e3,e4,VX,Nat.reduceEqDiff,Nat.reduceAdd]
   refine⟨(q / 1000000000,ps++[decDigits (q % 1000000000)]),hle,by simp,by simp only;omega,by simp only[List.length_append,List.length_singleton];omega,?_,rfl,by simp⟩
   rw[Xy,mI,if_neg NR,mI,if_pos hqz,List.reverse_append,List.nil_append,List.reverse_singleton,List.singleton_append,List.flatten_cons,show q % 1000000000=q by omega]
  ·have S4:(0:Int)<((aC 4294967296 (q / 1000000000)).length:Int):=xM.2 hqz
   have ws:IntKind.i64.wrap ((9:Int)-((decDigits (q % 1000000000)).length:Int))=((9-(decDigits (q % 1000000000)).length:Nat):Int):=wrapN _ (by omega) (by omega)
   have c3:=Zy [48] (9-(decDigits (q % 1000000000)).length) (by simp;omega) (by omega)
   have ZE:repeatL [48] (9-(decDigits (q % 1000000000)).length)++decDigits (q % 1000000000)=CU 9 (q % 1000000000):=by
    rw[ajP 8 _ hm]
    congr 1
    have:=repeatL_replicate 48 1 (9-(decDigits (q % 1000000000)).length)
    rw[Nat.mul_one] at this
    exact this
   have c4:=rP (repeatL [48] (9-(decDigits (q % 1000000000)).length)) (decDigits (q % 1000000000)) (by rw[←List.length_append,ZE,agD];decide)
   rw[ZE] at c4
   simp only[nQ,g0,g3,dN,hz,c1,c2,wm,S4,bN,ws,c3,c4,e2,e3,e4,VX,Nat.reduceEqDiff,Nat.reduceAdd]
   refine⟨(q / 1000000000,ps++[CU 9 (q % 1000000000)]),hle,by simp,by simp only;omega,by simp only[List.length_append,List.length_singleton];omega,?_,rfl,by simp⟩
   rw[Xy,mI,if_neg NR,mI,if_neg hqz,List.reverse_append,List.reverse_singleton,List.singleton_append,List.flatten_cons,←List.append_assoc,←HJ (by omega) hm]
   congr 2
   omega
end Go.PM
namespace Go.PM
open Go.Lib
def bF (q:Rat):VV := .agg [VB (decide (q.num<0)),bO q.num.natAbs,bO q.den]
theorem iZ (q:Rat):bA (bF q)=true:=by simp[bF,bA,aM,bU,lQ]
theorem tB (q:Rat):iU (bF q)=true:=by simp[bF,iU,sK,rD,lQ]
theorem B0 {q:Rat} {neg:Bool} {t b:Nat} (h0:q.num<0↔neg=true) (h1:q.num.natAbs=t) (h2:q.den=b):bF q = .agg [VB neg,bO t,bO b]:=by
 subst h1 h2
 unfold bF
 congr 4
 cases neg<;>simp_all
theorem aeU {neg:Bool} {t b:Nat} (hb:b≠0) (ht:t≠0):bF (mkRat (lB neg t) b) = .agg [VB neg,bO (t / Nat.gcd t b),bO (b / Nat.gcd t b)]:=by
 refine B0 ?_ ?_ (Pw hb)
 ·rw[F7 hb,Py]
  have h1:t / Nat.gcd t b≠0:=by
   have:=Nat.div_pos (Nat.le_of_dvd (by omega) (Nat.gcd_dvd_left t b)) (Nat.gcd_pos_of_pos_left b (by omega))
   omega
  simp[h1]
 ·rw[F7 hb,oZ]
theorem XQ:bF 0 = .agg [VB false,.tree [] .op,bO 1]:=by
 rw[B0 (q:=0) (neg:=false) (t:=0) (b:=1) (by simp) rfl rfl,Ep]
theorem aY (n:Nat):cC (bO n)=true:=rfl
theorem aV (n:Nat):isAny (bO n)=false:=rfl
theorem aO (n:Nat):aB (bO n)=[bO n]:=rfl
theorem dE (q:Rat):isAny (bF q)=false:=rfl
theorem aF (q:Rat):aB (bF q)=[VB (decide (q.num<0)),bO q.num.natAbs,bO q.den]:=rfl
theorem dL (q:Rat):dK true 3 (bF q) 0=some (bF q):=rfl
theorem jW (q:Rat):dK false 1 (bF q) 0=some (VB (decide (q.num<0))):=rfl
theorem jZ (q:Rat):dK false 1 (bF q) 1=some (bO q.num.natAbs):=rfl
theorem lZ (q:Rat):dK false 1 (bF q) 2=some (bO q.den):=rfl
theorem rO {d:Nat} {H:aA} {u u' v v' w w':VV} (h1:fz (d+1) H u=some u') (h2:fz (d+1) H v=some v') (h3:fz (d+1) H w=some w'):fz (d+2) H (.agg [u,v,w])=some (.agg [u',v',w']):=by
 have e:fz (d+2) H (.agg [u,v,w])=if bA (.agg [u,v,w])=true then some (.agg [u,v,w]) else ([u,v,w].mapM (fz (d+1) H)).map .agg:=rfl
 rw[e]
 by_cases hp:bA (.agg [u,v,w])=true
 ·rw[if_pos hp]
  simp only[bA,aM,Bool.and_eq_true,and_true] at hp
  rw[aJ hp.1] at h1
  rw[aJ hp.2.1] at h2
  rw[aJ hp.2.2] at h3
  cases h1
  cases h2
  cases h3
  rfl
 ·rw[if_neg hp,List.mapM_cons,h1,List.mapM_cons,h2,List.mapM_cons,h3]
  rfl
theorem adB {d:Nat} {H:aA} {v:Value} (h:lQ v=true):fz (d+1) H (.sc v)=some (.sc v):=aJ h
theorem vW {H:aA} {neg:Bool} {t b:Nat}:fz depth H (.agg [VB neg,bO t,bO b])=some (.agg [VB neg,bO t,bO b]):=aK (by simp[bA,aM,bU,lQ])
theorem rI {H:aA} (q:Rat):fz depth H (bF q)=some (bF q):=aK (iZ q)
theorem aqT {n:Nat} (h:bl n≤2199023255552):(aC 4294967296 n).length≤68719476736:=by
 have:=aiG n
 omega
theorem fS {n:Nat} (h:bl n≤4398046511104):(aC 4294967296 n).length≤17592186044416:=by
 have:=aiG n
 omega
theorem rC (neg:Bool) (t b:Nat) (hb:b≠0) (ht:bl t≤4398046511104) (vL:bl b≤4398046511104):TC 144 [VB neg,bO t,bO b] (bF (mkRat (lB neg t) b)):=by
 refine TC.walk ⟨true,false⟩ Nd rfl (Nat.le_of_ble_eq_true rfl) (by simp[aM,bU,bA,lQ]) (tB _) ?_
 by_cases h0:t=0
 ·subst h0
  have hl:(((aC 4294967296 0).length:Nat):Int)=0:=by rw[cG];rfl
  have c1:TC 139 [.sc (.int .u64 1)] (bO 1):=nC 1 (by decide)
  rw[zS,Rat.zero_mkRat,XQ,←Ep]
  simp only[vX,rB,dN,hl,c1,aY,aV,aO,jS,Nat.reduceLeDiff,Nat.reduceLT,Nat.reduceSub,VX,Nat.reduceEqDiff,Nat.reduceAdd]
  exact rO (adB rfl) xL (aJ (bU _))
 ·have hl:¬(((aC 4294967296 t).length:Nat):Int)=0:=by have:=xM.2 h0;omega
  have c1:=DT t b (fS ht) (fS vL)
  have hg0:Nat.gcd t b≠0:=Nat.gcd_ne_zero_right hb
  have Zu:bl (Nat.gcd t b)≤4398046511104:=Nat.le_trans (kY (Nat.gcd_le_right t (by omega))) vL
  have c2:=yN t _ hg0 (fS ht) (fS Zu)
  have c3:=yN b _ hg0 (fS vL) (fS Zu)
  rw[aeU hb h0]
  by_cases h1:((aC 4294967296 (Nat.gcd t b)).length:Int)=1
  ·obtain⟨d,hd⟩:∃d,aC 4294967296 (Nat.gcd t b)=[d]:=List.length_eq_one_iff.1 (by omega)
   obtain⟨YF,_,_⟩:=RP hd
   have e1:bP 1 (bO (Nat.gcd t b)) (.sc (.int .i64 0)) [.row 0 [.agg [VB false,.tree [] .nil,.tree [] .nil]] 3 true]=some (.dB (uV d) 0):=aI (f:=uV) (xs:=aC 4294967296 (Nat.gcd t b)) (i:=0) (k := .i64) (by rw[hd];rfl) rfl
   by_cases h2:(d:Int)=1
   ·have hg1:Nat.gcd t b=1:=by omega
    simp only[vX,rB,dN,hl,c1,h1,h2,e1,aY,aV,aO,jS,Nat.reduceLeDiff,Nat.reduceLT,Nat.reduceSub,VX,Nat.reduceEqDiff,Nat.reduceAdd]
    rw[hg1,Nat.div_one,Nat.div_one]
    exact vW
   ·simp only[vX,rB,dN,hl,c1,c2,c3,h1,h2,e1,aY,aV,aO,jS,Nat.reduceLeDiff,Nat.reduceLT,Nat.reduceSub,VX,Nat.reduceEqDiff,Nat.reduceAdd]
    exact vW
  ·simp only[vX,rB,dN,hl,c1,c2,c3,h1,aY,aV,aO,jS,Nat.reduceLeDiff,Nat.reduceLT,Nat.reduceSub,VX,Nat.reduceEqDiff,Nat.reduceAdd]
   exact vW
theorem Xt {n:Int} (h0 : -9223372036854775808≤n) (h:n<0):IntKind.u64.wrap (0-IntKind.u64.wrap n)=(n.natAbs:Int):=by
 rw[wrap_u64,wrap_u64]
 omega
theorem HN (n:Int) (h0 : -9223372036854775808≤n) (h1:n≤9223372036854775807):TC 140 [VI n] (VK .u64 (n.natAbs:Int)):=by
 refine TC.walk ⟨true,false⟩ II rfl (Nat.le_of_ble_eq_true rfl) rfl rfl ?_
 by_cases h:n<0
 ·simp only[yT,vF,h,Xt h0 h,VX,Nat.reduceEqDiff,Nat.reduceAdd]
  exact aK rfl
 ·have w:IntKind.u64.wrap n=(n.natAbs:Int):=by rw[wrap_u64];omega
  simp only[yT,vF,h,w,VX,Nat.reduceEqDiff,Nat.reduceAdd]
  exact aK rfl
theorem acS (n:Int):bF (n:Rat) = .agg [VB (decide (n<0)),bO n.natAbs,bO 1]:=B0 (by simp) (by simp) (by simp)
theorem tO (n:Int) (h0 : -9223372036854775808≤n) (h1:n≤9223372036854775807):TC 64 [VI n] (bF (n:Rat)):=by
 refine TC.walk ⟨true,false⟩ O7 rfl (Nat.le_of_ble_eq_true rfl) rfl (tB _) ?_
 have c1:=HN n h0 h1
 have c2:=nC n.natAbs (by omega)
 have c3:TC 139 [.sc (.int .u64 1)] (bO 1):=nC 1 (by decide)
 rw[acS]
 simp only[KK,Hx,c1,c2,c3,aY,aV,aO,jS,Nat.reduceLeDiff,Nat.reduceLT,Nat.reduceSub,VX,Nat.reduceEqDiff,Nat.reduceAdd]
 exact vW
theorem Kn {q:Rat}:(((aC 4294967296 q.num.natAbs).length:Nat):Int)=0↔q.num=0:=by
 have:=xM (n:=q.num.natAbs)
 omega
theorem fO (q:Rat):TC 68 [bF q] (VI (kB q)):=by
 refine TC.walk ⟨true,false⟩ Gj rfl (Nat.le_of_ble_eq_true rfl) (by simp[aM,iZ]) rfl ?_
 unfold kB
 by_cases h0:q.num=0
 ·have hl:=Kn.2 h0
  rw[if_pos h0]
  simp only[rG,oV,dN,hl,aF,jW,jZ,aY,aV,aO,jS,Nat.reduceLeDiff,Nat.reduceLT,Nat.reduceSub,VX,Nat.reduceEqDiff,Nat.reduceAdd]
  exact aK rfl
 ·have hl:¬(((aC 4294967296 q.num.natAbs).length:Nat):Int)=0:=fun h=>h0 (Kn.1 h)
  rw[if_neg h0]
  by_cases h1:q.num<0
  ·simp only[rG,oV,dN,hl,h1,aF,jW,jZ,aY,aV,aO,jS,Nat.reduceLeDiff,Nat.reduceLT,Nat.reduceSub,VX,Nat.reduceEqDiff,Nat.reduceAdd]
   exact aK rfl
  ·simp only[rG,oV,dN,hl,h1,aF,jW,jZ,aY,aV,aO,jS,Nat.reduceLeDiff,Nat.reduceLT,Nat.reduceSub,VX,Nat.reduceEqDiff,Nat.reduceAdd]
   exact aK rfl
theorem HH (q:Rat):TC 177 [bF q] (bF (-q)):=by
 refine TC.walk ⟨true,false⟩ FK rfl (Nat.le_of_ble_eq_true rfl) (by simp[aM,iZ]) (tB _) ?_
 have hq:bF (-q) = .agg [VB (decide (0<q.num)),bO q.num.natAbs,bO q.den]:=B0 (by simp) (by simp) (by simp)
 rw[hq]
 by_cases h1:q.num<0
 ·have h2:¬0<q.num:=by omega
  simp only[qF,nY,dN,h1,h2,aF,jW,jZ,lZ,aY,aV,aO,jS,Nat.reduceLeDiff,Nat.reduceLT,Nat.reduceSub,VX,Nat.reduceEqDiff,Nat.reduceAdd]
  exact vW
 ·by_cases h0:q.num=0
  ·have hl:¬(0:Int)<((aC 4294967296 q.num.natAbs).length:Int):=by have:=Kn.2 h0;omega
   have h2:¬0<q.num:=by omega
   simp only[qF,nY,dN,hl,h1,h2,aF,jW,jZ,lZ,aY,aV,aO,jS,Nat.reduceLeDiff,Nat.reduceLT,Nat.reduceSub,VX,Nat.reduceEqDiff,Nat.reduceAdd]
   exact vW
  ·have hl:(0:Int)<((aC 4294967296 q.num.natAbs).length:Int):=by have:=mt Kn.1 h0;omega
   have h2:0<q.num:=by omega
   simp only[qF,nY,dN,hl,h1,h2,aF,jW,jZ,lZ,aY,aV,aO,jS,Nat.reduceLeDiff,Nat.reduceLT,Nat.reduceSub,VX,Nat.reduceEqDiff,Nat.reduceAdd]
   exact vW
end Go.PM
namespace Go.PM
open Go.Lib
theorem AN (a b:Bool):Nh false (.bool a) (.bool b)=some (.bool (a == b)):=by
 show some (Value.bool ((a == b) != false))=_
 rw[Bool.bne_false]
theorem pK (a b:Bool):Nh true (.bool a) (.bool b)=some (.bool (a != b)):=by
 show some (Value.bool ((a == b) != true))=_
 cases a<;>cases b<;>rfl
theorem vD {q:Rat} {k:Nat} (h:bQ q≤k):bl q.num.natAbs≤k:=Nat.le_trans sF h
theorem uJ {q:Rat} {k:Nat} (h:bQ q≤k):bl q.den≤k:=Nat.le_trans qE h
theorem IK {X Y B:Nat} {a b:Rat} (hB:B≠0) (ha:mkRat (lB (decide (a.num<0)) X) B=a) (hb:mkRat (lB (decide (b.num<0)) Y) B=b) :
  ((decide (a.num<0))=(decide (b.num<0))→mkRat (lB (decide (a.num<0)) (X+Y)) B=a+b) ∧
  ((decide (a.num<0))≠(decide (b.num<0))→Y≤X→mkRat (lB (decide (a.num<0)) (X-Y)) B=a+b) ∧
  ((decide (a.num<0))≠(decide (b.num<0))→X≤Y→mkRat (lB (decide (b.num<0)) (Y-X)) B=a+b):=by
 refine⟨fun h => ?_,fun h hx => ?_,fun h hx => ?_⟩
 ·conv=>rhs;rw[←ha,←hb,C4 _ _ hB,←h,PG]
 ·conv=>rhs;rw[←ha,←hb,C4 _ _ hB,Uf h hx]
 ·conv=>rhs;rw[←ha,←hb,C4 _ _ hB,TX h hx]
theorem yD (a b:Rat) (NA:bQ a≤1099511627776) (I8:bQ b≤1099511627776):TC 69 [bF a,bF b] (bF (a+b)):=by
 refine TC.walk ⟨true,false⟩ Ig rfl (Nat.le_of_ble_eq_true rfl) (by simp[aM,iZ]) (tB _) ?_
 have ca:=fO a
 have cb:=fO b
 by_cases ha0:a.num=0
 ·have:a=0:=Rat.num_eq_zero.1 ha0
  rw[kX ha0] at ca
  rw[this,Rat.zero_add,←this]
  simp only[gL,eZ,ca,cb,aF,dL,dE,aY,aV,aO,jS,Nat.reduceLeDiff,Nat.reduceLT,Nat.reduceSub,VX,Nat.reduceEqDiff,Nat.reduceAdd]
  exact rI _
 have YE:¬kB a=0:=fun h=>ha0 (Rat.num_eq_zero.2 (B5.1 h))
 by_cases Ny:b.num=0
 ·have:b=0:=Rat.num_eq_zero.1 Ny
  rw[kX Ny] at cb
  rw[this,Rat.add_zero,←this]
  simp only[gL,eZ,ca,cb,YE,aF,dL,dE,aY,aV,aO,jS,Nat.reduceLeDiff,Nat.reduceLT,Nat.reduceSub,VX,Nat.reduceEqDiff,Nat.reduceAdd]
  exact rI _
 have hsb:¬kB b=0:=fun h=>Ny (Rat.num_eq_zero.2 (B5.1 h))
 have la:=vD NA
 have lb:=vD I8
 have lda:=uJ NA
 have ldb:=uJ I8
 have fin:∀(X Y B:Nat),bl X≤2199023255552→bl Y≤2199023255552→bl B≤2199023255552→B≠0→mkRat (lB (decide (a.num<0)) X) B=a→mkRat (lB (decide (b.num<0)) Y) B=b →
   TC 145 [bO X,bO Y] (bO (X+Y))∧TC 142 [bO X,bO Y] (VI (fB X Y)) ∧
   (Y≤X→TC 146 [bO X,bO Y] (bO (X-Y)))∧(X≤Y→TC 146 [bO Y,bO X] (bO (Y-X))) ∧
   (∀neg,TC 144 [VB neg,bO (X+Y),bO B] (bF (mkRat (lB neg (X+Y)) B))) ∧
   (∀neg,TC 144 [VB neg,bO (X-Y),bO B] (bF (mkRat (lB neg (X-Y)) B))) ∧
   (∀neg,TC 144 [VB neg,bO (Y-X),bO B] (bF (mkRat (lB neg (Y-X)) B))):=by
  intro X Y B hX hY hB hB0 _ _
  refine⟨Dm X Y (fS (by omega)) (fS (by omega)),kU X Y (fS (by omega)) (fS (by omega)),fun h=>DH X Y h (fS (by omega)),fun h=>DH Y X h (fS (by omega)),fun neg=>rC neg _ _ hB0 ?_ (by omega),fun neg=>rC neg _ _ hB0 ?_ (by omega),fun neg=>rC neg _ _ hB0 ?_ (by omega)⟩
  ·exact Nat.le_trans (Uy hX hY) (by omega)
  ·exact Nat.le_trans (kY (Nat.sub_le _ _)) (by omega)
  ·exact Nat.le_trans (kY (Nat.sub_le _ _)) (by omega)
 by_cases hd:a.den=b.den
 ·have hBn:=a.den_nz
  have cc:=kU a.den b.den (fS (by omega)) (fS (by omega))
  rw[show fB a.den b.den=0 from A3.2 hd] at cc
  have eb:mkRat (lB (decide (b.num<0)) b.num.natAbs) a.den=b:=by rw[hd,KC]
  obtain⟨f1,f2,f3,f4,f5,f6,f7⟩:=fin a.num.natAbs b.num.natAbs a.den (by omega) (by omega) (by omega) hBn (KC a) eb
  obtain⟨p1,p2,p3⟩:=IK hBn (KC a) eb
  by_cases hn:decide (a.num<0)=decide (b.num<0)
  ·have RY:(decide (a.num<0) == decide (b.num<0))=true:=by simpa using hn
   rw[←p1 hn]
   simp only[gL,eZ,ca,cb,YE,hsb,cc,f1,f5,AN,pK,RY,aF,dL,jW,jZ,lZ,dE,aY,aV,aO,jS,Nat.reduceLeDiff,Nat.reduceLT,Nat.reduceSub,VX,Nat.reduceEqDiff,Nat.reduceAdd]
   exact rI _
  ·have RY:(decide (a.num<0) == decide (b.num<0))=false:=by simpa using hn
   by_cases hx:(0:Int)≤fB a.num.natAbs b.num.natAbs
   ·have hle:b.num.natAbs≤a.num.natAbs:=by have := @vG a.num.natAbs b.num.natAbs;omega
    have c3:=f3 hle
    rw[←p2 hn hle]
    simp only[gL,eZ,ca,cb,YE,hsb,cc,f2,c3,f6,hx,AN,pK,RY,aF,dL,jW,jZ,lZ,dE,aY,aV,aO,jS,Nat.reduceLeDiff,Nat.reduceLT,Nat.reduceSub,VX,Nat.reduceEqDiff,Nat.reduceAdd]
    exact rI _
   ·have hle:a.num.natAbs≤b.num.natAbs:=by have := @vG a.num.natAbs b.num.natAbs;omega
    have c3:=f4 hle
    rw[←p3 hn hle]
    simp only[gL,eZ,ca,cb,YE,hsb,cc,f2,c3,f7,hx,AN,pK,RY,aF,dL,jW,jZ,lZ,dE,aY,aV,aO,jS,Nat.reduceLeDiff,Nat.reduceLT,Nat.reduceSub,VX,Nat.reduceEqDiff,Nat.reduceAdd]
    exact rI _
 ·have hBn:=Nat.mul_ne_zero a.den_nz b.den_nz
  have cc:=kU a.den b.den (fS (by omega)) (fS (by omega))
  have Qj:¬fB a.den b.den=0:=fun h=>hd (A3.1 h)
  have m1:=iT a.num.natAbs b.den (fS (by omega)) (fS (by omega))
  have m2:=iT b.num.natAbs a.den (fS (by omega)) (fS (by omega))
  have m3:=iT a.den b.den (fS (by omega)) (fS (by omega))
  have ea:mkRat (lB (decide (a.num<0)) (a.num.natAbs*b.den)) (a.den*b.den)=a:=EA a b.den_nz
  have eb:mkRat (lB (decide (b.num<0)) (b.num.natAbs*a.den)) (a.den*b.den)=b:=by rw[Nat.mul_comm a.den];exact EA b a.den_nz
  have k1:=oH a.num.natAbs b.den
  have k2:=oH b.num.natAbs a.den
  have k3:=oH a.den b.den
  obtain⟨f1,f2,f3,f4,f5,f6,f7⟩:=fin _ _ _ (by omega) (by omega) (by omega) hBn ea eb
  obtain⟨p1,p2,p3⟩:=IK hBn ea eb
  by_cases hn:decide (a.num<0)=decide (b.num<0)
  ·have RY:(decide (a.num<0) == decide (b.num<0))=true:=by simpa using hn
   rw[←p1 hn]
   simp only[gL,eZ,ca,cb,YE,hsb,cc,Qj,m1,m2,m3,f1,f5,AN,pK,RY,aF,dL,jW,jZ,lZ,dE,aY,aV,aO,jS,Nat.reduceLeDiff,Nat.reduceLT,Nat.reduceSub,VX,Nat.reduceEqDiff,Nat.reduceAdd]
   exact rI _
  ·have RY:(decide (a.num<0) == decide (b.num<0))=false:=by simpa using hn
   by_cases hx:(0:Int)≤fB (a.num.natAbs*b.den) (b.num.natAbs*a.den)
   ·have hle:b.num.natAbs*a.den≤a.num.natAbs*b.den:=by have := @vG (a.num.natAbs*b.den) (b.num.natAbs*a.den);omega
    have c3:=f3 hle
    rw[←p2 hn hle]
    simp only[gL,eZ,ca,cb,YE,hsb,cc,Qj,m1,m2,m3,f2,c3,f6,hx,AN,pK,RY,aF,dL,jW,jZ,lZ,dE,aY,aV,aO,jS,Nat.reduceLeDiff,Nat.reduceLT,Nat.reduceSub,VX,Nat.reduceEqDiff,Nat.reduceAdd]
    exact rI _
   ·have hle:a.num.natAbs*b.den≤b.num.natAbs*a.den:=by have := @vG (a.num.natAbs*b.den) (b.num.natAbs*a.den);omega
    have c3:=f4 hle
    rw[←p3 hn hle]
    simp only[gL,eZ,ca,cb,YE,hsb,cc,Qj,m1,m2,m3,f2,c3,f7,hx,AN,pK,RY,aF,dL,jW,jZ,lZ,dE,aY,aV,aO,jS,Nat.reduceLeDiff,Nat.reduceLT,Nat.reduceSub,VX,Nat.reduceEqDiff,Nat.reduceAdd]
    exact rI _
theorem Lc (a b:Rat) (NA:bQ a≤1099511627776) (I8:bQ b≤1099511627776):TC 128 [bF a,bF b] (bF (a-b)):=by
 refine TC.walk ⟨true,false⟩ Ix rfl (Nat.le_of_ble_eq_true rfl) (by simp[aM,iZ]) (tB _) ?_
 have c1:=HH b
 have c2:=yD a (-b) NA (by rw[I4];exact I8)
 rw[←Rat.sub_eq_add_neg] at c2
 simp only[DA,A2,c1,c2,aF,dL,dE,aY,aV,aO,jS,Nat.reduceLeDiff,Nat.reduceLT,Nat.reduceSub,VX,Nat.reduceEqDiff,Nat.reduceAdd]
 exact rI _
theorem Mi (a b:Rat) (NA:bQ a≤1099511627776) (I8:bQ b≤1099511627776):TC 132 [bF a,bF b] (bF (a*b)):=by
 refine TC.walk ⟨true,false⟩ Ie rfl (Nat.le_of_ble_eq_true rfl) (by simp[aM,iZ]) (tB _) ?_
 have ca:=fO a
 have cb:=fO b
 have c0:TC 64 [VI 0] (bF 0):=tO 0 (by decide) (by decide)
 by_cases ha0:a.num=0
 ·have:a=0:=Rat.num_eq_zero.1 ha0
  rw[kX ha0] at ca
  rw[show a*b=0 by rw[this,Rat.zero_mul]]
  simp only[sU,pZ,ca,cb,c0,aF,dL,dE,aY,aV,aO,jS,Nat.reduceLeDiff,Nat.reduceLT,Nat.reduceSub,VX,Nat.reduceEqDiff,Nat.reduceAdd]
  exact rI _
 have YE:¬kB a=0:=fun h=>ha0 (Rat.num_eq_zero.2 (B5.1 h))
 by_cases Ny:b.num=0
 ·have:b=0:=Rat.num_eq_zero.1 Ny
  rw[kX Ny] at cb
  rw[show a*b=0 by rw[this,Rat.mul_zero]]
  simp only[sU,pZ,ca,cb,YE,c0,aF,dL,dE,aY,aV,aO,jS,Nat.reduceLeDiff,Nat.reduceLT,Nat.reduceSub,VX,Nat.reduceEqDiff,Nat.reduceAdd]
  exact rI _
 have hsb:¬kB b=0:=fun h=>Ny (Rat.num_eq_zero.2 (B5.1 h))
 have la:=vD NA
 have lb:=vD I8
 have lda:=uJ NA
 have ldb:=uJ I8
 have l1:=rC false a.num.natAbs b.den b.den_nz (by omega) (by omega)
 have l2:=rC false b.num.natAbs a.den a.den_nz (by omega) (by omega)
 obtain⟨d1,d2⟩:=BU a.num.natAbs b.den_nz
 obtain⟨d3,d4⟩:=BU b.num.natAbs a.den_nz
 have b1:=kY (Nat.le_of_dvd (by omega) d1)
 have b2:=kY (Nat.le_of_dvd (Nat.pos_of_ne_zero b.den_nz) d2)
 have b3:=kY (Nat.le_of_dvd (by omega) d3)
 have b4:=kY (Nat.le_of_dvd (Nat.pos_of_ne_zero a.den_nz) d4)
 obtain⟨e1,e2⟩:=Yl a b
 have e3:=Q1 ha0 Ny
 generalize mkRat (lB false a.num.natAbs) b.den=u at *
 generalize mkRat (lB false b.num.natAbs) a.den=v at *
 have m1:=iT u.num.natAbs v.num.natAbs (fS (by omega)) (fS (by omega))
 have m2:=iT u.den v.den (fS (by omega)) (fS (by omega))
 rw[B0 e3 e1 e2]
 simp only[sU,pZ,ca,cb,YE,hsb,l1,l2,m1,m2,AN,pK,aF,dL,jW,jZ,lZ,dE,aY,aV,aO,jS,Nat.reduceLeDiff,Nat.reduceLT,Nat.reduceSub,VX,Nat.reduceEqDiff,Nat.reduceAdd]
 exact vW
theorem adC {b:Rat} (h:b≠0):bF b⁻¹ = .agg [VB (decide (b.num<0)),bO b.den,bO b.num.natAbs]:=by
 have hn:b.num≠0:=fun hn=>h (Rat.num_eq_zero.1 hn)
 have hd:(0:Int)<b.den:=by have:=b.den_nz;omega
 refine B0 ?_ ?_ ?_
 ·rw[Rat.num_inv,decide_eq_true_eq]
  rcases Int.lt_or_gt_of_ne hn with h1 | h1
  ·rw[Int.sign_eq_neg_one_of_neg h1];omega
  ·rw[Int.sign_eq_one_of_pos h1];omega
 ·rw[Rat.num_inv,Int.natAbs_mul,Int.natAbs_natCast]
  rcases Int.lt_or_gt_of_ne hn with h1 | h1
  ·rw[Int.sign_eq_neg_one_of_neg h1];simp
  ·rw[Int.sign_eq_one_of_pos h1];simp
 ·rw[Rat.den_inv,if_neg hn]
theorem Ki (a b:Rat) (hb:b≠0) (NA:bQ a≤1099511627776) (I8:bQ b≤1099511627776):TC 129 [bF a,bF b] (bF (a / b)):=by
 refine TC.walk ⟨true,false⟩ HC rfl (Nat.le_of_ble_eq_true rfl) (by simp[aM,iZ]) (tB _) ?_
 have c1:=Mi a b⁻¹ NA (Nat.le_trans (Oa b) I8)
 rw[←Rat.div_def,adC hb] at c1
 simp only[CJ,Ax,c1,aF,dL,jW,jZ,lZ,dE,aY,aV,aO,jS,Nat.reduceLeDiff,Nat.reduceLT,Nat.reduceSub,VX,Nat.reduceEqDiff,Nat.reduceAdd]
 exact rI _
theorem Jp (q:Rat) : -1≤kB q∧kB q≤1:=by
 rcases Int.lt_trichotomy q.num 0 with h | h | h
 ·rw[oP h];omega
 ·rw[kX h];omega
 ·rw[oQ h];omega
theorem Tm (m n:Nat) : -1≤fB m n∧fB m n≤1:=by
 rcases Nat.lt_trichotomy m n with h | h | h
 ·rw[fB,if_pos h];omega
 ·subst h;rw[fB,if_neg (by omega),if_pos rfl];omega
 ·rw[fB,if_neg (by omega),if_neg (by omega)];omega
theorem Mr (a b:Rat) (NA:bQ a≤1099511627776) (I8:bQ b≤1099511627776):TC 148 [bF a,bF b] (VI (SY a b)):=by
 refine TC.walk ⟨true,false⟩ IP rfl (Nat.le_of_ble_eq_true rfl) (by simp[aM,iZ]) rfl ?_
 have ca:=fO a
 have cb:=fO b
 have la:=vD NA
 have lb:=vD I8
 have lda:=uJ NA
 have ldb:=uJ I8
 have k1:=oH a.num.natAbs b.den
 have k2:=oH b.num.natAbs a.den
 have m1:=iT a.num.natAbs b.den (fS (by omega)) (fS (by omega))
 have m2:=iT b.num.natAbs a.den (fS (by omega)) (fS (by omega))
 have c1:=kU (a.num.natAbs*b.den) (b.num.natAbs*a.den) (fS (by omega)) (fS (by omega))
 have ra:=Jp a
 have rb:=Jp b
 have rc:=Tm (a.num.natAbs*b.den) (b.num.natAbs*a.den)
 unfold SY
 by_cases hs:kB a=kB b
 ·rw[if_pos hs]
  have w:IntKind.i64.wrap (0-fB (a.num.natAbs*b.den) (b.num.natAbs*a.den)) = -fB (a.num.natAbs*b.den) (b.num.natAbs*a.den):=by rw[wrap64 (by omega) (by omega)];omega
  by_cases hn:a.num<0
  ·rw[if_pos hn]
   simp only[sS,qC,ca,cb,hs,m1,m2,c1,hn,w,aF,dL,jW,jZ,lZ,dE,aY,aV,aO,jS,Nat.reduceLeDiff,Nat.reduceLT,Nat.reduceSub,VX,Nat.reduceEqDiff,Nat.reduceAdd]
   exact aK rfl
  ·rw[if_neg hn]
   simp only[sS,qC,ca,cb,hs,m1,m2,c1,hn,aF,dL,jW,jZ,lZ,dE,aY,aV,aO,jS,Nat.reduceLeDiff,Nat.reduceLT,Nat.reduceSub,VX,Nat.reduceEqDiff,Nat.reduceAdd]
   exact aK rfl
 ·rw[if_neg hs]
  have w:IntKind.i64.wrap (kB a-kB b)=kB a-kB b:=wrap64 (by omega) (by omega)
  simp only[sS,qC,ca,cb,hs,w,aF,dL,jW,jZ,lZ,dE,aY,aV,aO,jS,Nat.reduceLeDiff,Nat.reduceLT,Nat.reduceSub,VX,Nat.reduceEqDiff,Nat.reduceAdd]
  exact aK rfl
end Go.PM
namespace Go.PM
theorem qY {n:Nat}:(0:Int)<((aC 1000000000 n).length:Int)↔n≠0:=by
 constructor
 ·intro h h0
  subst h0
  rw[cG] at h
  simp at h
 ·intro h
  have:=(mJ (b:=1000000000) (by decide) (n:=n))
  have h2:aC 1000000000 n≠[]:=fun hx=>h (this.1 hx)
  have:=List.length_pos_iff.2 h2
  omega
theorem pH {n:Nat} (h:bl n≤4398046511104):(aC 1000000000 n).length<17592186044416:=by
 have:=ahD n
 omega
theorem E1 (a b:Nat) (ha:(aC 1000000000 a).length<17592186044416) (hb:(aC 1000000000 b).length<17592186044416):TC 170 [cB a,cB b] (cB (Nat.gcd a b)):=by
 refine TC.walk ⟨true,false⟩ Nz rfl (Nat.le_of_ble_eq_true rfl) (by simp[aM,cI]) (oA _) ?_
 simp only[JB,EZ,VX,Nat.reduceEqDiff,Nat.reduceAdd]
 refine aP (fun(t:Nat×Nat) ρ H=>H=[]∧Nat.gcd t.1 t.2=Nat.gcd a b∧(aC 1000000000 t.1).length<17592186044416∧(aC 1000000000 t.2).length<17592186044416∧ρ 0=cB t.1∧ρ 1=cB t.2) (fun t=>t.2) (a,b) ⟨rfl,rfl,ha,hb,rfl,rfl⟩ ?_
 rintro⟨x,y⟩ ρ H ⟨rfl,hg,hx,hy,g0,g1⟩
 simp only at hg hx hy g0 g1
 by_cases hy0:y=0
 ·subst hy0
  have hl:¬(0:Int)<((aC 1000000000 0).length:Int):=by rw[qY];omega
  rw[Nat.gcd_zero_right] at hg
  simp only[yW,g0,g1,cO,hl,VX,Nat.reduceEqDiff,Nat.reduceAdd]
  rw[hg]
  exact aK (cI _)
 ·have hl:(0:Int)<((aC 1000000000 y).length:Int):=qY.2 hy0
  have c3:=vB x y hy0 hx hy
  have hm:=Nat.mod_lt x (show 0<y by omega)
  simp only[yW,g0,g1,cO,hl,c3,VX,Nat.reduceEqDiff,Nat.reduceAdd]
  refine⟨(y,x % y),hm,?_,hy,?_,rfl,rfl⟩
  ·simp only
   rw[←hg,Nat.gcd_comm x y,Nat.gcd_rec y x,Nat.gcd_comm]
  ·simp only
   have:=eJ (b:=1000000000) (by decide) (Nat.le_of_lt hm)
   omega
def bM (q:Rat):VV := .agg [VB (decide (q.num<0)),cB q.num.natAbs,cB q.den]
theorem qL (q:Rat):bA (bM q)=true:=by simp[bM,bA,aM,cI,lQ]
theorem vQ (q:Rat):iU (bM q)=true:=by simp[bM,iU,sK,oA,lQ]
theorem KB {q:Rat} {neg:Bool} {t b:Nat} (h0:q.num<0↔neg=true) (h1:q.num.natAbs=t) (h2:q.den=b):bM q = .agg [VB neg,cB t,cB b]:=by
 subst h1 h2
 unfold bM
 congr 4
 cases neg<;>simp_all
theorem aL (n:Nat):cC (cB n)=true:=rfl
theorem bB (n:Nat):isAny (cB n)=false:=rfl
theorem aR (n:Nat):aB (cB n)=[cB n]:=rfl
theorem jL (q:Rat):isAny (bM q)=false:=rfl
theorem bS (q:Rat):aB (bM q)=[VB (decide (q.num<0)),cB q.num.natAbs,cB q.den]:=rfl
theorem gD (q:Rat):dK true 3 (bM q) 0=some (bM q):=rfl
theorem fK (q:Rat):dK false 1 (bM q) 0=some (VB (decide (q.num<0))):=rfl
theorem gQ (q:Rat):dK false 1 (bM q) 1=some (cB q.num.natAbs):=rfl
theorem gK (q:Rat):dK false 1 (bM q) 2=some (cB q.den):=rfl
theorem qI {H:aA} {neg:Bool} {t b:Nat}:fz depth H (.agg [VB neg,cB t,cB b])=some (.agg [VB neg,cB t,cB b]):=aK (by simp[bA,aM,cI,lQ])
theorem Ci {H:aA} (q:Rat):fz depth H (bM q)=some (bM q):=aK (qL q)
theorem aaL (n:Int):bM (n:Rat) = .agg [VB (decide (n<0)),cB n.natAbs,cB 1]:=KB (by simp) (by simp) (by simp)
theorem Kv {n lo:Nat} {H:aA} {K:VV→aA→Prop} (h:(aC 1000000000 n).length≤17592186044416):cZ 155 [cB n,.tree [VI 1] (.cl 1)] lo H K=K (VI (fB n 1)) H:=by
 have c:=vJ n 1 h (by rw[Dk (by decide) (by decide) (by decide)];simp)
 have e:cB 1 = .tree [VI 1] .op:=by rw[cB,Dk (by decide) (by decide) (by decide)];rfl
 rw[e] at c
 exact TC.args c rfl (by simp only[aM,cI];rfl) (fz2 (aK (cI n)) (aiI rfl)) (by simp only[List.flatMap_cons,List.flatMap_nil,Fw (cI n),acA (es:=[VI 1]) rfl,List.append_nil]) lo K
theorem eG {d:Int} {H:aA}:jY false [.int .i64 0] 1 [(0,VI d)] H=some (.tree [VI d] (.cl 1),H):=sY
theorem fV {e:Nat} {es:List VV}:cC (.tree es (.cl e))=true:=rfl
theorem dZ {k:TK} {es:List VV}:aB (.tree es k)=[.tree es k]:=rfl
theorem fW {k:TK} {es:List VV}:isAny (.tree es k)=false:=rfl
theorem PZ {d:Nat} {H:aA}:fz (d+2) H (.tree [VI 1] (.cl 1))=some (cB 1):=by
 rw[Ze]
 unfold fz
 have:bA (.tree [VI 1] (.cl 1))=false:=by simp[bA]
 simp only[this,Bool.false_eq_true,if_false]
 rfl
theorem tP (neg:Bool) (t b:Nat) (hb:b≠0) (ht:bl t≤4398046511104) (vL:bl b≤4398046511104):TC 153 [VB neg,cB t,cB b] (bM (mkRat (lB neg t) b)):=by
 refine TC.walk ⟨true,false⟩ LU rfl (Nat.le_of_ble_eq_true rfl) (by simp[aM,cI,bA,lQ]) (vQ _) ?_
 have hg0:Nat.gcd t b≠0:=Nat.gcd_ne_zero_right hb
 have Zu:bl (Nat.gcd t b)≤4398046511104:=Nat.le_trans (kY (Nat.gcd_le_right t (by omega))) vL
 have c1:=E1 t b (pH ht) (pH vL)
 have c2:=vB t _ hg0 (pH ht) (pH Zu)
 have c3:=vB b _ hg0 (pH vL) (pH Zu)
 have c4:∀lo H K,_:=fun lo H K=>Kv (n:=Nat.gcd t b) (lo:=lo) (H:=H) (K:=K) (Nat.le_of_lt (pH Zu))
 have UD:bM (mkRat (lB neg t) b) = .agg [VB (neg&&decide (t / Nat.gcd t b≠0)),cB (t / Nat.gcd t b),cB (b / Nat.gcd t b)]:=by
  refine KB ?_ (by rw[F7 hb,oZ]) (Pw hb)
  rw[F7 hb,Py,Bool.and_eq_true,decide_eq_true_eq]
 rw[UD]
 by_cases h1:fB (Nat.gcd t b) 1=0
 ·have hg1:=A3.1 h1
  have e1:t / Nat.gcd t b=t:=by rw[hg1,Nat.div_one]
  have e2:b / Nat.gcd t b=b:=by rw[hg1,Nat.div_one]
  rw[e1,e2]
  cases neg with
  |
   false =>
   simp only[nP,kV,c1,c4,h1,eG,aL,bB,aR,jS,Nat.reduceLeDiff,Nat.reduceLT,Nat.reduceSub,VX,Nat.reduceEqDiff,Nat.reduceAdd]
   exact qI
  |
   true =>
   by_cases h0:t=0
   ·have hl:¬(0:Int)<((aC 1000000000 t).length:Int):=by rw[qY];omega
    simp only[nP,kV,c1,c4,h1,hl,cO,eG,aL,bB,aR,jS,Nat.reduceLeDiff,Nat.reduceLT,Nat.reduceSub,VX,Nat.reduceEqDiff,Nat.reduceAdd]
    rw[h0]
    exact qI
   ·have hl:(0:Int)<((aC 1000000000 t).length:Int):=qY.2 h0
    simp only[nP,kV,c1,c4,h1,hl,cO,eG,aL,bB,aR,jS,Nat.reduceLeDiff,Nat.reduceLT,Nat.reduceSub,VX,Nat.reduceEqDiff,Nat.reduceAdd]
    rw[decide_eq_true h0]
    exact qI
 ·cases neg with
  |
   false =>
   simp only[nP,kV,c1,c2,c3,c4,h1,eG,aL,bB,aR,jS,Nat.reduceLeDiff,Nat.reduceLT,Nat.reduceSub,VX,Nat.reduceEqDiff,Nat.reduceAdd]
   exact qI
  |
   true =>
   generalize t / Nat.gcd t b=t' at *
   by_cases h0:t'=0
   ·have hl:¬(0:Int)<((aC 1000000000 t').length:Int):=by rw[qY];omega
    simp only[nP,kV,c1,c2,c3,c4,h1,hl,cO,eG,aL,bB,aR,jS,Nat.reduceLeDiff,Nat.reduceLT,Nat.reduceSub,VX,Nat.reduceEqDiff,Nat.reduceAdd]
    rw[h0]
    exact qI
   ·have hl:(0:Int)<((aC 1000000000 t').length:Int):=qY.2 h0
    simp only[nP,kV,c1,c2,c3,c4,h1,hl,cO,eG,aL,bB,aR,jS,Nat.reduceLeDiff,Nat.reduceLT,Nat.reduceSub,VX,Nat.reduceEqDiff,Nat.reduceAdd]
    rw[decide_eq_true h0]
    exact qI
theorem EY (n:Int) (h0 : -9223372036854775808<n) (h1:n≤9223372036854775807):TC 130 [VI n] (bM (n:Rat)):=by
 refine TC.walk ⟨true,false⟩ Nc rfl (Nat.le_of_ble_eq_true rfl) rfl (vQ _) ?_
 rw[aaL]
 by_cases h:n<0
 ·have w:IntKind.i64.wrap (0-n)=(n.natAbs:Int):=wrapN _ (by omega) (by omega)
  have c1:TC 178 [VI (n.natAbs:Int)] (cB n.natAbs):=rA (n.natAbs:Int) (by omega)
  rw[decide_eq_true h]
  simp only[Dz,AR,h,w,c1,eG,aL,bB,aR,fV,dZ,fW,jS,Nat.reduceLeDiff,Nat.reduceLT,Nat.reduceSub,VX,Nat.reduceEqDiff,Nat.reduceAdd]
  exact rO (d:=6) (adB rfl) (aJ (cI _)) (PZ (d:=5))
 ·have c1:TC 178 [VI n] (cB n.natAbs):=by
   have:=rA n h1
   rwa [show n.toNat=n.natAbs by omega] at this
  rw[decide_eq_false h]
  simp only[Dz,AR,h,c1,eG,aL,bB,aR,fV,dZ,fW,jS,Nat.reduceLeDiff,Nat.reduceLT,Nat.reduceSub,VX,Nat.reduceEqDiff,Nat.reduceAdd]
  exact rO (d:=6) (adB rfl) (aJ (cI _)) (PZ (d:=5))
theorem Nb:TC 83 [] (bM 1):=by
 refine TC.walk ⟨true,false⟩ M5 rfl (Nat.le_of_ble_eq_true rfl) rfl (vQ _) ?_
 have c1:TC 130 [VI 1] (bM 1):=EY 1 (by decide) (by decide)
 simp only[JI,Fi,c1,bS,gD,jL,aL,jS,Nat.reduceLeDiff,Nat.reduceLT,Nat.reduceSub,VX,Nat.reduceEqDiff,Nat.reduceAdd]
 exact Ci _
theorem Dv:TC 77 [] (bM 0):=by
 refine TC.walk ⟨true,false⟩ Ll rfl (Nat.le_of_ble_eq_true rfl) rfl (vQ _) ?_
 have c1:TC 130 [VI 0] (bM 0):=EY 0 (by decide) (by decide)
 simp only[GD,D1,c1,bS,gD,jL,aL,jS,Nat.reduceLeDiff,Nat.reduceLT,Nat.reduceSub,VX,Nat.reduceEqDiff,Nat.reduceAdd]
 exact Ci _
theorem F5 (q:Rat):TC 157 [bM q] (bM (-q)):=by
 refine TC.walk ⟨true,false⟩ FH rfl (Nat.le_of_ble_eq_true rfl) (by simp[aM,qL]) (vQ _) ?_
 have hq:bM (-q) = .agg [VB (decide (0<q.num)),cB q.num.natAbs,cB q.den]:=KB (by simp) (by simp) (by simp)
 rw[hq]
 by_cases h1:q.num<0
 ·have h2:¬0<q.num:=by omega
  simp only[pU,nO,cO,h1,h2,bS,fK,gQ,gK,aL,bB,aR,jS,Nat.reduceLeDiff,Nat.reduceLT,Nat.reduceSub,VX,Nat.reduceEqDiff,Nat.reduceAdd]
  exact qI
 ·by_cases h0:q.num=0
  ·have hl:¬(0:Int)<((aC 1000000000 q.num.natAbs).length:Int):=by rw[qY];omega
   have h2:¬0<q.num:=by omega
   simp only[pU,nO,cO,hl,h1,h2,bS,fK,gQ,gK,aL,bB,aR,jS,Nat.reduceLeDiff,Nat.reduceLT,Nat.reduceSub,VX,Nat.reduceEqDiff,Nat.reduceAdd]
   exact qI
  ·have hl:(0:Int)<((aC 1000000000 q.num.natAbs).length:Int):=by rw[qY];omega
   have h2:0<q.num:=by omega
   simp only[pU,nO,cO,hl,h1,h2,bS,fK,gQ,gK,aL,bB,aR,jS,Nat.reduceLeDiff,Nat.reduceLT,Nat.reduceSub,VX,Nat.reduceEqDiff,Nat.reduceAdd]
   exact qI
theorem EX (a b:Rat) (NA:bQ a≤1099511627776) (I8:bQ b≤1099511627776):TC 79 [bM a,bM b] (bM (a+b)):=by
 refine TC.walk ⟨true,false⟩ M8 rfl (Nat.le_of_ble_eq_true rfl) (by simp[aM,qL]) (vQ _) ?_
 have la:=vD NA
 have lb:=vD I8
 have lda:=uJ NA
 have ldb:=uJ I8
 have hBn:=Nat.mul_ne_zero a.den_nz b.den_nz
 have m1:=iJ a.num.natAbs b.den (Nat.le_of_lt (pH (by omega))) (Nat.le_of_lt (pH (by omega)))
 have m2:=iJ b.num.natAbs a.den (Nat.le_of_lt (pH (by omega))) (Nat.le_of_lt (pH (by omega)))
 have m3:=iJ a.den b.den (Nat.le_of_lt (pH (by omega))) (Nat.le_of_lt (pH (by omega)))
 have ea:mkRat (lB (decide (a.num<0)) (a.num.natAbs*b.den)) (a.den*b.den)=a:=EA a b.den_nz
 have eb:mkRat (lB (decide (b.num<0)) (b.num.natAbs*a.den)) (a.den*b.den)=b:=by rw[Nat.mul_comm a.den];exact EA b a.den_nz
 have k1:=oH a.num.natAbs b.den
 have k2:=oH b.num.natAbs a.den
 have k3:=oH a.den b.den
 obtain⟨p1,p2,p3⟩:=IK hBn ea eb
 have hX:bl (a.num.natAbs*b.den)≤2199023255552:=by omega
 have hY:bl (b.num.natAbs*a.den)≤2199023255552:=by omega
 have hB:bl (a.den*b.den)≤4398046511104:=by omega
 generalize a.num.natAbs*b.den=X at *
 generalize b.num.natAbs*a.den=Y at *
 generalize a.den*b.den=B at *
 have f1:=HE X Y (pH (by omega)) (pH (by omega))
 have f2:=vJ X Y (Nat.le_of_lt (pH (by omega))) (Nat.le_of_lt (pH (by omega)))
 have hS:bl (X+Y)≤4398046511104:=Nat.le_trans (Uy hX hY) (by decide)
 have hD1:bl (X-Y)≤4398046511104:=Nat.le_trans (kY (Nat.sub_le _ _)) (by omega)
 have hD2:bl (Y-X)≤4398046511104:=Nat.le_trans (kY (Nat.sub_le _ _)) (by omega)
 have f5:=fun neg=>tP neg (X+Y) B hBn hS hB
 have f6:=fun neg=>tP neg (X-Y) B hBn hD1 hB
 have f7:=fun neg=>tP neg (Y-X) B hBn hD2 hB
 by_cases hn:decide (a.num<0)=decide (b.num<0)
 ·have RY:(decide (a.num<0) == decide (b.num<0))=true:=by simpa using hn
  rw[←p1 hn]
  simp only[Ap,vI,m1,m2,m3,f1,f5,AN,pK,RY,bS,gD,fK,gQ,gK,jL,aL,bB,aR,jS,Nat.reduceLeDiff,Nat.reduceLT,Nat.reduceSub,VX,Nat.reduceEqDiff,Nat.reduceAdd]
  exact Ci _
 ·have RY:(decide (a.num<0) == decide (b.num<0))=false:=by simpa using hn
  by_cases hx:(0:Int)≤fB X Y
  ·have hle:Y≤X:=by have := @vG X Y;omega
   have c3:=Aq X Y hle (Nat.le_of_lt (pH (by omega)))
   rw[←p2 hn hle]
   simp only[Ap,vI,m1,m2,m3,f2,c3,f6,hx,AN,pK,RY,bS,gD,fK,gQ,gK,jL,aL,bB,aR,jS,Nat.reduceLeDiff,Nat.reduceLT,Nat.reduceSub,VX,Nat.reduceEqDiff,Nat.reduceAdd]
   exact Ci _
  ·have hle:X≤Y:=by have := @vG X Y;omega
   have c3:=Aq Y X hle (Nat.le_of_lt (pH (by omega)))
   rw[←p3 hn hle]
   simp only[Ap,vI,m1,m2,m3,f2,c3,f7,hx,AN,pK,RY,bS,gD,fK,gQ,gK,jL,aL,bB,aR,jS,Nat.reduceLeDiff,Nat.reduceLT,Nat.reduceSub,VX,Nat.reduceEqDiff,Nat.reduceAdd]
   exact Ci _
theorem J3 (a b:Rat) (NA:bQ a≤1099511627776) (I8:bQ b≤1099511627776):TC 82 [bM a,bM b] (bM (a-b)):=by
 refine TC.walk ⟨true,false⟩ Kj rfl (Nat.le_of_ble_eq_true rfl) (by simp[aM,qL]) (vQ _) ?_
 have c1:=F5 b
 have c2:=EX a (-b) NA (by rw[I4];exact I8)
 rw[←Rat.sub_eq_add_neg] at c2
 simp only[Fa,Ct,c1,c2,bS,gD,jL,aL,bB,aR,jS,Nat.reduceLeDiff,Nat.reduceLT,Nat.reduceSub,VX,Nat.reduceEqDiff,Nat.reduceAdd]
 exact Ci _
theorem agV (a b:Int):lB (decide (a<0) != decide (b<0)) (a.natAbs*b.natAbs)=a*b:=by
 rcases Int.lt_trichotomy a 0 with h1 | h1 | h1<;>rcases Int.lt_trichotomy b 0 with h2 | h2 | h2
 ·rw[decide_eq_true h1,decide_eq_true h2]
  simp only[lB,bne_self_eq_false,Bool.false_eq_true,if_false,Int.natCast_mul]
  rw[show (a.natAbs:Int) = -a by omega,show (b.natAbs:Int) = -b by omega,Int.neg_mul_neg]
 ·subst h2;simp[zS]
 ·rw[decide_eq_true h1,decide_eq_false (show ¬b<0 by omega)]
  simp only[lB,Bool.true_bne,Bool.not_false,if_true,Int.natCast_mul]
  rw[show (a.natAbs:Int) = -a by omega,show (b.natAbs:Int)=b by omega,Int.neg_mul,Int.neg_neg]
 ·subst h1;simp[zS]
 ·subst h1;simp[zS]
 ·subst h1;simp[zS]
 ·rw[decide_eq_false (show ¬a<0 by omega),decide_eq_true h2]
  simp only[lB,Bool.false_bne,if_true,Int.natCast_mul]
  rw[show (a.natAbs:Int)=a by omega,show (b.natAbs:Int) = -b by omega,Int.mul_neg,Int.neg_neg]
 ·subst h2;simp[zS]
 ·rw[decide_eq_false (show ¬a<0 by omega),decide_eq_false (show ¬b<0 by omega)]
  simp only[lB,bne_self_eq_false,Bool.false_eq_true,if_false,Int.natCast_mul]
  rw[show (a.natAbs:Int)=a by omega,show (b.natAbs:Int)=b by omega]
theorem T2 {a b:Rat} (hb:b≠0):mkRat (lB (decide (a.num<0) != decide (b.num<0)) (a.num.natAbs*b.den)) (a.den*b.num.natAbs)=a / b:=by
 have hn:b.num≠0:=fun h=>hb (Rat.num_eq_zero.1 h)
 have i1:b⁻¹.num=b.num.sign*b.den:=Rat.num_inv b
 have i2:b⁻¹.den=b.num.natAbs:=by rw[Rat.den_inv,if_neg hn]
 have hd:(0:Int)<b.den:=by have:=b.den_nz;omega
 have i3:b⁻¹.num.natAbs=b.den:=by
  rw[i1,Int.natAbs_mul,Int.natAbs_natCast]
  rcases Int.lt_or_gt_of_ne hn with h1 | h1
  ·rw[Int.sign_eq_neg_one_of_neg h1];simp
  ·rw[Int.sign_eq_one_of_pos h1];simp
 have i4:decide (b⁻¹.num<0)=decide (b.num<0):=by
  rw[i1]
  rcases Int.lt_or_gt_of_ne hn with h1 | h1
  ·rw[Int.sign_eq_neg_one_of_neg h1,decide_eq_true h1];simp;omega
  ·rw[Int.sign_eq_one_of_pos h1,decide_eq_false (show ¬b.num<0 by omega)];simp
 rw[Rat.div_def,Rat.mul_def',←agV,i2,i3,i4]
theorem K2 (a b:Rat) (hb:b≠0) (NA:bQ a≤1099511627776) (I8:bQ b≤1099511627776):TC 81 [bM a,bM b] (bM (a / b)):=by
 refine TC.walk ⟨true,false⟩ ME rfl (Nat.le_of_ble_eq_true rfl) (by simp[aM,qL]) (vQ _) ?_
 have hn:b.num≠0:=fun h=>hb (Rat.num_eq_zero.1 h)
 have la:=vD NA
 have lb:=vD I8
 have lda:=uJ NA
 have ldb:=uJ I8
 have k1:=oH a.num.natAbs b.den
 have k3:=oH a.den b.num.natAbs
 have m1:=iJ a.num.natAbs b.den (Nat.le_of_lt (pH (by omega))) (Nat.le_of_lt (pH (by omega)))
 have m3:=iJ a.den b.num.natAbs (Nat.le_of_lt (pH (by omega))) (Nat.le_of_lt (pH (by omega)))
 have c1:=tP (decide (a.num<0) != decide (b.num<0)) (a.num.natAbs*b.den) (a.den*b.num.natAbs) (Nat.mul_ne_zero a.den_nz (by omega)) (by omega) (by omega)
 rw[T2 hb] at c1
 simp only[G1,Dr,m1,m3,c1,pK,bS,gD,fK,gQ,gK,jL,aL,bB,aR,jS,Nat.reduceLeDiff,Nat.reduceLT,Nat.reduceSub,VX,Nat.reduceEqDiff,Nat.reduceAdd]
 exact Ci _
theorem DJ (q:Rat):TC 59 [bM q] (VB (decide (q=0))):=by
 refine TC.walk ⟨true,false⟩ La rfl (Nat.le_of_ble_eq_true rfl) (by simp[aM,qL]) rfl ?_
 by_cases h0:q=0
 ·have hl:(((aC 1000000000 q.num.natAbs).length:Nat):Int)=0:=by rw[h0];simp[cG]
  simp only[Cg,zY,cO,hl,bS,fK,gQ,gK,aL,bB,aR,jS,Nat.reduceLeDiff,Nat.reduceLT,Nat.reduceSub,VX,Nat.reduceEqDiff,Nat.reduceAdd]
  rw[decide_eq_true h0]
  exact aK rfl
 ·have hn:q.num≠0:=fun h=>h0 (Rat.num_eq_zero.1 h)
  have hl:¬(((aC 1000000000 q.num.natAbs).length:Nat):Int)=0:=by have := @qY q.num.natAbs;omega
  simp only[Cg,zY,cO,hl,bS,fK,gQ,gK,aL,bB,aR,jS,Nat.reduceLeDiff,Nat.reduceLT,Nat.reduceSub,VX,Nat.reduceEqDiff,Nat.reduceAdd]
  rw[decide_eq_false h0]
  exact aK rfl
end Go.PM
namespace Go.PM
open Go.Lib
theorem adU {m n:Nat} (h:decDigits m=decDigits n):m=n:=by
 have key:∀k m n:Nat,m<10^(k+1)→decDigits m=decDigits n→m=n:=by
  intro k
  induction k with
  |
   zero =>
   intro m n hm h
   rw[jE (by omega)] at h
   by_cases hn:n<10
   ·rw[jE hn] at h
    have h1:=List.singleton_inj.1 h
    unfold d10 at h1
    have:=congrArg UInt8.toNat h1
    simp at this
    omega
   ·rw[AJ hn] at h
    have:=congrArg List.length h
    have h2:=List.length_pos_iff.2 (Qf (n / 10))
    simp only[List.length_append,List.length_cons,List.length_nil] at this
    omega
  |
   succ k ih =>
   intro m n hm h
   by_cases h1:m<10
   ·rw[jE h1] at h
    by_cases hn:n<10
    ·rw[jE hn] at h
     have h1:=List.singleton_inj.1 h
     unfold d10 at h1
     have:=congrArg UInt8.toNat h1
     simp at this
     omega
    ·rw[AJ hn] at h
     have:=congrArg List.length h
     have h2:=List.length_pos_iff.2 (Qf (n / 10))
     simp only[List.length_append,List.length_cons,List.length_nil] at this
     omega
   ·rw[AJ h1] at h
    by_cases hn:n<10
    ·rw[jE hn] at h
     have:=congrArg List.length h
     have h2:=List.length_pos_iff.2 (Qf (m / 10))
     simp only[List.length_append,List.length_cons,List.length_nil] at this
     omega
    ·rw[AJ hn] at h
     obtain⟨h2,h3⟩:=List.append_inj' h rfl
     have h4:=ih (m / 10) (n / 10) (by rw[Nat.pow_succ] at hm;omega) h2
     have h5:=List.singleton_inj.1 h3
     unfold d10 at h5
     have:=congrArg UInt8.toNat h5
     simp at this
     omega
 exact key m m n (Nat.lt_trans (Nat.lt_pow_self (by decide)) (Nat.pow_lt_pow_right (by decide) (Nat.lt_succ_self m))) h
def Ff (q:Rat):List UInt8:=(if q.num<0 then [45] else [])++decDigits q.num.natAbs++(if q.den=1 then [] else 47::decDigits q.den)
def xA (q:Rat):Bool:=decide ((decDigits q.num.natAbs).length≤200)&&decide ((decDigits q.den).length≤200)
theorem BF (n:Nat):(decDigits n).length≤bl n+1:=by
 by_cases h:n=0
 ·subst h;rw[jE (by decide)];simp
 ·have h1:=acP h
  obtain⟨k,hk⟩:∃k,bl n=k+1:=⟨bl n-1,by omega⟩
  have h2:=OU n
  rw[hk] at h2 ⊢
  have h3:2^(k+1)≤10^(k+1):=Nat.pow_le_pow_left (by decide) _
  have:=yU n k (by omega)
  omega
end Go.PM
namespace Go.PM
open Go.Lib
theorem Pm (a b:List UInt8):dU .neq (.string ⟨a.toArray⟩) (.string ⟨b.toArray⟩)=some (.bool (!decide (a=b))):=by
 have h:∀l:List UInt8,(ByteArray.toList ⟨l.toArray⟩)=l:=fun l=>by rw[ByteArray.toList_eq]
 show some (Value.bool (!(ByteArray.toList ⟨a.toArray⟩ == ByteArray.toList ⟨b.toArray⟩)))=_
 rw[h,h]
 congr 3
 cases h2:a == b
 ·rw[decide_eq_false (by simpa using h2)]
 ·rw[decide_eq_true (by simpa using h2)]
theorem Wk (a b:List UInt8):dU .eql (.string ⟨a.toArray⟩) (.string ⟨b.toArray⟩)=some (.bool (decide (a=b))):=by
 have h:∀l:List UInt8,(ByteArray.toList ⟨l.toArray⟩)=l:=fun l=>by rw[ByteArray.toList_eq]
 show some (Value.bool (ByteArray.toList ⟨a.toArray⟩ == ByteArray.toList ⟨b.toArray⟩))=_
 rw[h,h]
 congr 2
 cases h2:a == b
 ·rw[decide_eq_false (by simpa using h2)]
 ·rw[decide_eq_true (by simpa using h2)]
theorem Lu {n:Nat}:(decDigits n=[49])↔n=1:=by
 have e:decDigits 1=[49]:=by rw[jE (by decide)];rfl
 rw[←e]
 exact⟨adU,fun h=>by rw[h]⟩
theorem J0 (q:Rat) (hk:bQ q≤1099511627776):TC 180 [bF q] (.fN [bC (Ff q),VB (xA q)]):=by
 refine TC.walk ⟨true,false⟩ Hu rfl (Nat.le_of_ble_eq_true rfl) (by simp[aM,iZ]) rfl ?_
 have la:=vD hk
 have lb:=uJ hk
 have t1:=Cs q.num.natAbs (aqT (by omega))
 have t2:=Cs q.den (aqT (by omega))
 have d1:=BF q.num.natAbs
 have d2:=BF q.den
 have a1:dU .add (.string ⟨#[45]⟩) (.string ⟨(decDigits q.num.natAbs).toArray⟩)=some (.string ⟨(45::decDigits q.num.natAbs).toArray⟩):=rP [45] _ (by simp only[List.length_cons,List.length_nil];omega)
 have a2:dU .add (.string ⟨#[47]⟩) (.string ⟨(decDigits q.den).toArray⟩)=some (.string ⟨(47::decDigits q.den).toArray⟩):=rP [47] (decDigits q.den) (by simp only[List.length_cons,List.length_nil];omega)
 have a3:=rP (45::decDigits q.num.natAbs) (47::decDigits q.den) (by simp only[List.length_cons];omega)
 have a4:=rP (decDigits q.num.natAbs) (47::decDigits q.den) (by simp only[List.length_cons];omega)
 have ne:dU .neq (.string ⟨(decDigits q.den).toArray⟩) (.string ⟨#[49]⟩)=_:=Pm (decDigits q.den) [49]
 have hf:xA q=(decide (((decDigits q.num.natAbs).length:Int)≤200)&&decide (((decDigits q.den).length:Int)≤200)):=by
  unfold xA
  congr 1<;>exact decide_eq_decide.2 (by omega)
 rw[hf]
 have hs:Ff q=(if q.num<0 then (45::decDigits q.num.natAbs) else decDigits q.num.natAbs)++(if q.den=1 then [] else 47::decDigits q.den):=by
  unfold Ff
  by_cases hn:q.num<0
  ·rw[if_pos hn,if_pos hn];rfl
  ·rw[if_neg hn,if_neg hn];rfl
 rw[hs]
 by_cases hd:q.den=1
 ·rw[decide_eq_true (Lu.2 hd)] at ne
  rw[if_pos hd,List.append_nil]
  by_cases hn:q.num<0<;>by_cases hl:((decDigits q.num.natAbs).length:Int)≤200
  all_goals
   simp only[wF,tM,t1,t2,a1,a2,a3,a4,ne,hn,hl,bN,aF,dL,jW,jZ,lZ,dE,aY,aV,aO,jS,Nat.reduceLeDiff,Nat.reduceLT,Nat.reduceSub,VX,Nat.reduceEqDiff,Nat.reduceAdd]
   exact aK rfl
 ·rw[decide_eq_false (mt Lu.1 hd)] at ne
  rw[if_neg hd]
  by_cases hn:q.num<0<;>by_cases hl:((decDigits q.num.natAbs).length:Int)≤200
  all_goals
   simp only[wF,tM,t1,t2,a1,a2,a3,a4,ne,hn,hl,bN,aF,dL,jW,jZ,lZ,dE,aY,aV,aO,jS,Nat.reduceLeDiff,Nat.reduceLT,Nat.reduceSub,VX,Nat.reduceEqDiff,Nat.reduceAdd]
   exact aK rfl
def SK (q:Rat):VV:=if xA q=true then .fN [bC (Ff q),VB true] else .fN [bC [],VB false]
theorem XM (q:Rat):iU (SK q)=true:=by unfold SK;split<;>rfl
end Go.PM
namespace Go.PM
open Go.Lib
abbrev bV (b:UInt8):VV := .sc (.int .u8 (b.toNat:Int))
theorem Ms:∀bs:List UInt8,IQ (bs.map bV)=some bs
 | []=>rfl
 |
  b::bs=>by
  rw[List.map_cons]
  show (IQ (bs.map bV)).map (UInt8.ofNat ((b.toNat:Int)).toNat :: ·)=_
  rw[Ms bs]
  simp
structure FY (v:VV) (H:aA) (bs:List UInt8):Prop where
 len:qB v H=some (VI bs.length)
 src:dF 1 v H=some (bs.map bV)
 nsc:∀x,v ≠ .sc x
theorem FY.str {v:VV} {H:aA} {bs:List UInt8} (h:FY v H bs) {fl:Fl} {lo:Nat} {x:Operand} {ρ:dH} (hx:eQ ρ x=v):vop fl lo (.b2s x) ρ H=some (bC bs,H):=by
 have h1:=h.nsc
 have h2:=h.src
 unfold vop
 dsimp only
 rw[hx]
 cases v with
 | sc x=>exact absurd rfl (h1 x)
 | _=>simp only[h2,Ms,Option.map_some]
theorem Yj {bs:List UInt8} {k:TK} {H:aA}:dF 1 (.tree (bs.map bV) k) H=some (bs.map bV):=by
 have:((bs.map bV).all fun x=>(aB x).length == 1&&(aB x).all cC)=true:=by
  rw[List.all_eq_true]
  intro x hx
  obtain⟨d,_,rfl⟩:=List.mem_map.1 hx
  rfl
 simp only[dF,this,if_true]
theorem FY.tree {bs:List UInt8} {k:TK} {H:aA}:FY (.tree (bs.map bV) k) H bs:=⟨eI,Yj,fun x=>by simp⟩
theorem FY.row {bs:List UInt8} {H:aA} {b g:Nat} {w:Bool} (h:aH H b g=some (bs.map bV,1,w)):FY (.ref b g 0 bs.length bs.length) H bs:=by
 refine⟨dP h,?_,fun x=>by simp⟩
 have mD:(((bs.map bV).drop 0).take bs.length).all (fun x=>(aB x).all cC)=true:=by
  rw[List.all_eq_true]
  intro x hx
  obtain⟨d,_,rfl⟩:=List.mem_map.1 (List.mem_of_mem_drop (List.mem_of_mem_take hx))
  rfl
 simp only[dF,h]
 rw[if_pos ⟨trivial,by simp,mD⟩,List.drop_zero,List.take_of_length_le (by simp)]
theorem FY.cons {v:VV} {H:aA} {bs:List UInt8} (h:FY v H bs) (x:UInt8) (hl:bs.length≤1000000) (lo:Nat):∃v' H',eE lo 1 1 (.tree [bV x] (.cl 1)) (bs.map bV) H=some (v',H')∧FY v' H' (x::bs):=by
 by_cases hb:bs=[]
 ·subst hb
  exact⟨_,_,rfl,FY.tree (bs:=[x])⟩
 ·have fQ:bs.length≠0:=fun h=>hb (List.length_eq_zero_iff.1 h)
  refine⟨.ref H.length 0 0 (x::bs).length (x::bs).length,H++[.row 0 ((x::bs).map bV) 1 true],?_,FY.row (Sa rfl)⟩
  simp only[eE,List.length_map]
  rw[if_pos ⟨by decide,by decide⟩,if_pos trivial,if_neg fQ,if_pos (by simp;omega)]
  simp[Nat.add_comm]
theorem Sf (r:Int):dU .rem (.int .i64 r) (.int .i64 10)=some (.int .i64 (r.tmod 10)):=rfl
theorem ahI (r:Int) (h0 : -9223372036854775808≤r) (h1:r≤9223372036854775807):dU .quo (.int .i64 r) (.int .i64 10)=some (.int .i64 (r.tdiv 10)):=by
 show some (Value.int .i64 (IntKind.i64.wrap (r.tdiv 10)))=_
 have h2:(r.tdiv 10).natAbs=r.natAbs / 10:=by rw[Int.natAbs_tdiv];rfl
 rw[wrap64 (by omega) (by omega)]
theorem OA {d:Nat} (h:d<10):(d10 d).toNat=48+d:=by
 unfold d10
 simp
 omega
theorem HQ {n r:Nat} {bs:List UInt8} (h:decDigits n=decDigits r++bs):decDigits n=mI (r / 10)++d10 (r % 10)::bs:=by
 rw[h]
 by_cases hr:r<10
 ·rw[jE hr,mI,if_pos (by omega),Nat.mod_eq_of_lt hr];rfl
 ·rw[AJ hr,mI,if_neg (by omega),List.append_assoc];rfl
theorem Nj (n:Int) (h0 : -9223372036854775808≤n) (h1:n≤9223372036854775807):TC 219 [VI n] (bC ((if n<0 then [45] else [])++decDigits n.natAbs)):=by
 refine TC.walk ⟨true,false⟩ Nt rfl (Nat.le_of_ble_eq_true rfl) rfl rfl ?_
 have e0:∀lr,jY lr [.int .u8 0] 0 [] []=some (.ref 0 0 0 0 0,[.row 0 (([]:List UInt8).map bV) 1 true]):=fun lr=>iA (H:=[]) rfl
 have e1:∀(x:UInt8) (H:aA),jY false [.int .u8 0] 1 [(0,bV x)] H=some (.tree [bV x] (.cl 1),H):=fun x H=>gJ rfl rfl rfl
 have hdl:=yU n.natAbs 19 (by omega)
 simp only[Je,EO,e0,VX,Nat.reduceEqDiff,Nat.reduceAdd]
 refine aP (fun(s:Int×List UInt8) ρ H => -9223372036854775808≤s.1∧s.1≤9223372036854775807∧(s.2=[]→s.1=n)∧(s.2≠[]→decDigits n.natAbs=mI s.1.natAbs++s.2)∧FY (ρ 3) H s.2∧ρ 0=VI n∧ρ 4=VI s.1) (fun s=>s.1.natAbs+(if s.2=[] then 1 else 0)) (n,[]) ⟨h0,h1,fun _=>rfl,fun h=>absurd rfl h,by simp only[VX,Nat.reduceEqDiff,Nat.reduceAdd];exact FY.row (bs:=[]) aU,rfl,rfl⟩ ?_
 rintro⟨r,bs⟩ ρ H ⟨vO,AW,hn,hd,ho,g0,g4⟩
 simp only at vO AW hn hd ho g4
 generalize hv3:ρ 3=v3 at ho
 have hlen:=ho.len
 have Be:=ho.src
 by_cases Le:bs≠[]∧r=0
 ·obtain⟨hb,hr⟩:=Le
  subst hr
  have hl:¬(bs.length:Int)=0:=by have:=List.length_pos_iff.2 hb;omega
  have Y7:=hd hb
  simp only[mI,Int.natAbs_zero,if_true,List.nil_append] at Y7
  by_cases lM:n<0
  ·obtain⟨v',H',ap,ZM⟩:=ho.cons 45 (by rw[←Y7];omega) 0
   have Wj:jY false [.int .u8 0] 1 [(0,.sc (.int .u8 45))] H=some (.tree [bV 45] (.cl 1),H):=e1 45 H
   have bs2:=fun bI (h:eQ bI (.tmp 34)=v')=>ZM.str (fl:=⟨true,false⟩) (lo:=0) h
   simp only[kK,g0,g4,hv3,hlen,hl,VX,Nat.reduceEqDiff,Nat.reduceAdd]
   simp only[g0,lM,hv3,Wj,Be,ap,P0,VX,Nat.reduceEqDiff,Nat.reduceAdd]
   rw[bs2 _ (by rfl)]
   simp only[VX,Nat.reduceEqDiff,Nat.reduceAdd]
   rw[Y7]
   exact aK rfl
  ·have bs2:=fun bI (h:eQ bI (.tmp 34)=v3)=>ho.str (fl:=⟨true,false⟩) (lo:=0) h
   simp only[kK,g0,g4,hv3,hlen,hl,VX,Nat.reduceEqDiff,Nat.reduceAdd]
   simp only[g0,lM,hv3,P0,VX,Nat.reduceEqDiff,Nat.reduceAdd]
   rw[bs2 _ (by simp only[VX,Nat.reduceEqDiff,Nat.reduceAdd];try exact hv3)]
   simp only[VX,Nat.reduceEqDiff,Nat.reduceAdd]
   rw[Y7]
   exact aK rfl
 ·have hm:r.tmod 10=if r<0 then -((r.natAbs % 10:Nat):Int) else ((r.natAbs % 10:Nat):Int):=by
   have:=Int.tmod_eq_emod_of_nonneg (a:=r) (b:=10)
   by_cases h:r<0
   ·rw[if_pos h]
    have h2:=Int.neg_tmod (-r) 10
    rw[Int.neg_neg] at h2
    rw[h2,Int.tmod_eq_emod_of_nonneg (by omega)]
    omega
   ·rw[if_neg h,this (by omega)]
    omega
  have hq:(r.tdiv 10).natAbs=r.natAbs / 10:=by rw[Int.natAbs_tdiv];rfl
  have hmd:=Nat.mod_lt r.natAbs (show 0<10 by decide)
  have q1:=ahI r vO AW
  have vL:bs.length≤19:=by
   by_cases hb:bs=[]
   ·subst hb;simp
   ·have h2:=hd hb
    have h3:=congrArg List.length h2
    rw[List.length_append] at h3
    have h4:r≠0:=fun h=>Le ⟨hb,h⟩
    have h5:=List.length_pos_iff.2 (Qf r.natAbs)
    rw[mI,if_neg (by omega)] at h3
    omega
  obtain⟨v',H',ap,ZM⟩:=ho.cons (d10 (r.natAbs % 10)) (by omega) 0
  have w2:IntKind.i64.wrap (48+((r.natAbs % 10:Nat):Int))=((48+r.natAbs % 10:Nat):Int):=wrapN _ (by omega) (by omega)
  have w3:IntKind.u8.wrap ((48+r.natAbs % 10:Nat):Int)=((48+r.natAbs % 10:Nat):Int):=by
   simp[IntKind.wrap,IntKind.bits,IntKind.signed]
   omega
  have hx:VV.sc (.int .u8 ((48+r.natAbs % 10:Nat):Int))=bV (d10 (r.natAbs % 10)):=by rw[bV,OA hmd]
  have Wj:=e1 (d10 (r.natAbs % 10)) H
  rw[←hx] at Wj ap
  have next:∃s':Int×List UInt8,s'.1.natAbs+(if s'.2=[] then 1 else 0)<r.natAbs+(if bs=[] then 1 else 0) ∧ -9223372036854775808≤s'.1∧s'.1≤9223372036854775807∧(s'.2=[]→s'.1=n)∧(s'.2≠[]→decDigits n.natAbs=mI s'.1.natAbs++s'.2)∧FY v' H' s'.2∧r.tdiv 10=s'.1:=by
   refine⟨(r.tdiv 10,d10 (r.natAbs % 10)::bs),?_,by simp only;omega,by simp only;omega,fun h=>(by simp at h),fun _ => ?_,ZM,rfl⟩
   ·simp only[hq,List.cons_ne_nil,if_false]
    by_cases hb:bs=[]
    ·rw[if_pos hb];omega
    ·have h4:r≠0:=fun h=>Le ⟨hb,h⟩
     rw[if_neg hb];omega
   ·simp only[hq]
    by_cases hb:bs=[]
    ·subst hb
     refine HQ ?_
     rw[hn rfl,List.append_nil]
    ·have h4:r≠0:=fun h=>Le ⟨hb,h⟩
     have h2:=hd hb
     rw[mI,if_neg (by omega)] at h2
     exact HQ h2
  by_cases hrn:r.tmod 10<0
  ·have w1:IntKind.i64.wrap (0-r.tmod 10)=((r.natAbs % 10:Nat):Int):=by
    have:r.tmod 10 = -((r.natAbs % 10:Nat):Int):=by
     by_cases h:r<0
     ·rw[if_pos h] at hm;exact hm
     ·rw[if_neg h] at hm;omega
    rw[this]
    exact wrapN _ (by omega) (by omega)
   by_cases hb:bs=[]
   ·have hl:(bs.length:Int)=0:=by rw[hb];rfl
    simp only[kK,g0,g4,hv3,hlen,hl,Sf,q1,hrn,w1,w2,w3,Wj,Be,ap,VX,Nat.reduceEqDiff,Nat.reduceAdd]
    obtain⟨s',n1,n2,n3,n4,n5,n6,n7⟩:=next
    exact⟨s',n1,n2,n3,n4,n5,n6,by rw[n7]⟩
   ·have hl:¬(bs.length:Int)=0:=by have:=List.length_pos_iff.2 hb;omega
    have hr:¬r=0:=fun h=>Le ⟨hb,h⟩
    simp only[kK,g0,g4,hv3,hlen,hl,hr,Sf,q1,hrn,w1,w2,w3,Wj,Be,ap,VX,Nat.reduceEqDiff,Nat.reduceAdd]
    obtain⟨s',n1,n2,n3,n4,n5,n6,n7⟩:=next
    exact⟨s',n1,n2,n3,n4,n5,n6,by rw[n7]⟩
  ·have hmm:r.tmod 10=((r.natAbs % 10:Nat):Int):=by
    rw[hm] at hrn ⊢
    split
    ·rename_i h;rw[if_pos h] at hrn;omega
    ·rfl
   have anV:¬((r.natAbs % 10:Nat):Int)<0:=by omega
   by_cases hb:bs=[]
   ·have hl:(bs.length:Int)=0:=by rw[hb];rfl
    simp only[kK,g0,g4,hv3,hlen,hl,Sf,hmm,q1,anV,w2,w3,Wj,Be,ap,VX,Nat.reduceEqDiff,Nat.reduceAdd]
    obtain⟨s',n1,n2,n3,n4,n5,n6,n7⟩:=next
    exact⟨s',n1,n2,n3,n4,n5,n6,by rw[n7]⟩
   ·have hl:¬(bs.length:Int)=0:=by have:=List.length_pos_iff.2 hb;omega
    have hr:¬r=0:=fun h=>Le ⟨hb,h⟩
    simp only[kK,g0,g4,hv3,hlen,hl,hr,Sf,hmm,q1,anV,w2,w3,Wj,Be,ap,VX,Nat.reduceEqDiff,Nat.reduceAdd]
    obtain⟨s',n1,n2,n3,n4,n5,n6,n7⟩:=next
    exact⟨s',n1,n2,n3,n4,n5,n6,by rw[n7]⟩
end Go.PM
namespace Go.PM
abbrev chV (c:List (List ByteArray)):VV := .agg [fI c]
theorem Bx (c:List (List ByteArray)):bA (chV c)=true:=by
 show aM [fI c]=true
 simp only[aM,lR,Bool.and_self]
theorem Qb {c:List (List ByteArray)}:dK false 1 (chV c) 0=some (fI c):=rfl
def Du (n:Nat) (H:aA) (bare:Bool) (c:List (List ByteArray)) (r:VV):Prop:=∃c0,r = .agg [c0]∧zI n H bare c c0
theorem Du.cL {n:Nat} {H H':aA} {bare:Bool} {s:List (List ByteArray)} {c:VV} (h:Du n H bare s c) (hk:∀b g x,n<b→aH H b g=some x→aH H' b g=some x):Du n H' bare s c:=by
 obtain⟨c0,rfl,h0⟩:=h
 exact⟨c0,rfl,h0.cL hk⟩
theorem Du.pre {n:Nat} {H H':aA} {bare:Bool} {s:List (List ByteArray)} {c:VV} (h:Du n H bare s c) (hh:H <+: H'):Du n H' bare s c:=h.cL fun _ _ _ _=>cP hh
theorem Du.fz {n:Nat} {H:aA} {bare:Bool} {s:List (List ByteArray)} {c:VV} (h:Du n H bare s c):PM.fz depth H c=some (chV s):=by
 obtain⟨c0,rfl,h0⟩:=h
 have f0:=h0.fz (d:=4)
 have e:PM.fz (7+1) H (.agg [c0])=if bA (.agg [c0])=true then some (.agg [c0]) else ([c0].mapM (PM.fz 7 H)).map .agg:=rfl
 show PM.fz (7+1) H (.agg [c0])=_
 rw[e]
 by_cases hp:bA (.agg [c0])=true
 ·rw[if_pos hp]
  have hu:bA c0=true:=by simpa[bA,aM] using hp
  rw[aJ hu] at f0
  cases f0
  rfl
 ·rw[if_neg hp,List.mapM_cons,f0]
  rfl
end Go.PM
namespace Go.PM
open Go.Lib
def iS (c:UInt8):Bool:=decide (48≤c.toNat)&&decide (c.toNat≤57)
def dv (c:UInt8):Nat:=c.toNat-48
def Lz (a:Nat) (l:List UInt8):Nat:=l.foldl (fun a c=>a*10+dv c) a
def bZ (l:List UInt8):Nat:=Lz 0 l
theorem Vq (l:List UInt8):∀a,Lz a l=a*10^l.length+bZ l:=by
 induction l with
 | nil=>intro a;simp[Lz,bZ]
 |
  cons c l ih =>
  intro a
  have h1:Lz a (c::l)=Lz (a*10+dv c) l:=rfl
  have h2:bZ (c::l)=Lz (0*10+dv c) l:=rfl
  rw[h1,h2,ih,ih (0*10+dv c),List.length_cons,Nat.pow_succ]
  grind
theorem Mn (a b:List UInt8):bZ (a++b)=bZ a*10^b.length+bZ b:=by
 have:bZ (a++b)=Lz (bZ a) b:=by unfold bZ Lz;rw[List.foldl_append]
 rw[this,Vq]
theorem K1:bZ []=0:=rfl
theorem Yn (a:List UInt8) (c:UInt8):bZ (a++[c])=bZ a*10+dv c:=by
 rw[Mn]
 simp[bZ,Lz]
theorem ahE {c:UInt8} (h:iS c=true):dv c<10:=by
 simp only[iS,Bool.and_eq_true,decide_eq_true_eq] at h
 unfold dv
 omega
theorem Hl:∀ {l:List UInt8},l.all iS=true→bZ l<10^l.length:=by
 intro l
 induction l with
 | nil=>intro _;decide
 |
  cons c l ih =>
  intro h
  rw[List.all_cons,Bool.and_eq_true] at h
  have h1:=ahE h.1
  have h2:=ih h.2
  have h3:bZ (c::l)=Lz (0*10+dv c) l:=rfl
  rw[h3,Vq,List.length_cons,Nat.pow_succ]
  have h4:(0*10+dv c)*10^l.length≤9*10^l.length:=Nat.mul_le_mul_right _ (by omega)
  omega
theorem ajY {M:Nat} (hM:1000000000000000000≤M):∀(l:List UInt8) (k acc:Nat),l.all iS=true→acc<10^k→k+l.length≤18→parseUintM M acc l = .ok (Lz acc l):=by
 intro l
 induction l with
 | nil=>intro k acc _ _ _;rfl
 |
  cons c l ih =>
  intro k acc h hk hl
  rw[List.all_cons,Bool.and_eq_true] at h
  have h1:=ahE h.1
  have h0:=h.1
  simp only[iS,Bool.and_eq_true,decide_eq_true_eq] at h0
  rw[List.length_cons] at hl
  have h18:acc<10^17:=Nat.lt_of_lt_of_le hk (Nat.pow_le_pow_right (by decide) (by omega))
  have e17:(10:Nat)^17=100000000000000000:=by decide
  rw[e17] at h18
  have hd:c.toNat-48=dv c:=rfl
  rw[parseUintM,if_pos h0,if_neg (by omega),hd,if_neg (by omega),ih (k+1) _ h.2 (by rw[Nat.pow_succ];omega) (by omega)]
  rfl
theorem alO {l:List UInt8} (h:l.all iS=true) (h0:l≠[]) (hl:l.length≤18):parseUintB 64 l = .ok (bZ l):=by
 unfold parseUintB
 rw[if_neg h0]
 exact ajY (by decide) l 0 0 h (by decide) (by omega)
def iL (l:List UInt8):Bool:=l.all iS&&decide (1≤l.length)&&decide (l.length≤200)&&(decide (l.length=1) || !decide (l.getD 0 0=48))
theorem kG {l:List UInt8}:iL l=true↔l.all iS=true∧1≤l.length∧l.length≤200∧(l.length=1∨l.getD 0 0≠48):=by
 unfold iL
 simp only[Bool.and_eq_true,Bool.or_eq_true,Bool.not_eq_true',decide_eq_true_eq,decide_eq_false_iff_not,ne_eq,and_assoc]
theorem yC {l:List UInt8} (h:iL l=true):bl (bZ l)≤665:=by
 obtain⟨h1,h2,h3,_⟩:=kG.1 h
 refine G9 (Nat.lt_of_lt_of_le (Hl h1) ?_)
 exact Nat.le_trans (Nat.pow_le_pow_right (by decide) h3) (by decide +kernel)
def mQ (c:UInt8):List UInt8→List UInt8×Option (List UInt8)
 | []=>([],none)
 | x::r=>if x=c then ([],some r) else (x::(mQ c r).1,(mQ c r).2)
theorem BN {c:UInt8}:∀ {l:List UInt8},(mQ c l).2=none→indexByte l c = -1∧(mQ c l).1=l∧c∉l:=by
 intro l
 induction l with
 | nil=>intro _;exact⟨rfl,rfl,by simp⟩
 |
  cons x l ih =>
  intro h
  unfold mQ at h ⊢
  by_cases hx:x=c
  ·rw[if_pos hx] at h
   cases h
  ·rw[if_neg hx] at h ⊢
   obtain⟨h1,h2,h3⟩:=ih h
   refine⟨?_,by rw[h2],?_⟩
   ·rw[indexByte,if_neg (by simpa using hx),h1]
    rfl
   ·rw[List.mem_cons,not_or]
    exact⟨fun h=>hx h.symm,h3⟩
theorem IF {c:UInt8}:∀ {l r:List UInt8},(mQ c l).2=some r→indexByte l c=((mQ c l).1.length:Int)∧l=(mQ c l).1++c::r∧c∉(mQ c l).1:=by
 intro l
 induction l with
 | nil=>intro r h;cases h
 |
  cons x l ih =>
  intro r h
  unfold mQ at h ⊢
  by_cases hx:x=c
  ·rw[if_pos hx] at h ⊢
   cases h
   subst hx
   refine⟨?_,rfl,by simp⟩
   rw[indexByte,if_pos (by simp)]
   rfl
  ·rw[if_neg hx] at h ⊢
   obtain⟨h1,h2,h3⟩:=ih h
   refine⟨?_,?_,?_⟩
   ·rw[indexByte,if_neg (by simpa using hx),h1,if_neg]
    ·simp
    ·simp
   ·conv=>lhs;rw[h2]
    rfl
   ·rw[List.mem_cons,not_or]
    exact⟨fun h=>hx h.symm,h3⟩
def pM (neg:Bool) (d:List UInt8) (s:Option (List UInt8)):Option Rat :=
 if iL d=false∨(neg=true∧bZ d=0) then none else
 match s with
 | none=>some (mkRat (lB neg (bZ d)) 1)
 | some t=>if iL t=true∧1<bZ t∧Nat.gcd (bZ d) (bZ t)=1 then some (mkRat (lB neg (bZ d)) (bZ t)) else none
def isNeg (l:List UInt8):Bool:=decide (1≤l.length)&&decide (l.getD 0 0=45)
def Aa (l:List UInt8):Option Rat:=pM (isNeg l) ((mQ 47 (if isNeg l then l.drop 1 else l)).1) ((mQ 47 (if isNeg l then l.drop 1 else l)).2)
theorem T8 {neg:Bool} {d:List UInt8} {s:Option (List UInt8)} {q:Rat} (h:pM neg d s=some q):iL d=true∧¬(neg=true∧bZ d=0)∧((s=none∧q=mkRat (lB neg (bZ d)) 1)∨∃t,s=some t∧iL t=true∧1<bZ t∧Nat.gcd (bZ d) (bZ t)=1∧q=mkRat (lB neg (bZ d)) (bZ t)):=by
 unfold pM at h
 split at h
 ·cases h
 ·rename_i hc
  rw[not_or] at hc
  refine⟨by simpa using hc.1,hc.2,?_⟩
  split at h
  ·exact .inl ⟨rfl,(Option.some.inj h).symm⟩
  ·rename_i t
   split at h
   ·rename_i ht
    exact .inr ⟨t,rfl,ht.1,ht.2.1,ht.2.2,(Option.some.inj h).symm⟩
   ·cases h
theorem Rg {neg:Bool} {d:List UInt8} {s:Option (List UInt8)} {q:Rat} (h:pM neg d s=some q):bQ q≤665:=by
 obtain⟨h1,_,h3⟩:=T8 h
 have hb:=yC h1
 rcases h3 with⟨_,rfl⟩ | ⟨t,_,h4,h5,_,rfl⟩
 ·exact Gz (by rw[oZ];exact hb) (G9 (by decide +kernel)) (by decide)
 ·exact Gz (by rw[oZ];exact hb) (yC h4) (by omega)
theorem Uw {l:List UInt8} {q:Rat} (h:Aa l=some q):bQ q≤665:=Rg h
theorem JJ {neg:Bool} {t b:Nat} (hb:b≠0) (hg:Nat.gcd t b=1):(mkRat (lB neg t) b).num=lB neg t∧(mkRat (lB neg t) b).den=b:=by
 rw[F7 hb,Pw hb,hg,Nat.div_one,Nat.div_one]
 exact⟨rfl,rfl⟩
theorem F0 {c:UInt8} {l:List UInt8}:isNeg (c::l)=decide (c=45):=by simp[isNeg]
theorem YQ {l:List UInt8} (h:l.all iS=true):(47:UInt8)∉l:=by
 intro hm
 have:=List.all_eq_true.1 h _ hm
 exact absurd this (by decide)
end Go.PM