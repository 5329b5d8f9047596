/- Texts of a claim, in one: part 10. -/
import Derived.Lib.Bytealg
import Derived.Lib.ParseIntB
import Derived.Test.YtodamlihdkalfaaGreatDoorKSi
set_option linter.unusedSimpArgs false
set_option linter.unusedVariables false
namespace Go.PM
theorem MX {ds:List Nat} {H:aA}:eW 1 (iE ds) H=some (ds.map tV):=by
 have:((ds.map tV).all fun x=>(aB x).length == 1&&(aB x).all cI)=true:=by
  rw[List.all_eq_true]
  intro x hx
  obtain⟨d,_,rfl⟩:=List.mem_map.1 hx
  rfl
 simp only[eW,iE,aL,this,if_true]
theorem DO (n:Nat) {H:aA}:eW 1 (bQ n) H=some ((aC 1000000000 n).map tV):=MX
theorem HC {a n:Nat} (hn:(aC 1000000000 a).length=n+1):∃d,(aC 1000000000 a)[n]? = some d∧d≠0∧d<1000000000:=by
 obtain⟨d,hd⟩:∃d,(aC 1000000000 a)[n]? = some d:=⟨_,List.getElem?_eq_getElem (by omega)⟩
 refine⟨d,hd,fun h0 => ?_,fF (by decide) a d (List.mem_of_getElem? hd)⟩
 have:=Mq (b:=1000000000) (by decide) a
 rw[List.getLast?_eq_getElem?,hn,Nat.add_sub_cancel,hd,h0] at this
 exact this rfl
theorem WY {a d:Nat} (h:aC 1000000000 a=[d]):a=d∧0<d∧d<1000000000:=by
 have h1:=cA (b:=1000000000) (by decide) a
 rw[h,val_one] at h1
 obtain⟨e,h2,h3,h4⟩:=HC (a:=a) (n:=0) (by rw[h];rfl)
 rw[h] at h2
 cases h2
 exact⟨h1.symm,by omega,h4⟩
theorem ajA {a:Nat} (h:(aC 1000000000 a).length≤2):a<1000000000000000000:=by
 have h1:=gK (b:=1000000000) (by decide) a
 have h2:1000000000^(aC 1000000000 a).length≤1000000000^2:=Nat.pow_le_pow_right (by decide) h
 omega
theorem Yi {H:aA} {u v:VV} (hu:aM u=true) (hv:aM v=true):fz depth H (.dL [u,v])=some (.dL [u,v]):=aG (by simp only[aM,aJ,hu,hv,Bool.and_self])
theorem alA {X N:Nat} (h:(aC 1000000000 X).length≤N):MU 0 1 (.ref 0 0 0 N N) (bQ X) [.row 0 ((List.replicate N 0).map tV) 1 true]=some (VI ((aC 1000000000 X).length:Int),[.row 0 ((aC 1000000000 X++List.replicate (N-(aC 1000000000 X).length) 0).map tV) 1 true]):=by
 have e:((aC 1000000000 X).map tV).take N=(aC 1000000000 X).map tV:=List.take_of_length_le (by simpa using h)
 simp only[MU,bQ,MX,bK,e,List.length_map,List.length_replicate,Nat.zero_add]
 rw[if_pos ⟨trivial,Nat.le_refl _,h⟩]
 simp only[cS,List.set_cons_zero,List.take_zero,List.nil_append,Nat.zero_add,List.length_map,List.map_append,List.map_replicate,List.drop_replicate]
theorem tY (a b:Nat) (hb:b≠0) (ha:(aC 1000000000 a).length<17592186044416) (vB:(aC 1000000000 b).length<17592186044416):TC 214 [bQ a,bQ b] (.dL [bQ (a / b),bQ (a % b)]):=by
 refine TC.walk ⟨true,false⟩ Hh rfl (Nat.le_of_ble_eq_true rfl) (by simp[aJ,bZ]) (by simp[eQ,pR,mY]) ?_
 have s1:=B5 a (by omega)
 have s2:=B5 b (by omega)
 have fin:∀ {H:aA},fz depth H (.dL [bQ (a / b),bQ (a % b)])=some (.dL [bQ (a / b),bQ (a % b)]):=Yi (bZ _) (bZ _)
 by_cases Z9:(aC 1000000000 a).length≤2∧(aC 1000000000 b).length≤2
 ·rw[if_pos Z9.1] at s1
  rw[if_pos Z9.2] at s2
  have la:=ajA Z9.1
  have q1:=Jj a b (by omega) (by omega)
  have q2:=Jw a b (by omega)
  have hdl:a / b≤a:=Nat.div_le_self _ _
  have hml:a % b≤a:=Nat.mod_le _ _
  have n1:TC 161 [VI ((a / b:Nat):Int)] (bQ (a / b)):=pO ((a / b:Nat):Int) (Int.ofNat_le.2 (show a / b≤9223372036854775807 from Nat.le_trans hdl (by omega)))
  have n2:TC 161 [VI ((a % b:Nat):Int)] (bQ (a % b)):=pO ((a % b:Nat):Int) (Int.ofNat_le.2 (show a % b≤9223372036854775807 from Nat.le_trans hml (by omega)))
  simp only[fA,dE,s1,s2,q1,q2,n1,n2,VX,Nat.reduceEqDiff,Nat.reduceAdd]
  exact fin
 have c1:=uA a b (by omega) (by omega)
 obtain⟨x1,t1,IU⟩:∃(x:Int) (t:Bool),(if (aC 1000000000 a).length≤2 then VV.dL [VI a,VB true] else .dL [VI 0,VB false]) = .dL [VI x,VB t]:=by split<;>exact⟨_,_,rfl⟩
 have hs2:∃(x:Int) (t:Bool),(if (aC 1000000000 b).length≤2 then VV.dL [VI b,VB true] else .dL [VI 0,VB false]) = .dL [VI x,VB t]∧(t1=true→t=false):=by
  by_cases h:(aC 1000000000 b).length≤2
  ·rw[if_pos h]
   refine⟨_,_,rfl,fun ht => ?_⟩
   rw[if_neg (fun h'=>Z9 ⟨h',h⟩)] at IU
   injection IU with IU
   injection IU with _ IU
   injection IU with IU _
   injection IU with IU
   injection IU with IU
   subst ht
   cases IU
  ·rw[if_neg h]
   exact⟨_,_,rfl,fun _=>rfl⟩
 obtain⟨x2,t2,hs2,ht⟩:=hs2
 rw[IU] at s1
 rw[hs2] at s2
 by_cases E6:fC a b<0
 ·have bD:a<b:=vY.1 E6
  have e0:∀lr,pT lr [.int .i64 0] 0 [] []=some (.ref 0 0 0 0 0,[.row 0 [] 1 true]):=fun lr=>oH (H:=[]) rfl
  have e1:∀lr,pT lr [.int .i64 0] 0 [] [.row 0 [] 1 true]=some (.ref 1 0 0 0 0,[.row 0 [] 1 true,.row 0 [] 1 true]):=fun lr=>oH (H:=[.row 0 [] 1 true]) rfl
  rw[Nat.div_eq_of_lt bD,Nat.mod_eq_of_lt bD]
  have hz:fz (6+1) [.row 0 [] 1 true,.row 0 [] 1 true] (.ref 0 0 0 0 0)=some (bQ 0):=by rw[HA];rfl
  by_cases Zc:a=0
  ·subst Zc
   have ap:fE 0 1 8 (.ref 1 0 0 0 0) ((aC 1000000000 0).map tV) [.row 0 [] 1 true,.row 0 [] 1 true]=some (.ref 1 0 0 0 0,[.row 0 [] 1 true,.row 0 [] 1 true]):=by
    rw[bW];rfl
   have Hn:fz (6+1) [.row 0 [] 1 true,.row 0 [] 1 true] (.ref 1 0 0 0 0)=some (bQ 0):=by rw[HA];rfl
   cases t1 with
   |
    false =>
    simp only[fA,dE,s1,s2,c1,E6,e0,e1,ap,DO,VX,Nat.reduceEqDiff,Nat.reduceAdd]
    exact bG (d:=6) hz Hn
   |
    true =>
    rw[ht rfl] at s2
    simp only[fA,dE,s1,s2,c1,E6,e0,e1,ap,DO,VX,Nat.reduceEqDiff,Nat.reduceAdd]
    exact bG (d:=6) hz Hn
  ·have hln:(aC 1000000000 a).length≠0:=fun h=>Zc ((lM (b:=1000000000) (by decide)).1 (List.length_eq_zero_iff.1 h))
   have ap:fE 0 1 8 (.ref 1 0 0 0 0) ((aC 1000000000 a).map tV) [.row 0 [] 1 true,.row 0 [] 1 true]=some (.ref 1 1 0 (aC 1000000000 a).length (aC 1000000000 a).length,[.row 0 [] 1 true,.row 1 ((aC 1000000000 a).map tV) 1 true]):=by
    have hr:aP [.row 0 [] 1 true,.row 0 [] 1 true] 1 0=some ([],1,true):=rfl
    simp only[fE,hr,List.length_map,Nat.zero_add,List.length_nil,Nat.add_zero]
    rw[if_pos ⟨by decide,by decide⟩,if_pos ⟨trivial,Nat.zero_le _,Nat.le_refl _⟩,if_neg (by omega),if_pos (by omega)]
    simp
   have DQ:fz (6+1) [.row 0 [] 1 true,.row 1 ((aC 1000000000 a).map tV) 1 true] (.ref 0 0 0 0 0)=some (bQ 0):=by rw[HA];rfl
   have Hn:fz (6+1) [.row 0 [] 1 true,.row 1 ((aC 1000000000 a).map tV) 1 true] (.ref 1 1 0 (aC 1000000000 a).length (aC 1000000000 a).length)=some (bQ a):=by
    have:aM (.ref 1 1 0 (aC 1000000000 a).length (aC 1000000000 a).length)=false:=rfl
    have hr:aP [.row 0 [] 1 true,.row 1 ((aC 1000000000 a).map tV) 1 true] 1 1=some ((aC 1000000000 a).map tV,1,true):=rfl
    unfold fz
    simp only[this,hr,Bool.false_eq_true,if_false]
    rw[if_pos ⟨by simp,Nat.le_refl _⟩,List.drop_zero,List.take_of_length_le (by simp),mapM_pure (n:=5) (eO fun _=>rfl)]
    rfl
   cases t1 with
   |
    false =>
    simp only[fA,dE,s1,s2,c1,E6,e0,e1,ap,DO,VX,Nat.reduceEqDiff,Nat.reduceAdd]
    exact bG (d:=6) DQ Hn
   |
    true =>
    rw[ht rfl] at s2
    simp only[fA,dE,s1,s2,c1,E6,e0,e1,ap,DO,VX,Nat.reduceEqDiff,Nat.reduceAdd]
    exact bG (d:=6) DQ Hn
 have DT:b≤a:=by have := @vY a b;omega
 have hbn:(aC 1000000000 b).length≠0:=fun h=>hb ((lM (b:=1000000000) (by decide)).1 (List.length_eq_zero_iff.1 h))
 by_cases h1:(((aC 1000000000 b).length:Nat):Int)=1
 ·obtain⟨d,hd⟩:∃d,aC 1000000000 b=[d]:=List.length_eq_one_iff.1 (by omega)
  obtain⟨hbd,Cl,hdT⟩:=WY hd
  have e1:bJ 1 (bQ b) (VI 0) []=some (.cK (tV d) 0):=by
   rw[bQ,hd]
   exact aI (f:=tV) (t := .op) (H:=[]) (size:=1) (k := .i64) (xs:=[d]) (i:=0) rfl rfl
  have c2:=wV a d Cl hdT (by omega)
  rw[←hbd] at c2
  have R4:a % b≤b:=Nat.le_of_lt (Nat.mod_lt _ (by omega))
  have n2:TC 161 [VI ((a % b:Nat):Int)] (bQ (a % b)):=pO ((a % b:Nat):Int) (Int.ofNat_le.2 (show a % b≤9223372036854775807 from Nat.le_trans R4 (by omega)))
  have e2:tV d=tV b:=by rw[hbd]
  rw[e2] at e1
  cases t1 with
  |
   false =>
   simp only[fA,dE,s1,s2,c1,E6,cO,h1,e1,c2,n2,VX,Nat.reduceEqDiff,Nat.reduceAdd]
   exact fin
  |
   true =>
   rw[ht rfl] at s2
   simp only[fA,dE,s1,s2,c1,E6,cO,h1,e1,c2,n2,VX,Nat.reduceEqDiff,Nat.reduceAdd]
   exact fin
 obtain⟨n,hn⟩:∃n,(aC 1000000000 b).length=n+2:=⟨(aC 1000000000 b).length-2,by omega⟩
 obtain⟨t,htd,ht0,htT⟩:=HC (a:=b) (n:=n+1) hn
 obtain⟨s,hs⟩:∃s,s=1000000000 / (t+1):=⟨_,rfl⟩
 have Pe:1≤s:=by rw[hs];exact(Nat.le_div_iff_mul_le (by omega)).2 (by omega)
 have hsT:s<1000000000:=by rw[hs];exact Nat.div_lt_self (by decide) (by omega)
 have DN:(t+1)*s≤1000000000:=by rw[hs];exact Nat.mul_div_le _ _
 have hla:=dR (b:=1000000000) (by decide) DT
 have w0:IntKind.i64.wrap (((n+2:Nat):Int)-1)=((n+1:Nat):Int):=wrapN _ (by omega) (by omega)
 have w1:IntKind.i64.wrap ((t:Int)+1)=((t+1:Nat):Int):=wrapN _ (by omega) (by omega)
 have q0:dF .quo (.int .i64 1000000000) (.int .i64 ((t+1:Nat):Int))=some (.int .i64 (s:Int)):=by rw[hs];exact Jj 1000000000 (t+1) (by decide) (by omega)
 have et:∀H,bJ 1 (bQ b) (VI ((n+1:Nat):Int)) H=some (.cK (tV t) 0):=fun H=>aI (f:=tV) (t := .op) (size:=1) (k := .i64) htd rfl
 have Vr:¬(((n+2:Nat):Int)=1):=by omega
 obtain⟨N,hN⟩:∃N,N=(aC 1000000000 a).length+1:=⟨_,rfl⟩
 have wN:IntKind.i64.wrap (((aC 1000000000 a).length:Int)+1)=(N:Int):=wrapN _ (by omega) (by omega)
 have mkN:=Om N (by omega)
 have c3:=xH a s Pe hsT ha
 have c4:=xH b s Pe hsT vB
 have aiY:b*s<1000000000^(n+2):=by
  have h2:=(zQ (n:=n+1) (fF (b:=1000000000) (by decide) b) hn htd).2
  rw[cA (by decide)] at h2
  have h3:b*s<(t+1)*1000000000^(n+1)*s:=Nat.mul_lt_mul_of_pos_right h2 Pe
  have h4:(t+1)*1000000000^(n+1)*s=(t+1)*s*1000000000^(n+1):=by grind
  have h9:(t+1)*s*1000000000^(n+1)≤1000000000*1000000000^(n+1):=Nat.mul_le_mul_right _ DN
  have h10:1000000000*1000000000^(n+1)=1000000000^(n+2):=by rw[Nat.pow_succ 1000000000 (n+1)];exact Nat.mul_comm _ _
  rw[h4] at h3
  rw[h10] at h9
  exact Nat.lt_of_lt_of_le h3 h9
 have hVl:(aC 1000000000 (b*s)).length=n+2:=by
  have h2:=lW (b:=1000000000) (by decide) aiY
  have h3:b≤b*s:=Nat.le_mul_of_pos_right b Pe
  have h4:=dR (b:=1000000000) (by decide) h3
  omega
 have hAl:(aC 1000000000 (a*s)).length≤N:=by
  have h2:=Oz (b:=1000000000) (by decide) a s
  have h3:(aC 1000000000 s).length≤1:=lW (by decide) (by rw[Nat.pow_one];exact hsT)
  omega
 have cp:=alA hAl
 obtain⟨m,hm⟩:∃m,m+(n+2)=N:=⟨N-(n+2),by omega⟩
 have wm:IntKind.i64.wrap ((N:Int)-((n+2:Nat):Int))=(m:Int):=wrapN _ (by omega) (by omega)
 have wm1:IntKind.i64.wrap ((m:Int)-1)=(m:Int)-1:=wrap64 (by omega) (by omega)
 obtain⟨DS,adS⟩:∃DS,DS=aC 1000000000 (a*s)++List.replicate (N-(aC 1000000000 (a*s)).length) 0:=⟨_,rfl⟩
 rw[←adS] at cp
 have mkm:AQ [.int .i64 0] 8 (VI (m:Int)) (VI (m:Int)) [.row 0 (DS.map tV) 1 true]=some (.ref 1 0 0 m m,[.row 0 (DS.map tV) 1 true]++[.row 0 ((List.replicate m 0).map tV) 1 true]):=tJ (f:=tV) (x:=0) (H:=[.row 0 (DS.map tV) 1 true]) rfl (by omega) (by omega)
 have lN:∀K,aP K 0 0=some (DS.map tV,1,true)→pV (.ref 0 0 0 N N) K=some (VI (N:Int)):=fun K h=>fM h
 have l1:=lN [.row 0 (DS.map tV) 1 true] rfl
 have l2:=lN (H2 DS (List.replicate m 0)) rfl
 have afV:DS.length=N:=by rw[adS,List.length_append,List.length_replicate];omega
 have anC:∀d∈DS,d<1000000000:=fun d hd=>by
  rw[adS] at hd
  rcases List.mem_append.1 hd with h | h
  ·exact fF (by decide) _ d h
  ·rw[List.eq_of_mem_replicate h];decide
 have afQ:val 1000000000 DS=a*s:=by rw[adS,yQ,qN,Nat.mul_zero,Nat.add_zero,cA (by decide)]
 generalize OU:aC 1000000000 (b*s)=vs at *
 have Gm:∀d∈vs,d<1000000000:=by rw[←OU];exact fF (by decide) _
 have Lx:val 1000000000 vs=b*s:=by rw[←OU];exact cA (by decide) _
 have lV:∀H,pV (bQ (b*s)) H=some (VI ((n+2:Nat):Int)):=fun H=>by rw[cO,OU,hVl]
 obtain⟨v1,f1⟩:∃v1,vs[n+1]? = some v1:=⟨_,List.getElem?_eq_getElem (by omega)⟩
 obtain⟨v0,f0⟩:∃v0,vs[n]? = some v0:=⟨_,List.getElem?_eq_getElem (by omega)⟩
 have hv1:1≤v1:=by
  obtain⟨d,hd,Cl,_⟩:=HC (a:=b*s) (n:=n+1) (by rw[OU];exact hVl)
  rw[OU,f1] at hd
  cases hd
  omega
 have B4:val 1000000000 (DS.drop m)<val 1000000000 vs:=by
  have h2:=pC (b:=1000000000) DS m
  rw[List.length_take,afV,Nat.min_eq_left (by omega),afQ] at h2
  have h3:a<b*1000000000^m:=by
   have y1:=gK (b:=1000000000) (by decide) a
   have y2:=Jh (b:=1000000000) (by decide) hb
   rw[hn] at y2
   have y3:1000000000^(n+2-1)*1000000000^m≤b*1000000000^m:=Nat.mul_le_mul_right _ y2
   rw[←Nat.pow_add,show n+2-1+m=(aC 1000000000 a).length by omega] at y3
   exact Nat.lt_of_lt_of_le y1 y3
  have h4:a*s<b*1000000000^m*s:=Nat.mul_lt_mul_of_pos_right h3 Pe
  have h5:b*1000000000^m*s=1000000000^m*(b*s):=by grind
  rw[Lx]
  have h6:1000000000^m*val 1000000000 (DS.drop m)<1000000000^m*(b*s):=by
   rw[←h5]
   exact Nat.lt_of_le_of_lt (by rw[h2];exact Nat.le_add_left _ _) h4
  exact Nat.lt_of_mul_lt_mul_left h6
 have body:VW ⟨true,false⟩ 0 (.loop iO)=VW ⟨true,false⟩ 0 (.loop iO):=rfl
 have tail:∀(us os:List Nat),us.length=N→(∀d∈us,d<1000000000)→os.length=m→(∀d∈os,d<1000000000)→val 1000000000 us+val 1000000000 vs*val 1000000000 os=a*s→val 1000000000 us<val 1000000000 vs →
   (∀lo K,cT 211 [.ref 0 0 0 N N] lo (H2 us os) K=K (bQ (a % b*s)) (cM (H2 us os) [0])) ∧
   (∀lo K,cT 211 [.ref 1 0 0 m m] lo (cM (H2 us os) [0]) K=K (bQ (a / b)) (cM (cM (H2 us os) [0]) [1]))∧TC 237 [bQ (a % b*s),VI (s:Int)] (.dL [bQ (a % b),VI ((a % b*s % s:Nat):Int)]):=by
  intro us os OX Ik iK lC hv bD
  rw[Lx] at hv bD
  have hq:val 1000000000 os=a / b:=by
   rw[←Nat.mul_div_mul_right a b Pe,←hv,Nat.add_mul_div_left _ _ (Nat.lt_of_le_of_lt (Nat.zero_le _) bD),Nat.div_eq_of_lt bD,Nat.zero_add]
  have hr:val 1000000000 us=a % b*s:=by
   rw[←Nat.mul_mod_mul_right,←hv,Nat.add_mul_mod_self_left,Nat.mod_eq_of_lt bD]
  refine⟨fun lo K => ?_,fun lo K => ?_,?_⟩
  ·have h:=rR us Ik (by omega)
   rw[hr] at h
   exact TC.adD (f:=tV) h SP OX.symm (Nat.le_refl _) EL (fun _=>rfl) rfl rfl lo K
  ·have h:=rR os lC (by omega)
   rw[hq] at h
   have pP:aP (cM (H2 us os) [0]) 1 0=some (os.map tV,1,true):=rfl
   exact TC.adD (f:=tV) h pP iK.symm (Nat.le_refl _) EL (fun _=>rfl) rfl rfl lo K
  ·have h:=wV (a % b*s) s Pe hsT (by
    have h2:=dR (b:=1000000000) (by decide) (Nat.le_trans (Nat.le_of_lt bD) (show b*s≤b*s from Nat.le_refl _))
    rw[hr,OU] at h2
    omega)
   rwa [Nat.mul_div_cancel _ Pe] at h
 clear body
 have nV:bQ (b*s)=iE vs:=by rw[bQ,OU]
 cases t1 with
 |
  false =>
  simp only[fA,dE,s1,s2,c1,E6,cO,hn,Vr,w0,w1,q0,et,wN,mkN,c3,c4,cp,lV,l1,l2,wm,wm1,mkm,List.cons_append,List.nil_append,VX,Nat.reduceEqDiff,Nat.reduceAdd]
  refine MB (DS:=DS) (W9:=List.replicate m 0) (vs:=vs) (N:=N) (m:=m) (n:=n) (A:=a*s) (s:=s) afV hm (by omega) anC hVl Gm f1 f0 hv1 afQ B4 (by simp) (Ad (by decide) _) (by rfl) (by rfl) (by simp only[VX,Nat.reduceEqDiff,Nat.reduceAdd];exact nV) (by rfl) (by rfl) (by rfl) ?_
  intro wO us os r12 r13 r16 OX Ik iK lC hv bD
  obtain⟨x1,x2,x3⟩:=tail us os OX Ik iK lC hv bD
  simp only[r12,r13,r16,x1,x2,x3,VX,Nat.reduceEqDiff,Nat.reduceAdd]
  exact fin
 |
  true =>
  rw[ht rfl] at s2
  simp only[fA,dE,s1,s2,c1,E6,cO,hn,Vr,w0,w1,q0,et,wN,mkN,c3,c4,cp,lV,l1,l2,wm,wm1,mkm,List.cons_append,List.nil_append,VX,Nat.reduceEqDiff,Nat.reduceAdd]
  refine MB (DS:=DS) (W9:=List.replicate m 0) (vs:=vs) (N:=N) (m:=m) (n:=n) (A:=a*s) (s:=s) afV hm (by omega) anC hVl Gm f1 f0 hv1 afQ B4 (by simp) (Ad (by decide) _) (by rfl) (by rfl) (by simp only[VX,Nat.reduceEqDiff,Nat.reduceAdd];exact nV) (by rfl) (by rfl) (by rfl) ?_
  intro wO us os r12 r13 r16 OX Ik iK lC hv bD
  obtain⟨x1,x2,x3⟩:=tail us os OX Ik iK lC hv bD
  simp only[r12,r13,r16,x1,x2,x3,VX,Nat.reduceEqDiff,Nat.reduceAdd]
  exact fin
end Go.PM
namespace Go.PM
theorem dO (n:Nat) {H:aA}:pV (bH n) H=some (VI (aC 4294967296 n).length):=eK
theorem wA {n:Nat}:(0:Int)<((aC 4294967296 n).length:Int)↔n≠0:=by
 constructor
 ·intro h h0
  subst h0
  rw[bW] at h
  simp at h
 ·intro h
  have:=(lM (b:=4294967296) (by decide) (n:=n))
  have h2:aC 4294967296 n≠[]:=fun hx=>h (this.1 hx)
  have:=List.length_pos_iff.2 h2
  omega
theorem Ph {n:Nat} (h:(aC 4294967296 n).length≤2):n<18446744073709551616:=by
 have h1:=gK (b:=4294967296) (by decide) n
 have h2:4294967296^(aC 4294967296 n).length≤4294967296^2:=Nat.pow_le_pow_right (by decide) h
 omega
theorem Da (a b:Nat) (ha:(aC 4294967296 a).length≤17592186044416) (hb:(aC 4294967296 b).length≤17592186044416):TC 171 [bH a,bH b] (bH (Nat.gcd a b)):=by
 refine TC.walk ⟨true,false⟩ Hj rfl (Nat.le_of_ble_eq_true rfl) (by simp[aJ,bM]) (pW _) ?_
 simp only[CE,Au,VX,Nat.reduceEqDiff,Nat.reduceAdd]
 refine bC (fun(t:Nat×Nat) ρ H=>H=[]∧Nat.gcd t.1 t.2=Nat.gcd a b∧(aC 4294967296 t.1).length≤17592186044416∧(aC 4294967296 t.2).length≤17592186044416∧ρ 0=bH t.1∧ρ 1=bH t.2) (fun t=>t.2) (a,b) ⟨rfl,rfl,ha,hb,rfl,rfl⟩ ?_
 rintro⟨x,y⟩ ρ H ⟨rfl,hg,hx,hy,g0,g1⟩
 simp only at hg hx hy g0 g1
 have c1:=AU x hx
 have c2:=AU y hy
 by_cases hy0:y=0
 ·subst hy0
  have hl:¬(0:Int)<((aC 4294967296 0).length:Int):=by rw[wA];omega
  rw[Nat.gcd_zero_right] at hg
  simp only[iS,g0,g1,dO,hl,VX,Nat.reduceEqDiff,Nat.reduceAdd]
  rw[hg]
  exact aG (bM _)
 have hl:(0:Int)<((aC 4294967296 y).length:Int):=wA.2 hy0
 by_cases h1:(aC 4294967296 x).length≤2∧(aC 4294967296 y).length≤2
 ·rw[if_pos h1.1] at c1
  rw[if_pos h1.2] at c2
  simp only[iS,g0,g1,dO,hl,c1,c2,VX,Nat.reduceEqDiff,Nat.reduceAdd]
  refine bC (fun(t:Nat×Nat) ρ H=>H=[]∧Nat.gcd t.1 t.2=Nat.gcd a b∧t.1<18446744073709551616∧t.2<18446744073709551616∧ρ 5=VK .u64 t.1∧ρ 7=VK .u64 t.2) (fun t=>t.2) (x,y) ⟨rfl,hg,Ph h1.1,Ph h1.2,rfl,rfl⟩ ?_
  rintro⟨u,v⟩ Nu H ⟨rfl,hg2,hu,hv,k5,k7⟩
  simp only at hg2 hu hv k5 k7
  by_cases hv0:v=0
  ·subst hv0
   rw[Nat.gcd_zero_right] at hg2
   have hz:¬(0:Int)<((0:Nat):Int):=by omega
   have c3:=mR u hu
   simp only[sF,k5,k7,hz,c3,VX,Nat.reduceEqDiff,Nat.reduceAdd]
   rw[hg2]
   exact aG (bM _)
  ·have hz:(0:Int)<(v:Int):=by omega
   have r1:=OL u v (by omega)
   simp only[sF,k5,k7,hz,r1,VX,Nat.reduceEqDiff,Nat.reduceAdd]
   refine⟨(v,u % v),?_,?_,hv,?_,rfl,rfl⟩
   ·exact Nat.mod_lt _ (by omega)
   ·simp only
    rw[←hg2,Nat.gcd_comm u v,Nat.gcd_rec v u,Nat.gcd_comm]
   ·simp only
    have:=Nat.mod_lt u (show 0<v by omega)
    omega
 ·have c3:=xV x y hy0 hx hy
  have next:∃s':Nat×Nat,s'.2<y∧Nat.gcd s'.1 s'.2=Nat.gcd a b∧(aC 4294967296 s'.1).length≤17592186044416∧(aC 4294967296 s'.2).length≤17592186044416∧bH y=bH s'.1∧bH (x % y)=bH s'.2:=by
   have hm:=Nat.mod_lt x (show 0<y by omega)
   refine⟨(y,x % y),hm,?_,hy,?_,rfl,rfl⟩
   ·simp only
    rw[←hg,Nat.gcd_comm x y,Nat.gcd_rec y x,Nat.gcd_comm]
   ·simp only
    have:=dR (b:=4294967296) (by decide) (Nat.le_of_lt hm)
    omega
  by_cases h2:(aC 4294967296 x).length≤2
  ·have h3:¬(aC 4294967296 y).length≤2:=fun h=>h1 ⟨h2,h⟩
   rw[if_pos h2] at c1
   rw[if_neg h3] at c2
   simp only[iS,g0,g1,dO,hl,c1,c2,c3,VX,Nat.reduceEqDiff,Nat.reduceAdd]
   exact next
  ·rw[if_neg h2] at c1
   by_cases h3:(aC 4294967296 y).length≤2
   ·rw[if_pos h3] at c2
    simp only[iS,g0,g1,dO,hl,c1,c2,c3,VX,Nat.reduceEqDiff,Nat.reduceAdd]
    exact next
   ·rw[if_neg h3] at c2
    simp only[iS,g0,g1,dO,hl,c1,c2,c3,VX,Nat.reduceEqDiff,Nat.reduceAdd]
    exact next
end Go.PM
namespace Go.PM
open Go.Lib
theorem uC (a b:List UInt8) (h:a.length+b.length≤9223372036854775807):dF .add (.string ⟨a.toArray⟩) (.string ⟨b.toArray⟩)=some (.string ⟨(a++b).toArray⟩):=by
 have h1:(⟨a.toArray⟩:ByteArray).size=a.length:=by simp[ByteArray.size]
 have h2:(⟨b.toArray⟩:ByteArray).size=b.length:=by simp[ByteArray.size]
 have h3:¬(((⟨a.toArray⟩:ByteArray).size+(⟨b.toArray⟩:ByteArray).size:Nat):Int)>IntKind.i64.max:=by
  rw[h1,h2]
  show ¬_>(9223372036854775807:Int)
  omega
 simp only[dF,h3,if_false]
 congr 2
theorem bF (a:List UInt8):A2 (.string ⟨a.toArray⟩)=some (.int .i64 (a.length:Int)):=by simp[A2,ByteArray.size]
theorem acW:∀a:List UInt8,(aB (aW a)).length=1:=fun _=>rfl
theorem VM {xs:List (List UInt8)} {H:aA} {lo b g n:Nat} (hr:aP H b g=some (xs.map aW,1,true)) (hn:xs.length=n) (iC:lo≤b) (Df:n≤9223372036854775806) :
  oO 185 [.ref b g 0 n n] lo H fun r H'=>r = .dL []∧H'=H.set b (.row g (xs.reverse.map aW) 1 true):=by
 refine oO.walk ⟨true,false⟩ rB (Nat.le_of_ble_eq_true rfl) ?_
 have e0:pV (.ref b g 0 n n) H=some (VI n):=fM hr
 have w0:IntKind.i64.wrap ((n:Int)-1)=(n:Int)-1:=wrap64 (by omega) (by omega)
 simp only[lB,kD,e0,w0,VX,Nat.reduceEqDiff,Nat.reduceAdd]
 refine bC (fun(t:Nat×List (List UInt8)) ρ K=>t.1≤n∧K=H.set b (.row g (t.2.map aW) 1 true)∧t.2.length=n∧(∀k,k<n→t.2[k]? = if k<t.1∨n≤k+t.1 then xs[n-1-k]? else xs[k]?)∧ρ 0 = .ref b g 0 n n∧ρ 2=VI t.1∧ρ 3=VI ((n:Int)-1-(t.1:Int))) (fun t=>n-t.1) (0,xs) ⟨Nat.zero_le _,(wB hr).symm,hn,fun k hk=>by rw[if_neg (by simp only;omega)],rfl,rfl,by show VI ((n:Int)-1)=VI ((n:Int)-1-((0:Nat):Int));rw[Int.natCast_zero,Int.sub_zero]⟩ ?_
 rintro⟨i,ys⟩ ρ K ⟨hi,rfl,hl,hy,g0,g2,g3⟩
 simp only at hi hl hy g2 g3
 have hr2:aP (H.set b (.row g (ys.map aW) 1 true)) b g=some (ys.map aW,1,true):=nC hr
 by_cases cQ:(i:Int)<(n:Int)-1-(i:Int)
 ·have hj:(n:Int)-1-(i:Int)=((n-1-i:Nat):Int):=by omega
  obtain⟨x,hx⟩:∃x,ys[i]? = some x:=⟨_,List.getElem?_eq_getElem (by omega)⟩
  obtain⟨y,hyy⟩:∃y,ys[n-1-i]? = some y:=⟨_,List.getElem?_eq_getElem (by omega)⟩
  rw[hj] at g3 cQ
  have a1:∀(zs:List (List UInt8)) (k:Nat),zs.length=n→k<n→bJ 1 (.ref b g 0 n n) (VI (k:Int)) (H.set b (.row g (zs.map aW) 1 true))=some (.ptr b g k 0):=fun zs k h1 h2=>by rw[bB (nC hr) h2,Nat.zero_add]
  have l1:dN false 1 (.ptr b g (n-1-i) 0) (H.set b (.row g (ys.map aW) 1 true))=some (aW y):=tN hr2 hyy
  have l2:dN false 1 (.ptr b g i 0) (H.set b (.row g (ys.map aW) 1 true))=some (aW x):=tN hr2 hx
  have s1:cR lo 1 (.ptr b g i 0) (aW y) (H.set b (.row g (ys.map aW) 1 true))=some (H.set b (.row g ((ys.set i y).map aW) 1 true)):=by rw[gI (f:=aW) (e:=1) hr2 (by omega) iC rfl rfl,lU]
  have s2:cR lo 1 (.ptr b g (n-1-i) 0) (aW x) (H.set b (.row g ((ys.set i y).map aW) 1 true))=some (H.set b (.row g (((ys.set i y).set (n-1-i) x).map aW) 1 true)):=by rw[gI (f:=aW) (e:=1) (nC hr) (by rw[List.length_set];omega) iC rfl rfl,lU]
  have w1:IntKind.i64.wrap ((i:Int)+1)=((i+1:Nat):Int):=wrapN _ (by omega) (by omega)
  have w2:IntKind.i64.wrap (((n-1-i:Nat):Int)-1)=(n:Int)-1-((i+1:Nat):Int):=by rw[wrap64 (by omega) (by omega)];omega
  have b1:=a1 ys i hl (by omega)
  have b2:=a1 ys (n-1-i) hl (by omega)
  have b3:=a1 (ys.set i y) (n-1-i) (by rw[List.length_set];exact hl) (by omega)
  simp only[fI,g0,g2,g3,cQ,b1,b2,b3,l1,l2,s1,s2,w1,w2,VX,Nat.reduceEqDiff,Nat.reduceAdd]
  refine⟨(i+1,(ys.set i y).set (n-1-i) x),by simp only;omega,by simp only;omega,rfl,by simp only[List.length_set];exact hl,fun k hk => ?_,by (repeat' apply And.intro)<;>first | rfl | trivial⟩
  simp only
  have hxx:=hy i (by omega)
  rw[if_neg (by omega),hx] at hxx
  have hyx:=hy (n-1-i) (by omega)
  rw[if_neg (by omega),hyy] at hyx
  rw[List.getElem?_set,List.getElem?_set,List.length_set]
  by_cases h1:n-1-i=k
  ·subst h1
   rw[if_pos rfl,if_pos (by omega),if_pos (by omega),show n-1-(n-1-i)=i by omega]
   exact hxx
  ·rw[if_neg h1]
   by_cases h2:i=k
   ·subst h2
    rw[if_pos rfl,if_pos (by omega),if_pos (by omega)]
    exact hyx
   ·rw[if_neg h2,hy k hk]
    by_cases h3:k<i∨n≤k+i
    ·rw[if_pos h3,if_pos (by omega)]
    ·rw[if_neg h3,if_neg (by omega)]
 ·have asC:ys=xs.reverse:=by
   apply List.ext_getElem?
   intro k
   rcases Nat.lt_or_ge k n with h | h
   ·rw[hy k h,List.getElem?_reverse (by omega),hn]
    split
    ·rfl
    ·rw[show n-1-k=k by omega]
   ·rw[List.getElem?_eq_none (by omega),List.getElem?_eq_none (by rw[List.length_reverse];omega)]
  subst asC
  simp only[fI,g0,g2,g3,cQ,VX,Nat.reduceEqDiff,Nat.reduceAdd]
  try exact⟨rfl,rfl⟩
theorem VF (n:Nat):(aC 1000000000 n).length≤2*(aC 4294967296 n).length:=by
 refine lW (by decide) ?_
 have h1:=gK (b:=4294967296) (by decide) n
 have h2:4294967296^(aC 4294967296 n).length≤(1000000000^2)^(aC 4294967296 n).length:=Nat.pow_le_pow_left (by decide) _
 rw[←Nat.pow_mul] at h2
 omega
theorem adF {n:Nat} (hn:n≠0):(decDigits n).length≤9*(aC 1000000000 n).length:=by
 have h1:=gK (b:=1000000000) (by decide) n
 have h3:(aC 1000000000 n)≠[]:=fun h=>hn ((lM (by decide)).1 h)
 have h4:=List.length_pos_iff.2 h3
 generalize (aC 1000000000 n).length=L at *
 obtain⟨k,hk⟩:∃k,9*L=k+1:=⟨9*L-1,by omega⟩
 have h5:(1000000000:Nat)^L=10^(9*L):=by rw[show (1000000000:Nat)=10^9 by decide,←Nat.pow_mul]
 rw[h5,hk] at h1
 rw[hk]
 exact Bi n k h1
def qL (q:Nat):List UInt8:=if q=0 then [] else decDigits q
theorem B3 (n:Nat) (hn:(aC 4294967296 n).length≤68719476736):TC 102 [bH n] (aW (decDigits n)):=by
 refine TC.walk ⟨true,false⟩ FM rfl (Nat.le_of_ble_eq_true rfl) (by simp[aJ,bM]) rfl ?_
 by_cases h0:n=0
 ·subst h0
  have hl:(((aC 4294967296 0).length:Nat):Int)=0:=by rw[bW];rfl
  simp only[vE,rW,dO,hl,VX,Nat.reduceEqDiff,Nat.reduceAdd]
  rw[iR (by decide)]
  exact aG rfl
 have hl:¬(((aC 4294967296 n).length:Nat):Int)=0:=by have:=wA.2 h0;omega
 have e1:∀lr,pT lr [.string ⟨#[]⟩] 0 [] []=some (.ref 0 0 0 0 0,[.row 0 (([]:List (List UInt8)).map aW) 1 true]):=fun lr=>oH (H:=[]) (lr:=lr) (z:=[.string ⟨#[]⟩]) rfl
 have hTn:=VF n
 have hdl:=adF h0
 simp only[vE,rW,dO,hl,e1,VX,Nat.reduceEqDiff,Nat.reduceAdd]
 refine bC (fun(t:Nat×List (List UInt8)) ρ H=>H=[.row t.2.length (t.2.map aW) 1 true]∧t.1≤n∧t.2.length+(aC 1000000000 t.1).length=(aC 1000000000 n).length∧decDigits n=qL t.1++t.2.reverse.flatten∧ρ 0=bH t.1∧ρ 3 = .ref 0 t.2.length 0 t.2.length t.2.length) (fun t=>t.1) (n,[]) ⟨rfl,Nat.le_refl _,by simp,by simp[qL,h0],rfl,rfl⟩ ?_
 rintro⟨q,ps⟩ ρ H ⟨rfl,hq,hlen,VO,g0,g3⟩
 simp only at hq hlen VO g0 g3
 by_cases O4:q=0
 ·subst O4
  have hz:¬(0:Int)<((aC 4294967296 0).length:Int):=by rw[wA];omega
  rw[qL,if_pos rfl,List.nil_append] at VO
  have hr:aP [.row ps.length (ps.map aW) 1 true] 0 ps.length=some (ps.map aW,1,true):=bK
  simp only[mH,g0,g3,dO,hz,VX,Nat.reduceEqDiff,Nat.reduceAdd]
  refine kI rfl ((VM hr rfl (Nat.le_refl _) (by omega)).mono ?_)
  rintro r H' ⟨rfl,rfl⟩
  have Hi:([.row ps.length (ps.map aW) 1 true]:aA).set 0 (.row ps.length (ps.reverse.map aW) 1 true)=[.row ps.length (ps.reverse.map aW) 1 true]:=rfl
  have hr2:aP [.row ps.length (ps.reverse.map aW) 1 true] 0 ps.length=some (ps.reverse.map aW,1,true):=bK
  have hfl:ps.reverse.flatten.length≤140737488355328:=by rw[←VO];omega
  have cj:=(ahR ps.reverse (by rw[List.length_reverse];omega) hfl).flat (H:=[.row ps.length (ps.reverse.map aW) 1 true]) (args:=[.ref 0 ps.length 0 ps.length ps.length,aW []]) rfl (by simp only[aJ,gW (f:=aW) acW (fun _=>rfl),Bool.and_true];rfl) (fz2 (EB hr2 (by simp) (Nat.le_refl _) (eO fun _=>rfl)) (aG rfl)) rfl
  simp only[Hi,g3,cj,VX,Nat.reduceEqDiff,Nat.reduceAdd]
  rw[←VO]
  exact aG rfl
 ·have hz:(0:Int)<((aC 4294967296 q).length:Int):=wA.2 O4
  have hql:=dR (b:=4294967296) (by decide) hq
  have c1:TC 183 [bH q,.sc (.int .u32 1000000000)] (.dL [bH (q / 1000000000),uV (q % 1000000000)]):=vR q 1000000000 (by decide) (by decide) (by omega)
  have hm:=Nat.mod_lt q (show 0<1000000000 by decide)
  have c2:=afT (q % 1000000000) (by omega)
  have wm:IntKind.u64.wrap ((q % 1000000000:Nat):Int)=((q % 1000000000:Nat):Int):=fH _ (by omega)
  have hdq:=jH (b:=1000000000) (by decide) O4
  have aA2:(aC 1000000000 q).length=(aC 1000000000 (q / 1000000000)).length+1:=by rw[hdq];rfl
  have Wt:=Bi (q % 1000000000) 8 hm
  have hqq:=Nat.mod_add_div q 1000000000
  have e2:∀x:List UInt8,pT false [.string ⟨#[]⟩] 1 [(0,aW x)] [.row ps.length (ps.map aW) 1 true]=some (.tree [aW x] (.cl 1),[.row ps.length (ps.map aW) 1 true]):=fun x=>pN (z:=[.string ⟨#[]⟩]) rfl rfl rfl
  have e3:∀x:List UInt8,eW 1 (.tree [aW x] (.cl 1)) [.row ps.length (ps.map aW) 1 true]=some [aW x]:=fun x=>lY rfl rfl
  have e4:∀x:List UInt8,fE 0 1 16 (.ref 0 ps.length 0 ps.length ps.length) [aW x] [.row ps.length (ps.map aW) 1 true]=some (.ref 0 (ps.length+1) 0 (ps.length+1) (ps.length+1),[.row (ps.length+1) ((ps++[x]).map aW) 1 true]):=fun x=>by
   rw[lT (f:=aW) (x:=x) bK rfl (Nat.le_refl _) (by decide) (by decide) (by omega)]
   rfl
  have hle:q / 1000000000<q:=Nat.div_lt_self (by omega) (by decide)
  by_cases hqz:q / 1000000000=0
  ·have RC:¬(0:Int)<((aC 4294967296 (q / 1000000000)).length:Int):=by rw[wA];omega
   simp only[mH,g0,g3,dO,hz,c1,c2,wm,RC,e2,e3,e4,VX,Nat.reduceEqDiff,Nat.reduceAdd]
   refine⟨(q / 1000000000,ps++[decDigits (q % 1000000000)]),hle,by simp,by simp only;omega,by simp only[List.length_append,List.length_singleton];omega,?_,rfl,by simp⟩
   rw[VO,qL,if_neg O4,qL,if_pos hqz,List.reverse_append,List.nil_append,List.reverse_singleton,List.singleton_append,List.flatten_cons,show q % 1000000000=q by omega]
  ·have RC:(0:Int)<((aC 4294967296 (q / 1000000000)).length:Int):=wA.2 hqz
   have ws:IntKind.i64.wrap ((9:Int)-((decDigits (q % 1000000000)).length:Int))=((9-(decDigits (q % 1000000000)).length:Nat):Int):=wrapN _ (by omega) (by omega)
   have c3:=Yz [48] (9-(decDigits (q % 1000000000)).length) (by simp;omega) (by omega)
   have Yv:repeatL [48] (9-(decDigits (q % 1000000000)).length)++decDigits (q % 1000000000)=B8 9 (q % 1000000000):=by
    rw[afU 8 _ hm]
    congr 1
    have:=repeatL_replicate 48 1 (9-(decDigits (q % 1000000000)).length)
    rw[Nat.mul_one] at this
    exact this
   have c4:=uC (repeatL [48] (9-(decDigits (q % 1000000000)).length)) (decDigits (q % 1000000000)) (by rw[←List.length_append,Yv,aaR];decide)
   rw[Yv] at c4
   simp only[mH,g0,g3,dO,hz,c1,c2,wm,RC,bF,ws,c3,c4,e2,e3,e4,VX,Nat.reduceEqDiff,Nat.reduceAdd]
   refine⟨(q / 1000000000,ps++[B8 9 (q % 1000000000)]),hle,by simp,by simp only;omega,by simp only[List.length_append,List.length_singleton];omega,?_,rfl,by simp⟩
   rw[VO,qL,if_neg O4,qL,if_neg hqz,List.reverse_append,List.reverse_singleton,List.singleton_append,List.flatten_cons,←List.append_assoc,←G3 (by omega) hm]
   congr 2
   omega
end Go.PM
namespace Go.PM
open Go.Lib
def bR (q:Rat):VV := .agg [VB (decide (q.num<0)),bH q.num.natAbs,bH q.den]
theorem jR (q:Rat):aM (bR q)=true:=by simp[bR,aM,aJ,bM,nF]
theorem AE (q:Rat):eQ (bR q)=true:=by simp[bR,eQ,pR,pW,nF]
theorem Fz {q:Rat} {neg:Bool} {t b:Nat} (h0:q.num<0↔neg=true) (h1:q.num.natAbs=t) (h2:q.den=b):bR q = .agg [VB neg,bH t,bH b]:=by
 subst h1 h2
 unfold bR
 congr 4
 cases neg<;>simp_all
theorem abQ {neg:Bool} {t b:Nat} (hb:b≠0) (ht:t≠0):bR (mkRat (kG neg t) b) = .agg [VB neg,bH (t / Nat.gcd t b),bH (b / Nat.gcd t b)]:=by
 refine Fz ?_ ?_ (OI hb)
 ·rw[Es hb,OJ]
  have h1:t / Nat.gcd t b≠0:=by
   have:=Nat.div_pos (Nat.le_of_dvd (by omega) (Nat.gcd_dvd_left t b)) (Nat.gcd_pos_of_pos_left b (by omega))
   omega
  simp[h1]
 ·rw[Es hb,nP]
theorem U6:bR 0 = .agg [VB false,.tree [] .op,bH 1]:=by
 rw[Fz (q:=0) (neg:=false) (t:=0) (b:=1) (by simp) rfl rfl,DP]
theorem aS (n:Nat):cI (bH n)=true:=rfl
theorem aT (n:Nat):isAny (bH n)=false:=rfl
theorem aN (n:Nat):aB (bH n)=[bH n]:=rfl
theorem cB (q:Rat):isAny (bR q)=false:=rfl
theorem aF (q:Rat):aB (bR q)=[VB (decide (q.num<0)),bH q.num.natAbs,bH q.den]:=rfl
theorem dP (q:Rat):dA true 3 (bR q) 0=some (bR q):=rfl
theorem mP (q:Rat):dA false 1 (bR q) 0=some (VB (decide (q.num<0))):=rfl
theorem mI (q:Rat):dA false 1 (bR q) 1=some (bH q.num.natAbs):=rfl
theorem qG (q:Rat):dA false 1 (bR q) 2=some (bH q.den):=rfl
theorem pZ {d:Nat} {H:aA} {u u' v v' w w':VV} (h1:fz (d+1) H u=some u') (h2:fz (d+1) H v=some v') (h3:fz (d+1) H w=some w'):fz (d+2) H (.agg [u,v,w])=some (.agg [u',v',w']):=by
 have e:fz (d+2) H (.agg [u,v,w])=if aM (.agg [u,v,w])=true then some (.agg [u,v,w]) else ([u,v,w].mapM (fz (d+1) H)).map .agg:=rfl
 rw[e]
 by_cases hp:aM (.agg [u,v,w])=true
 ·rw[if_pos hp]
  simp only[aM,aJ,Bool.and_eq_true,and_true] at hp
  rw[aH hp.1] at h1
  rw[aH hp.2.1] at h2
  rw[aH hp.2.2] at h3
  cases h1
  cases h2
  cases h3
  rfl
 ·rw[if_neg hp,List.mapM_cons,h1,List.mapM_cons,h2,List.mapM_cons,h3]
  rfl
theorem X3 {d:Nat} {H:aA} {v:Value} (h:nF v=true):fz (d+1) H (.sc v)=some (.sc v):=aH h
theorem Db {H:aA} {neg:Bool} {t b:Nat}:fz depth H (.agg [VB neg,bH t,bH b])=some (.agg [VB neg,bH t,bH b]):=aG (by simp[aM,aJ,bM,nF])
theorem uB {H:aA} (q:Rat):fz depth H (bR q)=some (bR q):=aG (jR q)
theorem amP {n:Nat} (h:bl n≤2199023255552):(aC 4294967296 n).length≤68719476736:=by
 have:=aeS n
 omega
theorem fG {n:Nat} (h:bl n≤4398046511104):(aC 4294967296 n).length≤17592186044416:=by
 have:=aeS n
 omega
theorem pS (neg:Bool) (t b:Nat) (hb:b≠0) (ht:bl t≤4398046511104) (vB:bl b≤4398046511104):TC 100 [VB neg,bH t,bH b] (bR (mkRat (kG neg t) b)):=by
 refine TC.walk ⟨true,false⟩ L4 rfl (Nat.le_of_ble_eq_true rfl) (by simp[aJ,bM,aM,nF]) (AE _) ?_
 by_cases h0:t=0
 ·subst h0
  have hl:(((aC 4294967296 0).length:Nat):Int)=0:=by rw[bW];rfl
  have c1:TC 101 [.sc (.int .u64 1)] (bH 1):=mR 1 (by decide)
  rw[xR,Rat.zero_mkRat,U6,←DP]
  simp only[uT,pM,dO,hl,c1,aS,aT,aN,fD,Nat.reduceLeDiff,Nat.reduceLT,Nat.reduceSub,VX,Nat.reduceEqDiff,Nat.reduceAdd]
  exact pZ (X3 rfl) vZ (aH (bM _))
 ·have hl:¬(((aC 4294967296 t).length:Nat):Int)=0:=by have:=wA.2 h0;omega
  have c1:=Da t b (fG ht) (fG vB)
  have Xc:Nat.gcd t b≠0:=Nat.gcd_ne_zero_right hb
  have YQ:bl (Nat.gcd t b)≤4398046511104:=Nat.le_trans (kV (Nat.gcd_le_right t (by omega))) vB
  have c2:=xV t _ Xc (fG ht) (fG YQ)
  have c3:=xV b _ Xc (fG vB) (fG YQ)
  rw[abQ hb h0]
  by_cases h1:((aC 4294967296 (Nat.gcd t b)).length:Int)=1
  ·obtain⟨d,hd⟩:∃d,aC 4294967296 (Nat.gcd t b)=[d]:=List.length_eq_one_iff.1 (by omega)
   obtain⟨hgd,_,_⟩:=Qh hd
   have e1:bJ 1 (bH (Nat.gcd t b)) (.sc (.int .i64 0)) [.row 0 [.agg [VB false,.tree [] .nil,.tree [] .nil]] 3 true]=some (.cK (uV d) 0):=aI (f:=uV) (xs:=aC 4294967296 (Nat.gcd t b)) (i:=0) (k := .i64) (by rw[hd];rfl) rfl
   by_cases h2:(d:Int)=1
   ·have hg1:Nat.gcd t b=1:=by omega
    simp only[uT,pM,dO,hl,c1,h1,h2,e1,aS,aT,aN,fD,Nat.reduceLeDiff,Nat.reduceLT,Nat.reduceSub,VX,Nat.reduceEqDiff,Nat.reduceAdd]
    rw[hg1,Nat.div_one,Nat.div_one]
    exact Db
   ·simp only[uT,pM,dO,hl,c1,c2,c3,h1,h2,e1,aS,aT,aN,fD,Nat.reduceLeDiff,Nat.reduceLT,Nat.reduceSub,VX,Nat.reduceEqDiff,Nat.reduceAdd]
    exact Db
  ·simp only[uT,pM,dO,hl,c1,c2,c3,h1,aS,aT,aN,fD,Nat.reduceLeDiff,Nat.reduceLT,Nat.reduceSub,VX,Nat.reduceEqDiff,Nat.reduceAdd]
   exact Db
theorem Wy {n:Int} (h0 : -9223372036854775808≤n) (h:n<0):IntKind.u64.wrap (0-IntKind.u64.wrap n)=(n.natAbs:Int):=by
 rw[wrap_u64,wrap_u64]
 omega
theorem Hr (n:Int) (h0 : -9223372036854775808≤n) (h1:n≤9223372036854775807):TC 107 [VI n] (VK .u64 (n.natAbs:Int)):=by
 refine TC.walk ⟨true,false⟩ Ho rfl (Nat.le_of_ble_eq_true rfl) rfl rfl ?_
 by_cases h:n<0
 ·simp only[wY,tB,h,Wy h0 h,VX,Nat.reduceEqDiff,Nat.reduceAdd]
  exact aG rfl
 ·have w:IntKind.u64.wrap n=(n.natAbs:Int):=by rw[wrap_u64];omega
  simp only[wY,tB,h,w,VX,Nat.reduceEqDiff,Nat.reduceAdd]
  exact aG rfl
theorem Zw (n:Int):bR (n:Rat) = .agg [VB (decide (n<0)),bH n.natAbs,bH 1]:=Fz (by simp) (by simp) (by simp)
theorem vV (n:Int) (h0 : -9223372036854775808≤n) (h1:n≤9223372036854775807):TC 97 [VI n] (bR (n:Rat)):=by
 refine TC.walk ⟨true,false⟩ ND rfl (Nat.le_of_ble_eq_true rfl) rfl (AE _) ?_
 have c1:=Hr n h0 h1
 have c2:=mR n.natAbs (by omega)
 have c3:TC 101 [.sc (.int .u64 1)] (bH 1):=mR 1 (by decide)
 rw[Zw]
 simp only[JC,FQ,c1,c2,c3,aS,aT,aN,fD,Nat.reduceLeDiff,Nat.reduceLT,Nat.reduceSub,VX,Nat.reduceEqDiff,Nat.reduceAdd]
 exact Db
theorem T7 {q:Rat}:(((aC 4294967296 q.num.natAbs).length:Nat):Int)=0↔q.num=0:=by
 have:=wA (n:=q.num.natAbs)
 omega
theorem iX (q:Rat):TC 104 [bR q] (VI (kR q)):=by
 refine TC.walk ⟨true,false⟩ FH rfl (Nat.le_of_ble_eq_true rfl) (by simp[aJ,jR]) rfl ?_
 unfold kR
 by_cases h0:q.num=0
 ·have hl:=T7.2 h0
  rw[if_pos h0]
  simp only[pY,nU,dO,hl,aF,mP,mI,aS,aT,aN,fD,Nat.reduceLeDiff,Nat.reduceLT,Nat.reduceSub,VX,Nat.reduceEqDiff,Nat.reduceAdd]
  exact aG rfl
 ·have hl:¬(((aC 4294967296 q.num.natAbs).length:Nat):Int)=0:=fun h=>h0 (T7.1 h)
  rw[if_neg h0]
  by_cases h1:q.num<0
  ·simp only[pY,nU,dO,hl,h1,aF,mP,mI,aS,aT,aN,fD,Nat.reduceLeDiff,Nat.reduceLT,Nat.reduceSub,VX,Nat.reduceEqDiff,Nat.reduceAdd]
   exact aG rfl
  ·simp only[pY,nU,dO,hl,h1,aF,mP,mI,aS,aT,aN,fD,Nat.reduceLeDiff,Nat.reduceLT,Nat.reduceSub,VX,Nat.reduceEqDiff,Nat.reduceAdd]
   exact aG rfl
end Go.PM
namespace Go.PM
open Go.Lib
theorem sZ (a b:Bool):Oy false (.bool a) (.bool b)=some (.bool (a == b)):=by
 show some (Value.bool ((a == b) != false))=_
 rw[Bool.bne_false]
theorem xE (a b:Bool):Oy true (.bool a) (.bool b)=some (.bool (a != b)):=by
 show some (Value.bool ((a == b) != true))=_
 cases a<;>cases b<;>rfl
theorem tU {q:Rat} {k:Nat} (h:cW q≤k):bl q.num.natAbs≤k:=Nat.le_trans tK h
theorem tQ {q:Rat} {k:Nat} (h:cW q≤k):bl q.den≤k:=Nat.le_trans qW h
theorem Hs {X Y B:Nat} {a b:Rat} (hB:B≠0) (ha:mkRat (kG (decide (a.num<0)) X) B=a) (hb:mkRat (kG (decide (b.num<0)) Y) B=b) :
  ((decide (a.num<0))=(decide (b.num<0))→mkRat (kG (decide (a.num<0)) (X+Y)) B=a+b) ∧
  ((decide (a.num<0))≠(decide (b.num<0))→Y≤X→mkRat (kG (decide (a.num<0)) (X-Y)) B=a+b) ∧
  ((decide (a.num<0))≠(decide (b.num<0))→X≤Y→mkRat (kG (decide (b.num<0)) (Y-X)) B=a+b):=by
 refine⟨fun h => ?_,fun h hx => ?_,fun h hx => ?_⟩
 ·conv=>rhs;rw[←ha,←hb,CO _ _ hB,←h,Og]
 ·conv=>rhs;rw[←ha,←hb,CO _ _ hB,R9 h hx]
 ·conv=>rhs;rw[←ha,←hb,CO _ _ hB,SU h hx]
theorem Cr (a b:Rat) (Rh:cW a≤1099511627776) (Mb:cW b≤1099511627776):TC 99 [bR a,bR b] (bR (a+b)):=by
 refine TC.walk ⟨true,false⟩ He rfl (Nat.le_of_ble_eq_true rfl) (by simp[aJ,jR]) (AE _) ?_
 have ca:=iX a
 have cb:=iX b
 by_cases Zc:a.num=0
 ·have:a=0:=Rat.num_eq_zero.1 Zc
  rw[kO Zc] at ca
  rw[this,Rat.zero_add,←this]
  simp only[gH,dZ,ca,cb,aF,dP,cB,aS,aT,aN,fD,Nat.reduceLeDiff,Nat.reduceLT,Nat.reduceSub,VX,Nat.reduceEqDiff,Nat.reduceAdd]
  exact uB _
 have hsa:¬kR a=0:=fun h=>Zc (Rat.num_eq_zero.2 (Bz.1 h))
 by_cases KR:b.num=0
 ·have:b=0:=Rat.num_eq_zero.1 KR
  rw[kO KR] at cb
  rw[this,Rat.add_zero,←this]
  simp only[gH,dZ,ca,cb,hsa,aF,dP,cB,aS,aT,aN,fD,Nat.reduceLeDiff,Nat.reduceLT,Nat.reduceSub,VX,Nat.reduceEqDiff,Nat.reduceAdd]
  exact uB _
 have W6:¬kR b=0:=fun h=>KR (Rat.num_eq_zero.2 (Bz.1 h))
 have la:=tU Rh
 have lb:=tU Mb
 have lda:=tQ Rh
 have ldb:=tQ Mb
 have fin:∀(X Y B:Nat),bl X≤2199023255552→bl Y≤2199023255552→bl B≤2199023255552→B≠0→mkRat (kG (decide (a.num<0)) X) B=a→mkRat (kG (decide (b.num<0)) Y) B=b →
   TC 174 [bH X,bH Y] (bH (X+Y))∧TC 170 [bH X,bH Y] (VI (fC X Y)) ∧
   (Y≤X→TC 181 [bH X,bH Y] (bH (X-Y)))∧(X≤Y→TC 181 [bH Y,bH X] (bH (Y-X))) ∧
   (∀neg,TC 100 [VB neg,bH (X+Y),bH B] (bR (mkRat (kG neg (X+Y)) B))) ∧
   (∀neg,TC 100 [VB neg,bH (X-Y),bH B] (bR (mkRat (kG neg (X-Y)) B))) ∧
   (∀neg,TC 100 [VB neg,bH (Y-X),bH B] (bR (mkRat (kG neg (Y-X)) B))):=by
  intro X Y B hX hY hB hB0 _ _
  refine⟨Cp X Y (fG (by omega)) (fG (by omega)),jV X Y (fG (by omega)) (fG (by omega)),fun h=>Cv X Y h (fG (by omega)),fun h=>Cv Y X h (fG (by omega)),fun neg=>pS neg _ _ hB0 ?_ (by omega),fun neg=>pS neg _ _ hB0 ?_ (by omega),fun neg=>pS neg _ _ hB0 ?_ (by omega)⟩
  ·exact Nat.le_trans (Ta hX hY) (by omega)
  ·exact Nat.le_trans (kV (Nat.sub_le _ _)) (by omega)
  ·exact Nat.le_trans (kV (Nat.sub_le _ _)) (by omega)
 by_cases hd:a.den=b.den
 ·have hBn:=a.den_nz
  have cc:=jV a.den b.den (fG (by omega)) (fG (by omega))
  rw[show fC a.den b.den=0 from wU.2 hd] at cc
  have eb:mkRat (kG (decide (b.num<0)) b.num.natAbs) a.den=b:=by rw[hd,Jg]
  obtain⟨f1,f2,f3,f4,f5,f6,f7⟩:=fin a.num.natAbs b.num.natAbs a.den (by omega) (by omega) (by omega) hBn (Jg a) eb
  obtain⟨p1,p2,p3⟩:=Hs hBn (Jg a) eb
  by_cases hn:decide (a.num<0)=decide (b.num<0)
  ·have RE:(decide (a.num<0) == decide (b.num<0))=true:=by simpa using hn
   rw[←p1 hn]
   simp only[gH,dZ,ca,cb,hsa,W6,cc,f1,f5,sZ,xE,RE,aF,dP,mP,mI,qG,cB,aS,aT,aN,fD,Nat.reduceLeDiff,Nat.reduceLT,Nat.reduceSub,VX,Nat.reduceEqDiff,Nat.reduceAdd]
   exact uB _
  ·have RE:(decide (a.num<0) == decide (b.num<0))=false:=by simpa using hn
   by_cases hx:(0:Int)≤fC a.num.natAbs b.num.natAbs
   ·have hle:b.num.natAbs≤a.num.natAbs:=by have := @vY a.num.natAbs b.num.natAbs;omega
    have c3:=f3 hle
    rw[←p2 hn hle]
    simp only[gH,dZ,ca,cb,hsa,W6,cc,f2,c3,f6,hx,sZ,xE,RE,aF,dP,mP,mI,qG,cB,aS,aT,aN,fD,Nat.reduceLeDiff,Nat.reduceLT,Nat.reduceSub,VX,Nat.reduceEqDiff,Nat.reduceAdd]
    exact uB _
   ·have hle:a.num.natAbs≤b.num.natAbs:=by have := @vY a.num.natAbs b.num.natAbs;omega
    have c3:=f4 hle
    rw[←p3 hn hle]
    simp only[gH,dZ,ca,cb,hsa,W6,cc,f2,c3,f7,hx,sZ,xE,RE,aF,dP,mP,mI,qG,cB,aS,aT,aN,fD,Nat.reduceLeDiff,Nat.reduceLT,Nat.reduceSub,VX,Nat.reduceEqDiff,Nat.reduceAdd]
    exact uB _
 ·have hBn:=Nat.mul_ne_zero a.den_nz b.den_nz
  have cc:=jV a.den b.den (fG (by omega)) (fG (by omega))
  have O2:¬fC a.den b.den=0:=fun h=>hd (wU.1 h)
  have m1:=iJ a.num.natAbs b.den (fG (by omega)) (fG (by omega))
  have m2:=iJ b.num.natAbs a.den (fG (by omega)) (fG (by omega))
  have m3:=iJ a.den b.den (fG (by omega)) (fG (by omega))
  have ea:mkRat (kG (decide (a.num<0)) (a.num.natAbs*b.den)) (a.den*b.den)=a:=DE a b.den_nz
  have eb:mkRat (kG (decide (b.num<0)) (b.num.natAbs*a.den)) (a.den*b.den)=b:=by rw[Nat.mul_comm a.den];exact DE b a.den_nz
  have k1:=nH a.num.natAbs b.den
  have k2:=nH b.num.natAbs a.den
  have k3:=nH a.den b.den
  obtain⟨f1,f2,f3,f4,f5,f6,f7⟩:=fin _ _ _ (by omega) (by omega) (by omega) hBn ea eb
  obtain⟨p1,p2,p3⟩:=Hs hBn ea eb
  by_cases hn:decide (a.num<0)=decide (b.num<0)
  ·have RE:(decide (a.num<0) == decide (b.num<0))=true:=by simpa using hn
   rw[←p1 hn]
   simp only[gH,dZ,ca,cb,hsa,W6,cc,O2,m1,m2,m3,f1,f5,sZ,xE,RE,aF,dP,mP,mI,qG,cB,aS,aT,aN,fD,Nat.reduceLeDiff,Nat.reduceLT,Nat.reduceSub,VX,Nat.reduceEqDiff,Nat.reduceAdd]
   exact uB _
  ·have RE:(decide (a.num<0) == decide (b.num<0))=false:=by simpa using hn
   by_cases hx:(0:Int)≤fC (a.num.natAbs*b.den) (b.num.natAbs*a.den)
   ·have hle:b.num.natAbs*a.den≤a.num.natAbs*b.den:=by have := @vY (a.num.natAbs*b.den) (b.num.natAbs*a.den);omega
    have c3:=f3 hle
    rw[←p2 hn hle]
    simp only[gH,dZ,ca,cb,hsa,W6,cc,O2,m1,m2,m3,f2,c3,f6,hx,sZ,xE,RE,aF,dP,mP,mI,qG,cB,aS,aT,aN,fD,Nat.reduceLeDiff,Nat.reduceLT,Nat.reduceSub,VX,Nat.reduceEqDiff,Nat.reduceAdd]
    exact uB _
   ·have hle:a.num.natAbs*b.den≤b.num.natAbs*a.den:=by have := @vY (a.num.natAbs*b.den) (b.num.natAbs*a.den);omega
    have c3:=f4 hle
    rw[←p3 hn hle]
    simp only[gH,dZ,ca,cb,hsa,W6,cc,O2,m1,m2,m3,f2,c3,f7,hx,sZ,xE,RE,aF,dP,mP,mI,qG,cB,aS,aT,aN,fD,Nat.reduceLeDiff,Nat.reduceLT,Nat.reduceSub,VX,Nat.reduceEqDiff,Nat.reduceAdd]
    exact uB _
theorem Ki (a b:Rat) (Rh:cW a≤1099511627776) (Mb:cW b≤1099511627776):TC 96 [bR a,bR b] (bR (a*b)):=by
 refine TC.walk ⟨true,false⟩ GG rfl (Nat.le_of_ble_eq_true rfl) (by simp[aJ,jR]) (AE _) ?_
 have ca:=iX a
 have cb:=iX b
 have c0:TC 97 [VI 0] (bR 0):=vV 0 (by decide) (by decide)
 by_cases Zc:a.num=0
 ·have:a=0:=Rat.num_eq_zero.1 Zc
  rw[kO Zc] at ca
  rw[show a*b=0 by rw[this,Rat.zero_mul]]
  simp only[sE,oZ,ca,cb,c0,aF,dP,cB,aS,aT,aN,fD,Nat.reduceLeDiff,Nat.reduceLT,Nat.reduceSub,VX,Nat.reduceEqDiff,Nat.reduceAdd]
  exact uB _
 have hsa:¬kR a=0:=fun h=>Zc (Rat.num_eq_zero.2 (Bz.1 h))
 by_cases KR:b.num=0
 ·have:b=0:=Rat.num_eq_zero.1 KR
  rw[kO KR] at cb
  rw[show a*b=0 by rw[this,Rat.mul_zero]]
  simp only[sE,oZ,ca,cb,hsa,c0,aF,dP,cB,aS,aT,aN,fD,Nat.reduceLeDiff,Nat.reduceLT,Nat.reduceSub,VX,Nat.reduceEqDiff,Nat.reduceAdd]
  exact uB _
 have W6:¬kR b=0:=fun h=>KR (Rat.num_eq_zero.2 (Bz.1 h))
 have la:=tU Rh
 have lb:=tU Mb
 have lda:=tQ Rh
 have ldb:=tQ Mb
 have l1:=pS false a.num.natAbs b.den b.den_nz (by omega) (by omega)
 have l2:=pS false b.num.natAbs a.den a.den_nz (by omega) (by omega)
 obtain⟨d1,d2⟩:=Bh a.num.natAbs b.den_nz
 obtain⟨d3,d4⟩:=Bh b.num.natAbs a.den_nz
 have b1:=kV (Nat.le_of_dvd (by omega) d1)
 have b2:=kV (Nat.le_of_dvd (Nat.pos_of_ne_zero b.den_nz) d2)
 have b3:=kV (Nat.le_of_dvd (by omega) d3)
 have b4:=kV (Nat.le_of_dvd (Nat.pos_of_ne_zero a.den_nz) d4)
 obtain⟨e1,e2⟩:=WH a b
 have e3:=P4 Zc KR
 generalize mkRat (kG false a.num.natAbs) b.den=u at *
 generalize mkRat (kG false b.num.natAbs) a.den=v at *
 have m1:=iJ u.num.natAbs v.num.natAbs (fG (by omega)) (fG (by omega))
 have m2:=iJ u.den v.den (fG (by omega)) (fG (by omega))
 rw[Fz e3 e1 e2]
 simp only[sE,oZ,ca,cb,hsa,W6,l1,l2,m1,m2,sZ,xE,aF,dP,mP,mI,qG,cB,aS,aT,aN,fD,Nat.reduceLeDiff,Nat.reduceLT,Nat.reduceSub,VX,Nat.reduceEqDiff,Nat.reduceAdd]
 exact Db
theorem Ie (q:Rat) : -1≤kR q∧kR q≤1:=by
 rcases Int.lt_trichotomy q.num 0 with h | h | h
 ·rw[oT h];omega
 ·rw[kO h];omega
 ·rw[pE h];omega
theorem R2 (m n:Nat) : -1≤fC m n∧fC m n≤1:=by
 rcases Nat.lt_trichotomy m n with h | h | h
 ·rw[fC,if_pos h];omega
 ·subst h;rw[fC,if_neg (by omega),if_pos rfl];omega
 ·rw[fC,if_neg (by omega),if_neg (by omega)];omega
theorem K7 (a b:Rat) (Rh:cW a≤1099511627776) (Mb:cW b≤1099511627776):TC 206 [bR a,bR b] (VI (Md a b)):=by
 refine TC.walk ⟨true,false⟩ GD rfl (Nat.le_of_ble_eq_true rfl) (by simp[aJ,jR]) rfl ?_
 have ca:=iX a
 have cb:=iX b
 have la:=tU Rh
 have lb:=tU Mb
 have lda:=tQ Rh
 have ldb:=tQ Mb
 have k1:=nH a.num.natAbs b.den
 have k2:=nH b.num.natAbs a.den
 have m1:=iJ a.num.natAbs b.den (fG (by omega)) (fG (by omega))
 have m2:=iJ b.num.natAbs a.den (fG (by omega)) (fG (by omega))
 have c1:=jV (a.num.natAbs*b.den) (b.num.natAbs*a.den) (fG (by omega)) (fG (by omega))
 have ra:=Ie a
 have rb:=Ie b
 have rc:=R2 (a.num.natAbs*b.den) (b.num.natAbs*a.den)
 unfold Md
 by_cases hs:kR a=kR b
 ·rw[if_pos hs]
  have w:IntKind.i64.wrap (0-fC (a.num.natAbs*b.den) (b.num.natAbs*a.den)) = -fC (a.num.natAbs*b.den) (b.num.natAbs*a.den):=by rw[wrap64 (by omega) (by omega)];omega
  by_cases hn:a.num<0
  ·rw[if_pos hn]
   simp only[sN,oV,ca,cb,hs,m1,m2,c1,hn,w,aF,dP,mP,mI,qG,cB,aS,aT,aN,fD,Nat.reduceLeDiff,Nat.reduceLT,Nat.reduceSub,VX,Nat.reduceEqDiff,Nat.reduceAdd]
   exact aG rfl
  ·rw[if_neg hn]
   simp only[sN,oV,ca,cb,hs,m1,m2,c1,hn,aF,dP,mP,mI,qG,cB,aS,aT,aN,fD,Nat.reduceLeDiff,Nat.reduceLT,Nat.reduceSub,VX,Nat.reduceEqDiff,Nat.reduceAdd]
   exact aG rfl
 ·rw[if_neg hs]
  have w:IntKind.i64.wrap (kR a-kR b)=kR a-kR b:=wrap64 (by omega) (by omega)
  simp only[sN,oV,ca,cb,hs,w,aF,dP,mP,mI,qG,cB,aS,aT,aN,fD,Nat.reduceLeDiff,Nat.reduceLT,Nat.reduceSub,VX,Nat.reduceEqDiff,Nat.reduceAdd]
  exact aG rfl
theorem GM (a:Rat) (Rh:cW a≤1099511627776):TC 196 [bR a] (VB (decide (a=1))):=by
 refine TC.walk ⟨true,false⟩ ES rfl (Nat.le_of_ble_eq_true rfl) (by simp[aJ,jR]) rfl ?_
 have c1:=K7 a 1 Rh (by rw[MS];decide)
 have c2:TC 97 [VI 1] (bR 1):=vV 1 (by decide) (by decide)
 by_cases h:Md a 1=0
 ·rw[decide_eq_true (Nn.1 h)]
  simp only[tM,qO,c1,c2,h,aF,dP,cB,aS,aT,aN,fD,Nat.reduceLeDiff,Nat.reduceLT,Nat.reduceSub,VX,Nat.reduceEqDiff,Nat.reduceAdd]
  exact aG rfl
 ·rw[decide_eq_false (mt Nn.2 h)]
  simp only[tM,qO,c1,c2,h,aF,dP,cB,aS,aT,aN,fD,Nat.reduceLeDiff,Nat.reduceLT,Nat.reduceSub,VX,Nat.reduceEqDiff,Nat.reduceAdd]
  exact aG rfl
end Go.PM
namespace Go.PM
theorem xT {n:Nat}:(0:Int)<((aC 1000000000 n).length:Int)↔n≠0:=by
 constructor
 ·intro h h0
  subst h0
  rw[bW] at h
  simp at h
 ·intro h
  have:=(lM (b:=1000000000) (by decide) (n:=n))
  have h2:aC 1000000000 n≠[]:=fun hx=>h (this.1 hx)
  have:=List.length_pos_iff.2 h2
  omega
theorem oI {n:Nat} (h:bl n≤4398046511104):(aC 1000000000 n).length<17592186044416:=by
 have:=afD n
 omega
theorem Ei (a b:Nat) (ha:(aC 1000000000 a).length<17592186044416) (hb:(aC 1000000000 b).length<17592186044416):TC 213 [bQ a,bQ b] (bQ (Nat.gcd a b)):=by
 refine TC.walk ⟨true,false⟩ L3 rfl (Nat.le_of_ble_eq_true rfl) (by simp[aJ,bZ]) (mY _) ?_
 simp only[HQ,Ec,VX,Nat.reduceEqDiff,Nat.reduceAdd]
 refine bC (fun(t:Nat×Nat) ρ H=>H=[]∧Nat.gcd t.1 t.2=Nat.gcd a b∧(aC 1000000000 t.1).length<17592186044416∧(aC 1000000000 t.2).length<17592186044416∧ρ 0=bQ t.1∧ρ 1=bQ t.2) (fun t=>t.2) (a,b) ⟨rfl,rfl,ha,hb,rfl,rfl⟩ ?_
 rintro⟨x,y⟩ ρ H ⟨rfl,hg,hx,hy,g0,g1⟩
 simp only at hg hx hy g0 g1
 by_cases hy0:y=0
 ·subst hy0
  have hl:¬(0:Int)<((aC 1000000000 0).length:Int):=by rw[xT];omega
  rw[Nat.gcd_zero_right] at hg
  simp only[xG,g0,g1,cO,hl,VX,Nat.reduceEqDiff,Nat.reduceAdd]
  rw[hg]
  exact aG (bZ _)
 ·have hl:(0:Int)<((aC 1000000000 y).length:Int):=xT.2 hy0
  have c3:=tY x y hy0 hx hy
  have hm:=Nat.mod_lt x (show 0<y by omega)
  simp only[xG,g0,g1,cO,hl,c3,VX,Nat.reduceEqDiff,Nat.reduceAdd]
  refine⟨(y,x % y),hm,?_,hy,?_,rfl,rfl⟩
  ·simp only
   rw[←hg,Nat.gcd_comm x y,Nat.gcd_rec y x,Nat.gcd_comm]
  ·simp only
   have:=dR (b:=1000000000) (by decide) (Nat.le_of_lt hm)
   omega
def bX (q:Rat):VV := .agg [VB (decide (q.num<0)),bQ q.num.natAbs,bQ q.den]
theorem wP (q:Rat):aM (bX q)=true:=by simp[bX,aM,aJ,bZ,nF]
theorem AL (q:Rat):eQ (bX q)=true:=by simp[bX,eQ,pR,mY,nF]
theorem OS {q:Rat} {neg:Bool} {t b:Nat} (h0:q.num<0↔neg=true) (h1:q.num.natAbs=t) (h2:q.den=b):bX q = .agg [VB neg,bQ t,bQ b]:=by
 subst h1 h2
 unfold bX
 congr 4
 cases neg<;>simp_all
theorem aK (n:Nat):cI (bQ n)=true:=rfl
theorem aU (n:Nat):isAny (bQ n)=false:=rfl
theorem aQ (n:Nat):aB (bQ n)=[bQ n]:=rfl
theorem dB (q:Rat):isAny (bX q)=false:=rfl
theorem bO (q:Rat):aB (bX q)=[VB (decide (q.num<0)),bQ q.num.natAbs,bQ q.den]:=rfl
theorem gO (q:Rat):dA true 3 (bX q) 0=some (bX q):=rfl
theorem lR (q:Rat):dA false 1 (bX q) 0=some (VB (decide (q.num<0))):=rfl
theorem oG (q:Rat):dA false 1 (bX q) 1=some (bQ q.num.natAbs):=rfl
theorem oD (q:Rat):dA false 1 (bX q) 2=some (bQ q.den):=rfl
theorem wR {H:aA} {neg:Bool} {t b:Nat}:fz depth H (.agg [VB neg,bQ t,bQ b])=some (.agg [VB neg,bQ t,bQ b]):=aG (by simp[aM,aJ,bZ,nF])
theorem DB {H:aA} (q:Rat):fz depth H (bX q)=some (bX q):=aG (wP q)
theorem YH (n:Int):bX (n:Rat) = .agg [VB (decide (n<0)),bQ n.natAbs,bQ 1]:=OS (by simp) (by simp) (by simp)
theorem Je {n lo:Nat} {H:aA} {K:VV→aA→Prop} (h:(aC 1000000000 n).length≤17592186044416):cT 178 [bQ n,.tree [VI 1] (.cl 1)] lo H K=K (VI (fC n 1)) H:=by
 have c:=uA n 1 h (by rw[CW (by decide) (by decide) (by decide)];simp)
 have e:bQ 1 = .tree [VI 1] .op:=by rw[bQ,CW (by decide) (by decide) (by decide)];rfl
 rw[e] at c
 exact TC.args c rfl (by simp only[aJ,bZ];rfl) (fz2 (aG (bZ n)) (aeY rfl)) (by simp only[List.flatMap_cons,List.flatMap_nil,EF (bZ n),Xz (es:=[VI 1]) rfl,List.append_nil]) lo K
theorem dM {d:Int} {H:aA}:pT false [.int .i64 0] 1 [(0,VI d)] H=some (.tree [VI d] (.cl 1),H):=rH
theorem fP {e:Nat} {es:List VV}:cI (.tree es (.cl e))=true:=rfl
theorem dK {k:TK} {es:List VV}:aB (.tree es k)=[.tree es k]:=rfl
theorem fK {k:TK} {es:List VV}:isAny (.tree es k)=false:=rfl
theorem NZ {d:Nat} {H:aA}:fz (d+2) H (.tree [VI 1] (.cl 1))=some (bQ 1):=by
 rw[X0]
 unfold fz
 have:aM (.tree [VI 1] (.cl 1))=false:=by simp[aM]
 simp only[this,Bool.false_eq_true,if_false]
 rfl
theorem rV (neg:Bool) (t b:Nat) (hb:b≠0) (ht:bl t≤4398046511104) (vB:bl b≤4398046511104):TC 164 [VB neg,bQ t,bQ b] (bX (mkRat (kG neg t) b)):=by
 refine TC.walk ⟨true,false⟩ Kh rfl (Nat.le_of_ble_eq_true rfl) (by simp[aJ,bZ,aM,nF]) (AL _) ?_
 have Xc:Nat.gcd t b≠0:=Nat.gcd_ne_zero_right hb
 have YQ:bl (Nat.gcd t b)≤4398046511104:=Nat.le_trans (kV (Nat.gcd_le_right t (by omega))) vB
 have c1:=Ei t b (oI ht) (oI vB)
 have c2:=tY t _ Xc (oI ht) (oI YQ)
 have c3:=tY b _ Xc (oI vB) (oI YQ)
 have c4:∀lo H K,_:=fun lo H K=>Je (n:=Nat.gcd t b) (lo:=lo) (H:=H) (K:=K) (Nat.le_of_lt (oI YQ))
 have Sg:bX (mkRat (kG neg t) b) = .agg [VB (neg&&decide (t / Nat.gcd t b≠0)),bQ (t / Nat.gcd t b),bQ (b / Nat.gcd t b)]:=by
  refine OS ?_ (by rw[Es hb,nP]) (OI hb)
  rw[Es hb,OJ,Bool.and_eq_true,decide_eq_true_eq]
 rw[Sg]
 by_cases h1:fC (Nat.gcd t b) 1=0
 ·have hg1:=wU.1 h1
  have e1:t / Nat.gcd t b=t:=by rw[hg1,Nat.div_one]
  have e2:b / Nat.gcd t b=b:=by rw[hg1,Nat.div_one]
  rw[e1,e2]
  cases neg with
  |
   false =>
   simp only[mM,jZ,c1,c4,h1,dM,aK,aU,aQ,fD,Nat.reduceLeDiff,Nat.reduceLT,Nat.reduceSub,VX,Nat.reduceEqDiff,Nat.reduceAdd]
   exact wR
  |
   true =>
   by_cases h0:t=0
   ·have hl:¬(0:Int)<((aC 1000000000 t).length:Int):=by rw[xT];omega
    simp only[mM,jZ,c1,c4,h1,hl,cO,dM,aK,aU,aQ,fD,Nat.reduceLeDiff,Nat.reduceLT,Nat.reduceSub,VX,Nat.reduceEqDiff,Nat.reduceAdd]
    rw[h0]
    exact wR
   ·have hl:(0:Int)<((aC 1000000000 t).length:Int):=xT.2 h0
    simp only[mM,jZ,c1,c4,h1,hl,cO,dM,aK,aU,aQ,fD,Nat.reduceLeDiff,Nat.reduceLT,Nat.reduceSub,VX,Nat.reduceEqDiff,Nat.reduceAdd]
    rw[decide_eq_true h0]
    exact wR
 ·cases neg with
  |
   false =>
   simp only[mM,jZ,c1,c2,c3,c4,h1,dM,aK,aU,aQ,fD,Nat.reduceLeDiff,Nat.reduceLT,Nat.reduceSub,VX,Nat.reduceEqDiff,Nat.reduceAdd]
   exact wR
  |
   true =>
   generalize t / Nat.gcd t b=t' at *
   by_cases h0:t'=0
   ·have hl:¬(0:Int)<((aC 1000000000 t').length:Int):=by rw[xT];omega
    simp only[mM,jZ,c1,c2,c3,c4,h1,hl,cO,dM,aK,aU,aQ,fD,Nat.reduceLeDiff,Nat.reduceLT,Nat.reduceSub,VX,Nat.reduceEqDiff,Nat.reduceAdd]
    rw[h0]
    exact wR
   ·have hl:(0:Int)<((aC 1000000000 t').length:Int):=xT.2 h0
    simp only[mM,jZ,c1,c2,c3,c4,h1,hl,cO,dM,aK,aU,aQ,fD,Nat.reduceLeDiff,Nat.reduceLT,Nat.reduceSub,VX,Nat.reduceEqDiff,Nat.reduceAdd]
    rw[decide_eq_true h0]
    exact wR
theorem DZ (n:Int) (h0 : -9223372036854775808<n) (h1:n≤9223372036854775807):TC 166 [VI n] (bX (n:Rat)):=by
 refine TC.walk ⟨true,false⟩ LW rfl (Nat.le_of_ble_eq_true rfl) rfl (AL _) ?_
 rw[YH]
 by_cases h:n<0
 ·have w:IntKind.i64.wrap (0-n)=(n.natAbs:Int):=wrapN _ (by omega) (by omega)
  have c1:TC 161 [VI (n.natAbs:Int)] (bQ n.natAbs):=pO (n.natAbs:Int) (by omega)
  rw[decide_eq_true h]
  simp only[CT,Ag,h,w,c1,dM,aK,aU,aQ,fP,dK,fK,fD,Nat.reduceLeDiff,Nat.reduceLT,Nat.reduceSub,VX,Nat.reduceEqDiff,Nat.reduceAdd]
  exact pZ (d:=6) (X3 rfl) (aH (bZ _)) (NZ (d:=5))
 ·have c1:TC 161 [VI n] (bQ n.natAbs):=by
   have:=pO n h1
   rwa [show n.toNat=n.natAbs by omega] at this
  rw[decide_eq_false h]
  simp only[CT,Ag,h,c1,dM,aK,aU,aQ,fP,dK,fK,fD,Nat.reduceLeDiff,Nat.reduceLT,Nat.reduceSub,VX,Nat.reduceEqDiff,Nat.reduceAdd]
  exact pZ (d:=6) (X3 rfl) (aH (bZ _)) (NZ (d:=5))
theorem Lw:TC 124 [] (bX 1):=by
 refine TC.walk ⟨true,false⟩ L8 rfl (Nat.le_of_ble_eq_true rfl) rfl (AL _) ?_
 have c1:TC 166 [VI 1] (bX 1):=DZ 1 (by decide) (by decide)
 simp only[HH,Ej,c1,bO,gO,dB,aK,fD,Nat.reduceLeDiff,Nat.reduceLT,Nat.reduceSub,VX,Nat.reduceEqDiff,Nat.reduceAdd]
 exact DB _
theorem C2:TC 136 [] (bX 0):=by
 refine TC.walk ⟨true,false⟩ JK rfl (Nat.le_of_ble_eq_true rfl) rfl (AL _) ?_
 have c1:TC 166 [VI 0] (bX 0):=DZ 0 (by decide) (by decide)
 simp only[F3,Cn,c1,bO,gO,dB,aK,fD,Nat.reduceLeDiff,Nat.reduceLT,Nat.reduceSub,VX,Nat.reduceEqDiff,Nat.reduceAdd]
 exact DB _
theorem Ed (a b:Rat) (Rh:cW a≤1099511627776) (Mb:cW b≤1099511627776):TC 94 [bX a,bX b] (bX (a+b)):=by
 refine TC.walk ⟨true,false⟩ LB rfl (Nat.le_of_ble_eq_true rfl) (by simp[aJ,wP]) (AL _) ?_
 have la:=tU Rh
 have lb:=tU Mb
 have lda:=tQ Rh
 have ldb:=tQ Mb
 have hBn:=Nat.mul_ne_zero a.den_nz b.den_nz
 have m1:=gU a.num.natAbs b.den (Nat.le_of_lt (oI (by omega))) (Nat.le_of_lt (oI (by omega)))
 have m2:=gU b.num.natAbs a.den (Nat.le_of_lt (oI (by omega))) (Nat.le_of_lt (oI (by omega)))
 have m3:=gU a.den b.den (Nat.le_of_lt (oI (by omega))) (Nat.le_of_lt (oI (by omega)))
 have ea:mkRat (kG (decide (a.num<0)) (a.num.natAbs*b.den)) (a.den*b.den)=a:=DE a b.den_nz
 have eb:mkRat (kG (decide (b.num<0)) (b.num.natAbs*a.den)) (a.den*b.den)=b:=by rw[Nat.mul_comm a.den];exact DE b a.den_nz
 have k1:=nH a.num.natAbs b.den
 have k2:=nH b.num.natAbs a.den
 have k3:=nH a.den b.den
 obtain⟨p1,p2,p3⟩:=Hs hBn ea eb
 have hX:bl (a.num.natAbs*b.den)≤2199023255552:=by omega
 have hY:bl (b.num.natAbs*a.den)≤2199023255552:=by omega
 have hB:bl (a.den*b.den)≤4398046511104:=by omega
 generalize a.num.natAbs*b.den=X at *
 generalize b.num.natAbs*a.den=Y at *
 generalize a.den*b.den=B at *
 have f1:=GZ X Y (oI (by omega)) (oI (by omega))
 have f2:=uA X Y (Nat.le_of_lt (oI (by omega))) (Nat.le_of_lt (oI (by omega)))
 have hS:bl (X+Y)≤4398046511104:=Nat.le_trans (Ta hX hY) (by decide)
 have hD1:bl (X-Y)≤4398046511104:=Nat.le_trans (kV (Nat.sub_le _ _)) (by omega)
 have hD2:bl (Y-X)≤4398046511104:=Nat.le_trans (kV (Nat.sub_le _ _)) (by omega)
 have f5:=fun neg=>rV neg (X+Y) B hBn hS hB
 have f6:=fun neg=>rV neg (X-Y) B hBn hD1 hB
 have f7:=fun neg=>rV neg (Y-X) B hBn hD2 hB
 by_cases hn:decide (a.num<0)=decide (b.num<0)
 ·have RE:(decide (a.num<0) == decide (b.num<0))=true:=by simpa using hn
  rw[←p1 hn]
  simp only[Aa,uL,m1,m2,m3,f1,f5,sZ,xE,RE,bO,gO,lR,oG,oD,dB,aK,aU,aQ,fD,Nat.reduceLeDiff,Nat.reduceLT,Nat.reduceSub,VX,Nat.reduceEqDiff,Nat.reduceAdd]
  exact DB _
 ·have RE:(decide (a.num<0) == decide (b.num<0))=false:=by simpa using hn
  by_cases hx:(0:Int)≤fC X Y
  ·have hle:Y≤X:=by have := @vY X Y;omega
   have c3:=zG X Y hle (Nat.le_of_lt (oI (by omega)))
   rw[←p2 hn hle]
   simp only[Aa,uL,m1,m2,m3,f2,c3,f6,hx,sZ,xE,RE,bO,gO,lR,oG,oD,dB,aK,aU,aQ,fD,Nat.reduceLeDiff,Nat.reduceLT,Nat.reduceSub,VX,Nat.reduceEqDiff,Nat.reduceAdd]
   exact DB _
  ·have hle:X≤Y:=by have := @vY X Y;omega
   have c3:=zG Y X hle (Nat.le_of_lt (oI (by omega)))
   rw[←p3 hn hle]
   simp only[Aa,uL,m1,m2,m3,f2,c3,f7,hx,sZ,xE,RE,bO,gO,lR,oG,oD,dB,aK,aU,aQ,fD,Nat.reduceLeDiff,Nat.reduceLT,Nat.reduceSub,VX,Nat.reduceEqDiff,Nat.reduceAdd]
   exact DB _
theorem aaX (a b:Int):kG (decide (a<0) != decide (b<0)) (a.natAbs*b.natAbs)=a*b:=by
 rcases Int.lt_trichotomy a 0 with h1 | h1 | h1<;>rcases Int.lt_trichotomy b 0 with h2 | h2 | h2
 ·rw[decide_eq_true h1,decide_eq_true h2]
  simp only[kG,bne_self_eq_false,Bool.false_eq_true,if_false,Int.natCast_mul]
  rw[show (a.natAbs:Int) = -a by omega,show (b.natAbs:Int) = -b by omega,Int.neg_mul_neg]
 ·subst h2;simp[xR]
 ·rw[decide_eq_true h1,decide_eq_false (show ¬b<0 by omega)]
  simp only[kG,Bool.true_bne,Bool.not_false,if_true,Int.natCast_mul]
  rw[show (a.natAbs:Int) = -a by omega,show (b.natAbs:Int)=b by omega,Int.neg_mul,Int.neg_neg]
 ·subst h1;simp[xR]
 ·subst h1;simp[xR]
 ·subst h1;simp[xR]
 ·rw[decide_eq_false (show ¬a<0 by omega),decide_eq_true h2]
  simp only[kG,Bool.false_bne,if_true,Int.natCast_mul]
  rw[show (a.natAbs:Int)=a by omega,show (b.natAbs:Int) = -b by omega,Int.mul_neg,Int.neg_neg]
 ·subst h2;simp[xR]
 ·rw[decide_eq_false (show ¬a<0 by omega),decide_eq_false (show ¬b<0 by omega)]
  simp only[kG,bne_self_eq_false,Bool.false_eq_true,if_false,Int.natCast_mul]
  rw[show (a.natAbs:Int)=a by omega,show (b.natAbs:Int)=b by omega]
theorem I5 (a b:Rat) (Rh:cW a≤1099511627776) (Mb:cW b≤1099511627776):TC 137 [bX a,bX b] (bX (a*b)):=by
 refine TC.walk ⟨true,false⟩ IW rfl (Nat.le_of_ble_eq_true rfl) (by simp[aJ,wP]) (AL _) ?_
 have la:=tU Rh
 have lb:=tU Mb
 have lda:=tQ Rh
 have ldb:=tQ Mb
 have k1:=nH a.num.natAbs b.num.natAbs
 have k3:=nH a.den b.den
 have m1:=gU a.num.natAbs b.num.natAbs (Nat.le_of_lt (oI (by omega))) (Nat.le_of_lt (oI (by omega)))
 have m3:=gU a.den b.den (Nat.le_of_lt (oI (by omega))) (Nat.le_of_lt (oI (by omega)))
 have c1:=rV (decide (a.num<0) != decide (b.num<0)) (a.num.natAbs*b.num.natAbs) (a.den*b.den) (Nat.mul_ne_zero a.den_nz b.den_nz) (by omega) (by omega)
 rw[aaX,←Rat.mul_def'] at c1
 simp only[DY,BO,m1,m3,c1,xE,bO,gO,lR,oG,oD,dB,aK,aU,aQ,fD,Nat.reduceLeDiff,Nat.reduceLT,Nat.reduceSub,VX,Nat.reduceEqDiff,Nat.reduceAdd]
 exact DB _
end Go.PM
namespace Go.PM
open Go.Lib
theorem abC {m n:Nat} (h:decDigits m=decDigits n):m=n:=by
 have key:∀k m n:Nat,m<10^(k+1)→decDigits m=decDigits n→m=n:=by
  intro k
  induction k with
  |
   zero =>
   intro m n hm h
   rw[iR (by omega)] at h
   by_cases hn:n<10
   ·rw[iR hn] at h
    have h1:=List.singleton_inj.1 h
    unfold d10 at h1
    have:=congrArg UInt8.toNat h1
    simp at this
    omega
   ·rw[zE hn] at h
    have:=congrArg List.length h
    have h2:=List.length_pos_iff.2 (OE (n / 10))
    simp only[List.length_append,List.length_cons,List.length_nil] at this
    omega
  |
   succ k ih =>
   intro m n hm h
   by_cases h1:m<10
   ·rw[iR h1] at h
    by_cases hn:n<10
    ·rw[iR hn] at h
     have h1:=List.singleton_inj.1 h
     unfold d10 at h1
     have:=congrArg UInt8.toNat h1
     simp at this
     omega
    ·rw[zE hn] at h
     have:=congrArg List.length h
     have h2:=List.length_pos_iff.2 (OE (n / 10))
     simp only[List.length_append,List.length_cons,List.length_nil] at this
     omega
   ·rw[zE h1] at h
    by_cases hn:n<10
    ·rw[iR hn] at h
     have:=congrArg List.length h
     have h2:=List.length_pos_iff.2 (OE (m / 10))
     simp only[List.length_append,List.length_cons,List.length_nil] at this
     omega
    ·rw[zE hn] at h
     obtain⟨h2,h3⟩:=List.append_inj' h rfl
     have h4:=ih (m / 10) (n / 10) (by rw[Nat.pow_succ] at hm;omega) h2
     have h5:=List.singleton_inj.1 h3
     unfold d10 at h5
     have:=congrArg UInt8.toNat h5
     simp at this
     omega
 exact key m m n (Nat.lt_trans (Nat.lt_pow_self (by decide)) (Nat.pow_lt_pow_right (by decide) (Nat.lt_succ_self m))) h
def KX (q:Rat):List UInt8:=(if q.num<0 then [45] else [])++decDigits q.num.natAbs++(if q.den=1 then [] else 47::decDigits q.den)
def BQ (q:Rat):Bool:=decide ((decDigits q.num.natAbs).length≤200)&&decide ((decDigits q.den).length≤200)
theorem AA (n:Nat):(decDigits n).length≤bl n+1:=by
 by_cases h:n=0
 ·subst h;rw[iR (by decide)];simp
 ·have h1:=ZD h
  obtain⟨k,hk⟩:∃k,bl n=k+1:=⟨bl n-1,by omega⟩
  have h2:=MA n
  rw[hk] at h2 ⊢
  have h3:2^(k+1)≤10^(k+1):=Nat.pow_le_pow_left (by decide) _
  have:=Bi n k (by omega)
  omega
end Go.PM
namespace Go.PM
open Go.Lib
theorem NY (a b:List UInt8):dF .neq (.string ⟨a.toArray⟩) (.string ⟨b.toArray⟩)=some (.bool (!decide (a=b))):=by
 have h:∀l:List UInt8,(ByteArray.toList ⟨l.toArray⟩)=l:=fun l=>by rw[ByteArray.toList_eq]
 show some (Value.bool (!(ByteArray.toList ⟨a.toArray⟩ == ByteArray.toList ⟨b.toArray⟩)))=_
 rw[h,h]
 congr 3
 cases h2:a == b
 ·rw[decide_eq_false (by simpa using h2)]
 ·rw[decide_eq_true (by simpa using h2)]
theorem Uc (a b:List UInt8):dF .eql (.string ⟨a.toArray⟩) (.string ⟨b.toArray⟩)=some (.bool (decide (a=b))):=by
 have h:∀l:List UInt8,(ByteArray.toList ⟨l.toArray⟩)=l:=fun l=>by rw[ByteArray.toList_eq]
 show some (Value.bool (ByteArray.toList ⟨a.toArray⟩ == ByteArray.toList ⟨b.toArray⟩))=_
 rw[h,h]
 congr 2
 cases h2:a == b
 ·rw[decide_eq_false (by simpa using h2)]
 ·rw[decide_eq_true (by simpa using h2)]
theorem JS {n:Nat}:(decDigits n=[49])↔n=1:=by
 have e:decDigits 1=[49]:=by rw[iR (by decide)];rfl
 rw[←e]
 exact⟨abC,fun h=>by rw[h]⟩
theorem IL (q:Rat) (hk:cW q≤1099511627776):TC 172 [bR q] (.dL [aW (KX q),VB (BQ q)]):=by
 refine TC.walk ⟨true,false⟩ E9 rfl (Nat.le_of_ble_eq_true rfl) (by simp[aJ,jR]) rfl ?_
 have la:=tU hk
 have lb:=tQ hk
 have t1:=B3 q.num.natAbs (amP (by omega))
 have t2:=B3 q.den (amP (by omega))
 have d1:=AA q.num.natAbs
 have d2:=AA q.den
 have a1:dF .add (.string ⟨#[45]⟩) (.string ⟨(decDigits q.num.natAbs).toArray⟩)=some (.string ⟨(45::decDigits q.num.natAbs).toArray⟩):=uC [45] _ (by simp only[List.length_cons,List.length_nil];omega)
 have a2:dF .add (.string ⟨#[47]⟩) (.string ⟨(decDigits q.den).toArray⟩)=some (.string ⟨(47::decDigits q.den).toArray⟩):=uC [47] (decDigits q.den) (by simp only[List.length_cons,List.length_nil];omega)
 have a3:=uC (45::decDigits q.num.natAbs) (47::decDigits q.den) (by simp only[List.length_cons];omega)
 have a4:=uC (decDigits q.num.natAbs) (47::decDigits q.den) (by simp only[List.length_cons];omega)
 have ne:dF .neq (.string ⟨(decDigits q.den).toArray⟩) (.string ⟨#[49]⟩)=_:=NY (decDigits q.den) [49]
 have hf:BQ q=(decide (((decDigits q.num.natAbs).length:Int)≤200)&&decide (((decDigits q.den).length:Int)≤200)):=by
  unfold BQ
  congr 1<;>exact decide_eq_decide.2 (by omega)
 rw[hf]
 have hs:KX q=(if q.num<0 then (45::decDigits q.num.natAbs) else decDigits q.num.natAbs)++(if q.den=1 then [] else 47::decDigits q.den):=by
  unfold KX
  by_cases hn:q.num<0
  ·rw[if_pos hn,if_pos hn];rfl
  ·rw[if_neg hn,if_neg hn];rfl
 rw[hs]
 by_cases hd:q.den=1
 ·rw[decide_eq_true (JS.2 hd)] at ne
  rw[if_pos hd,List.append_nil]
  by_cases hn:q.num<0<;>by_cases hl:((decDigits q.num.natAbs).length:Int)≤200
  all_goals
   simp only[vJ,sP,t1,t2,a1,a2,a3,a4,ne,hn,hl,bF,aF,dP,mP,mI,qG,cB,aS,aT,aN,fD,Nat.reduceLeDiff,Nat.reduceLT,Nat.reduceSub,VX,Nat.reduceEqDiff,Nat.reduceAdd]
   exact aG rfl
 ·rw[decide_eq_false (mt JS.1 hd)] at ne
  rw[if_neg hd]
  by_cases hn:q.num<0<;>by_cases hl:((decDigits q.num.natAbs).length:Int)≤200
  all_goals
   simp only[vJ,sP,t1,t2,a1,a2,a3,a4,ne,hn,hl,bF,aF,dP,mP,mI,qG,cB,aS,aT,aN,fD,Nat.reduceLeDiff,Nat.reduceLT,Nat.reduceSub,VX,Nat.reduceEqDiff,Nat.reduceAdd]
   exact aG rfl
def BY (q:Rat):VV:=if BQ q=true then .dL [aW (KX q),VB true] else .dL [aW [],VB false]
theorem G1 (q:Rat):eQ (BY q)=true:=by unfold BY;split<;>rfl
theorem RA (q:Rat) (hk:cW q≤1099511627776):TC 90 [bR q] (BY q):=by
 refine TC.walk ⟨true,false⟩ Pk rfl (Nat.le_of_ble_eq_true rfl) (by simp[aJ,jR]) (G1 q) ?_
 have t1:=IL q hk
 unfold BY
 by_cases h:BQ q=true
 ·rw[h] at t1
  rw[if_pos h]
  simp only[Hp,C9,t1,aF,dP,cB,aS,aT,aN,fD,Nat.reduceLeDiff,Nat.reduceLT,Nat.reduceSub,VX,Nat.reduceEqDiff,Nat.reduceAdd]
  exact aG rfl
 ·have h':BQ q=false:=by simpa using h
  rw[h'] at t1
  rw[if_neg h]
  simp only[Hp,C9,t1,aF,dP,cB,aS,aT,aN,fD,Nat.reduceLeDiff,Nat.reduceLT,Nat.reduceSub,VX,Nat.reduceEqDiff,Nat.reduceAdd]
  exact aG rfl
end Go.PM
namespace Go.PM
open Go.Lib
abbrev bV (b:UInt8):VV := .sc (.int .u8 (b.toNat:Int))
theorem K3:∀bs:List UInt8,Hl (bs.map bV)=some bs
 | []=>rfl
 |
  b::bs=>by
  rw[List.map_cons]
  show (Hl (bs.map bV)).map (UInt8.ofNat ((b.toNat:Int)).toNat :: ·)=_
  rw[K3 bs]
  simp
structure Ga (v:VV) (H:aA) (bs:List UInt8):Prop where
 len:pV v H=some (VI bs.length)
 src:eW 1 v H=some (bs.map bV)
 nsc:∀x,v ≠ .sc x
theorem Ga.str {v:VV} {H:aA} {bs:List UInt8} (h:Ga v H bs) {fl:Fl} {lo:Nat} {x:Operand} {ρ:cP} (hx:eG ρ x=v):vop fl lo (.b2s x) ρ H=some (aW bs,H):=by
 have h1:=h.nsc
 have h2:=h.src
 unfold vop
 dsimp only
 rw[hx]
 cases v with
 | sc x=>exact absurd rfl (h1 x)
 | _=>simp only[h2,K3,Option.map_some]
theorem UX {bs:List UInt8} {k:TK} {H:aA}:eW 1 (.tree (bs.map bV) k) H=some (bs.map bV):=by
 have:((bs.map bV).all fun x=>(aB x).length == 1&&(aB x).all cI)=true:=by
  rw[List.all_eq_true]
  intro x hx
  obtain⟨d,_,rfl⟩:=List.mem_map.1 hx
  rfl
 simp only[eW,this,if_true]
theorem Ga.tree {bs:List UInt8} {k:TK} {H:aA}:Ga (.tree (bs.map bV) k) H bs:=⟨eK,UX,fun x=>by simp⟩
theorem Ga.row {bs:List UInt8} {H:aA} {b g:Nat} {w:Bool} (h:aP H b g=some (bs.map bV,1,w)):Ga (.ref b g 0 bs.length bs.length) H bs:=by
 refine⟨fM h,?_,fun x=>by simp⟩
 have lP:(((bs.map bV).drop 0).take bs.length).all (fun x=>(aB x).all cI)=true:=by
  rw[List.all_eq_true]
  intro x hx
  obtain⟨d,_,rfl⟩:=List.mem_map.1 (List.mem_of_mem_drop (List.mem_of_mem_take hx))
  rfl
 simp only[eW,h]
 rw[if_pos ⟨trivial,by simp,lP⟩,List.drop_zero,List.take_of_length_le (by simp)]
theorem Ga.cons {v:VV} {H:aA} {bs:List UInt8} (h:Ga v H bs) (x:UInt8) (hl:bs.length≤1000000) (lo:Nat):∃v' H',fE lo 1 1 (.tree [bV x] (.cl 1)) (bs.map bV) H=some (v',H')∧Ga v' H' (x::bs):=by
 by_cases hb:bs=[]
 ·subst hb
  exact⟨_,_,rfl,Ga.tree (bs:=[x])⟩
 ·have fR:bs.length≠0:=fun h=>hb (List.length_eq_zero_iff.1 h)
  refine⟨.ref H.length 0 0 (x::bs).length (x::bs).length,H++[.row 0 ((x::bs).map bV) 1 true],?_,Ga.row (Rk rfl)⟩
  simp only[fE,List.length_map]
  rw[if_pos ⟨by decide,by decide⟩,if_pos trivial,if_neg fR,if_pos (by simp;omega)]
  simp[Nat.add_comm]
theorem Uj (r:Int):dF .rem (.int .i64 r) (.int .i64 10)=some (.int .i64 (r.tmod 10)):=rfl
theorem alR (r:Int) (h0 : -9223372036854775808≤r) (h1:r≤9223372036854775807):dF .quo (.int .i64 r) (.int .i64 10)=some (.int .i64 (r.tdiv 10)):=by
 show some (Value.int .i64 (IntKind.i64.wrap (r.tdiv 10)))=_
 have h2:(r.tdiv 10).natAbs=r.natAbs / 10:=by rw[Int.natAbs_tdiv];rfl
 rw[wrap64 (by omega) (by omega)]
theorem VD {d:Nat} (h:d<10):(d10 d).toNat=48+d:=by
 unfold d10
 simp
 omega
theorem Ni {n r:Nat} {bs:List UInt8} (h:decDigits n=decDigits r++bs):decDigits n=qL (r / 10)++d10 (r % 10)::bs:=by
 rw[h]
 by_cases hr:r<10
 ·rw[iR hr,qL,if_pos (by omega),Nat.mod_eq_of_lt hr];rfl
 ·rw[zE hr,qL,if_neg (by omega),List.append_assoc];rfl
theorem LP (n:Int) (h0 : -9223372036854775808≤n) (h1:n≤9223372036854775807):TC 235 [VI n] (aW ((if n<0 then [45] else [])++decDigits n.natAbs)):=by
 refine TC.walk ⟨true,false⟩ Lt rfl (Nat.le_of_ble_eq_true rfl) rfl rfl ?_
 have e0:∀lr,pT lr [.int .u8 0] 0 [] []=some (.ref 0 0 0 0 0,[.row 0 (([]:List UInt8).map bV) 1 true]):=fun lr=>oH (H:=[]) rfl
 have e1:∀(x:UInt8) (H:aA),pT false [.int .u8 0] 1 [(0,bV x)] H=some (.tree [bV x] (.cl 1),H):=fun x H=>pN rfl rfl rfl
 have hdl:=Bi n.natAbs 19 (by omega)
 simp only[Iv,D2,e0,VX,Nat.reduceEqDiff,Nat.reduceAdd]
 refine bC (fun(s:Int×List UInt8) ρ H => -9223372036854775808≤s.1∧s.1≤9223372036854775807∧(s.2=[]→s.1=n)∧(s.2≠[]→decDigits n.natAbs=qL s.1.natAbs++s.2)∧Ga (ρ 3) H s.2∧ρ 0=VI n∧ρ 4=VI s.1) (fun s=>s.1.natAbs+(if s.2=[] then 1 else 0)) (n,[]) ⟨h0,h1,fun _=>rfl,fun h=>absurd rfl h,by simp only[VX,Nat.reduceEqDiff,Nat.reduceAdd];exact Ga.row (bs:=[]) bK,rfl,rfl⟩ ?_
 rintro⟨r,bs⟩ ρ H ⟨OW,OV,hn,hd,ho,g0,g4⟩
 simp only at OW OV hn hd ho g4
 generalize hv3:ρ 3=v3 at ho
 have hlen:=ho.len
 have AI:=ho.src
 by_cases KH:bs≠[]∧r=0
 ·obtain⟨hb,hr⟩:=KH
  subst hr
  have hl:¬(bs.length:Int)=0:=by have:=List.length_pos_iff.2 hb;omega
  have YP:=hd hb
  simp only[qL,Int.natAbs_zero,if_true,List.nil_append] at YP
  by_cases lD:n<0
  ·obtain⟨v',H',ap,Xj⟩:=ho.cons 45 (by rw[←YP];omega) 0
   have UG:pT false [.int .u8 0] 1 [(0,.sc (.int .u8 45))] H=some (.tree [bV 45] (.cl 1),H):=e1 45 H
   have bs2:=fun aZ (h:eG aZ (.tmp 34)=v')=>Xj.str (fl:=⟨true,false⟩) (lo:=0) h
   simp only[jX,g0,g4,hv3,hlen,hl,VX,Nat.reduceEqDiff,Nat.reduceAdd]
   simp only[g0,lD,hv3,UG,AI,ap,UQ,VX,Nat.reduceEqDiff,Nat.reduceAdd]
   rw[bs2 _ (by rfl)]
   simp only[VX,Nat.reduceEqDiff,Nat.reduceAdd]
   rw[YP]
   exact aG rfl
  ·have bs2:=fun aZ (h:eG aZ (.tmp 34)=v3)=>ho.str (fl:=⟨true,false⟩) (lo:=0) h
   simp only[jX,g0,g4,hv3,hlen,hl,VX,Nat.reduceEqDiff,Nat.reduceAdd]
   simp only[g0,lD,hv3,UQ,VX,Nat.reduceEqDiff,Nat.reduceAdd]
   rw[bs2 _ (by simp only[VX,Nat.reduceEqDiff,Nat.reduceAdd];try exact hv3)]
   simp only[VX,Nat.reduceEqDiff,Nat.reduceAdd]
   rw[YP]
   exact aG rfl
 ·have hm:r.tmod 10=if r<0 then -((r.natAbs % 10:Nat):Int) else ((r.natAbs % 10:Nat):Int):=by
   have:=Int.tmod_eq_emod_of_nonneg (a:=r) (b:=10)
   by_cases h:r<0
   ·rw[if_pos h]
    have h2:=Int.neg_tmod (-r) 10
    rw[Int.neg_neg] at h2
    rw[h2,Int.tmod_eq_emod_of_nonneg (by omega)]
    omega
   ·rw[if_neg h,this (by omega)]
    omega
  have hq:(r.tdiv 10).natAbs=r.natAbs / 10:=by rw[Int.natAbs_tdiv];rfl
  have hmd:=Nat.mod_lt r.natAbs (show 0<10 by decide)
  have q1:=alR r OW OV
  have vB:bs.length≤19:=by
   by_cases hb:bs=[]
   ·subst hb;simp
   ·have h2:=hd hb
    have h3:=congrArg List.length h2
    rw[List.length_append] at h3
    have h4:r≠0:=fun h=>KH ⟨hb,h⟩
    have h5:=List.length_pos_iff.2 (OE r.natAbs)
    rw[qL,if_neg (by omega)] at h3
    omega
  obtain⟨v',H',ap,Xj⟩:=ho.cons (d10 (r.natAbs % 10)) (by omega) 0
  have w2:IntKind.i64.wrap (48+((r.natAbs % 10:Nat):Int))=((48+r.natAbs % 10:Nat):Int):=wrapN _ (by omega) (by omega)
  have w3:IntKind.u8.wrap ((48+r.natAbs % 10:Nat):Int)=((48+r.natAbs % 10:Nat):Int):=by
   simp[IntKind.wrap,IntKind.bits,IntKind.signed]
   omega
  have hx:VV.sc (.int .u8 ((48+r.natAbs % 10:Nat):Int))=bV (d10 (r.natAbs % 10)):=by rw[bV,VD hmd]
  have UG:=e1 (d10 (r.natAbs % 10)) H
  rw[←hx] at UG ap
  have next:∃s':Int×List UInt8,s'.1.natAbs+(if s'.2=[] then 1 else 0)<r.natAbs+(if bs=[] then 1 else 0) ∧ -9223372036854775808≤s'.1∧s'.1≤9223372036854775807∧(s'.2=[]→s'.1=n)∧(s'.2≠[]→decDigits n.natAbs=qL s'.1.natAbs++s'.2)∧Ga v' H' s'.2∧r.tdiv 10=s'.1:=by
   refine⟨(r.tdiv 10,d10 (r.natAbs % 10)::bs),?_,by simp only;omega,by simp only;omega,fun h=>(by simp at h),fun _ => ?_,Xj,rfl⟩
   ·simp only[hq,List.cons_ne_nil,if_false]
    by_cases hb:bs=[]
    ·rw[if_pos hb];omega
    ·have h4:r≠0:=fun h=>KH ⟨hb,h⟩
     rw[if_neg hb];omega
   ·simp only[hq]
    by_cases hb:bs=[]
    ·subst hb
     refine Ni ?_
     rw[hn rfl,List.append_nil]
    ·have h4:r≠0:=fun h=>KH ⟨hb,h⟩
     have h2:=hd hb
     rw[qL,if_neg (by omega)] at h2
     exact Ni h2
  by_cases hrn:r.tmod 10<0
  ·have w1:IntKind.i64.wrap (0-r.tmod 10)=((r.natAbs % 10:Nat):Int):=by
    have:r.tmod 10 = -((r.natAbs % 10:Nat):Int):=by
     by_cases h:r<0
     ·rw[if_pos h] at hm;exact hm
     ·rw[if_neg h] at hm;omega
    rw[this]
    exact wrapN _ (by omega) (by omega)
   by_cases hb:bs=[]
   ·have hl:(bs.length:Int)=0:=by rw[hb];rfl
    simp only[jX,g0,g4,hv3,hlen,hl,Uj,q1,hrn,w1,w2,w3,UG,AI,ap,VX,Nat.reduceEqDiff,Nat.reduceAdd]
    obtain⟨s',n1,n2,n3,n4,n5,n6,n7⟩:=next
    exact⟨s',n1,n2,n3,n4,n5,n6,by rw[n7]⟩
   ·have hl:¬(bs.length:Int)=0:=by have:=List.length_pos_iff.2 hb;omega
    have hr:¬r=0:=fun h=>KH ⟨hb,h⟩
    simp only[jX,g0,g4,hv3,hlen,hl,hr,Uj,q1,hrn,w1,w2,w3,UG,AI,ap,VX,Nat.reduceEqDiff,Nat.reduceAdd]
    obtain⟨s',n1,n2,n3,n4,n5,n6,n7⟩:=next
    exact⟨s',n1,n2,n3,n4,n5,n6,by rw[n7]⟩
  ·have hmm:r.tmod 10=((r.natAbs % 10:Nat):Int):=by
    rw[hm] at hrn ⊢
    split
    ·rename_i h;rw[if_pos h] at hrn;omega
    ·rfl
   have anH:¬((r.natAbs % 10:Nat):Int)<0:=by omega
   by_cases hb:bs=[]
   ·have hl:(bs.length:Int)=0:=by rw[hb];rfl
    simp only[jX,g0,g4,hv3,hlen,hl,Uj,hmm,q1,anH,w2,w3,UG,AI,ap,VX,Nat.reduceEqDiff,Nat.reduceAdd]
    obtain⟨s',n1,n2,n3,n4,n5,n6,n7⟩:=next
    exact⟨s',n1,n2,n3,n4,n5,n6,by rw[n7]⟩
   ·have hl:¬(bs.length:Int)=0:=by have:=List.length_pos_iff.2 hb;omega
    have hr:¬r=0:=fun h=>KH ⟨hb,h⟩
    simp only[jX,g0,g4,hv3,hlen,hl,hr,Uj,hmm,q1,anH,w2,w3,UG,AI,ap,VX,Nat.reduceEqDiff,Nat.reduceAdd]
    obtain⟨s',n1,n2,n3,n4,n5,n6,n7⟩:=next
    exact⟨s',n1,n2,n3,n4,n5,n6,by rw[n7]⟩
end Go.PM
namespace Go.PM
abbrev Uw (c:List (List ByteArray)):VV := .agg [jC c]
theorem C6 (c:List (List ByteArray)):aM (Uw c)=true:=by
 show aJ [jC c]=true
 simp only[aJ,tS,Bool.and_self]
theorem nX {c:List (List ByteArray)}:dA true 1 (Uw c) 0=some (Uw c):=rfl
theorem iP {c:List (List ByteArray)}:dA false 1 (Uw c) 0=some (jC c):=rfl
def rN (n:Nat) (H:aA) (bare:Bool) (c:List (List ByteArray)) (r:VV):Prop:=∃c0,r = .agg [c0]∧sM n H bare c c0
theorem rN.eI {n:Nat} {H H':aA} {bare:Bool} {s:List (List ByteArray)} {c:VV} (h:rN n H bare s c) (hk:∀b g x,n<b→aP H b g=some x→aP H' b g=some x):rN n H' bare s c:=by
 obtain⟨c0,rfl,h0⟩:=h
 exact⟨c0,rfl,h0.eI hk⟩
theorem rN.pre {n:Nat} {H H':aA} {bare:Bool} {s:List (List ByteArray)} {c:VV} (h:rN n H bare s c) (hh:H <+: H'):rN n H' bare s c:=h.eI fun _ _ _ _=>eR hh
theorem rN.fz {n:Nat} {H:aA} {bare:Bool} {s:List (List ByteArray)} {c:VV} (h:rN n H bare s c):PM.fz depth H c=some (Uw s):=by
 obtain⟨c0,rfl,h0⟩:=h
 have f0:=h0.fz (d:=4)
 have e:PM.fz (7+1) H (.agg [c0])=if aM (.agg [c0])=true then some (.agg [c0]) else ([c0].mapM (PM.fz 7 H)).map .agg:=rfl
 show PM.fz (7+1) H (.agg [c0])=_
 rw[e]
 by_cases hp:aM (.agg [c0])=true
 ·rw[if_pos hp]
  have hu:aM c0=true:=by simpa[aM,aJ] using hp
  rw[aH hu] at f0
  cases f0
  rfl
 ·rw[if_neg hp,List.mapM_cons,f0]
  rfl
set_option maxHeartbeats 1000000 in
theorem Ld (s:List (List ByteArray)) (bare:Bool) (hg:s.length≤1000000000∧∀x∈s,x.length≤1000000000):FC 60 [Uw s,.sc (.bool bare)] fun n r L=>rN n (List.replicate n .dead++L) bare s r:=by
 refine FC.anQ ⟨true,false⟩ Jt (Nat.le_of_ble_eq_true rfl) fun n => ?_
 simp only[Gd,Dh,iP,VX,Nat.reduceEqDiff,Nat.reduceAdd,fD,Nat.reduceLeDiff,Nat.reduceLT,Nat.reduceSub,Jl,NM,Ya,agV,aoA,List.append_assoc,Nat.le_add_right,adK,acC,List.length_replicate]
 refine alG (n:=n) (m:=n+1) hg.1 hg.2 (by simp) (by simp) ?_ fun c0 H1 p1 O1 s0 w0 => ?_
 ·intro b g es e w hb hr
  rw[List.getElem?_eq_none (by simp;omega)] at hr
  cases hr
 have Dg:n+2≤H1.length:=by have:=p1.length_le;simpa using this
 have a1:aP H1 (n+1) 0=some ([.tree [] .nil],1,true):=eR p1 (by rw[NM];rfl)
 have b1:aP H1 n 0=some ([.tree [] .nil],1,true):=eR p1 (by rw[Jl];rfl)
 have e1:=gA (lo:=n) (v:=c0) (j:=0) a1 (by decide) (Nat.le_succ n) (by rw[s0.cell.1];rfl) (by rw[s0.cell.1];simp[s0.cell.2])
 rw[List.set_cons_zero] at e1
 have e4:dN true 1 (.ptr (n+1) 0 0 0) (H1.set (n+1) (.row 0 [c0] 1 true))=some (.agg [c0]):=by
  rw[jB,kM a1]
  simp[dA,s0.cell.1]
 have e5:=gA (lo:=n) (v := .agg [c0]) (j:=0) (dQ (x := .row 0 [c0] 1 true) (b':=n+1) (by omega) b1) (by decide) (Nat.le_refl _) (by rfl) (by simp[aB,s0.cell.2])
 rw[List.set_cons_zero] at e5
 have e6:dN true 1 (.ptr n 0 0 0) ((H1.set (n+1) (.row 0 [c0] 1 true)).set n (.row 0 [.agg [c0]] 1 true))=some (.agg [c0]):=by
  rw[jB,kM (dQ (x := .row 0 [c0] 1 true) (b':=n+1) (by omega) b1)]
  rfl
 simp only[a1,e1,e4,e5,e6,C5,Nat.add_zero,mF,oP,CU,VX,Nat.reduceEqDiff,Nat.reduceAdd]
 obtain⟨L,k1,k2,k3⟩:=Z2 (n:=n) (k:=n+2) (H:=(H1.set (n+1) (.row 0 [c0] 1 true)).set n (.row 0 [.agg [c0]] 1 true)) (by omega) (by rw[List.length_set,List.length_set];exact Dg) ((O1.set (by omega)).set (by omega))
 have Ck:∀b g x,n+1<b→aP H1 b g=some x→aP (List.replicate n .dead++L) b g=some x:=fun b g x hb h=>k3 b g x hb (dQ (by omega) (dQ (by omega) h))
 have up2:∀ {H c x},sM (n+1) H bare x c→sM n H bare x c:=fun h=>by
  rcases h with h | ⟨b,h1,h2,h3⟩
  ·exact .inl h
  ·exact .inr ⟨b,by omega,h2,h3⟩
 exact⟨L,k1,by simp[qQ,yF,w0],k2,c0,rfl,up2 (s0.eI Ck)⟩
def IK (c:List (List ByteArray)) (left:Int):Int:=if Lz c left<0 then -1 else Lz c left
theorem abA {c:List (List ByteArray)} {l:Int} (h:0≤IK c l):IK c l≤l∧(c.length:Int)≤l∧∀x∈c,(x.length:Int)≤l∧∀y∈x,(y.size:Int)≤l:=by
 unfold IK at h ⊢
 split at h
 ·omega
 ·rename_i h0
  rw[if_neg h0]
  exact aaU (by omega)
theorem acV {c:List (List ByteArray)} {l:Int} (h:IK c l<0):IK c l = -1:=by
 unfold IK at h ⊢
 split
 ·rfl
 ·rename_i h0
  rw[if_neg h0] at h
  omega
theorem Kg (c:List (List ByteArray)) (left:Int) (hx:X2 c) (hl:0≤left∧left≤1000000):TC 58 [Uw c,VI left] (VI (IK c left)):=by
 refine TC.walk ⟨true,false⟩ K1 rfl (Nat.le_of_ble_eq_true rfl) (by simp only[aJ,C6];rfl) rfl ?_
 have e0:=Fq c left hx hl
 unfold IK
 by_cases h0:Lz c left<0
 ·simp only[Bx,xY,iP,e0,h0,if_true,VX,Nat.reduceEqDiff,Nat.reduceAdd,fD,Nat.reduceLeDiff,Nat.reduceLT,Nat.reduceSub]
  exact aG rfl
 ·simp only[Bx,xY,iP,e0,h0,if_false,VX,Nat.reduceEqDiff,Nat.reduceAdd,fD,Nat.reduceLeDiff,Nat.reduceLT,Nat.reduceSub]
  exact aG rfl
theorem EN {lo n n':Nat} {H:aA} {c c':VV} (s:List (List ByteArray)) (hg:s.length≤400000000∧∀x∈s,x.length≤400000000) (hX:rN n H false s c) (hY:rN n' H false s c') {K:VV→aA→Prop} (hk:K (.sc (.bool true)) H) :
  cT 62 [c,c'] lo H K:=by
 refine kI rfl (oO.walk ⟨true,false⟩ EC (Nat.le_of_ble_eq_true rfl) ?_)
 obtain⟨x1,rfl,hx1⟩:=hX
 obtain⟨y1,rfl,hy1⟩:=hY
 obtain⟨b1,rfl,r1⟩:=hx1.ref
 obtain⟨d1,rfl,q1⟩:=hy1.ref
 simp only[AH,xW,VX,Nat.reduceEqDiff,Nat.reduceAdd,fD,Nat.reduceLeDiff,Nat.reduceLT,Nat.reduceSub,Jp,N0,afO,agQ,List.append_assoc,List.cons_append,List.nil_append,List.length_append,List.length_cons,List.length_nil,Nat.zero_add,Nat.reduceAdd]
 refine Cg s hg.1 hg.2 r1 q1 ?_
 simp only[VX,Nat.reduceEqDiff,Nat.reduceAdd,fD,Nat.reduceLeDiff,Nat.reduceLT,Nat.reduceSub]
 exact hk
theorem Ue {lo:Nat} {s:List (List ByteArray)} {bare:Bool} {H:aA} {K:VV→aA→Prop} (hg:s.length≤1000000000∧∀x∈s,x.length≤1000000000)
  (hk:∀c H',H <+: H'→rN H.length H' bare s c→K c H'):cT 60 [Uw s,.sc (.bool bare)] lo H K:=by
 refine(Ld s bare hg).call rfl (mapM_pure (n:=7) (by simp only[aJ,C6,Bool.true_and];rfl)) ?_
 intro r L h
 exact hk r _ (List.prefix_append _ _) (h.eI fun b g x hb h=>Hb (Nat.le_of_lt hb) h)
theorem arU {n lo:Nat} {s:List (List ByteArray)} {bare:Bool} {H:aA} {c:VV} (hc:rN n H bare s c) (iC:lo≤H.length):cR lo 1 (.ptr H.length 0 0 0) c (H++[.row 0 [.tree [] .nil] 1 true])=some (H++[.row 0 [c] 1 true]):=by
 obtain⟨c0,rfl,h0⟩:=hc
 rw[gA (e:=1) (g:=0) (lo:=lo) (v := .agg [c0]) (j:=0) A8 (by decide) iC rfl (by simp[aB,h0.cell.2]),J2]
 rfl
theorem ld1 {n b:Nat} {s:List (List ByteArray)} {bare:Bool} {H H':aA} {c:VV} (hc:rN n H bare s c) (h:aP H' b 0=some ([c],1,true)):dN true 1 (.ptr b 0 0 0) H'=some c:=by
 obtain⟨c0,rfl,_⟩:=hc
 rw[jB,h]
 rfl
end Go.PM
namespace Go.PM
open Go.Lib
def iL (c:UInt8):Bool:=decide (48≤c.toNat)&&decide (c.toNat≤57)
def dv (c:UInt8):Nat:=c.toNat-48
def Lf (a:Nat) (l:List UInt8):Nat:=l.foldl (fun a c=>a*10+dv c) a
def bP (l:List UInt8):Nat:=Lf 0 l
theorem TY (l:List UInt8):∀a,Lf a l=a*10^l.length+bP l:=by
 induction l with
 | nil=>intro a;simp[Lf,bP]
 |
  cons c l ih =>
  intro a
  have h1:Lf a (c::l)=Lf (a*10+dv c) l:=rfl
  have h2:bP (c::l)=Lf (0*10+dv c) l:=rfl
  rw[h1,h2,ih,ih (0*10+dv c),List.length_cons,Nat.pow_succ]
  grind
theorem JD (a b:List UInt8):bP (a++b)=bP a*10^b.length+bP b:=by
 have:bP (a++b)=Lf (bP a) b:=by unfold bP Lf;rw[List.foldl_append]
 rw[this,TY]
theorem Kf:bP []=0:=rfl
theorem Ww (a:List UInt8) (c:UInt8):bP (a++[c])=bP a*10+dv c:=by
 rw[JD]
 simp[bP,Lf]
theorem aeE {c:UInt8} (h:iL c=true):dv c<10:=by
 simp only[iL,Bool.and_eq_true,decide_eq_true_eq] at h
 unfold dv
 omega
theorem Gc:∀ {l:List UInt8},l.all iL=true→bP l<10^l.length:=by
 intro l
 induction l with
 | nil=>intro _;decide
 |
  cons c l ih =>
  intro h
  rw[List.all_cons,Bool.and_eq_true] at h
  have h1:=aeE h.1
  have h2:=ih h.2
  have h3:bP (c::l)=Lf (0*10+dv c) l:=rfl
  rw[h3,TY,List.length_cons,Nat.pow_succ]
  have h4:(0*10+dv c)*10^l.length≤9*10^l.length:=Nat.mul_le_mul_right _ (by omega)
  omega
theorem agJ {M:Nat} (hM:1000000000000000000≤M):∀(l:List UInt8) (k acc:Nat),l.all iL=true→acc<10^k→k+l.length≤18→parseUintM M acc l = .ok (Lf acc l):=by
 intro l
 induction l with
 | nil=>intro k acc _ _ _;rfl
 |
  cons c l ih =>
  intro k acc h hk hl
  rw[List.all_cons,Bool.and_eq_true] at h
  have h1:=aeE h.1
  have h0:=h.1
  simp only[iL,Bool.and_eq_true,decide_eq_true_eq] at h0
  rw[List.length_cons] at hl
  have h18:acc<10^17:=Nat.lt_of_lt_of_le hk (Nat.pow_le_pow_right (by decide) (by omega))
  have e17:(10:Nat)^17=100000000000000000:=by decide
  rw[e17] at h18
  have hd:c.toNat-48=dv c:=rfl
  rw[parseUintM,if_pos h0,if_neg (by omega),hd,if_neg (by omega),ih (k+1) _ h.2 (by rw[Nat.pow_succ];omega) (by omega)]
  rfl
theorem agA {l:List UInt8} (h:l.all iL=true) (h0:l≠[]) (hl:l.length≤18):parseUintB 64 l = .ok (bP l):=by
 unfold parseUintB
 rw[if_neg h0]
 exact agJ (by decide) l 0 0 h (by decide) (by omega)
def iD (l:List UInt8):Bool:=l.all iL&&decide (1≤l.length)&&decide (l.length≤200)&&(decide (l.length=1) || !decide (l.getD 0 0=48))
theorem jS {l:List UInt8}:iD l=true↔l.all iL=true∧1≤l.length∧l.length≤200∧(l.length=1∨l.getD 0 0≠48):=by
 unfold iD
 simp only[Bool.and_eq_true,Bool.or_eq_true,Bool.not_eq_true',decide_eq_true_eq,decide_eq_false_iff_not,ne_eq,and_assoc]
theorem yJ {l:List UInt8} (h:iD l=true):bl (bP l)≤665:=by
 obtain⟨h1,h2,h3,_⟩:=jS.1 h
 refine Fk (Nat.lt_of_lt_of_le (Gc h1) ?_)
 exact Nat.le_trans (Nat.pow_le_pow_right (by decide) h3) (by decide +kernel)
def lS (c:UInt8):List UInt8→List UInt8×Option (List UInt8)
 | []=>([],none)
 | x::r=>if x=c then ([],some r) else (x::(lS c r).1,(lS c r).2)
theorem AR {c:UInt8}:∀ {l:List UInt8},(lS c l).2=none→indexByte l c = -1∧(lS c l).1=l∧c∉l:=by
 intro l
 induction l with
 | nil=>intro _;exact⟨rfl,rfl,by simp⟩
 |
  cons x l ih =>
  intro h
  unfold lS at h ⊢
  by_cases hx:x=c
  ·rw[if_pos hx] at h
   cases h
  ·rw[if_neg hx] at h ⊢
   obtain⟨h1,h2,h3⟩:=ih h
   refine⟨?_,by rw[h2],?_⟩
   ·rw[indexByte,if_neg (by simpa using hx),h1]
    rfl
   ·rw[List.mem_cons,not_or]
    exact⟨fun h=>hx h.symm,h3⟩
theorem GN {c:UInt8}:∀ {l r:List UInt8},(lS c l).2=some r→indexByte l c=((lS c l).1.length:Int)∧l=(lS c l).1++c::r∧c∉(lS c l).1:=by
 intro l
 induction l with
 | nil=>intro r h;cases h
 |
  cons x l ih =>
  intro r h
  unfold lS at h ⊢
  by_cases hx:x=c
  ·rw[if_pos hx] at h ⊢
   cases h
   subst hx
   refine⟨?_,rfl,by simp⟩
   rw[indexByte,if_pos (by simp)]
   rfl
  ·rw[if_neg hx] at h ⊢
   obtain⟨h1,h2,h3⟩:=ih h
   refine⟨?_,?_,?_⟩
   ·rw[indexByte,if_neg (by simpa using hx),h1,if_neg]
    ·simp
    ·simp
   ·conv=>lhs;rw[h2]
    rfl
   ·rw[List.mem_cons,not_or]
    exact⟨fun h=>hx h.symm,h3⟩
def nZ (neg:Bool) (d:List UInt8) (s:Option (List UInt8)):Option Rat :=
 if iD d=false∨(neg=true∧bP d=0) then none else
 match s with
 | none=>some (mkRat (kG neg (bP d)) 1)
 | some t=>if iD t=true∧1<bP t∧Nat.gcd (bP d) (bP t)=1 then some (mkRat (kG neg (bP d)) (bP t)) else none
def isNeg (l:List UInt8):Bool:=decide (1≤l.length)&&decide (l.getD 0 0=45)
def xD (l:List UInt8):Option Rat:=nZ (isNeg l) ((lS 47 (if isNeg l then l.drop 1 else l)).1) ((lS 47 (if isNeg l then l.drop 1 else l)).2)
theorem Tj {neg:Bool} {d:List UInt8} {s:Option (List UInt8)} {q:Rat} (h:nZ neg d s=some q):iD d=true∧¬(neg=true∧bP d=0)∧((s=none∧q=mkRat (kG neg (bP d)) 1)∨∃t,s=some t∧iD t=true∧1<bP t∧Nat.gcd (bP d) (bP t)=1∧q=mkRat (kG neg (bP d)) (bP t)):=by
 unfold nZ at h
 split at h
 ·cases h
 ·rename_i hc
  rw[not_or] at hc
  refine⟨by simpa using hc.1,hc.2,?_⟩
  split at h
  ·exact .inl ⟨rfl,(Option.some.inj h).symm⟩
  ·rename_i t
   split at h
   ·rename_i ht
    exact .inr ⟨t,rfl,ht.1,ht.2.1,ht.2.2,(Option.some.inj h).symm⟩
   ·cases h
theorem Px {neg:Bool} {d:List UInt8} {s:Option (List UInt8)} {q:Rat} (h:nZ neg d s=some q):cW q≤665:=by
 obtain⟨h1,_,h3⟩:=Tj h
 have hb:=yJ h1
 rcases h3 with⟨_,rfl⟩ | ⟨t,_,h4,h5,_,rfl⟩
 ·exact FG (by rw[nP];exact hb) (Fk (by decide +kernel)) (by decide)
 ·exact FG (by rw[nP];exact hb) (yJ h4) (by omega)
theorem RW {l:List UInt8} {q:Rat} (h:xD l=some q):cW q≤665:=Px h
theorem IA {neg:Bool} {t b:Nat} (hb:b≠0) (hg:Nat.gcd t b=1):(mkRat (kG neg t) b).num=kG neg t∧(mkRat (kG neg t) b).den=b:=by
 rw[Es hb,OI hb,hg,Nat.div_one,Nat.div_one]
 exact⟨rfl,rfl⟩
theorem EZ {c:UInt8} {l:List UInt8}:isNeg (c::l)=decide (c=45):=by simp[isNeg]
theorem Xt {l:List UInt8} (h:l.all iL=true):(47:UInt8)∉l:=by
 intro hm
 have:=List.all_eq_true.1 h _ hm
 exact absurd this (by decide)
end Go.PM