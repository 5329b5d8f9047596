/- Texts of a claim, in one: part 9. -/
import Derived.Test.YtjmflicajplclaaGreatDoorKGh
set_option linter.unusedSimpArgs false
set_option linter.unusedVariables false
namespace Go.PM
theorem UC {gU vs us ws os:List Nat} {n u2 u1 u0 v1 v0 N k g left:Nat} (G:vK 4294967296 gU vs n u2 u1 u0 v1 v0) {ρ:dG} {Q:VQ} (hN:us.length=N) (hk2:2≤k) (hkN:k<N) (Dq:N≤70368744177664) (hu0:us[k-2]? = some u0)
  (g9:ρ 9 = .ref 0 0 0 N N) (g11:ρ 11=VK .u64 v1) (g12:ρ 12=VK .u64 v0) (g15:ρ 15=VI k) (g17:ρ 17=VK .u64 g) (g18:ρ 18=VK .u64 left) (hh:u2*4294967296+u1=g*v1+left) (hq:val 4294967296 gU / val 4294967296 vs≤g) (hl:left<4294967296) (hgb:g<18446744073709551616)
  (hQ:∀(bC:dG) (g':Nat),val 4294967296 gU / val 4294967296 vs≤g'→g'≤val 4294967296 gU / val 4294967296 vs+1→g'<4294967296→bC 17=VK .u64 g'→bC 8=ρ 8→bC 9=ρ 9→bC 10=ρ 10→bC 11=ρ 11→bC 12=ρ 12→bC 13=ρ 13→bC 14=ρ 14→bC 15=ρ 15→Q (.exit 2) bC (H3 us ws os)) :
  VW ⟨true,false⟩ 0 (.loop fT) Q ρ (H3 us ws os):=by
 have lv1:=G.VM
 have lv0:=G.YE
 have lu0:=G.aiD
 have qlt:=G.aeK
 have kH:=G.pos
 refine aQ (fun(t:Nat×Nat) bC H=>H=H3 us ws os∧u2*4294967296+u1=t.1*v1+t.2∧val 4294967296 gU / val 4294967296 vs≤t.1∧t.2<4294967296∧t.1<18446744073709551616 ∧
  bC 9 = .ref 0 0 0 N N∧bC 11=VK .u64 v1∧bC 12=VK .u64 v0∧bC 15=VI k∧bC 17=VK .u64 t.1∧bC 18=VK .u64 t.2∧bC 8=ρ 8∧bC 10=ρ 10∧bC 13=ρ 13∧bC 14=ρ 14) (fun t=>4294967296-t.2) (g,left) ⟨rfl,hh,hq,hl,hgb,g9,g11,g12,g15,g17,g18,rfl,rfl,rfl,rfl⟩ ?_
 rintro⟨g,left⟩ Ns H ⟨rfl,hh,hq,hl,hgb,k9,V3,HA,JX,Ik,Yp,k8,Yq,A8,Ce⟩
 simp only at hh hq hl hgb Ik Yp
 have e1:bH 1 (.ref 0 0 0 N N) (VI ((k-2:Nat):Int)) (H3 us ws os)=some (.ptr 0 0 (k-2) 0):=by rw[aY Co (by omega),Nat.zero_add]
 have e2:cI false 1 (.ptr 0 0 (k-2) 0) (H3 us ws os)=some (uV u0):=hJ Co hu0
 have wk:IntKind.i64.wrap ((k:Int)-2)=((k-2:Nat):Int):=wrapN _ (by omega) (by omega)
 have wu:IntKind.u64.wrap (u0:Int)=(u0:Int):=dT _ (by omega)
 have ws:=DO left .u64 hl
 have wa:IntKind.u64.wrap (((left*4294967296:Nat):Int)+(u0:Int))=((left*4294967296+u0:Nat):Int):=by rw[←Int.natCast_add];exact dT _ (by omega)
 have wl:IntKind.u64.wrap ((left:Int)+(v1:Int))=((left+v1:Nat):Int):=by rw[←Int.natCast_add];exact dT _ (by omega)
 have same:Ns 9=ρ 9∧Ns 11=ρ 11∧Ns 12=ρ 12∧Ns 15=ρ 15:=⟨by rw[k9,g9],by rw[V3,g11],by rw[HA,g12],by rw[JX,g15]⟩
 obtain⟨s9,s11,s12,s15⟩:=same
 have down:val 4294967296 gU / val 4294967296 vs<g→∃g',g=g'+1∧IntKind.u64.wrap ((g:Int)-1)=(g':Int)∧u2*4294967296+u1=g'*v1+(left+v1)∧val 4294967296 gU / val 4294967296 vs≤g':=by
  intro h
  have hg1:1≤g:=Nat.lt_of_le_of_lt (Nat.zero_le _) h
  obtain⟨g',rfl⟩:∃g',g=g'+1:=⟨g-1,by omega⟩
  refine⟨g',rfl,?_,?_,by omega⟩
  ·rw[show ((g'+1:Nat):Int)-1=(g':Int) by omega]
   exact dT _ (by omega)
  ·rw[hh,Nat.add_mul]
   omega
 by_cases hA:(4294967296:Int)≤(g:Int)
 ·obtain⟨g',ZT,wg,T7,MR⟩:=down (by omega)
  by_cases hB:(4294967296:Int)≤((left+v1:Nat):Int)
  ·obtain⟨c1,c2⟩:=G.broken T7 (by omega)
   simp only[fT,k9,V3,HA,JX,Ik,Yp,hA,hB,wg,wl,VX,Nat.reduceEqDiff,Nat.reduceAdd]
   exact hQ _ g' MR (G.Xi T7 (by omega) c2) c1 rfl k8 s9 Yq s11 s12 A8 Ce s15
  ·simp only[fT,k9,V3,HA,JX,Ik,Yp,hA,hB,wg,wl,VX,Nat.reduceEqDiff,Nat.reduceAdd]
   exact⟨(g',left+v1),by simp only;omega,T7,MR,by simp only;omega,by simp only;omega,by rfl,by rfl,k8,Yq,A8,Ce⟩
 ·have hgv:g*v0≤4294967295*4294967295:=Nat.mul_le_mul (by omega) (by omega)
  have wm:IntKind.u64.wrap ((g:Int)*(v0:Int))=((g*v0:Nat):Int):=by rw[←Int.natCast_mul];exact dT _ (by omega)
  by_cases hT:((left*4294967296+u0:Nat):Int)<((g*v0:Nat):Int)
  ·obtain⟨g',ZT,wg,T7,MR⟩:=down (G.too hh (by omega))
   by_cases hB:(4294967296:Int)≤((left+v1:Nat):Int)
   ·obtain⟨c1,c2⟩:=G.broken T7 (by omega)
    simp only[fT,k9,V3,HA,JX,Ik,Yp,hA,hB,hT,e1,e2,wk,wu,ws,wa,wm,wg,wl,VX,Nat.reduceEqDiff,Nat.reduceAdd]
    exact hQ _ g' MR (G.Xi T7 (by omega) c2) c1 rfl k8 s9 Yq s11 s12 A8 Ce s15
   ·simp only[fT,k9,V3,HA,JX,Ik,Yp,hA,hB,hT,e1,e2,wk,wu,ws,wa,wm,wg,wl,VX,Nat.reduceEqDiff,Nat.reduceAdd]
    exact⟨(g',left+v1),by simp only;omega,T7,MR,by simp only;omega,by simp only;omega,by rfl,by rfl,k8,Yq,A8,Ce⟩
  ·simp only[fT,k9,V3,HA,JX,Ik,Yp,hA,hT,e1,e2,wk,wu,ws,wa,wm,VX,Nat.reduceEqDiff,Nat.reduceAdd]
   exact hQ _ g hq (G.Xi hh (by omega) (by omega)) (by omega) Ik k8 s9 Yq s11 s12 A8 Ce s15
theorem KO {X S S' R V q Q P w:Nat} (hs:S=q*V+S') (h:X+P*S+P*w*V*Q=R):X+P*S'+P*V*(q+w*Q)=R:=by
 subst hs
 grind
theorem aaK {Ed ws Yn vs:List Nat} {N m n v1 v0 A s:Nat} {ρ:dG} {Q:VQ} (hN:Ed.length=N) (hm:m+(n+2)=N) (Dq:N≤70368744177664) (Iz:∀d∈Ed,d<4294967296) (hws:ws.take (n+2)=vs) (hwl:ws.length=n+3) (EM:vs.length=n+2) (GN:∀d∈vs,d<4294967296) (f1:vs[n+1]? = some v1) (f0:vs[n]? = some v0) (kH:1≤v1)
  (hA:val 4294967296 Ed=A) (BW:val 4294967296 (Ed.drop m)<val 4294967296 vs) (iO:Yn.length=m) (kL:∀d∈Yn,d<4294967296)
  (g8:ρ 8=VI s) (g9:ρ 9 = .ref 0 0 0 N N) (g10:ρ 10 = .ref 1 0 0 (n+2) (n+3)) (g11:ρ 11=VK .u64 v1) (g12:ρ 12=VK .u64 v0) (g13:ρ 13 = .ref 2 0 0 m m) (g14:ρ 14=VI ((m:Int)-1))
  (hQ:∀(bC:dG) (us os:List Nat),bC 8=VI s→bC 9 = .ref 0 0 0 N N→bC 13 = .ref 2 0 0 m m→us.length=N→(∀d∈us,d<4294967296)→os.length=m→(∀d∈os,d<4294967296)→val 4294967296 us+val 4294967296 vs*val 4294967296 os=A→val 4294967296 us<val 4294967296 vs→Q (.exit 0) bC (H3 us ws os)) :
  VW ⟨true,false⟩ 0 (.loop nN) Q ρ (H3 Ed ws Yn):=by
 have hVb:=oI GN
 rw[EM] at hVb
 refine aQ (fun(t:Nat×List Nat×List Nat) bC H=>t.1≤m∧H=H3 t.2.1 ws t.2.2∧t.2.1.length=N∧(∀d∈t.2.1,d<4294967296)∧t.2.2.length=m∧(∀d∈t.2.2,d<4294967296)∧val 4294967296 (t.2.1.drop t.1)<val 4294967296 vs∧val 4294967296 t.2.1+4294967296^t.1*val 4294967296 vs*val 4294967296 (t.2.2.drop t.1)=A ∧
  bC 8=VI s∧bC 9 = .ref 0 0 0 N N∧bC 10 = .ref 1 0 0 (n+2) (n+3)∧bC 11=VK .u64 v1∧bC 12=VK .u64 v0∧bC 13 = .ref 2 0 0 m m∧bC 14=VI ((t.1:Int)-1)) (fun t=>t.1) (m,Ed,Yn) ⟨Nat.le_refl _,rfl,hN,Iz,iO,kL,BW,by rw[List.drop_of_length_le (by simp only;omega)];simpa[val] using hA,g8,g9,g10,g11,g12,g13,g14⟩ ?_
 rintro⟨j,us,os⟩ Ns H ⟨hj,rfl,PS,Iz,iO,kL,bA,hv,k8,k9,Yq,V3,HA,A8,Ce⟩
 simp only at hj PS Iz iO kL bA hv Ce
 by_cases hz:(0:Int)≤(j:Int)-1
 ·obtain⟨i,rfl⟩:∃i,j=i+1:=⟨j-1,by omega⟩
  have Ec:((i+1:Nat):Int)-1=(i:Int):=by omega
  rw[Ec] at Ce hz
  obtain⟨TX,yM,OO,hsW,abE,ZZ,uH⟩:=XU (n:=n+2) PS (by omega) Iz hVb bA
  generalize Yf:(us.drop i).take (n+2+1)=gU at *
  have PH:∀d∈gU,d<4294967296:=fun d hd=>by rw[←Yf] at hd;exact Iz d (List.mem_of_mem_drop (List.mem_of_mem_take hd))
  obtain⟨u2,hu2⟩:∃u2,us[i+(n+2)]? = some u2:=⟨_,List.getElem?_eq_getElem (by omega)⟩
  obtain⟨u1,hu1⟩:∃u1,us[i+(n+1)]? = some u1:=⟨_,List.getElem?_eq_getElem (by omega)⟩
  obtain⟨u0,hu0⟩:∃u0,us[i+n]? = some u0:=⟨_,List.getElem?_eq_getElem (by omega)⟩
  have G:vK 4294967296 gU vs n u2 u1 u0 v1 v0:=⟨by decide,PH,GN,OO,EM,by rw[uH _ (by omega)];exact hu2,by rw[uH _ (by omega)];exact hu1,by rw[uH _ (by omega)];exact hu0,f1,f0,kH,hsW⟩
  have lu2:=G.aiA
  have lu1:=G.YM
  have lv1:=G.VM
  have qlt:=G.aeK
  have Hp:=G.Hp
  have akJ:oC (.ref 1 0 0 (n+2) (n+3)) (H3 us ws os)=some (VI ((n+2:Nat):Int)):=dR aqK
  have w1:IntKind.i64.wrap ((i:Int)+((n+2:Nat):Int))=((i+(n+2):Nat):Int):=by rw[←Int.natCast_add];exact wrapN _ rfl (by omega)
  have w2:IntKind.i64.wrap (((i+(n+2):Nat):Int)-1)=((i+(n+1):Nat):Int):=wrapN _ (by omega) (by omega)
  have e2:bH 1 (.ref 0 0 0 N N) (VI ((i+(n+2):Nat):Int)) (H3 us ws os)=some (.ptr 0 0 (i+(n+2)) 0):=by rw[aY Co (by omega),Nat.zero_add]
  have e1:bH 1 (.ref 0 0 0 N N) (VI ((i+(n+1):Nat):Int)) (H3 us ws os)=some (.ptr 0 0 (i+(n+1)) 0):=by rw[aY Co (by omega),Nat.zero_add]
  have l2:cI false 1 (.ptr 0 0 (i+(n+2)) 0) (H3 us ws os)=some (uV u2):=hJ Co hu2
  have l1:cI false 1 (.ptr 0 0 (i+(n+1)) 0) (H3 us ws os)=some (uV u1):=hJ Co hu1
  have wu2:IntKind.u64.wrap (u2:Int)=(u2:Int):=dT _ (by omega)
  have wu1:IntKind.u64.wrap (u1:Int)=(u1:Int):=dT _ (by omega)
  have ws2:=DO u2 .u64 lu2
  have wa:IntKind.u64.wrap (((u2*4294967296:Nat):Int)+(u1:Int))=((u2*4294967296+u1:Nat):Int):=by rw[←Int.natCast_add];exact dT _ (by omega)
  have q1:=Vv (u2*4294967296+u1) v1 (by omega) kH
  have q2:=Pz (u2*4294967296+u1) v1 kH
  simp only[nN,k8,k9,Yq,V3,HA,A8,Ce,hz,akJ,w1,w2,e1,e2,l1,l2,wu1,wu2,ws2,wa,q1,q2,VX,Nat.reduceEqDiff,Nat.reduceAdd]
  have hh:=Nat.mod_add_div (u2*4294967296+u1) v1
  have hml:=Nat.mod_lt (u2*4294967296+u1) kH
  have hdl:(u2*4294967296+u1) / v1≤u2*4294967296+u1:=Nat.div_le_self _ _
  have PW:val 4294967296 gU / val 4294967296 vs≤(u2*4294967296+u1) / v1:=by
   have t1:=(Dr (n:=n+1) (xs:=gU) PH (by omega) (by rw[uH _ (by omega)];exact hu2) (by rw[uH _ (by omega)];exact hu1)).2
   have t2:=(yQ (n:=n+1) GN EM f1).1
   rw[Nat.le_div_iff_mul_le kH]
   have t3:val 4294967296 gU / val 4294967296 vs*(v1*4294967296^(n+1))≤val 4294967296 gU / val 4294967296 vs*val 4294967296 vs:=Nat.mul_le_mul_left _ t2
   have t4:=Nat.div_mul_le_self (val 4294967296 gU) (val 4294967296 vs)
   have t5:val 4294967296 gU / val 4294967296 vs*v1*4294967296^(n+1)<(u2*4294967296+u1+1)*4294967296^(n+1):=by rw[Nat.mul_assoc];omega
   have:=Nat.lt_of_mul_lt_mul_right t5
   omega
  refine UC (k:=i+(n+2)) G PS (by omega) (by omega) Dq (by rw[show i+(n+2)-2=i+n by omega];exact hu0) k9 V3 HA (by rfl) (by rfl) (by rfl) (by rw[Nat.mul_comm ((u2*4294967296+u1) / v1)];omega) PW (by omega) (by omega) ?_
  intro Us g' hq MR hgW r17 r8 r9 r10 r11 r12 r13 r14 r15
  have QU:Us 15=VI ((i+(n+2):Nat):Int):=r15
  have r8':Us 8=VI s:=r8.trans k8
  have r9':Us 9 = .ref 0 0 0 N N:=r9.trans k9
  have alZ:Us 10 = .ref 1 0 0 (n+2) (n+3):=r10.trans Yq
  have akQ:Us 11=VK .u64 v1:=r11.trans V3
  have Q0:Us 12=VK .u64 v0:=r12.trans HA
  have Ql:Us 13 = .ref 2 0 0 m m:=r13.trans A8
  have Qq:Us 14=VI i:=r14.trans Ce
  have w3:IntKind.i64.wrap (((i+(n+2):Nat):Int)+1)=((i+(n+3):Nat):Int):=wrapN _ (by omega) (by omega)
  have Zx:Ej 1 (.ref 0 0 0 N N) (some (VI i)) (some (VI ((i+(n+3):Nat):Int))) none (H3 us ws os)=some (.ref 0 0 i (n+3) (N-i)):=by
   rw[ZM Co (by omega) (by omega),Nat.zero_add,Nat.add_sub_cancel_left]
  simp only[r8',r9',alZ,akQ,Q0,Ql,Qq,QU,r17,w3,Zx,VX,Nat.reduceEqDiff,Nat.reduceAdd]
  have qK:g'*val 4294967296 vs≤val 4294967296 gU+val 4294967296 vs:=by
   have:=Nat.mul_le_mul_right (val 4294967296 vs) MR
   rw[Nat.add_mul,Nat.one_mul] at this
   have:=Nat.div_mul_le_self (val 4294967296 gU) (val 4294967296 vs)
   omega
  refine gC rfl ((Tw (pre:=us.take i) (gU:=gU) (post:=us.drop (i+(n+2+1))) (L:=n+3) (o:=i) (by rw[←TX];exact Co) (aqK (us:=us) (ws:=ws) (os:=os)) (by decide) (Nat.zero_le _) yM OO (by omega) hws (by omega) (by omega) PH GN hgW qK).mono ?_)
  rintro r H' ⟨qR,rfl,Bf,Wn,hr⟩
  generalize afR:us.take i++qR++us.drop (i+(n+2+1))=Fi at *
  have G1:(H3 us ws os).set 0 (.row 0 (Fi.map uV) 1 true)=H3 Fi ws os:=rfl
  rw[G1]
  have akG:Fi.length=N:=by rw[←afR,List.length_append,List.length_append,yM,Bf,List.length_drop];omega
  have agK:∀d∈Fi,d<4294967296:=fun d hd=>by
   rw[←afR,List.mem_append,List.mem_append] at hd
   rcases hd with(hd | hd) | hd
   ·exact Iz d (List.mem_of_mem_take hd)
   ·exact Wn d hd
   ·exact Iz d (List.mem_of_mem_drop hd)
  have TP:Fi.drop i=qR++us.drop (i+(n+2+1)):=by rw[←afR,List.append_assoc,List.drop_append,List.drop_of_length_le (by omega),yM];simp
  have T6:Fi.take i=us.take i:=by rw[←afR,List.append_assoc,List.take_append_of_le_length (by omega),List.take_of_length_le (by omega)]
  have P7:val 4294967296 (Fi.drop i)=val 4294967296 qR:=by rw[TP,wR,ZZ,Nat.mul_zero,Nat.add_zero]
  have digit:∀q:Nat,q=val 4294967296 gU / val 4294967296 vs→val 4294967296 qR=val 4294967296 gU % val 4294967296 vs →
    val 4294967296 (Fi.drop i)<val 4294967296 vs∧val 4294967296 Fi+4294967296^i*val 4294967296 vs*val 4294967296 ((os.set i q).drop i)=A:=by
   rintro q SB hse
   have aeF:=Nat.mod_lt (val 4294967296 gU) Hp
   refine⟨by rw[P7,hse];exact aeF,?_⟩
   have h1:=Nat.div_add_mod (val 4294967296 gU) (val 4294967296 vs)
   rw[←SB,←hse,Nat.mul_comm] at h1
   have h2:=oL (b:=4294967296) us i
   have h3:=oL (b:=4294967296) Fi i
   rw[T6,yM,P7] at h3
   rw[yM,abE] at h2
   rw[set_drop (by omega),sE,h3]
   rw[h2,Nat.pow_succ] at hv
   exact KO h1.symm hv
  have e3:∀d:Nat,bH 1 (.ref 2 0 0 m m) (VI i) (H3 Fi ws os)=some (.ptr 2 0 i 0)∧bX 0 1 (.ptr 2 0 i 0) (uV d) (H3 Fi ws os)=some (H3 Fi ws (os.set i d)):=fun d=>by
   refine⟨by rw[aY agC (by omega),Nat.zero_add],?_⟩
   rw[fF (f:=uV) (e:=1) agC (by omega) (Nat.zero_le _) rfl rfl]
   rfl
  have wi:IntKind.i64.wrap ((i:Int)-1)=(i:Int)-1:=wrap64 (by omega) (by omega)
  rcases hr with⟨rfl,hr⟩ | ⟨rfl,Fy,hr2⟩
  ·have Ch:g'*val 4294967296 vs≤val 4294967296 gU:=by omega
   have SB:g'=val 4294967296 gU / val 4294967296 vs:=by
    have:=(Nat.le_div_iff_mul_le Hp).2 Ch
    omega
   have hse:val 4294967296 qR=val 4294967296 gU % val 4294967296 vs:=by
    have h1:=Nat.div_add_mod (val 4294967296 gU) (val 4294967296 vs)
    rw[←SB,Nat.mul_comm] at h1
    omega
   obtain⟨d1,d2⟩:=digit g' SB hse
   simp only[r8',r9',alZ,akQ,Q0,Ql,Qq,QU,r17,(e3 g').1,(e3 g').2,wi,wrap32,Nat.mod_eq_of_lt hgW,VX,Nat.reduceEqDiff,Nat.reduceAdd]
   exact⟨(i,Fi,os.set i g'),by simp only;omega,by omega,rfl,akG,agK,by rw[List.length_set];exact iO,lA kL hgW,d1,d2,by (repeat' apply And.intro)<;>first | rfl | trivial⟩
  ·have Zg:val 4294967296 gU / val 4294967296 vs<g':=(Nat.div_lt_iff_lt_mul Hp).2 Fy
   have hg1:1≤g':=Nat.lt_of_le_of_lt (Nat.zero_le _) Zg
   obtain⟨q,rfl⟩:∃q,g'=q+1:=⟨g'-1,by omega⟩
   have SB:q=val 4294967296 gU / val 4294967296 vs:=by omega
   have hse:val 4294967296 qR=val 4294967296 gU % val 4294967296 vs:=by
    have h1:=Nat.div_add_mod (val 4294967296 gU) (val 4294967296 vs)
    rw[←SB,Nat.mul_comm] at h1
    rw[Nat.add_mul,Nat.one_mul] at hr2
    omega
   have wq:IntKind.u64.wrap (((q+1:Nat):Int)-1)=(q:Int):=by rw[show ((q+1:Nat):Int)-1=(q:Int) by omega];exact dT _ (by omega)
   obtain⟨d1,d2⟩:=digit q SB hse
   simp only[r8',r9',alZ,akQ,Q0,Ql,Qq,QU,r17,wq,(e3 q).1,(e3 q).2,wi,wrap32,Nat.mod_eq_of_lt (show q<4294967296 by omega),VX,Nat.reduceEqDiff,Nat.reduceAdd]
   exact⟨(i,Fi,os.set i q),by simp only;omega,by omega,rfl,akG,agK,by rw[List.length_set];exact iO,lA kL (by omega),d1,d2,by (repeat' apply And.intro)<;>first | rfl | trivial⟩
 ·have T5:j=0:=by omega
  subst T5
  rw[List.drop_zero] at bA
  rw[Nat.pow_zero,Nat.one_mul,List.drop_zero] at hv
  simp only[nN,k8,k9,Yq,V3,HA,A8,Ce,hz,VX,Nat.reduceEqDiff,Nat.reduceAdd]
  exact hQ _ us os k8 k9 A8 PS Iz iO kL hv bA
end Go.PM
namespace Go.PM
theorem Lr {a n:Nat} (hn:(aC 4294967296 a).length=n+1):∃d,(aC 4294967296 a)[n]? = some d∧d≠0∧d<4294967296:=by
 obtain⟨d,hd⟩:∃d,(aC 4294967296 a)[n]? = some d:=⟨_,List.getElem?_eq_getElem (by omega)⟩
 refine⟨d,hd,fun h0 => ?_,fB (by decide) a d (List.mem_of_getElem? hd)⟩
 have:=Nw (b:=4294967296) (by decide) a
 rw[List.getLast?_eq_getElem?,hn,Nat.add_sub_cancel,hd,h0] at this
 exact this rfl
theorem Qv {a d:Nat} (h:aC 4294967296 a=[d]):a=d∧0<d∧d<4294967296:=by
 have h1:=cE (b:=4294967296) (by decide) a
 rw[h,val_one] at h1
 obtain⟨e,h2,h3,h4⟩:=Lr (a:=a) (n:=0) (by rw[h];rfl)
 rw[h] at h2
 cases h2
 exact⟨h1.symm,by omega,h4⟩
theorem yB (a b:Nat) (hb:b≠0) (ha:(aC 4294967296 a).length≤17592186044416) (sS:(aC 4294967296 b).length≤17592186044416):TC 183 [bM a,bM b] (.eY [bM (a / b),bM (a % b)]):=by
 refine TC.walk ⟨true,false⟩ G2 rfl (Nat.le_of_ble_eq_true rfl) (by simp[aL,bO]) (by simp[gZ,qZ,pT]) ?_
 have c1:=jE a b ha sS
 by_cases HC:eZ a b<0
 ·have bA:a<b:=by
   unfold eZ at HC
   split at HC
   ·assumption
   ·split at HC<;>omega
  simp only[rS,oW,c1,HC,VX,Nat.reduceEqDiff,Nat.reduceAdd]
  rw[Nat.div_eq_of_lt bA,Nat.mod_eq_of_lt bA]
  exact bN (d:=6) vW (aJ (bO a))
 have Ch:b≤a:=by
  unfold eZ at HC
  split at HC
  ·omega
  ·omega
 have hbn:(aC 4294967296 b).length≠0:=fun h=>hb ((kU (b:=4294967296) (by decide)).1 (List.length_eq_zero_iff.1 h))
 by_cases h1:(((aC 4294967296 b).length:Nat):Int)=1
 ·obtain⟨d,hd⟩:∃d,aC 4294967296 b=[d]:=by
   match hx:aC 4294967296 b with
   | []=>rw[hx] at hbn;exact absurd rfl hbn
   | [d]=>exact⟨d,rfl⟩
   | _::_::_=>rw[hx] at h1;simp at h1;omega
  obtain⟨rfl,C4,hdW⟩:=Qv hd
  have c2:=vF a b C4 hdW ha
  have e0:oC (bM b) []=some (VI 1):=by rw[bM,AO,dQ,hd];rfl
  have e1:bH 1 (bM b) (VI 0) []=some (.cV (uV b) 0):=by
   rw[bM,hd]
   exact aI (f:=uV) (t := .op) (H:=[]) (size:=1) (k := .i64) (xs:=[b]) (i:=0) rfl rfl
  have e2:=iJ (H:=[]) (z:=[.int .u32 0]) (v:=uV (a % b)) rfl rfl rfl
  have e3:=YI (size:=1) (v:=Value.int .u32 ((b:Nat):Int))
  simp only[rS,oW,c1,HC,e0,e1,c2,e2,VX,Nat.reduceEqDiff,Nat.reduceAdd]
  refine Km (ds:=[a % b]) (t := .cl 1) (fun d hd => ?_) (by show 1≤70368744177664;decide) (val_one _) fun t' ht => ?_
  ·rw[List.mem_singleton] at hd
   subst hd
   exact Nat.lt_of_lt_of_le (Nat.mod_lt _ C4) (Nat.le_of_lt hdW)
  ·simp only[VX,Nat.reduceEqDiff,Nat.reduceAdd]
   exact bN (d:=6) (aJ (bO _)) (aaB (d:=5) ht)
 obtain⟨n,hn⟩:∃n,(aC 4294967296 b).length=n+2:=⟨(aC 4294967296 b).length-2,by omega⟩
 obtain⟨t,ht,ht0,htW⟩:=Lr (a:=b) (n:=n+1) hn
 obtain⟨s,hs,cl,ZH⟩:=Um ht0 htW
 have hS:0<2^s:=Nat.pow_pos (by decide)
 have hSW:2^s*2^(32-s)=4294967296:=by rw[←Nat.pow_add,show s+(32-s)=32 by omega]
 have hla:=dU (b:=4294967296) (by decide) Ch
 have e0:oC (bM b) []=some (VI ((n+2:Nat):Int)):=by rw[bM,AO,dQ,hn]
 have w0:IntKind.i64.wrap (((n+2:Nat):Int)-1)=((n+1:Nat):Int):=wrapN _ (by omega) (by omega)
 have X7:¬(((n+2:Nat):Int)=1):=by omega
 have e1:bH 1 (bM b) (VI ((n+1:Nat):Int)) []=some (.cV (uV t) 0):=aI (f:=uV) (t := .op) (H:=[]) (size:=1) (k := .i64) ht rfl
 simp only[rS,oW,c1,HC,e0,X7,w0,e1,cl,VX,Nat.reduceEqDiff,Nat.reduceAdd]
 have fa:[bM a,VI (s:Int)].mapM (fz depth ([]:aA))=some [bM a,VI (s:Int)]:=fz2 (aF (bO a)) (aF rfl)
 refine FC.call (xX a s hs ha) rfl fa ?_
 rintro r L ⟨HI,rfl,rfl,hAl,hAd,hAv,hAt⟩
 simp only[VX,Nat.reduceEqDiff,Nat.reduceAdd]
 have fb:∀H:aA,[bM b,VI (s:Int)].mapM (fz depth H)=some [bM b,VI (s:Int)]:=fun H=>fz2 (aF (bO b)) (aF rfl)
 refine FC.call (xX b s hs sS) rfl (fb _) ?_
 rintro r L ⟨Ei,rfl,rfl,hBl,hBd,hBv,hBt⟩
 rw[hn] at hBl
 simp only[hn,List.length_singleton,VX,Nat.reduceEqDiff,Nat.reduceAdd]
 have amO:b*2^s<4294967296^(n+2):=by
  have h2:=(yQ (n:=n+1) (fB (b:=4294967296) (by decide) b) hn ht).2
  rw[cE (by decide)] at h2
  have h3:b*2^s<(t+1)*4294967296^(n+1)*2^s:=Nat.mul_lt_mul_of_pos_right h2 hS
  have h4:(t+1)*4294967296^(n+1)*2^s=(t+1)*2^s*4294967296^(n+1):=by grind
  have h5:(t+1)*2^s≤4294967296:=by
   have h6:t*2^s<2^(32-s)*2^s:=by rw[Nat.mul_comm (2^(32-s)),hSW];exact ZH
   have h7:=Nat.lt_of_mul_lt_mul_right h6
   have h8:(t+1)*2^s≤2^(32-s)*2^s:=Nat.mul_le_mul_right _ h7
   rwa [Nat.mul_comm (2^(32-s)),hSW] at h8
  have h9:(t+1)*2^s*4294967296^(n+1)≤4294967296*4294967296^(n+1):=Nat.mul_le_mul_right _ h5
  have h10:4294967296*4294967296^(n+1)=4294967296^(n+2):=by rw[Nat.pow_succ 4294967296 (n+1)];exact Nat.mul_comm _ _
  omega
 have hVl:(aC 4294967296 (b*2^s)).length=n+2:=by
  have h2:=lI (b:=4294967296) (by decide) amO
  have h3:b≤b*2^s:=Nat.le_mul_of_pos_right b hS
  have h4:=dU (b:=4294967296) (by decide) h3
  omega
 refine qT (rows:=Ei) (m:=b*2^s) (by rfl) (by omega) (by omega) (by omega) (fun d hd=>hBd d (List.mem_of_mem_take hd)) (by rw[List.take_of_length_le (by omega)];exact hBv) fun k hk he => ?_
 have hk2:k=n+2:=by
  have:=congrArg List.length he
  rw[hVl,List.length_take] at this
  omega
 subst hk2
 generalize PT:aC 4294967296 (b*2^s)=vs at *
 have GN:∀d∈vs,d<4294967296:=by rw[←PT];exact fB (by decide) _
 have MW:val 4294967296 vs=b*2^s:=by rw[←PT];exact cE (by decide) _
 obtain⟨v1,f1⟩:∃v1,vs[n+1]? = some v1:=⟨_,List.getElem?_eq_getElem (by omega)⟩
 obtain⟨v0,f0⟩:∃v0,vs[n]? = some v0:=⟨_,List.getElem?_eq_getElem (by omega)⟩
 have hv1:1≤v1:=by
  obtain⟨d,hd,C4,_⟩:=Lr (a:=b*2^s) (n:=n+1) (by rw[PT];exact hVl)
  rw[PT,f1] at hd
  cases hd
  omega
 have b1:Ei[n+1]? = some v1:=by rw[←f1,←he,List.getElem?_take_of_lt (by omega)]
 have b0:Ei[n]? = some v0:=by rw[←f0,←he,List.getElem?_take_of_lt (by omega)]
 have lv1:=GN v1 (List.mem_of_getElem? f1)
 have lv0:=GN v0 (List.mem_of_getElem? f0)
 have x1:bH 1 (.ref 1 0 0 (n+2) (n+2+1)) (VI ((n+1:Nat):Int)) [.row 0 (HI.map uV) 1 true,.row 0 (Ei.map uV) 1 true]=some (.ptr 1 0 (n+1) 0):=by rw[aY (by rfl) (by omega),Nat.zero_add]
 have x0:bH 1 (.ref 1 0 0 (n+2) (n+2+1)) (VI ((n:Nat):Int)) [.row 0 (HI.map uV) 1 true,.row 0 (Ei.map uV) 1 true]=some (.ptr 1 0 n 0):=by rw[aY (by rfl) (by omega),Nat.zero_add]
 have y1:cI false 1 (.ptr 1 0 (n+1) 0) [.row 0 (HI.map uV) 1 true,.row 0 (Ei.map uV) 1 true]=some (uV v1):=hJ (rows:=Ei) (g:=0) (w:=true) (by rfl) b1
 have y0:cI false 1 (.ptr 1 0 n 0) [.row 0 (HI.map uV) 1 true,.row 0 (Ei.map uV) 1 true]=some (uV v0):=hJ (rows:=Ei) (g:=0) (w:=true) (by rfl) b0
 have z0:oC (.ref 1 0 0 (n+2) (n+2+1)) [.row 0 (HI.map uV) 1 true,.row 0 (Ei.map uV) 1 true]=some (VI ((n+2:Nat):Int)):=dR (r:=(Ei.map uV,1,true)) (by rfl)
 have z1:oC (.ref 0 0 0 ((aC 4294967296 a).length+1) ((aC 4294967296 a).length+1)) [.row 0 (HI.map uV) 1 true,.row 0 (Ei.map uV) 1 true]=some (VI (((aC 4294967296 a).length+1:Nat):Int)):=dR (r:=(HI.map uV,1,true)) (by rfl)
 have w2:IntKind.i64.wrap (((n+2:Nat):Int)-2)=((n:Nat):Int):=wrapN _ (by omega) (by omega)
 have wv1:IntKind.u64.wrap (v1:Int)=(v1:Int):=dT _ (by omega)
 have wv0:IntKind.u64.wrap (v0:Int)=(v0:Int):=dT _ (by omega)
 obtain⟨m,hm⟩:∃m,m+(n+2)=(aC 4294967296 a).length+1:=⟨(aC 4294967296 a).length+1-(n+2),by omega⟩
 have wm:IntKind.i64.wrap ((((aC 4294967296 a).length+1:Nat):Int)-((n+2:Nat):Int))=(m:Int):=wrapN _ (by omega) (by omega)
 have wm1:IntKind.i64.wrap ((m:Int)-1)=(m:Int)-1:=wrap64 (by omega) (by omega)
 have mk:=Vu m 0 (by omega) (H:=[.row 0 (HI.map uV) 1 true,.row 0 (Ei.map uV) 1 true])
 have z2:oC (.ref 2 0 0 m m) (H3 HI Ei (List.replicate m 0))=some (VI m):=dR (r:=((List.replicate m 0).map uV,1,true)) (by rfl)
 simp only[w0,x1,x0,y1,y0,z0,z1,w2,wv1,wv0,wm,mk,z2,wm1,List.length_cons,List.length_nil,VX,Nat.reduceEqDiff,Nat.reduceAdd]
 have BW:val 4294967296 (HI.drop m)<val 4294967296 vs:=by
  obtain⟨d,hd⟩:∃d,HI[(aC 4294967296 a).length]? = some d:=⟨_,List.getElem?_eq_getElem (by omega)⟩
  have h2:=(yQ (b:=4294967296) (xs:=HI.drop m) (n:=n+1) (t:=d) (fun x hx=>hAd x (List.mem_of_mem_drop hx)) (by rw[List.length_drop];omega) (by rw[List.getElem?_drop,show m+(n+1)=(aC 4294967296 a).length by omega];exact hd)).2
  have h3:=hAt d hd
  have h4:=(yQ (n:=n+1) (fB (b:=4294967296) (by decide) b) hn ht).1
  rw[cE (by decide)] at h4
  have h5:(d+1)*4294967296^(n+1)≤2^s*4294967296^(n+1):=Nat.mul_le_mul_right _ h3
  have h6:1*4294967296^(n+1)≤t*4294967296^(n+1):=Nat.mul_le_mul_right _ (by omega)
  have h7:1*4294967296^(n+1)*2^s≤b*2^s:=Nat.mul_le_mul_right _ (by omega)
  rw[MW]
  rw[Nat.one_mul,Nat.mul_comm] at h7
  omega
 refine aaK (Ed:=HI) (ws:=Ei) (Yn:=List.replicate m 0) (vs:=vs) (N:=(aC 4294967296 a).length+1) (m:=m) (n:=n) (A:=a*2^s) (s:=s) hAl hm (by omega) hAd he hBl hVl GN f1 f0 hv1 hAv BW (by simp) (zY (by decide) _) (by rfl) (by rfl) (by rfl) (by rfl) (by rfl) (by rfl) (by rfl) ?_
 intro wB us os r8 r9 r13 PS Iz iO kL hv bA
 rw[MW] at hv bA
 have hq:val 4294967296 os=a / b:=by
  rw[←Nat.mul_div_mul_right a b hS,←hv,Nat.add_mul_div_left _ _ (by omega),Nat.div_eq_of_lt bA,Nat.zero_add]
 have hr:val 4294967296 us=a % b*2^s:=by
  rw[←Nat.mul_mod_mul_right,←hv,Nat.add_mul_mod_self_left,Nat.mod_eq_of_lt bA]
 simp only[r9,VX,Nat.reduceEqDiff,Nat.reduceAdd]
 refine qT (rows:=us) (m:=a % b*2^s) Co (by omega) (Nat.le_refl _) (by omega) (fun d hd=>Iz d (List.mem_of_mem_take hd)) (by rw[List.take_of_length_le (by omega)];exact hr) fun k hk he2 => ?_
 have z3:oC (.ref 0 0 0 k ((aC 4294967296 a).length+1)) (H3 us Ei os)=some (VI k):=dR Co
 simp only[z3,VX,Nat.reduceEqDiff,Nat.reduceAdd]
 refine X4 (us:=us) (k:=k) (N:=(aC 4294967296 a).length+1) (s:=s) (w0:=2^(32-s)) hs hSW PS hk (by omega) Iz r8 (by rfl) (by rfl) (by rfl) ?_
 intro Ns Fi q9 q13 akG agK YD
 have awZ:Ns 13 = .ref 2 0 0 m m:=q13.trans r13
 have CZ:val 4294967296 (Fi.take k)=a % b:=by
  rw[YD,he2,cE (by decide),Nat.mul_div_cancel _ hS]
 simp only[q9,awZ,VX,Nat.reduceEqDiff,Nat.reduceAdd]
 refine qT (rows:=os) (m:=a / b) agC (by omega) (Nat.le_refl _) (by omega) (fun d hd=>kL d (List.mem_of_mem_take hd)) (by rw[List.take_of_length_le (by omega)];exact hq) fun k2 hk2 he3 => ?_
 simp only[q9,VX,Nat.reduceEqDiff,Nat.reduceAdd]
 refine qT (rows:=Fi) (m:=a % b) Co (by omega) hk (by omega) (fun d hd=>agK d (List.mem_of_mem_take hd)) CZ fun k3 hk3 he4 => ?_
 simp only[VX,Nat.reduceEqDiff,Nat.reduceAdd]
 exact bN (d:=6) (J0 (d:=5) agC (by omega) hk2 he3) (J0 (d:=5) Co (by omega) (by omega) he4)
end Go.PM
namespace Go.PM
abbrev H2 (us os:List Nat):aA:=[.row 0 (us.map tV) 1 true,.row 0 (os.map tV) 1 true]
theorem TS {us os:List Nat}:aH (H2 us os) 0 0=some (us.map tV,1,true):=rfl
theorem aqM {us os:List Nat}:aH (H2 us os) 1 0=some (os.map tV,1,true):=rfl
theorem agO {P a Z:Nat} {y:Int} (h:(a:Int)+(P:Int)*y=(Z:Int)) (ha:a<P) (hZ:Z<P):y=0∧a=Z:=by
 have hy:y=0:=by
  rcases Int.lt_trichotomy y 0 with h1 | h1 | h1
  ·have:(P:Int)*y≤(P:Int)*(-1):=Int.mul_le_mul_of_nonneg_left (by omega) (by omega)
   omega
  ·exact h1
  ·have:(P:Int)*1≤(P:Int)*y:=Int.mul_le_mul_of_nonneg_left (by omega) (by omega)
   omega
 subst hy
 rw[Int.mul_zero] at h
 exact⟨rfl,by omega⟩
theorem Ui {us:List Nat} {i n N V:Nat} (hN:us.length=N) (cP:i+n<N) (hd:∀d∈us,d<1000000000) (hV:V<1000000000^n) (BW:val 1000000000 (us.drop (i+1))<V) :
  us=us.take i++(us.drop i).take (n+1)++us.drop (i+(n+1))∧(us.take i).length=i∧((us.drop i).take (n+1)).length=n+1∧val 1000000000 ((us.drop i).take (n+1))<1000000000*V∧val 1000000000 (us.drop i)=val 1000000000 ((us.drop i).take (n+1))∧val 1000000000 (us.drop (i+(n+1)))=0∧∀j,j<n+1→((us.drop i).take (n+1))[j]? = us[i+j]? := by
 obtain⟨x,hx⟩:∃x,us[i]? = some x:=⟨_,List.getElem?_eq_getElem (by omega)⟩
 have lx:=hd x (List.mem_of_getElem? hx)
 have h1:=sL (b:=1000000000) hx
 have h2:val 1000000000 (us.drop i)<1000000000*V:=by
  have:1000000000*(val 1000000000 (us.drop (i+1))+1)≤1000000000*V:=Nat.mul_le_mul_left _ BW
  omega
 have h3:=oL (b:=1000000000) (us.drop i) (n+1)
 have h4:((us.drop i).take (n+1)).length=n+1:=by rw[List.length_take,List.length_drop];omega
 rw[h4,List.drop_drop] at h3
 have h5:val 1000000000 (us.drop (i+(n+1)))=0:=by
  rcases Nat.eq_zero_or_pos (val 1000000000 (us.drop (i+(n+1)))) with h | h
  ·exact h
  ·have h6:1000000000^(n+1)*1≤1000000000^(n+1)*val 1000000000 (us.drop (i+(n+1))):=Nat.mul_le_mul_left _ h
   have h7:1000000000*V≤1000000000^(n+1):=by rw[Nat.pow_succ,Nat.mul_comm];exact Nat.mul_le_mul_right _ (by omega)
   omega
 rw[h5,Nat.mul_zero,Nat.add_zero] at h3
 refine⟨?_,by rw[List.length_take];omega,h4,by omega,h3,h5,fun j hj => ?_⟩
 ·rw[List.append_assoc,←List.drop_drop,List.take_append_drop,List.take_append_drop]
 ·rw[List.getElem?_take_of_lt hj,List.getElem?_drop]
theorem leT {g:Nat} (h:(1000000000:Int)≤(g:Int)):1000000000≤g:=by omega
theorem acN {g:Nat} (h:¬(1000000000:Int)≤(g:Int)):g<1000000000:=by omega
theorem ltC {a b:Nat} (h:(a:Int)<(b:Int)):a<b:=by omega
theorem atW {a b:Nat} (h:¬(a:Int)<(b:Int)):b≤a:=by omega
theorem Ob {a:Nat} (h:a*1000000000≤9223372036854775807):IntKind.i64.wrap ((a:Int)*1000000000)=((a*1000000000:Nat):Int):=wrapN _ (by omega) h
theorem Nv {a b:Nat} (h:a+b≤9223372036854775807):IntKind.i64.wrap ((a:Int)+(b:Int))=((a+b:Nat):Int):=wrapN _ (by omega) h
theorem WD {a b:Nat} (h:a*b≤9223372036854775807):IntKind.i64.wrap ((a:Int)*(b:Int))=((a*b:Nat):Int):=wrapN _ (by simp) h
theorem x17 {a:Nat} (h:a<1000000000):a*1000000000≤9223372036854775807:=by omega
theorem x18 {a b:Nat} (h:a<1000000000) (hb:b<1000000000):a*1000000000+b≤1000000000000000000:=by omega
theorem RT {gU vs us os:List Nat} {n u2 u1 u0 v1 v0 N i g left:Nat} (G:vK 1000000000 gU vs n u2 u1 u0 v1 v0) {ρ:dG} {Q:VQ} (hN:us.length=N) (hiN:i+(n+2)<N) (Dq:N≤70368744177664) (hu0:us[i+n]? = some u0)
  (g13:ρ 13 = .ref 0 0 0 N N) (g14:ρ 14=gR vs) (g15:ρ 15=VI ((n+2:Nat):Int)) (g17:ρ 17=VI i) (g19:ρ 19=VI g) (g20:ρ 20=VI left) (hh:u2*1000000000+u1=g*v1+left) (hq:val 1000000000 gU / val 1000000000 vs≤g) (hl:left<1000000000) (hgb:g≤1000000000000000000)
  (hQ:∀(bC:dG) (g':Nat),val 1000000000 gU / val 1000000000 vs≤g'→g'≤val 1000000000 gU / val 1000000000 vs+1→g'<1000000000→bC 19=VI g'→bC 12=ρ 12→bC 13=ρ 13→bC 14=ρ 14→bC 15=ρ 15→bC 16=ρ 16→bC 17=ρ 17→Q (.exit 2) bC (H2 us os)) :
  VW ⟨true,false⟩ 0 (.loop fZ) Q ρ (H2 us os):=by
 have lv1:=G.VM
 have lv0:=G.YE
 have lu0:=G.aiD
 have qlt:=G.aeK
 have kH:=G.pos
 have EM:=G.La
 refine aQ (fun(t:Nat×Nat) bC H=>H=H2 us os∧u2*1000000000+u1=t.1*v1+t.2∧val 1000000000 gU / val 1000000000 vs≤t.1∧t.2<1000000000∧t.1≤1000000000000000000 ∧
  bC 13 = .ref 0 0 0 N N∧bC 14=gR vs∧bC 15=VI ((n+2:Nat):Int)∧bC 17=VI i∧bC 19=VI t.1∧bC 20=VI t.2∧bC 12=ρ 12∧bC 16=ρ 16) (fun t=>1000000000-t.2) (g,left) ⟨rfl,hh,hq,hl,hgb,g13,g14,g15,g17,g19,g20,rfl,rfl⟩ ?_
 rintro⟨g,left⟩ Ns H ⟨rfl,hh,hq,hl,hgb,A8,Ce,JX,Ik,k19,k20,HA,k16⟩
 simp only at hh hq hl hgb k19 k20
 have f1:bH 1 (gR vs) (VI ((n+1:Nat):Int)) (H2 us os)=some (.cV (tV v1) 0):=aI (f:=tV) (t := .op) (size:=1) (k := .i64) G.f1 rfl
 have f0:bH 1 (gR vs) (VI (n:Int)) (H2 us os)=some (.cV (tV v0) 0):=aI (f:=tV) (t := .op) (size:=1) (k := .i64) G.f0 rfl
 have wn2:IntKind.i64.wrap (((n+2:Nat):Int)-2)=(n:Int):=wrapN _ (by omega) (by omega)
 have wn1:IntKind.i64.wrap (((n+2:Nat):Int)-1)=((n+1:Nat):Int):=wrapN _ (by omega) (by omega)
 have wi:IntKind.i64.wrap ((i:Int)+((n+2:Nat):Int))=((i+(n+2):Nat):Int):=wrapN _ (by omega) (by omega)
 have wi2:IntKind.i64.wrap (((i+(n+2):Nat):Int)-2)=((i+n:Nat):Int):=wrapN _ (by omega) (by omega)
 have e1:bH 1 (.ref 0 0 0 N N) (VI ((i+n:Nat):Int)) (H2 us os)=some (.ptr 0 0 (i+n) 0):=by rw[aY TS (by omega),Nat.zero_add]
 have e2:cI false 1 (.ptr 0 0 (i+n) 0) (H2 us os)=some (VI (u0:Int)):=L4 TS hu0
 have wl:IntKind.i64.wrap ((left:Int)+(v1:Int))=((left+v1:Nat):Int):=wrapN _ (by omega) (by omega)
 have down:val 1000000000 gU / val 1000000000 vs<g→∃g',g=g'+1∧IntKind.i64.wrap ((g:Int)-1)=(g':Int)∧u2*1000000000+u1=g'*v1+(left+v1)∧val 1000000000 gU / val 1000000000 vs≤g':=by
  intro h
  have hg1:1≤g:=Nat.lt_of_le_of_lt (Nat.zero_le _) h
  obtain⟨g',rfl⟩:∃g',g=g'+1:=⟨g-1,by omega⟩
  refine⟨g',rfl,wrapN _ (by omega) (by omega),?_,by omega⟩
  rw[hh,Nat.add_mul]
  omega
 have hmu:∀g':Nat,left+v1<1000000000→1000000000-(g',left+v1).2<1000000000-(g,left).2:=fun g' h=>by
  show 1000000000-(left+v1)<1000000000-left
  omega
 have hle:∀g':Nat,g=g'+1→g'≤1000000000000000000:=fun g' h=>by
  omega
 have avP:left*1000000000+u0≤9223372036854775807:=Nat.le_trans (x18 hl lu0) (by decide)
 have axR:left*1000000000≤9223372036854775807:=x17 hl
 have ws:IntKind.i64.wrap ((left:Int)*1000000000)=((left*1000000000:Nat):Int):=Ob axR
 have wa:IntKind.i64.wrap (((left*1000000000:Nat):Int)+(u0:Int))=((left*1000000000+u0:Nat):Int):=Nv avP
 obtain⟨s13,s14,s15,s17⟩:Ns 13=ρ 13∧Ns 14=ρ 14∧Ns 15=ρ 15∧Ns 17=ρ 17:=⟨by rw[A8,g13],by rw[Ce,g14],by rw[JX,g15],by rw[Ik,g17]⟩
 by_cases hA:(1000000000:Int)≤(g:Int)
 ·have hA':=leT hA
  obtain⟨g',ZT,wg,T7,MR⟩:=down (Nat.lt_of_lt_of_le qlt hA')
  by_cases hB:(1000000000:Int)≤((left+v1:Nat):Int)
  ·obtain⟨c1,c2⟩:=G.broken T7 (leT hB)
   simp only[fZ,A8,Ce,JX,Ik,k19,k20,hA,hB,f1,wn1,wg,wl,VX,Nat.reduceEqDiff,Nat.reduceAdd]
   exact hQ _ g' MR (G.Xi T7 (Nat.le_of_lt c1) c2) c1 rfl HA s13 s14 s15 k16 s17
  ·simp only[fZ,A8,Ce,JX,Ik,k19,k20,hA,hB,f1,wn1,wg,wl,VX,Nat.reduceEqDiff,Nat.reduceAdd]
   refine⟨(g',left+v1),hmu g' (acN hB),T7,MR,acN hB,hle g' ZT,?_⟩
   exact⟨rfl,rfl,HA,k16⟩
 ·have hA':=acN hA
  have hgv:g*v0≤999999999*999999999:=Nat.mul_le_mul (Nat.le_of_lt_succ hA') (Nat.le_of_lt_succ lv0)
  have wm:IntKind.i64.wrap ((g:Int)*(v0:Int))=((g*v0:Nat):Int):=WD (Nat.le_trans hgv (by decide))
  by_cases hT:((left*1000000000+u0:Nat):Int)<((g*v0:Nat):Int)
  ·obtain⟨g',ZT,wg,T7,MR⟩:=down (G.too hh (ltC hT))
   by_cases hB:(1000000000:Int)≤((left+v1:Nat):Int)
   ·obtain⟨c1,c2⟩:=G.broken T7 (leT hB)
    simp only[fZ,A8,Ce,JX,Ik,k19,k20,hA,hB,hT,f1,f0,e1,e2,wn1,wn2,wi,wi2,ws,wa,wm,wg,wl,VX,Nat.reduceEqDiff,Nat.reduceAdd]
    exact hQ _ g' MR (G.Xi T7 (Nat.le_of_lt c1) c2) c1 rfl HA s13 s14 s15 k16 s17
   ·simp only[fZ,A8,Ce,JX,Ik,k19,k20,hA,hB,hT,f1,f0,e1,e2,wn1,wn2,wi,wi2,ws,wa,wm,wg,wl,VX,Nat.reduceEqDiff,Nat.reduceAdd]
    refine⟨(g',left+v1),hmu g' (acN hB),T7,MR,acN hB,hle g' ZT,?_⟩
    exact⟨rfl,rfl,HA,k16⟩
  ·simp only[fZ,A8,Ce,JX,Ik,k19,k20,hA,hT,f0,e1,e2,wn2,wi,wi2,ws,wa,wm,VX,Nat.reduceEqDiff,Nat.reduceAdd]
   exact hQ _ g hq (G.Xi hh (Nat.le_of_lt hA') (atW hT)) hA' k19 HA s13 s14 s15 k16 s17
theorem NN {Ed Yn vs:List Nat} {N m n v1 v0 A s:Nat} {ρ:dG} {Q:VQ} (hN:Ed.length=N) (hm:m+(n+2)=N) (Dq:N≤70368744177664) (Iz:∀d∈Ed,d<1000000000) (EM:vs.length=n+2) (GN:∀d∈vs,d<1000000000) (f1:vs[n+1]? = some v1) (f0:vs[n]? = some v0) (kH:1≤v1)
  (hA:val 1000000000 Ed=A) (BW:val 1000000000 (Ed.drop m)<val 1000000000 vs) (iO:Yn.length=m) (kL:∀d∈Yn,d<1000000000)
  (g12:ρ 12=VI s) (g13:ρ 13 = .ref 0 0 0 N N) (g14:ρ 14=gR vs) (g15:ρ 15=VI ((n+2:Nat):Int)) (g16:ρ 16 = .ref 1 0 0 m m) (g17:ρ 17=VI ((m:Int)-1))
  (hQ:∀(bC:dG) (us os:List Nat),bC 12=VI s→bC 13 = .ref 0 0 0 N N→bC 16 = .ref 1 0 0 m m→us.length=N→(∀d∈us,d<1000000000)→os.length=m→(∀d∈os,d<1000000000)→val 1000000000 us+val 1000000000 vs*val 1000000000 os=A→val 1000000000 us<val 1000000000 vs→Q (.exit 0) bC (H2 us os)) :
  VW ⟨true,false⟩ 0 (.loop iB) Q ρ (H2 Ed Yn):=by
 have hVb:=oI GN
 rw[EM] at hVb
 refine aQ (fun(t:Nat×List Nat×List Nat) bC H=>t.1≤m∧H=H2 t.2.1 t.2.2∧t.2.1.length=N∧(∀d∈t.2.1,d<1000000000)∧t.2.2.length=m∧(∀d∈t.2.2,d<1000000000)∧val 1000000000 (t.2.1.drop t.1)<val 1000000000 vs∧val 1000000000 t.2.1+1000000000^t.1*val 1000000000 vs*val 1000000000 (t.2.2.drop t.1)=A ∧
  bC 12=VI s∧bC 13 = .ref 0 0 0 N N∧bC 14=gR vs∧bC 15=VI ((n+2:Nat):Int)∧bC 16 = .ref 1 0 0 m m∧bC 17=VI ((t.1:Int)-1)) (fun t=>t.1) (m,Ed,Yn) ⟨Nat.le_refl _,rfl,hN,Iz,iO,kL,BW,by rw[List.drop_of_length_le (by simp only;omega)];simpa[val] using hA,g12,g13,g14,g15,g16,g17⟩ ?_
 rintro⟨j,us,os⟩ Ns H ⟨hj,rfl,PS,Iz,iO,kL,bA,hv,HA,A8,Ce,JX,k16,Ik⟩
 simp only at hj PS Iz iO kL bA hv Ik
 by_cases hz:(0:Int)≤(j:Int)-1
 ·obtain⟨i,rfl⟩:∃i,j=i+1:=⟨j-1,by omega⟩
  have Ec:((i+1:Nat):Int)-1=(i:Int):=by omega
  rw[Ec] at Ik hz
  obtain⟨TX,yM,OO,hsW,abE,ZZ,uH⟩:=Ui (n:=n+2) PS (by omega) Iz hVb bA
  generalize Yf:(us.drop i).take (n+2+1)=gU at *
  have PH:∀d∈gU,d<1000000000:=fun d hd=>by rw[←Yf] at hd;exact Iz d (List.mem_of_mem_drop (List.mem_of_mem_take hd))
  obtain⟨u2,hu2⟩:∃u2,us[i+(n+2)]? = some u2:=⟨_,List.getElem?_eq_getElem (by omega)⟩
  obtain⟨u1,hu1⟩:∃u1,us[i+(n+1)]? = some u1:=⟨_,List.getElem?_eq_getElem (by omega)⟩
  obtain⟨u0,hu0⟩:∃u0,us[i+n]? = some u0:=⟨_,List.getElem?_eq_getElem (by omega)⟩
  have G:vK 1000000000 gU vs n u2 u1 u0 v1 v0:=⟨by decide,PH,GN,OO,EM,by rw[uH _ (by omega)];exact hu2,by rw[uH _ (by omega)];exact hu1,by rw[uH _ (by omega)];exact hu0,f1,f0,kH,hsW⟩
  have lu2:=G.aiA
  have lu1:=G.YM
  have lv1:=G.VM
  have qlt:=G.aeK
  have Hp:=G.Hp
  have w1:IntKind.i64.wrap ((i:Int)+((n+2:Nat):Int))=((i+(n+2):Nat):Int):=wrapN _ (by omega) (by omega)
  have w2:IntKind.i64.wrap (((i+(n+2):Nat):Int)-1)=((i+(n+1):Nat):Int):=wrapN _ (by omega) (by omega)
  have wn1:IntKind.i64.wrap (((n+2:Nat):Int)-1)=((n+1:Nat):Int):=wrapN _ (by omega) (by omega)
  have ev1:bH 1 (gR vs) (VI ((n+1:Nat):Int)) (H2 us os)=some (.cV (tV v1) 0):=aI (f:=tV) (t := .op) (size:=1) (k := .i64) f1 rfl
  have e2:bH 1 (.ref 0 0 0 N N) (VI ((i+(n+2):Nat):Int)) (H2 us os)=some (.ptr 0 0 (i+(n+2)) 0):=by rw[aY TS (by omega),Nat.zero_add]
  have e1:bH 1 (.ref 0 0 0 N N) (VI ((i+(n+1):Nat):Int)) (H2 us os)=some (.ptr 0 0 (i+(n+1)) 0):=by rw[aY TS (by omega),Nat.zero_add]
  have l2:cI false 1 (.ptr 0 0 (i+(n+2)) 0) (H2 us os)=some (VI (u2:Int)):=L4 TS hu2
  have l1:cI false 1 (.ptr 0 0 (i+(n+1)) 0) (H2 us os)=some (VI (u1:Int)):=L4 TS hu1
  have awD:u2*1000000000+u1≤1000000000000000000:=x18 lu2 lu1
  have auW:u2*1000000000≤9223372036854775807:=x17 lu2
  have anY:u2*1000000000+u1≤9223372036854775807:=Nat.le_trans awD (by decide)
  have ws2:IntKind.i64.wrap ((u2:Int)*1000000000)=((u2*1000000000:Nat):Int):=Ob auW
  have wa:IntKind.i64.wrap (((u2*1000000000:Nat):Int)+(u1:Int))=((u2*1000000000+u1:Nat):Int):=Nv anY
  have q1:=JP (u2*1000000000+u1) v1 anY kH
  have q2:=LC (u2*1000000000+u1) v1 kH
  simp only[iB,HA,A8,Ce,JX,k16,Ik,hz,w1,w2,wn1,ev1,e1,e2,l1,l2,ws2,wa,q1,q2,VX,Nat.reduceEqDiff,Nat.reduceAdd]
  clear ws2 wa q1 q2 e1 e2 l1 l2 ev1 w1 w2 wn1
  have hh:=Nat.mod_add_div (u2*1000000000+u1) v1
  have hml:=Nat.mod_lt (u2*1000000000+u1) kH
  have hdl:(u2*1000000000+u1) / v1≤u2*1000000000+u1:=Nat.div_le_self _ _
  have PW:val 1000000000 gU / val 1000000000 vs≤(u2*1000000000+u1) / v1:=by
   have t1:=(Dr (n:=n+1) (xs:=gU) PH (by omega) (by rw[uH _ (by omega)];exact hu2) (by rw[uH _ (by omega)];exact hu1)).2
   have t2:=(yQ (n:=n+1) GN EM f1).1
   rw[Nat.le_div_iff_mul_le kH]
   have t3:val 1000000000 gU / val 1000000000 vs*(v1*1000000000^(n+1))≤val 1000000000 gU / val 1000000000 vs*val 1000000000 vs:=Nat.mul_le_mul_left _ t2
   have t4:=Nat.div_mul_le_self (val 1000000000 gU) (val 1000000000 vs)
   have t5:val 1000000000 gU / val 1000000000 vs*v1*1000000000^(n+1)<(u2*1000000000+u1+1)*1000000000^(n+1):=by rw[Nat.mul_assoc];omega
   have:=Nat.lt_of_mul_lt_mul_right t5
   omega
  generalize hQ1:(u2*1000000000+u1) / v1=g0 at *
  generalize hQ2:(u2*1000000000+u1) % v1=l0 at *
  refine RT (i:=i) G PS (by omega) Dq hu0 A8 Ce JX Ik (by rfl) (by rfl) (by rw[Nat.mul_comm g0];omega) PW (by omega) (by omega) ?_
  intro Us g' hq MR hgW r19 r12 r13 r14 r15 r16 r17
  have Q0:Us 12=VI s:=r12.trans HA
  have Ql:Us 13 = .ref 0 0 0 N N:=r13.trans A8
  have Qq:Us 14=gR vs:=r14.trans Ce
  have QU:Us 15=VI ((n+2:Nat):Int):=r15.trans JX
  have afN:Us 16 = .ref 1 0 0 m m:=r16.trans k16
  have aeM:Us 17=VI i:=r17.trans Ik
  simp only[Q0,Ql,Qq,QU,afN,aeM,r19,VX,Nat.reduceEqDiff,Nat.reduceAdd]
  have qK:g'*val 1000000000 vs≤val 1000000000 gU+val 1000000000 vs:=by
   have:=Nat.mul_le_mul_right (val 1000000000 vs) MR
   rw[Nat.add_mul,Nat.one_mul] at this
   have:=Nat.div_mul_le_self (val 1000000000 gU) (val 1000000000 vs)
   omega
  obtain⟨low,ajR⟩:∃low,low=gU.take (n+2):=⟨_,rfl⟩
  have hll:low.length=n+2:=by rw[ajR,List.length_take];omega
  have ZU:∀d∈low,d<1000000000:=fun d hd=>PH d (by rw[ajR] at hd;exact List.mem_of_mem_take hd)
  have hsg:gU=low++[u2]:=by
   have h1:gU[n+2]? = some u2:=by rw[uH _ (by omega)];exact hu2
   have h2:=List.take_append_drop (n+2) gU
   have h3:=(List.getElem?_eq_some_iff.1 h1)
   rw[List.drop_eq_getElem_cons h3.1,h3.2,List.drop_of_length_le (by omega),←ajR] at h2
   exact h2.symm
  have PT:val 1000000000 gU=val 1000000000 low+1000000000^(n+2)*u2:=by rw[hsg,rN,hll]
  have pL:∀(lw:List Nat) (t:Nat),(us.take i).map tV++lw.map tV++VI (t:Int)::(us.drop (i+(n+2+1))).map tV=(us.take i++(lw++[t])++us.drop (i+(n+2+1))).map tV:=fun lw t=>by simp
  have sN:aH (H2 us os) 0 0=some ((us.take i).map tV++low.map tV++VI (u2:Int)::(us.drop (i+(n+2+1))).map tV,1,true):=by
   rw[pL,←hsg,←TX]
   rfl
  refine gC rfl ((XX (o:=i) (n:=n+2) sN (Nat.zero_le _) (by simpa using yM) hll EM (by omega) Dq ZU GN hgW lu2).mono ?_)
  rintro r H' ⟨AD,c,rfl,Bf,Wn,hc,hr,hE⟩
  have azV:val 1000000000 low<1000000000^(n+2):=by have:=oI ZU;rwa [hll] at this
  have auV:val 1000000000 AD<1000000000^(n+2):=by have:=oI Wn;rwa [Bf] at this
  have rows:∀(lw:List Nat) (t q:Nat),lw.length=n+2→(∀d∈lw,d<1000000000)→t<1000000000→q=val 1000000000 gU / val 1000000000 vs→val 1000000000 lw+1000000000^(n+2)*t=val 1000000000 gU % val 1000000000 vs →
    ((us.take i++(lw++[t])++us.drop (i+(n+2+1))).length=N∧(∀d∈us.take i++(lw++[t])++us.drop (i+(n+2+1)),d<1000000000)∧val 1000000000 ((us.take i++(lw++[t])++us.drop (i+(n+2+1))).drop i)<val 1000000000 vs∧val 1000000000 (us.take i++(lw++[t])++us.drop (i+(n+2+1)))+1000000000^i*val 1000000000 vs*val 1000000000 ((os.set i q).drop i)=A):=by
   intro lw t q hlw avE ht SB hse
   have ahH:val 1000000000 (lw++[t])=val 1000000000 gU % val 1000000000 vs:=by rw[rN,hlw];exact hse
   have atX:(lw++[t]).length=n+3:=by rw[List.length_append,hlw];rfl
   have avK:∀d∈lw++[t],d<1000000000:=fun d hd=>by
    rcases List.mem_append.1 hd with h | h
    ·exact avE d h
    ·rw[List.mem_singleton.1 h];exact ht
   generalize lw++[t]=qR at *
   have aeF:=Nat.mod_lt (val 1000000000 gU) Hp
   have TP:(us.take i++qR++us.drop (i+(n+2+1))).drop i=qR++us.drop (i+(n+2+1)):=by rw[List.append_assoc,List.drop_append,List.drop_of_length_le (by omega),yM];simp
   have T6:(us.take i++qR++us.drop (i+(n+2+1))).take i=us.take i:=by rw[List.append_assoc,List.take_append_of_le_length (by omega),List.take_of_length_le (by omega)]
   have P7:val 1000000000 ((us.take i++qR++us.drop (i+(n+2+1))).drop i)=val 1000000000 qR:=by rw[TP,wR,ZZ,Nat.mul_zero,Nat.add_zero]
   refine⟨by rw[List.length_append,List.length_append,yM,atX,List.length_drop];omega,fun d hd => ?_,by rw[P7,ahH];exact aeF,?_⟩
   ·rw[List.mem_append,List.mem_append] at hd
    rcases hd with(hd | hd) | hd
    ·exact Iz d (List.mem_of_mem_take hd)
    ·exact avK d hd
    ·exact Iz d (List.mem_of_mem_drop hd)
   ·have h1:=Nat.div_add_mod (val 1000000000 gU) (val 1000000000 vs)
    rw[←SB,←ahH,Nat.mul_comm] at h1
    have h2:=oL (b:=1000000000) us i
    have h3:=oL (b:=1000000000) (us.take i++qR++us.drop (i+(n+2+1))) i
    rw[T6,yM,P7] at h3
    rw[yM,abE] at h2
    rw[set_drop (by omega),sE,h3]
    rw[h2,Nat.pow_succ] at hv
    exact KO h1.symm hv
  have e3:∀(Fi:List Nat) (d:Nat),bH 1 (.ref 1 0 0 m m) (VI i) (H2 Fi os)=some (.ptr 1 0 i 0)∧bX 0 1 (.ptr 1 0 i 0) (VI (d:Int)) (H2 Fi os)=some (H2 Fi (os.set i d)):=fun Fi d=>by
   refine⟨by rw[aY aqM (by omega),Nat.zero_add],?_⟩
   rw[show VI (d:Int)=tV d from rfl,fF (f:=tV) (e:=1) aqM (by omega) (Nat.zero_le _) rfl rfl]
   rfl
  have wi:IntKind.i64.wrap ((i:Int)-1)=(i:Int)-1:=wrap64 (by omega) (by omega)
  have hdm:=Nat.div_add_mod (val 1000000000 gU) (val 1000000000 vs)
  have aeF:=Nat.mod_lt (val 1000000000 gU) Hp
  generalize hPP:1000000000^(n+2)=P at *
  by_cases lU:(u2:Int)-(c:Int)<0
  ·
   rw[decide_eq_true lU] at hr
   subst hr
   have hgt:val 1000000000 gU<g'*val 1000000000 vs:=by
    have h1:P*(u2+1)≤P*c:=Nat.mul_le_mul_left _ (by omega)
    rw[Nat.mul_add,Nat.mul_one] at h1
    omega
   have SB:g'=val 1000000000 gU / val 1000000000 vs+1:=by
    rcases Nat.lt_or_ge (val 1000000000 gU / val 1000000000 vs) g' with h | h
    ·omega
    ·have h1:g'*val 1000000000 vs≤val 1000000000 gU / val 1000000000 vs*val 1000000000 vs:=Nat.mul_le_mul_right _ h
     have:=Nat.div_mul_le_self (val 1000000000 gU) (val 1000000000 vs)
     omega
   have hg1:1≤g':=by rw[SB];exact Nat.le_add_left 1 _
   have wg:IntKind.i64.wrap ((g':Int)-1)=((g'-1:Nat):Int):=wrapN _ (by omega) (by omega)
   simp only[Q0,Ql,Qq,QU,afN,aeM,r19,wg,VX,Nat.reduceEqDiff,Nat.reduceAdd]
   have Fy:aH ((H2 us os).set 0 (.row 0 ((us.take i).map tV++AD.map tV++VI ((u2:Int)-(c:Int))::(us.drop (i+(n+2+1))).map tV) 1 true)) 0 0=some ((us.take i).map tV++AD.map tV++VI ((u2:Int)-(c:Int))::(us.drop (i+(n+2+1))).map tV,1,true):=rfl
   refine gC rfl ((X8 (o:=i) (n:=n+2) Fy (Nat.zero_le _) (by simpa using yM) Bf EM (by omega) Dq Wn GN (by omega) (by omega)).mono ?_)
   rintro r H' ⟨Tl,c2,rfl,Gs,hd2,Z7,hE2⟩
   rw[hPP] at hE2
   have ajZ:val 1000000000 Tl<P:=by have:=oI hd2;rwa [Gs,hPP] at this
   obtain⟨hy,hZ⟩:(u2:Int)-(c:Int)+(c2:Int)=0∧val 1000000000 Tl=val 1000000000 gU % val 1000000000 vs:=by
    refine agO (P:=P) ?_ ajZ (by omega)
    have i1:(P:Int)*((u2:Int)-(c:Int)+(c2:Int))=(P:Int)*u2-(P:Int)*c+(P:Int)*c2:=by rw[Int.mul_add,Int.mul_sub]
    have i2:((P*u2:Nat):Int)=(P:Int)*u2:=by simp
    have i3:((P*c:Nat):Int)=(P:Int)*c:=by simp
    have i4:((P*c2:Nat):Int)=(P:Int)*c2:=by simp
    rw[i1,←i2,←i3,←i4]
    have i5:g'*val 1000000000 vs=val 1000000000 vs*(val 1000000000 gU / val 1000000000 vs)+val 1000000000 vs:=by rw[SB,Nat.add_mul,Nat.one_mul,Nat.mul_comm (val 1000000000 vs)]
    omega
   have G1:((H2 us os).set 0 (.row 0 ((us.take i).map tV++AD.map tV++VI ((u2:Int)-(c:Int))::(us.drop (i+(n+2+1))).map tV) 1 true)).set 0 (.row 0 ((us.take i).map tV++Tl.map tV++VI ((u2:Int)-(c:Int)+(c2:Int))::(us.drop (i+(n+2+1))).map tV) 1 true)=H2 (us.take i++(Tl++[0])++us.drop (i+(n+2+1))) os:=by
    rw[hy]
    rw[show (0:Int)=((0:Nat):Int) from rfl,pL]
    rfl
   rw[G1]
   obtain⟨x1,x2⟩:=e3 (us.take i++(Tl++[0])++us.drop (i+(n+2+1))) (g'-1)
   obtain⟨y1,y2,y3,y4⟩:=rows Tl 0 (g'-1) Gs hd2 (by decide) (by rw[SB,Nat.add_sub_cancel]) (by rw[Nat.mul_zero,Nat.add_zero];exact hZ)
   simp only[Q0,Ql,Qq,QU,afN,aeM,x1,x2,wi,VX,Nat.reduceEqDiff,Nat.reduceAdd]
   refine⟨(i,us.take i++(Tl++[0])++us.drop (i+(n+2+1)),os.set i (g'-1)),by simp only;omega,by omega,rfl,y1,y2,by rw[List.length_set];exact iO,lA kL (by omega),y3,y4,?_⟩
   try (repeat' apply And.intro)<;>first | rfl | trivial
  ·rw[decide_eq_false lU] at hr
   subst hr
   obtain⟨t',ht'⟩:∃t':Nat,(u2:Int)-(c:Int)=(t':Int):=⟨u2-c,by omega⟩
   have hP1:P*u2=P*c+P*t':=by rw[←Nat.mul_add];congr 1;omega
   have Ch:g'*val 1000000000 vs≤val 1000000000 gU:=by omega
   have SB:g'=val 1000000000 gU / val 1000000000 vs:=by
    have:=(Nat.le_div_iff_mul_le Hp).2 Ch
    omega
   have G1:(H2 us os).set 0 (.row 0 ((us.take i).map tV++AD.map tV++VI ((u2:Int)-(c:Int))::(us.drop (i+(n+2+1))).map tV) 1 true)=H2 (us.take i++(AD++[t'])++us.drop (i+(n+2+1))) os:=by
    rw[ht',pL]
    rfl
   rw[G1]
   obtain⟨x1,x2⟩:=e3 (us.take i++(AD++[t'])++us.drop (i+(n+2+1))) g'
   have hse:val 1000000000 AD+P*t'=val 1000000000 gU % val 1000000000 vs:=by
    rw[←SB,Nat.mul_comm] at hdm
    omega
   obtain⟨y1,y2,y3,y4⟩:=rows AD t' g' Bf Wn (by omega) SB hse
   simp only[Q0,Ql,Qq,QU,afN,aeM,r19,x1,x2,wi,VX,Nat.reduceEqDiff,Nat.reduceAdd]
   refine⟨(i,us.take i++(AD++[t'])++us.drop (i+(n+2+1)),os.set i g'),by simp only;omega,by omega,rfl,y1,y2,by rw[List.length_set];exact iO,lA kL (by omega),y3,y4,?_⟩
   try (repeat' apply And.intro)<;>first | rfl | trivial
 ·have T5:j=0:=by omega
  subst T5
  rw[Nat.pow_zero,Nat.one_mul,List.drop_zero] at hv
  rw[List.drop_zero] at bA
  simp only[iB,HA,A8,Ce,JX,k16,Ik,hz,VX,Nat.reduceEqDiff,Nat.reduceAdd]
  exact hQ _ us os HA A8 k16 PS Iz iO kL hv bA
end Go.PM
namespace Go.PM
def bl (n:Nat):Nat:=(aC 2 n).length
theorem N2 (n:Nat):n<2^bl n:=gE (by decide) n
theorem GF {n k:Nat} (h:n<2^k):bl n≤k:=lI (by decide) h
theorem nA {m n:Nat} (h:m≤n):bl m≤bl n:=dU (by decide) h
theorem pG (m n:Nat):bl (m*n)≤bl m+bl n:=by
 refine GF ?_
 rw[Nat.pow_add]
 exact Nat.mul_lt_mul'' (N2 m) (N2 n)
theorem FX {n k:Nat} (h:bl n≤k):n<2^k:=Nat.lt_of_lt_of_le (N2 n) (Nat.pow_le_pow_right (by decide) h)
theorem Uj {m n k:Nat} (hm:bl m≤k) (hn:bl n≤k):bl (m+n)≤k+1:=by
 refine GF ?_
 have h1:=FX hm
 have h2:=FX hn
 rw[Nat.pow_succ]
 omega
theorem Vw:bl 0=0:=by simp[bl,bY]
theorem LP:bl 1=1:=by simp[bl,iL (b:=2) (by decide) (n:=1) (by decide),bY]
theorem abT {n:Nat} (h:n≠0):1≤bl n:=by
 have:=nA (m:=1) (n:=n) (by omega)
 rwa [LP] at this
theorem ahP (n:Nat):32*(aC 4294967296 n).length≤bl n+31:=by
 by_cases h:n=0
 ·subst h;rw[bY];simp
 ·have h1:=JR (b:=4294967296) (by decide) h
  have h2:=N2 n
  have e:(4294967296:Nat)=2^32:=by decide
  rw[e] at h1 ⊢
  rw[←Nat.pow_mul] at h1
  have h3:2^(32*((aC (2^32) n).length-1))<2^bl n:=by omega
  have h4:=(Nat.pow_lt_pow_iff_right (by decide)).1 h3
  omega
theorem ahJ (n:Nat):29*(aC 1000000000 n).length≤bl n+28:=by
 by_cases h:n=0
 ·subst h;rw[bY];simp
 ·have h1:=JR (b:=1000000000) (by decide) h
  have h2:=N2 n
  have h5:(2^29)^((aC 1000000000 n).length-1)≤1000000000^((aC 1000000000 n).length-1):=Nat.pow_le_pow_left (by decide) _
  rw[←Nat.pow_mul] at h5
  have h3:2^(29*((aC 1000000000 n).length-1))<2^bl n:=by omega
  have h4:=(Nat.pow_lt_pow_iff_right (by decide)).1 h3
  omega
def aZ (q:Rat):Nat:=max (bl q.num.natAbs) (bl q.den)
theorem qU {q:Rat}:bl q.num.natAbs≤aZ q:=Nat.le_max_left _ _
theorem oZ {q:Rat}:bl q.den≤aZ q:=Nat.le_max_right _ _
theorem Nc {q:Rat}:1≤aZ q:=Nat.le_trans (abT q.den_nz) oZ
theorem RQ {q:Rat} {k:Nat} (h1:bl q.num.natAbs≤k) (h2:bl q.den≤k):aZ q≤k:=Nat.max_le.2 ⟨h1,h2⟩
theorem FE {n:Int} {d k:Nat} (h1:bl n.natAbs≤k) (h2:bl d≤k) (hk:1≤k):aZ (mkRat n d)≤k:=by
 refine RQ ?_ ?_
 ·rw[Rat.num_mkRat]
  split
  ·rw[Int.natAbs_zero,Vw];omega
  ·exact Nat.le_trans (nA (Int.natAbs_ediv_le_natAbs _ _)) h1
 ·rw[Rat.den_mkRat]
  split
  ·rw[LP];exact hk
  ·exact Nat.le_trans (nA (Nat.div_le_self _ _)) h2
theorem DY (a b:Rat):aZ (a+b)≤aZ a+aZ b+1:=by
 rw[Rat.add_def']
 have h1 := @qU a
 have h2 := @qU b
 have h3 := @oZ a
 have h4 := @oZ b
 have h5:=pG a.num.natAbs b.den
 have h6:=pG b.num.natAbs a.den
 have h7:=pG a.den b.den
 refine FE ?_ (by omega) (by omega)
 have h8:(a.num*b.den+b.num*a.den).natAbs≤a.num.natAbs*b.den+b.num.natAbs*a.den:=by
  refine Nat.le_trans (Int.natAbs_add_le _ _) ?_
  rw[Int.natAbs_mul,Int.natAbs_mul,Int.natAbs_natCast,Int.natAbs_natCast]
  exact Nat.le_refl _
 exact Nat.le_trans (nA h8) (Uj (by omega) (by omega))
theorem XA (a b:Rat):aZ (a*b)≤aZ a+aZ b:=by
 rw[Rat.mul_def']
 have h1 := @qU a
 have h2 := @qU b
 have h3 := @oZ a
 have h4 := @oZ b
 have h5:=pG a.num.natAbs b.num.natAbs
 have h7:=pG a.den b.den
 have h8 := @Nc a
 refine FE ?_ (by omega) (by omega)
 rw[Int.natAbs_mul]
 omega
theorem WU (a:Rat):aZ (-a)=aZ a:=by simp[aZ]
theorem Xc (a b:Rat):aZ (a-b)≤aZ a+aZ b+1:=by
 rw[Rat.sub_eq_add_neg]
 have:=DY a (-b)
 rwa [WU] at this
theorem XE (a:Rat):aZ a⁻¹≤aZ a:=by
 have h1 := @qU a
 have h2 := @oZ a
 refine RQ ?_ ?_
 ·rw[Rat.num_inv,Int.natAbs_mul,Int.natAbs_natCast]
  refine Nat.le_trans (nA ?_) h2
  have h3:a.num.sign.natAbs≤1:=by
   rcases Int.lt_trichotomy a.num 0 with h | h | h
   ·rw[Int.sign_eq_neg_one_of_neg h];decide
   ·rw[h];decide
   ·rw[Int.sign_eq_one_of_pos h];decide
  have:=Nat.mul_le_mul_right a.den h3
  omega
 ·rw[Rat.den_inv]
  split
  ·rw[LP];exact Nc
  ·exact h1
theorem WQ (a b:Rat):aZ (a / b)≤aZ a+aZ b:=by
 rw[Rat.div_def]
 have:=XA a b⁻¹
 have:=XE b
 omega
theorem xR:aZ 0=1:=by simp[aZ,Vw,LP]
theorem HM:aZ 1=1:=by simp[aZ,LP]
def pJ (neg:Bool) (t:Nat):Int:=if neg then -(t:Int) else t
theorem zJ (neg:Bool) (t:Nat):(pJ neg t).natAbs=t:=by cases neg<;>simp[pJ]
theorem UY {neg:Bool} {t:Nat}:pJ neg t<0↔neg=true∧t≠0:=by cases neg<;>simp[pJ]<;>omega
theorem St (neg:Bool):pJ neg 0=0:=by cases neg<;>rfl
theorem aaY (z:Int):pJ (decide (z<0)) z.natAbs=z:=by
 by_cases h:z<0<;>simp[pJ,h]<;>omega
theorem afP {neg:Bool} {t g:Nat}:(pJ neg t) / (g:Int)=pJ neg (t / g)∨¬g ∣ t:=by
 by_cases h:g ∣ t
 ·left
  obtain⟨k,rfl⟩:=h
  by_cases hg:g=0
  ·subst hg;simp[St]
  ·rw[Nat.mul_div_cancel_left _ (by omega)]
   cases neg
   ·simp only[pJ]
    simp only[Bool.false_eq_true,if_false]
    rw[Int.natCast_mul,Int.mul_ediv_cancel_left _ (by omega)]
   ·simp only[pJ,if_true]
    rw[Int.natCast_mul,←Int.mul_neg,Int.mul_ediv_cancel_left _ (by omega)]
 ·exact .inr h
theorem Ku {neg:Bool} {t b:Nat} (hb:b≠0):(mkRat (pJ neg t) b).num=pJ neg (t / Nat.gcd t b):=by
 rw[Rat.num_mkRat,if_neg hb,zJ,Nat.gcd_comm]
 rcases afP (neg:=neg) (t:=t) (g:=Nat.gcd t b) with h | h
 ·exact h
 ·exact absurd (Nat.gcd_dvd_left _ _) h
theorem Ut {neg:Bool} {t b:Nat} (hb:b≠0):(mkRat (pJ neg t) b).den=b / Nat.gcd t b:=by
 rw[Rat.den_mkRat,if_neg hb,zJ,Nat.gcd_comm]
theorem JW (q:Rat):mkRat (pJ (decide (q.num<0)) q.num.natAbs) q.den=q:=by rw[aaY,Rat.mkRat_self]
end Go.PM
namespace Go.PM
theorem afW (neg:Bool) (t d:Nat):pJ neg (t*d)=pJ neg t*(d:Int):=by cases neg<;>simp[pJ,Int.neg_mul]
theorem DV (q:Rat) {d:Nat} (hd:d≠0):mkRat (pJ (decide (q.num<0)) (q.num.natAbs*d)) (q.den*d)=q:=by
 rw[afW,Rat.mkRat_mul_right hd,JW]
theorem CO (X Y:Int) {B:Nat} (hB:B≠0):mkRat X B+mkRat Y B=mkRat (X+Y) B:=by
 rw[Rat.mkRat_add_mkRat _ _ hB hB,←Int.add_mul,Rat.mkRat_mul_right hB]
theorem OH (n:Bool) (x y:Nat):pJ n x+pJ n y=pJ n (x+y):=by cases n<;>simp[pJ]<;>omega
theorem Tr {m n:Bool} (h:m≠n) {x y:Nat} (hx:y≤x):pJ m x+pJ n y=pJ m (x-y):=by
 cases m<;>cases n<;>simp_all [pJ]<;>omega
theorem T1 {m n:Bool} (h:m≠n) {x y:Nat} (hx:x≤y):pJ m x+pJ n y=pJ n (y-x):=by
 cases m<;>cases n<;>simp_all [pJ]<;>omega
def lG (q:Rat):Int:=if q.num=0 then 0 else if q.num<0 then -1 else 1
def Mv (a b:Rat):Int:=if lG a=lG b then (if a.num<0 then -eZ (a.num.natAbs*b.den) (b.num.natAbs*a.den) else eZ (a.num.natAbs*b.den) (b.num.natAbs*a.den)) else lG a-lG b
theorem vL {m n:Nat}:eZ m n<0↔m<n:=by
 unfold eZ
 split
 ·omega
 ·split<;>omega
theorem adV {m n:Nat}:0<eZ m n↔n<m:=by
 unfold eZ
 split
 ·omega
 ·split<;>omega
theorem wE {m n:Nat}:eZ m n=0↔m=n:=by
 unfold eZ
 split
 ·omega
 ·split<;>omega
theorem oN {q:Rat} (h:q.num<0):lG q = -1:=by unfold lG;rw[if_neg (by omega),if_pos h]
theorem lX {q:Rat} (h:q.num=0):lG q=0:=by unfold lG;rw[if_pos h]
theorem oU {q:Rat} (h:0<q.num):lG q=1:=by unfold lG;rw[if_neg (by omega),if_neg (by omega)]
theorem VC {a b:Rat}:Mv a b<0↔a<b:=by
 rw[Rat.lt_iff]
 have hA:(0:Int)<a.den:=by have:=a.den_nz;omega
 have hB:(0:Int)<b.den:=by have:=b.den_nz;omega
 have eA:((a.num.natAbs*b.den:Nat):Int)=(a.num.natAbs:Int)*b.den:=by simp
 have eB:((b.num.natAbs*a.den:Nat):Int)=(b.num.natAbs:Int)*a.den:=by simp
 unfold Mv
 rcases Int.lt_trichotomy a.num 0 with h1 | h1 | h1<;>rcases Int.lt_trichotomy b.num 0 with h2 | h2 | h2
 ·rw[oN h1,oN h2,if_pos rfl,if_pos h1]
  have f1:(a.num.natAbs:Int) = -a.num:=by omega
  have f2:(b.num.natAbs:Int) = -b.num:=by omega
  rw[f1,Int.neg_mul] at eA
  rw[f2,Int.neg_mul] at eB
  have := @adV (a.num.natAbs*b.den) (b.num.natAbs*a.den)
  omega
 ·rw[oN h1,lX h2,if_neg (by decide),h2,Int.zero_mul]
  have:=Int.mul_neg_of_neg_of_pos h1 hB
  omega
 ·rw[oN h1,oU h2,if_neg (by decide)]
  have:=Int.mul_neg_of_neg_of_pos h1 hB
  have:=Int.mul_pos h2 hA
  omega
 ·rw[lX h1,oN h2,if_neg (by decide),h1,Int.zero_mul]
  have:=Int.mul_neg_of_neg_of_pos h2 hA
  omega
 ·rw[lX h1,lX h2,if_pos rfl,h1,h2];simp[eZ]
 ·rw[lX h1,oU h2,if_neg (by decide),h1,Int.zero_mul]
  have:=Int.mul_pos h2 hA
  omega
 ·rw[oU h1,oN h2,if_neg (by decide)]
  have:=Int.mul_neg_of_neg_of_pos h2 hA
  have:=Int.mul_pos h1 hB
  omega
 ·rw[oU h1,lX h2,if_neg (by decide),h2,Int.zero_mul]
  have:=Int.mul_pos h1 hB
  omega
 ·rw[oU h1,oU h2,if_pos rfl,if_neg (by omega)]
  have f1:(a.num.natAbs:Int)=a.num:=by omega
  have f2:(b.num.natAbs:Int)=b.num:=by omega
  rw[f1] at eA
  rw[f2] at eB
  have := @vL (a.num.natAbs*b.den) (b.num.natAbs*a.den)
  omega
theorem acW (m n:Nat):eZ n m = -eZ m n:=by
 rcases Nat.lt_trichotomy m n with h | h | h
 ·rw[eZ,eZ,if_neg (by omega),if_neg (by omega),if_pos h];rfl
 ·subst h;rw[eZ,if_neg (by omega),if_pos rfl];rfl
 ·rw[eZ,eZ,if_pos h,if_neg (by omega),if_neg (by omega)]
theorem P4 (a b:Rat):Mv b a = -Mv a b:=by
 unfold Mv
 by_cases h:lG a=lG b
 ·have h2:b.num<0↔a.num<0:=by
   rcases Int.lt_trichotomy a.num 0 with h1 | h1 | h1<;>rcases Int.lt_trichotomy b.num 0 with h2 | h2 | h2
   ·simp[h1,h2]
   ·rw[oN h1,lX h2] at h;omega
   ·rw[oN h1,oU h2] at h;omega
   ·rw[lX h1,oN h2] at h;omega
   ·omega
   ·rw[lX h1,oU h2] at h;omega
   ·rw[oU h1,oN h2] at h;omega
   ·rw[oU h1,lX h2] at h;omega
   ·omega
  rw[if_pos h,if_pos h.symm,acW]
  by_cases h3:a.num<0
  ·rw[if_pos h3,if_pos (h2.2 h3)]
  ·rw[if_neg h3,if_neg (mt h2.1 h3)]
 ·rw[if_neg h,if_neg (fun h'=>h h'.symm)];omega
theorem agH {a b:Rat}:0<Mv a b↔b<a:=by
 rw[←VC,P4 a b];omega
theorem Od {a b:Rat}:Mv a b=0↔a=b:=by
 constructor
 ·intro h
  refine Rat.le_antisymm ?_ ?_
  ·rw[←Rat.not_lt,←agH];omega
  ·rw[←Rat.not_lt,←VC];omega
 ·rintro rfl
  have:=P4 a a
  omega
theorem Lg {q:Rat}:lG q=0↔q=0:=by
 rw[←Rat.num_eq_zero]
 rcases Int.lt_trichotomy q.num 0 with h | h | h
 ·rw[oN h];omega
 ·rw[lX h];omega
 ·rw[oU h];omega
end Go.PM
namespace Go.PM
theorem Oe {ds:List Nat} {H:aA}:cW 1 (gR ds) H=some (ds.map tV):=by
 have:((ds.map tV).all fun x=>(aB x).length == 1&&(aB x).all bP)=true:=by
  rw[List.all_eq_true]
  intro x hx
  obtain⟨d,_,rfl⟩:=List.mem_map.1 hx
  rfl
 simp only[cW,gR,aO,this,if_true]
theorem DT (n:Nat) {H:aA}:cW 1 (bS n) H=some ((aC 1000000000 n).map tV):=Oe
theorem HW {a n:Nat} (hn:(aC 1000000000 a).length=n+1):∃d,(aC 1000000000 a)[n]? = some d∧d≠0∧d<1000000000:=by
 obtain⟨d,hd⟩:∃d,(aC 1000000000 a)[n]? = some d:=⟨_,List.getElem?_eq_getElem (by omega)⟩
 refine⟨d,hd,fun h0 => ?_,fB (by decide) a d (List.mem_of_getElem? hd)⟩
 have:=Nw (b:=1000000000) (by decide) a
 rw[List.getLast?_eq_getElem?,hn,Nat.add_sub_cancel,hd,h0] at this
 exact this rfl
theorem WC {a d:Nat} (h:aC 1000000000 a=[d]):a=d∧0<d∧d<1000000000:=by
 have h1:=cE (b:=1000000000) (by decide) a
 rw[h,val_one] at h1
 obtain⟨e,h2,h3,h4⟩:=HW (a:=a) (n:=0) (by rw[h];rfl)
 rw[h] at h2
 cases h2
 exact⟨h1.symm,by omega,h4⟩
theorem alV {a:Nat} (h:(aC 1000000000 a).length≤2):a<1000000000000000000:=by
 have h1:=gE (b:=1000000000) (by decide) a
 have h2:1000000000^(aC 1000000000 a).length≤1000000000^2:=Nat.pow_le_pow_right (by decide) h
 omega
theorem aaA {H:aA} {u v:VV} (hu:aN u=true) (hv:aN v=true):fz depth H (.eY [u,v])=some (.eY [u,v]):=aF (by simp only[aN,aL,hu,hv,Bool.and_self])
theorem arT {X N:Nat} (h:(aC 1000000000 X).length≤N):IJ 0 1 (.ref 0 0 0 N N) (bS X) [.row 0 ((List.replicate N 0).map tV) 1 true]=some (VI ((aC 1000000000 X).length:Int),[.row 0 ((aC 1000000000 X++List.replicate (N-(aC 1000000000 X).length) 0).map tV) 1 true]):=by
 have e:((aC 1000000000 X).map tV).take N=(aC 1000000000 X).map tV:=List.take_of_length_le (by simpa using h)
 simp only[IJ,bS,Oe,aS,e,List.length_map,List.length_replicate,Nat.zero_add]
 rw[if_pos ⟨trivial,Nat.le_refl _,h⟩]
 simp only[cR,List.set_cons_zero,List.take_zero,List.nil_append,Nat.zero_add,List.length_map,List.map_append,List.map_replicate,List.drop_replicate]
theorem sX (a b:Nat) (hb:b≠0) (ha:(aC 1000000000 a).length<17592186044416) (sS:(aC 1000000000 b).length<17592186044416):TC 185 [bS a,bS b] (.eY [bS (a / b),bS (a % b)]):=by
 refine TC.walk ⟨true,false⟩ Ij rfl (Nat.le_of_ble_eq_true rfl) (by simp[aL,cA]) (by simp[gZ,qZ,mM]) ?_
 have s1:=BP a (by omega)
 have s2:=BP b (by omega)
 have fin:∀ {H:aA},fz depth H (.eY [bS (a / b),bS (a % b)])=some (.eY [bS (a / b),bS (a % b)]):=aaA (cA _) (cA _)
 by_cases PR:(aC 1000000000 a).length≤2∧(aC 1000000000 b).length≤2
 ·rw[if_pos PR.1] at s1
  rw[if_pos PR.2] at s2
  have la:=alV PR.1
  have q1:=JP a b (by omega) (by omega)
  have q2:=LC a b (by omega)
  have hdl:a / b≤a:=Nat.div_le_self _ _
  have hml:a % b≤a:=Nat.mod_le _ _
  have n1:TC 178 [VI ((a / b:Nat):Int)] (bS (a / b)):=pV ((a / b:Nat):Int) (Int.ofNat_le.2 (show a / b≤9223372036854775807 from Nat.le_trans hdl (by omega)))
  have n2:TC 178 [VI ((a % b:Nat):Int)] (bS (a % b)):=pV ((a % b:Nat):Int) (Int.ofNat_le.2 (show a % b≤9223372036854775807 from Nat.le_trans hml (by omega)))
  simp only[fA,dK,s1,s2,q1,q2,n1,n2,VX,Nat.reduceEqDiff,Nat.reduceAdd]
  exact fin
 have c1:=uA a b (by omega) (by omega)
 obtain⟨x1,t1,MF⟩:∃(x:Int) (t:Bool),(if (aC 1000000000 a).length≤2 then VV.eY [VI a,VB true] else .eY [VI 0,VB false]) = .eY [VI x,VB t]:=by split<;>exact⟨_,_,rfl⟩
 have hs2:∃(x:Int) (t:Bool),(if (aC 1000000000 b).length≤2 then VV.eY [VI b,VB true] else .eY [VI 0,VB false]) = .eY [VI x,VB t]∧(t1=true→t=false):=by
  by_cases h:(aC 1000000000 b).length≤2
  ·rw[if_pos h]
   refine⟨_,_,rfl,fun ht => ?_⟩
   rw[if_neg (fun h'=>PR ⟨h',h⟩)] at MF
   injection MF with MF
   injection MF with _ MF
   injection MF with MF _
   injection MF with MF
   injection MF with MF
   subst ht
   cases MF
  ·rw[if_neg h]
   exact⟨_,_,rfl,fun _=>rfl⟩
 obtain⟨x2,t2,hs2,ht⟩:=hs2
 rw[MF] at s1
 rw[hs2] at s2
 by_cases HC:eZ a b<0
 ·have bA:a<b:=vL.1 HC
  have e0:∀lr,mF lr [.int .i64 0] 0 [] []=some (.ref 0 0 0 0 0,[.row 0 [] 1 true]):=fun lr=>kA (H:=[]) rfl
  have e1:∀lr,mF lr [.int .i64 0] 0 [] [.row 0 [] 1 true]=some (.ref 1 0 0 0 0,[.row 0 [] 1 true,.row 0 [] 1 true]):=fun lr=>kA (H:=[.row 0 [] 1 true]) rfl
  rw[Nat.div_eq_of_lt bA,Nat.mod_eq_of_lt bA]
  have hz:fz (6+1) [.row 0 [] 1 true,.row 0 [] 1 true] (.ref 0 0 0 0 0)=some (bS 0):=by rw[G3];rfl
  by_cases ha0:a=0
  ·subst ha0
   have ap:eO 0 1 8 (.ref 1 0 0 0 0) ((aC 1000000000 0).map tV) [.row 0 [] 1 true,.row 0 [] 1 true]=some (.ref 1 0 0 0 0,[.row 0 [] 1 true,.row 0 [] 1 true]):=by
    rw[bY];rfl
   have Ih:fz (6+1) [.row 0 [] 1 true,.row 0 [] 1 true] (.ref 1 0 0 0 0)=some (bS 0):=by rw[G3];rfl
   cases t1 with
   |
    false =>
    simp only[fA,dK,s1,s2,c1,HC,e0,e1,ap,DT,VX,Nat.reduceEqDiff,Nat.reduceAdd]
    exact bN (d:=6) hz Ih
   |
    true =>
    rw[ht rfl] at s2
    simp only[fA,dK,s1,s2,c1,HC,e0,e1,ap,DT,VX,Nat.reduceEqDiff,Nat.reduceAdd]
    exact bN (d:=6) hz Ih
  ·have hln:(aC 1000000000 a).length≠0:=fun h=>ha0 ((kU (b:=1000000000) (by decide)).1 (List.length_eq_zero_iff.1 h))
   have ap:eO 0 1 8 (.ref 1 0 0 0 0) ((aC 1000000000 a).map tV) [.row 0 [] 1 true,.row 0 [] 1 true]=some (.ref 1 1 0 (aC 1000000000 a).length (aC 1000000000 a).length,[.row 0 [] 1 true,.row 1 ((aC 1000000000 a).map tV) 1 true]):=by
    have hr:aH [.row 0 [] 1 true,.row 0 [] 1 true] 1 0=some ([],1,true):=rfl
    simp only[eO,hr,List.length_map,Nat.zero_add,List.length_nil,Nat.add_zero]
    rw[if_pos ⟨by decide,by decide⟩,if_pos ⟨trivial,Nat.zero_le _,Nat.le_refl _⟩,if_neg (by omega),if_pos (by omega)]
    simp
   have D4:fz (6+1) [.row 0 [] 1 true,.row 1 ((aC 1000000000 a).map tV) 1 true] (.ref 0 0 0 0 0)=some (bS 0):=by rw[G3];rfl
   have Ih:fz (6+1) [.row 0 [] 1 true,.row 1 ((aC 1000000000 a).map tV) 1 true] (.ref 1 1 0 (aC 1000000000 a).length (aC 1000000000 a).length)=some (bS a):=by
    have:aN (.ref 1 1 0 (aC 1000000000 a).length (aC 1000000000 a).length)=false:=rfl
    have hr:aH [.row 0 [] 1 true,.row 1 ((aC 1000000000 a).map tV) 1 true] 1 1=some ((aC 1000000000 a).map tV,1,true):=rfl
    unfold fz
    simp only[this,hr,Bool.false_eq_true,if_false]
    rw[if_pos ⟨by simp,Nat.le_refl _⟩,List.drop_zero,List.take_of_length_le (by simp),mapM_pure (n:=5) (eR fun _=>rfl)]
    rfl
   cases t1 with
   |
    false =>
    simp only[fA,dK,s1,s2,c1,HC,e0,e1,ap,DT,VX,Nat.reduceEqDiff,Nat.reduceAdd]
    exact bN (d:=6) D4 Ih
   |
    true =>
    rw[ht rfl] at s2
    simp only[fA,dK,s1,s2,c1,HC,e0,e1,ap,DT,VX,Nat.reduceEqDiff,Nat.reduceAdd]
    exact bN (d:=6) D4 Ih
 have Ch:b≤a:=by have := @vL a b;omega
 have hbn:(aC 1000000000 b).length≠0:=fun h=>hb ((kU (b:=1000000000) (by decide)).1 (List.length_eq_zero_iff.1 h))
 by_cases h1:(((aC 1000000000 b).length:Nat):Int)=1
 ·obtain⟨d,hd⟩:∃d,aC 1000000000 b=[d]:=List.length_eq_one_iff.1 (by omega)
  obtain⟨hbd,C4,hdT⟩:=WC hd
  have e1:bH 1 (bS b) (VI 0) []=some (.cV (tV d) 0):=by
   rw[bS,hd]
   exact aI (f:=tV) (t := .op) (H:=[]) (size:=1) (k := .i64) (xs:=[d]) (i:=0) rfl rfl
  have c2:=xI a d C4 hdT (by omega)
  rw[←hbd] at c2
  have T9:a % b≤b:=Nat.le_of_lt (Nat.mod_lt _ (by omega))
  have n2:TC 178 [VI ((a % b:Nat):Int)] (bS (a % b)):=pV ((a % b:Nat):Int) (Int.ofNat_le.2 (show a % b≤9223372036854775807 from Nat.le_trans T9 (by omega)))
  have e2:tV d=tV b:=by rw[hbd]
  rw[e2] at e1
  cases t1 with
  |
   false =>
   simp only[fA,dK,s1,s2,c1,HC,cZ,h1,e1,c2,n2,VX,Nat.reduceEqDiff,Nat.reduceAdd]
   exact fin
  |
   true =>
   rw[ht rfl] at s2
   simp only[fA,dK,s1,s2,c1,HC,cZ,h1,e1,c2,n2,VX,Nat.reduceEqDiff,Nat.reduceAdd]
   exact fin
 obtain⟨n,hn⟩:∃n,(aC 1000000000 b).length=n+2:=⟨(aC 1000000000 b).length-2,by omega⟩
 obtain⟨t,htd,ht0,htT⟩:=HW (a:=b) (n:=n+1) hn
 obtain⟨s,hs⟩:∃s,s=1000000000 / (t+1):=⟨_,rfl⟩
 have Rq:1≤s:=by rw[hs];exact(Nat.le_div_iff_mul_le (by omega)).2 (by omega)
 have hsT:s<1000000000:=by rw[hs];exact Nat.div_lt_self (by decide) (by omega)
 have HX:(t+1)*s≤1000000000:=by rw[hs];exact Nat.mul_div_le _ _
 have hla:=dU (b:=1000000000) (by decide) Ch
 have w0:IntKind.i64.wrap (((n+2:Nat):Int)-1)=((n+1:Nat):Int):=wrapN _ (by omega) (by omega)
 have w1:IntKind.i64.wrap ((t:Int)+1)=((t+1:Nat):Int):=wrapN _ (by omega) (by omega)
 have q0:dB .quo (.int .i64 1000000000) (.int .i64 ((t+1:Nat):Int))=some (.int .i64 (s:Int)):=by rw[hs];exact JP 1000000000 (t+1) (by decide) (by omega)
 have et:∀H,bH 1 (bS b) (VI ((n+1:Nat):Int)) H=some (.cV (tV t) 0):=fun H=>aI (f:=tV) (t := .op) (size:=1) (k := .i64) htd rfl
 have X7:¬(((n+2:Nat):Int)=1):=by omega
 obtain⟨N,hN⟩:∃N,N=(aC 1000000000 a).length+1:=⟨_,rfl⟩
 have wN:IntKind.i64.wrap (((aC 1000000000 a).length:Int)+1)=(N:Int):=wrapN _ (by omega) (by omega)
 have mkN:=Ps N (by omega)
 have c3:=wX a s Rq hsT ha
 have c4:=wX b s Rq hsT sS
 have amO:b*s<1000000000^(n+2):=by
  have h2:=(yQ (n:=n+1) (fB (b:=1000000000) (by decide) b) hn htd).2
  rw[cE (by decide)] at h2
  have h3:b*s<(t+1)*1000000000^(n+1)*s:=Nat.mul_lt_mul_of_pos_right h2 Rq
  have h4:(t+1)*1000000000^(n+1)*s=(t+1)*s*1000000000^(n+1):=by grind
  have h9:(t+1)*s*1000000000^(n+1)≤1000000000*1000000000^(n+1):=Nat.mul_le_mul_right _ HX
  have h10:1000000000*1000000000^(n+1)=1000000000^(n+2):=by rw[Nat.pow_succ 1000000000 (n+1)];exact Nat.mul_comm _ _
  rw[h4] at h3
  rw[h10] at h9
  exact Nat.lt_of_lt_of_le h3 h9
 have hVl:(aC 1000000000 (b*s)).length=n+2:=by
  have h2:=lI (b:=1000000000) (by decide) amO
  have h3:b≤b*s:=Nat.le_mul_of_pos_right b Rq
  have h4:=dU (b:=1000000000) (by decide) h3
  omega
 have hAl:(aC 1000000000 (a*s)).length≤N:=by
  have h2:=OS (b:=1000000000) (by decide) a s
  have h3:(aC 1000000000 s).length≤1:=lI (by decide) (by rw[Nat.pow_one];exact hsT)
  omega
 have cp:=arT hAl
 obtain⟨m,hm⟩:∃m,m+(n+2)=N:=⟨N-(n+2),by omega⟩
 have wm:IntKind.i64.wrap ((N:Int)-((n+2:Nat):Int))=(m:Int):=wrapN _ (by omega) (by omega)
 have wm1:IntKind.i64.wrap ((m:Int)-1)=(m:Int)-1:=wrap64 (by omega) (by omega)
 obtain⟨Ed,agD⟩:∃Ed,Ed=aC 1000000000 (a*s)++List.replicate (N-(aC 1000000000 (a*s)).length) 0:=⟨_,rfl⟩
 rw[←agD] at cp
 have mkm:AB [.int .i64 0] 8 (VI (m:Int)) (VI (m:Int)) [.row 0 (Ed.map tV) 1 true]=some (.ref 1 0 0 m m,[.row 0 (Ed.map tV) 1 true]++[.row 0 ((List.replicate m 0).map tV) 1 true]):=qV (f:=tV) (x:=0) (H:=[.row 0 (Ed.map tV) 1 true]) rfl (by omega) (by omega)
 have lN:∀K,aH K 0 0=some (Ed.map tV,1,true)→oC (.ref 0 0 0 N N) K=some (VI (N:Int)):=fun K h=>dR h
 have l1:=lN [.row 0 (Ed.map tV) 1 true] rfl
 have l2:=lN (H2 Ed (List.replicate m 0)) rfl
 have amE:Ed.length=N:=by rw[agD,List.length_append,List.length_replicate];omega
 have aoN:∀d∈Ed,d<1000000000:=fun d hd=>by
  rw[agD] at hd
  rcases List.mem_append.1 hd with h | h
  ·exact fB (by decide) _ d h
  ·rw[List.eq_of_mem_replicate h];decide
 have alP:val 1000000000 Ed=a*s:=by rw[agD,wR,qI,Nat.mul_zero,Nat.add_zero,cE (by decide)]
 generalize PT:aC 1000000000 (b*s)=vs at *
 have GN:∀d∈vs,d<1000000000:=by rw[←PT];exact fB (by decide) _
 have MW:val 1000000000 vs=b*s:=by rw[←PT];exact cE (by decide) _
 have lV:∀H,oC (bS (b*s)) H=some (VI ((n+2:Nat):Int)):=fun H=>by rw[cZ,PT,hVl]
 obtain⟨v1,f1⟩:∃v1,vs[n+1]? = some v1:=⟨_,List.getElem?_eq_getElem (by omega)⟩
 obtain⟨v0,f0⟩:∃v0,vs[n]? = some v0:=⟨_,List.getElem?_eq_getElem (by omega)⟩
 have hv1:1≤v1:=by
  obtain⟨d,hd,C4,_⟩:=HW (a:=b*s) (n:=n+1) (by rw[PT];exact hVl)
  rw[PT,f1] at hd
  cases hd
  omega
 have BW:val 1000000000 (Ed.drop m)<val 1000000000 vs:=by
  have h2:=oL (b:=1000000000) Ed m
  rw[List.length_take,amE,Nat.min_eq_left (by omega),alP] at h2
  have h3:a<b*1000000000^m:=by
   have y1:=gE (b:=1000000000) (by decide) a
   have y2:=JR (b:=1000000000) (by decide) hb
   rw[hn] at y2
   have y3:1000000000^(n+2-1)*1000000000^m≤b*1000000000^m:=Nat.mul_le_mul_right _ y2
   rw[←Nat.pow_add,show n+2-1+m=(aC 1000000000 a).length by omega] at y3
   exact Nat.lt_of_lt_of_le y1 y3
  have h4:a*s<b*1000000000^m*s:=Nat.mul_lt_mul_of_pos_right h3 Rq
  have h5:b*1000000000^m*s=1000000000^m*(b*s):=by grind
  rw[MW]
  have h6:1000000000^m*val 1000000000 (Ed.drop m)<1000000000^m*(b*s):=by
   rw[←h5]
   exact Nat.lt_of_le_of_lt (by rw[h2];exact Nat.le_add_left _ _) h4
  exact Nat.lt_of_mul_lt_mul_left h6
 have body:VW ⟨true,false⟩ 0 (.loop iB)=VW ⟨true,false⟩ 0 (.loop iB):=rfl
 have tail:∀(us os:List Nat),us.length=N→(∀d∈us,d<1000000000)→os.length=m→(∀d∈os,d<1000000000)→val 1000000000 us+val 1000000000 vs*val 1000000000 os=a*s→val 1000000000 us<val 1000000000 vs →
   (∀lo K,cT 184 [.ref 0 0 0 N N] lo (H2 us os) K=K (bS (a % b*s)) (cY (H2 us os) [0])) ∧
   (∀lo K,cT 184 [.ref 1 0 0 m m] lo (cY (H2 us os) [0]) K=K (bS (a / b)) (cY (cY (H2 us os) [0]) [1]))∧TC 202 [bS (a % b*s),VI (s:Int)] (.eY [bS (a % b),VI ((a % b*s % s:Nat):Int)]):=by
  intro us os PS Iz iO kL hv bA
  rw[MW] at hv bA
  have hq:val 1000000000 os=a / b:=by
   rw[←Nat.mul_div_mul_right a b Rq,←hv,Nat.add_mul_div_left _ _ (Nat.lt_of_le_of_lt (Nat.zero_le _) bA),Nat.div_eq_of_lt bA,Nat.zero_add]
  have hr:val 1000000000 us=a % b*s:=by
   rw[←Nat.mul_mod_mul_right,←hv,Nat.add_mul_mod_self_left,Nat.mod_eq_of_lt bA]
  refine⟨fun lo K => ?_,fun lo K => ?_,?_⟩
  ·have h:=rQ us Iz (by omega)
   rw[hr] at h
   exact TC.agM (f:=tV) h TS PS.symm (Nat.le_refl _) EX (fun _=>rfl) rfl rfl lo K
  ·have h:=rQ os kL (by omega)
   rw[hq] at h
   have pL:aH (cY (H2 us os) [0]) 1 0=some (os.map tV,1,true):=rfl
   exact TC.agM (f:=tV) h pL iO.symm (Nat.le_refl _) EX (fun _=>rfl) rfl rfl lo K
  ·have h:=xI (a % b*s) s Rq hsT (by
    have h2:=dU (b:=1000000000) (by decide) (Nat.le_trans (Nat.le_of_lt bA) (show b*s≤b*s from Nat.le_refl _))
    rw[hr,PT] at h2
    omega)
   rwa [Nat.mul_div_cancel _ Rq] at h
 clear body
 have nV:bS (b*s)=gR vs:=by rw[bS,PT]
 cases t1 with
 |
  false =>
  simp only[fA,dK,s1,s2,c1,HC,cZ,hn,X7,w0,w1,q0,et,wN,mkN,c3,c4,cp,lV,l1,l2,wm,wm1,mkm,List.cons_append,List.nil_append,VX,Nat.reduceEqDiff,Nat.reduceAdd]
  refine NN (Ed:=Ed) (Yn:=List.replicate m 0) (vs:=vs) (N:=N) (m:=m) (n:=n) (A:=a*s) (s:=s) amE hm (by omega) aoN hVl GN f1 f0 hv1 alP BW (by simp) (zY (by decide) _) (by rfl) (by rfl) (by simp only[VX,Nat.reduceEqDiff,Nat.reduceAdd];exact nV) (by rfl) (by rfl) (by rfl) ?_
  intro wB us os r12 r13 r16 PS Iz iO kL hv bA
  obtain⟨x1,x2,x3⟩:=tail us os PS Iz iO kL hv bA
  simp only[r12,r13,r16,x1,x2,x3,VX,Nat.reduceEqDiff,Nat.reduceAdd]
  exact fin
 |
  true =>
  rw[ht rfl] at s2
  simp only[fA,dK,s1,s2,c1,HC,cZ,hn,X7,w0,w1,q0,et,wN,mkN,c3,c4,cp,lV,l1,l2,wm,wm1,mkm,List.cons_append,List.nil_append,VX,Nat.reduceEqDiff,Nat.reduceAdd]
  refine NN (Ed:=Ed) (Yn:=List.replicate m 0) (vs:=vs) (N:=N) (m:=m) (n:=n) (A:=a*s) (s:=s) amE hm (by omega) aoN hVl GN f1 f0 hv1 alP BW (by simp) (zY (by decide) _) (by rfl) (by rfl) (by simp only[VX,Nat.reduceEqDiff,Nat.reduceAdd];exact nV) (by rfl) (by rfl) (by rfl) ?_
  intro wB us os r12 r13 r16 PS Iz iO kL hv bA
  obtain⟨x1,x2,x3⟩:=tail us os PS Iz iO kL hv bA
  simp only[r12,r13,r16,x1,x2,x3,VX,Nat.reduceEqDiff,Nat.reduceAdd]
  exact fin
end Go.PM
namespace Go.PM
theorem dS (n:Nat) {H:aA}:oC (bM n) H=some (VI (aC 4294967296 n).length):=dQ
theorem vY {n:Nat}:(0:Int)<((aC 4294967296 n).length:Int)↔n≠0:=by
 constructor
 ·intro h h0
  subst h0
  rw[bY] at h
  simp at h
 ·intro h
  have:=(kU (b:=4294967296) (by decide) (n:=n))
  have h2:aC 4294967296 n≠[]:=fun hx=>h (this.1 hx)
  have:=List.length_pos_iff.2 h2
  omega
theorem RC {n:Nat} (h:(aC 4294967296 n).length≤2):n<18446744073709551616:=by
 have h1:=gE (b:=4294967296) (by decide) n
 have h2:4294967296^(aC 4294967296 n).length≤4294967296^2:=Nat.pow_le_pow_right (by decide) h
 omega
theorem CC (a b:Nat) (ha:(aC 4294967296 a).length≤17592186044416) (hb:(aC 4294967296 b).length≤17592186044416):TC 175 [bM a,bM b] (bM (Nat.gcd a b)):=by
 refine TC.walk ⟨true,false⟩ He rfl (Nat.le_of_ble_eq_true rfl) (by simp[aL,bO]) (pT _) ?_
 simp only[Cv,AX,VX,Nat.reduceEqDiff,Nat.reduceAdd]
 refine aQ (fun(t:Nat×Nat) ρ H=>H=[]∧Nat.gcd t.1 t.2=Nat.gcd a b∧(aC 4294967296 t.1).length≤17592186044416∧(aC 4294967296 t.2).length≤17592186044416∧ρ 0=bM t.1∧ρ 1=bM t.2) (fun t=>t.2) (a,b) ⟨rfl,rfl,ha,hb,rfl,rfl⟩ ?_
 rintro⟨x,y⟩ ρ H ⟨rfl,hg,hx,hy,g0,g1⟩
 simp only at hg hx hy g0 g1
 have c1:=Al x hx
 have c2:=Al y hy
 by_cases hy0:y=0
 ·subst hy0
  have hl:¬(0:Int)<((aC 4294967296 0).length:Int):=by rw[vY];omega
  rw[Nat.gcd_zero_right] at hg
  simp only[iF,g0,g1,dS,hl,VX,Nat.reduceEqDiff,Nat.reduceAdd]
  rw[hg]
  exact aF (bO _)
 have hl:(0:Int)<((aC 4294967296 y).length:Int):=vY.2 hy0
 by_cases h1:(aC 4294967296 x).length≤2∧(aC 4294967296 y).length≤2
 ·rw[if_pos h1.1] at c1
  rw[if_pos h1.2] at c2
  simp only[iF,g0,g1,dS,hl,c1,c2,VX,Nat.reduceEqDiff,Nat.reduceAdd]
  refine aQ (fun(t:Nat×Nat) ρ H=>H=[]∧Nat.gcd t.1 t.2=Nat.gcd a b∧t.1<18446744073709551616∧t.2<18446744073709551616∧ρ 5=VK .u64 t.1∧ρ 7=VK .u64 t.2) (fun t=>t.2) (x,y) ⟨rfl,hg,RC h1.1,RC h1.2,rfl,rfl⟩ ?_
  rintro⟨u,v⟩ Ns H ⟨rfl,hg2,hu,hv,k5,k7⟩
  simp only at hg2 hu hv k5 k7
  by_cases hv0:v=0
  ·subst hv0
   rw[Nat.gcd_zero_right] at hg2
   have hz:¬(0:Int)<((0:Nat):Int):=by omega
   have c3:=mB u hu
   simp only[sJ,k5,k7,hz,c3,VX,Nat.reduceEqDiff,Nat.reduceAdd]
   rw[hg2]
   exact aF (bO _)
  ·have hz:(0:Int)<(v:Int):=by omega
   have r1:=Pz u v (by omega)
   simp only[sJ,k5,k7,hz,r1,VX,Nat.reduceEqDiff,Nat.reduceAdd]
   refine⟨(v,u % v),?_,?_,hv,?_,rfl,rfl⟩
   ·exact Nat.mod_lt _ (by omega)
   ·simp only
    rw[←hg2,Nat.gcd_comm u v,Nat.gcd_rec v u,Nat.gcd_comm]
   ·simp only
    have:=Nat.mod_lt u (show 0<v by omega)
    omega
 ·have c3:=yB x y hy0 hx hy
  have next:∃s':Nat×Nat,s'.2<y∧Nat.gcd s'.1 s'.2=Nat.gcd a b∧(aC 4294967296 s'.1).length≤17592186044416∧(aC 4294967296 s'.2).length≤17592186044416∧bM y=bM s'.1∧bM (x % y)=bM s'.2:=by
   have hm:=Nat.mod_lt x (show 0<y by omega)
   refine⟨(y,x % y),hm,?_,hy,?_,rfl,rfl⟩
   ·simp only
    rw[←hg,Nat.gcd_comm x y,Nat.gcd_rec y x,Nat.gcd_comm]
   ·simp only
    have:=dU (b:=4294967296) (by decide) (Nat.le_of_lt hm)
    omega
  by_cases h2:(aC 4294967296 x).length≤2
  ·have h3:¬(aC 4294967296 y).length≤2:=fun h=>h1 ⟨h2,h⟩
   rw[if_pos h2] at c1
   rw[if_neg h3] at c2
   simp only[iF,g0,g1,dS,hl,c1,c2,c3,VX,Nat.reduceEqDiff,Nat.reduceAdd]
   exact next
  ·rw[if_neg h2] at c1
   by_cases h3:(aC 4294967296 y).length≤2
   ·rw[if_pos h3] at c2
    simp only[iF,g0,g1,dS,hl,c1,c2,c3,VX,Nat.reduceEqDiff,Nat.reduceAdd]
    exact next
   ·rw[if_neg h3] at c2
    simp only[iF,g0,g1,dS,hl,c1,c2,c3,VX,Nat.reduceEqDiff,Nat.reduceAdd]
    exact next
end Go.PM
namespace Go.PM
open Go.Lib
theorem qD (a b:List UInt8) (h:a.length+b.length≤9223372036854775807):dB .add (.string ⟨a.toArray⟩) (.string ⟨b.toArray⟩)=some (.string ⟨(a++b).toArray⟩):=by
 have h1:(⟨a.toArray⟩:ByteArray).size=a.length:=by simp[ByteArray.size]
 have h2:(⟨b.toArray⟩:ByteArray).size=b.length:=by simp[ByteArray.size]
 have h3:¬(((⟨a.toArray⟩:ByteArray).size+(⟨b.toArray⟩:ByteArray).size:Nat):Int)>IntKind.i64.max:=by
  rw[h1,h2]
  show ¬_>(9223372036854775807:Int)
  omega
 simp only[dB,h3,if_false]
 congr 2
theorem bJ (a:List UInt8):AU (.string ⟨a.toArray⟩)=some (.int .i64 (a.length:Int)):=by simp[AU,ByteArray.size]
theorem agW:∀a:List UInt8,(aB (aU a)).length=1:=fun _=>rfl
theorem WR {xs:List (List UInt8)} {H:aA} {lo b g n:Nat} (hr:aH H b g=some (xs.map aU,1,true)) (hn:xs.length=n) (eQ:lo≤b) (Dq:n≤9223372036854775806) :
  jO 216 [.ref b g 0 n n] lo H fun r H'=>r = .eY []∧H'=H.set b (.row g (xs.reverse.map aU) 1 true):=by
 refine jO.walk ⟨true,false⟩ qY (Nat.le_of_ble_eq_true rfl) ?_
 have e0:oC (.ref b g 0 n n) H=some (VI n):=dR hr
 have w0:IntKind.i64.wrap ((n:Int)-1)=(n:Int)-1:=wrap64 (by omega) (by omega)
 simp only[kK,jN,e0,w0,VX,Nat.reduceEqDiff,Nat.reduceAdd]
 refine aQ (fun(t:Nat×List (List UInt8)) ρ K=>t.1≤n∧K=H.set b (.row g (t.2.map aU) 1 true)∧t.2.length=n∧(∀k,k<n→t.2[k]? = if k<t.1∨n≤k+t.1 then xs[n-1-k]? else xs[k]?)∧ρ 0 = .ref b g 0 n n∧ρ 2=VI t.1∧ρ 3=VI ((n:Int)-1-(t.1:Int))) (fun t=>n-t.1) (0,xs) ⟨Nat.zero_le _,(vZ hr).symm,hn,fun k hk=>by rw[if_neg (by simp only;omega)],rfl,rfl,by show VI ((n:Int)-1)=VI ((n:Int)-1-((0:Nat):Int));rw[Int.natCast_zero,Int.sub_zero]⟩ ?_
 rintro⟨i,ys⟩ ρ K ⟨hi,rfl,hl,hy,g0,g2,g3⟩
 simp only at hi hl hy g2 g3
 have hr2:aH (H.set b (.row g (ys.map aU) 1 true)) b g=some (ys.map aU,1,true):=mQ hr
 by_cases cP:(i:Int)<(n:Int)-1-(i:Int)
 ·have hj:(n:Int)-1-(i:Int)=((n-1-i:Nat):Int):=by omega
  obtain⟨x,hx⟩:∃x,ys[i]? = some x:=⟨_,List.getElem?_eq_getElem (by omega)⟩
  obtain⟨y,hyy⟩:∃y,ys[n-1-i]? = some y:=⟨_,List.getElem?_eq_getElem (by omega)⟩
  rw[hj] at g3 cP
  have a1:∀(zs:List (List UInt8)) (k:Nat),zs.length=n→k<n→bH 1 (.ref b g 0 n n) (VI (k:Int)) (H.set b (.row g (zs.map aU) 1 true))=some (.ptr b g k 0):=fun zs k h1 h2=>by rw[aY (mQ hr) h2,Nat.zero_add]
  have l1:cI false 1 (.ptr b g (n-1-i) 0) (H.set b (.row g (ys.map aU) 1 true))=some (aU y):=oP hr2 hyy
  have l2:cI false 1 (.ptr b g i 0) (H.set b (.row g (ys.map aU) 1 true))=some (aU x):=oP hr2 hx
  have s1:bX lo 1 (.ptr b g i 0) (aU y) (H.set b (.row g (ys.map aU) 1 true))=some (H.set b (.row g ((ys.set i y).map aU) 1 true)):=by rw[fF (f:=aU) (e:=1) hr2 (by omega) eQ rfl rfl,lK]
  have s2:bX lo 1 (.ptr b g (n-1-i) 0) (aU x) (H.set b (.row g ((ys.set i y).map aU) 1 true))=some (H.set b (.row g (((ys.set i y).set (n-1-i) x).map aU) 1 true)):=by rw[fF (f:=aU) (e:=1) (mQ hr) (by rw[List.length_set];omega) eQ rfl rfl,lK]
  have w1:IntKind.i64.wrap ((i:Int)+1)=((i+1:Nat):Int):=wrapN _ (by omega) (by omega)
  have w2:IntKind.i64.wrap (((n-1-i:Nat):Int)-1)=(n:Int)-1-((i+1:Nat):Int):=by rw[wrap64 (by omega) (by omega)];omega
  have b1:=a1 ys i hl (by omega)
  have b2:=a1 ys (n-1-i) hl (by omega)
  have b3:=a1 (ys.set i y) (n-1-i) (by rw[List.length_set];exact hl) (by omega)
  simp only[fG,g0,g2,g3,cP,b1,b2,b3,l1,l2,s1,s2,w1,w2,VX,Nat.reduceEqDiff,Nat.reduceAdd]
  refine⟨(i+1,(ys.set i y).set (n-1-i) x),by simp only;omega,by simp only;omega,rfl,by simp only[List.length_set];exact hl,fun k hk => ?_,by (repeat' apply And.intro)<;>first | rfl | trivial⟩
  simp only
  have hxx:=hy i (by omega)
  rw[if_neg (by omega),hx] at hxx
  have hyx:=hy (n-1-i) (by omega)
  rw[if_neg (by omega),hyy] at hyx
  rw[List.getElem?_set,List.getElem?_set,List.length_set]
  by_cases h1:n-1-i=k
  ·subst h1
   rw[if_pos rfl,if_pos (by omega),if_pos (by omega),show n-1-(n-1-i)=i by omega]
   exact hxx
  ·rw[if_neg h1]
   by_cases h2:i=k
   ·subst h2
    rw[if_pos rfl,if_pos (by omega),if_pos (by omega)]
    exact hyx
   ·rw[if_neg h2,hy k hk]
    by_cases h3:k<i∨n≤k+i
    ·rw[if_pos h3,if_pos (by omega)]
    ·rw[if_neg h3,if_neg (by omega)]
 ·have auH:ys=xs.reverse:=by
   apply List.ext_getElem?
   intro k
   rcases Nat.lt_or_ge k n with h | h
   ·rw[hy k h,List.getElem?_reverse (by omega),hn]
    split
    ·rfl
    ·rw[show n-1-k=k by omega]
   ·rw[List.getElem?_eq_none (by omega),List.getElem?_eq_none (by rw[List.length_reverse];omega)]
  subst auH
  simp only[fG,g0,g2,g3,cP,VX,Nat.reduceEqDiff,Nat.reduceAdd]
  try exact⟨rfl,rfl⟩
theorem Wo (n:Nat):(aC 1000000000 n).length≤2*(aC 4294967296 n).length:=by
 refine lI (by decide) ?_
 have h1:=gE (b:=4294967296) (by decide) n
 have h2:4294967296^(aC 4294967296 n).length≤(1000000000^2)^(aC 4294967296 n).length:=Nat.pow_le_pow_left (by decide) _
 rw[←Nat.pow_mul] at h2
 omega
theorem adR {n:Nat} (hn:n≠0):(decDigits n).length≤9*(aC 1000000000 n).length:=by
 have h1:=gE (b:=1000000000) (by decide) n
 have h3:(aC 1000000000 n)≠[]:=fun h=>hn ((kU (by decide)).1 h)
 have h4:=List.length_pos_iff.2 h3
 generalize (aC 1000000000 n).length=L at *
 obtain⟨k,hk⟩:∃k,9*L=k+1:=⟨9*L-1,by omega⟩
 have h5:(1000000000:Nat)^L=10^(9*L):=by rw[show (1000000000:Nat)=10^9 by decide,←Nat.pow_mul]
 rw[h5,hk] at h1
 rw[hk]
 exact yG n k h1
def kW (q:Nat):List UInt8:=if q=0 then [] else decDigits q
theorem BT (n:Nat) (hn:(aC 4294967296 n).length≤68719476736):TC 196 [bM n] (aU (decDigits n)):=by
 refine TC.walk ⟨true,false⟩ F1 rfl (Nat.le_of_ble_eq_true rfl) (by simp[aL,bO]) rfl ?_
 by_cases h0:n=0
 ·subst h0
  have hl:(((aC 4294967296 0).length:Nat):Int)=0:=by rw[bY];rfl
  simp only[uT,rY,dS,hl,VX,Nat.reduceEqDiff,Nat.reduceAdd]
  rw[iD (by decide)]
  exact aF rfl
 have hl:¬(((aC 4294967296 n).length:Nat):Int)=0:=by have:=vY.2 h0;omega
 have e1:∀lr,mF lr [.string ⟨#[]⟩] 0 [] []=some (.ref 0 0 0 0 0,[.row 0 (([]:List (List UInt8)).map aU) 1 true]):=fun lr=>kA (H:=[]) (lr:=lr) (z:=[.string ⟨#[]⟩]) rfl
 have hTn:=Wo n
 have hdl:=adR h0
 simp only[uT,rY,dS,hl,e1,VX,Nat.reduceEqDiff,Nat.reduceAdd]
 refine aQ (fun(t:Nat×List (List UInt8)) ρ H=>H=[.row t.2.length (t.2.map aU) 1 true]∧t.1≤n∧t.2.length+(aC 1000000000 t.1).length=(aC 1000000000 n).length∧decDigits n=kW t.1++t.2.reverse.flatten∧ρ 0=bM t.1∧ρ 3 = .ref 0 t.2.length 0 t.2.length t.2.length) (fun t=>t.1) (n,[]) ⟨rfl,Nat.le_refl _,by simp,by simp[kW,h0],rfl,rfl⟩ ?_
 rintro⟨q,ps⟩ ρ H ⟨rfl,hq,hlen,Ym,g0,g3⟩
 simp only at hq hlen Ym g0 g3
 by_cases PW:q=0
 ·subst PW
  have hz:¬(0:Int)<((aC 4294967296 0).length:Int):=by rw[vY];omega
  rw[kW,if_pos rfl,List.nil_append] at Ym
  have hr:aH [.row ps.length (ps.map aU) 1 true] 0 ps.length=some (ps.map aU,1,true):=aS
  simp only[lP,g0,g3,dS,hz,VX,Nat.reduceEqDiff,Nat.reduceAdd]
  refine gC rfl ((WR hr rfl (Nat.le_refl _) (by omega)).mono ?_)
  rintro r H' ⟨rfl,rfl⟩
  have G1:([.row ps.length (ps.map aU) 1 true]:aA).set 0 (.row ps.length (ps.reverse.map aU) 1 true)=[.row ps.length (ps.reverse.map aU) 1 true]:=rfl
  have hr2:aH [.row ps.length (ps.reverse.map aU) 1 true] 0 ps.length=some (ps.reverse.map aU,1,true):=aS
  have hfl:ps.reverse.flatten.length≤140737488355328:=by rw[←Ym];omega
  have cj:=(amF ps.reverse (by rw[List.length_reverse];omega) hfl).flat (H:=[.row ps.length (ps.reverse.map aU) 1 true]) (args:=[.ref 0 ps.length 0 ps.length ps.length,aU []]) rfl (by simp only[aL,jT (f:=aU) agW (fun _=>rfl),Bool.and_true];rfl) (fz2 (Fb hr2 (by simp) (Nat.le_refl _) (eR fun _=>rfl)) (aF rfl)) rfl
  simp only[G1,g3,cj,VX,Nat.reduceEqDiff,Nat.reduceAdd]
  rw[←Ym]
  exact aF rfl
 ·have hz:(0:Int)<((aC 4294967296 q).length:Int):=vY.2 PW
  have hql:=dU (b:=4294967296) (by decide) hq
  have c1:TC 197 [bM q,.sc (.int .u32 1000000000)] (.eY [bM (q / 1000000000),uV (q % 1000000000)]):=vF q 1000000000 (by decide) (by decide) (by omega)
  have hm:=Nat.mod_lt q (show 0<1000000000 by decide)
  have c2:=alG (q % 1000000000) (by omega)
  have wm:IntKind.u64.wrap ((q % 1000000000:Nat):Int)=((q % 1000000000:Nat):Int):=dT _ (by omega)
  have hdq:=iL (b:=1000000000) (by decide) PW
  have aCx:(aC 1000000000 q).length=(aC 1000000000 (q / 1000000000)).length+1:=by rw[hdq];rfl
  have Xg:=yG (q % 1000000000) 8 hm
  have hqq:=Nat.mod_add_div q 1000000000
  have e2:∀x:List UInt8,mF false [.string ⟨#[]⟩] 1 [(0,aU x)] [.row ps.length (ps.map aU) 1 true]=some (.tree [aU x] (.cl 1),[.row ps.length (ps.map aU) 1 true]):=fun x=>iJ (z:=[.string ⟨#[]⟩]) rfl rfl rfl
  have e3:∀x:List UInt8,cW 1 (.tree [aU x] (.cl 1)) [.row ps.length (ps.map aU) 1 true]=some [aU x]:=fun x=>fK rfl rfl
  have e4:∀x:List UInt8,eO 0 1 16 (.ref 0 ps.length 0 ps.length ps.length) [aU x] [.row ps.length (ps.map aU) 1 true]=some (.ref 0 (ps.length+1) 0 (ps.length+1) (ps.length+1),[.row (ps.length+1) ((ps++[x]).map aU) 1 true]):=fun x=>by
   rw[gY (f:=aU) (x:=x) aS rfl (Nat.le_refl _) (by decide) (by decide) (by omega)]
   rfl
  have hle:q / 1000000000<q:=Nat.div_lt_self (by omega) (by decide)
  by_cases hqz:q / 1000000000=0
  ·have SC:¬(0:Int)<((aC 4294967296 (q / 1000000000)).length:Int):=by rw[vY];omega
   simp only[lP,g0,g3,dS,hz,c1,c2,wm,SC,e2,e3,e4,VX,Nat.reduceEqDiff,Nat.reduceAdd]
   refine⟨(q / 1000000000,ps++[decDigits (q % 1000000000)]),hle,by simp,by simp only;omega,by simp only[List.length_append,List.length_singleton];omega,?_,rfl,by simp⟩
   rw[Ym,kW,if_neg PW,kW,if_pos hqz,List.reverse_append,List.nil_append,List.reverse_singleton,List.singleton_append,List.flatten_cons,show q % 1000000000=q by omega]
  ·have SC:(0:Int)<((aC 4294967296 (q / 1000000000)).length:Int):=vY.2 hqz
   have ws:IntKind.i64.wrap ((9:Int)-((decDigits (q % 1000000000)).length:Int))=((9-(decDigits (q % 1000000000)).length:Nat):Int):=wrapN _ (by omega) (by omega)
   have c3:=ZO [48] (9-(decDigits (q % 1000000000)).length) (by simp;omega) (by omega)
   have abN:repeatL [48] (9-(decDigits (q % 1000000000)).length)++decDigits (q % 1000000000)=Cg 9 (q % 1000000000):=by
    rw[aiY 8 _ hm]
    congr 1
    have:=repeatL_replicate 48 1 (9-(decDigits (q % 1000000000)).length)
    rw[Nat.mul_one] at this
    exact this
   have c4:=qD (repeatL [48] (9-(decDigits (q % 1000000000)).length)) (decDigits (q % 1000000000)) (by rw[←List.length_append,abN,afS];decide)
   rw[abN] at c4
   simp only[lP,g0,g3,dS,hz,c1,c2,wm,SC,bJ,ws,c3,c4,e2,e3,e4,VX,Nat.reduceEqDiff,Nat.reduceAdd]
   refine⟨(q / 1000000000,ps++[Cg 9 (q % 1000000000)]),hle,by simp,by simp only;omega,by simp only[List.length_append,List.length_singleton];omega,?_,rfl,by simp⟩
   rw[Ym,kW,if_neg PW,kW,if_neg hqz,List.reverse_append,List.reverse_singleton,List.singleton_append,List.flatten_cons,←List.append_assoc,←GY (by omega) hm]
   congr 2
   omega
end Go.PM