/- Texts of a claim, in one: part 9. -/
import Derived.Test.YtodamlihdkalfaaGreatDoorKUh
set_option linter.unusedSimpArgs false
set_option linter.unusedVariables false
namespace Go.PM
theorem T0 {gZ vs us ws os:List Nat} {n u2 u1 u0 v1 v0 N k g left:Nat} (G:wH 4294967296 gZ vs n u2 u1 u0 v1 v0) {ρ:dG} {Q:VQ} (hN:us.length=N) (hk2:2≤k) (hkN:k<N) (CW:N≤70368744177664) (hu0:us[k-2]? = some u0)
  (g9:ρ 9 = .ref 0 0 0 N N) (g11:ρ 11=VK .u64 v1) (g12:ρ 12=VK .u64 v0) (g15:ρ 15=VI k) (g17:ρ 17=VK .u64 g) (g18:ρ 18=VK .u64 left) (hh:u2*4294967296+u1=g*v1+left) (hq:val 4294967296 gZ / val 4294967296 vs≤g) (hl:left<4294967296) (hgb:g<18446744073709551616)
  (hQ:∀(bC:dG) (g':Nat),val 4294967296 gZ / val 4294967296 vs≤g'→g'≤val 4294967296 gZ / val 4294967296 vs+1→g'<4294967296→bC 17=VK .u64 g'→bC 8=ρ 8→bC 9=ρ 9→bC 10=ρ 10→bC 11=ρ 11→bC 12=ρ 12→bC 13=ρ 13→bC 14=ρ 14→bC 15=ρ 15→Q (.exit 2) bC (H3 us ws os)) :
  VW ⟨true,false⟩ 0 (.loop fU) Q ρ (H3 us ws os):=by
 have lv1:=G.U6
 have lv0:=G.Z6
 have lu0:=G.afM
 have qlt:=G.adP
 have jT:=G.pos
 refine aQ (fun(t:Nat×Nat) bC H=>H=H3 us ws os∧u2*4294967296+u1=t.1*v1+t.2∧val 4294967296 gZ / val 4294967296 vs≤t.1∧t.2<4294967296∧t.1<18446744073709551616 ∧
  bC 9 = .ref 0 0 0 N N∧bC 11=VK .u64 v1∧bC 12=VK .u64 v0∧bC 15=VI k∧bC 17=VK .u64 t.1∧bC 18=VK .u64 t.2∧bC 8=ρ 8∧bC 10=ρ 10∧bC 13=ρ 13∧bC 14=ρ 14) (fun t=>4294967296-t.2) (g,left) ⟨rfl,hh,hq,hl,hgb,g9,g11,g12,g15,g17,g18,rfl,rfl,rfl,rfl⟩ ?_
 rintro⟨g,left⟩ N8 H ⟨rfl,hh,hq,hl,hgb,k9,SE,I9,J0,Hw,XR,k8,XU,BB,CH⟩
 simp only at hh hq hl hgb Hw XR
 have e1:bM 1 (.ref 0 0 0 N N) (VI ((k-2:Nat):Int)) (H3 us ws os)=some (.ptr 0 0 (k-2) 0):=by rw[bD CF (by omega),Nat.zero_add]
 have e2:cR false 1 (.ptr 0 0 (k-2) 0) (H3 us ws os)=some (uV u0):=iH CF hu0
 have wk:IntKind.i64.wrap ((k:Int)-2)=((k-2:Nat):Int):=wrapN _ (by omega) (by omega)
 have wu:IntKind.u64.wrap (u0:Int)=(u0:Int):=dW _ (by omega)
 have ws:=Ek left .u64 hl
 have wa:IntKind.u64.wrap (((left*4294967296:Nat):Int)+(u0:Int))=((left*4294967296+u0:Nat):Int):=by rw[←Int.natCast_add];exact dW _ (by omega)
 have wl:IntKind.u64.wrap ((left:Int)+(v1:Int))=((left+v1:Nat):Int):=by rw[←Int.natCast_add];exact dW _ (by omega)
 have same:N8 9=ρ 9∧N8 11=ρ 11∧N8 12=ρ 12∧N8 15=ρ 15:=⟨by rw[k9,g9],by rw[SE,g11],by rw[I9,g12],by rw[J0,g15]⟩
 obtain⟨s9,s11,s12,s15⟩:=same
 have down:val 4294967296 gZ / val 4294967296 vs<g→∃g',g=g'+1∧IntKind.u64.wrap ((g:Int)-1)=(g':Int)∧u2*4294967296+u1=g'*v1+(left+v1)∧val 4294967296 gZ / val 4294967296 vs≤g':=by
  intro h
  have hg1:1≤g:=Nat.lt_of_le_of_lt (Nat.zero_le _) h
  obtain⟨g',rfl⟩:∃g',g=g'+1:=⟨g-1,by omega⟩
  refine⟨g',rfl,?_,?_,by omega⟩
  ·rw[show ((g'+1:Nat):Int)-1=(g':Int) by omega]
   exact dW _ (by omega)
  ·rw[hh,Nat.add_mul]
   omega
 by_cases hA:(4294967296:Int)≤(g:Int)
 ·obtain⟨g',Rq,wg,T3,MP⟩:=down (by omega)
  by_cases hB:(4294967296:Int)≤((left+v1:Nat):Int)
  ·obtain⟨c1,c2⟩:=G.broken T3 (by omega)
   simp only[fU,k9,SE,I9,J0,Hw,XR,hA,hB,wg,wl,VX,Nat.reduceEqDiff,Nat.reduceAdd]
   exact hQ _ g' MP (G.WC T3 (by omega) c2) c1 rfl k8 s9 XU s11 s12 BB CH s15
  ·simp only[fU,k9,SE,I9,J0,Hw,XR,hA,hB,wg,wl,VX,Nat.reduceEqDiff,Nat.reduceAdd]
   exact⟨(g',left+v1),by simp only;omega,T3,MP,by simp only;omega,by simp only;omega,by rfl,by rfl,k8,XU,BB,CH⟩
 ·have hgv:g*v0≤4294967295*4294967295:=Nat.mul_le_mul (by omega) (by omega)
  have wm:IntKind.u64.wrap ((g:Int)*(v0:Int))=((g*v0:Nat):Int):=by rw[←Int.natCast_mul];exact dW _ (by omega)
  by_cases hT:((left*4294967296+u0:Nat):Int)<((g*v0:Nat):Int)
  ·obtain⟨g',Rq,wg,T3,MP⟩:=down (G.too hh (by omega))
   by_cases hB:(4294967296:Int)≤((left+v1:Nat):Int)
   ·obtain⟨c1,c2⟩:=G.broken T3 (by omega)
    simp only[fU,k9,SE,I9,J0,Hw,XR,hA,hB,hT,e1,e2,wk,wu,ws,wa,wm,wg,wl,VX,Nat.reduceEqDiff,Nat.reduceAdd]
    exact hQ _ g' MP (G.WC T3 (by omega) c2) c1 rfl k8 s9 XU s11 s12 BB CH s15
   ·simp only[fU,k9,SE,I9,J0,Hw,XR,hA,hB,hT,e1,e2,wk,wu,ws,wa,wm,wg,wl,VX,Nat.reduceEqDiff,Nat.reduceAdd]
    exact⟨(g',left+v1),by simp only;omega,T3,MP,by simp only;omega,by simp only;omega,by rfl,by rfl,k8,XU,BB,CH⟩
  ·simp only[fU,k9,SE,I9,J0,Hw,XR,hA,hT,e1,e2,wk,wu,ws,wa,wm,VX,Nat.reduceEqDiff,Nat.reduceAdd]
   exact hQ _ g hq (G.WC hh (by omega) (by omega)) (by omega) Hw k8 s9 XU s11 s12 BB CH s15
theorem Li {X S S' R V q Q P w:Nat} (hs:S=q*V+S') (h:X+P*S+P*w*V*Q=R):X+P*S'+P*V*(q+w*Q)=R:=by
 subst hs
 grind
theorem Ym {Ep ws XY vs:List Nat} {N m n v1 v0 A s:Nat} {ρ:dG} {Q:VQ} (hN:Ep.length=N) (hm:m+(n+2)=N) (CW:N≤70368744177664) (Js:∀d∈Ep,d<4294967296) (hws:ws.take (n+2)=vs) (hwl:ws.length=n+3) (EX:vs.length=n+2) (GD:∀d∈vs,d<4294967296) (f1:vs[n+1]? = some v1) (f0:vs[n]? = some v0) (jT:1≤v1)
  (hA:val 4294967296 Ep=A) (CC:val 4294967296 (Ep.drop m)<val 4294967296 vs) (iQ:XY.length=m) (lC:∀d∈XY,d<4294967296)
  (g8:ρ 8=VI s) (g9:ρ 9 = .ref 0 0 0 N N) (g10:ρ 10 = .ref 1 0 0 (n+2) (n+3)) (g11:ρ 11=VK .u64 v1) (g12:ρ 12=VK .u64 v0) (g13:ρ 13 = .ref 2 0 0 m m) (g14:ρ 14=VI ((m:Int)-1))
  (hQ:∀(bC:dG) (us os:List Nat),bC 8=VI s→bC 9 = .ref 0 0 0 N N→bC 13 = .ref 2 0 0 m m→us.length=N→(∀d∈us,d<4294967296)→os.length=m→(∀d∈os,d<4294967296)→val 4294967296 us+val 4294967296 vs*val 4294967296 os=A→val 4294967296 us<val 4294967296 vs→Q (.exit 0) bC (H3 us ws os)) :
  VW ⟨true,false⟩ 0 (.loop oG) Q ρ (H3 Ep ws XY):=by
 have hVb:=oU GD
 rw[EX] at hVb
 refine aQ (fun(t:Nat×List Nat×List Nat) bC H=>t.1≤m∧H=H3 t.2.1 ws t.2.2∧t.2.1.length=N∧(∀d∈t.2.1,d<4294967296)∧t.2.2.length=m∧(∀d∈t.2.2,d<4294967296)∧val 4294967296 (t.2.1.drop t.1)<val 4294967296 vs∧val 4294967296 t.2.1+4294967296^t.1*val 4294967296 vs*val 4294967296 (t.2.2.drop t.1)=A ∧
  bC 8=VI s∧bC 9 = .ref 0 0 0 N N∧bC 10 = .ref 1 0 0 (n+2) (n+3)∧bC 11=VK .u64 v1∧bC 12=VK .u64 v0∧bC 13 = .ref 2 0 0 m m∧bC 14=VI ((t.1:Int)-1)) (fun t=>t.1) (m,Ep,XY) ⟨Nat.le_refl _,rfl,hN,Js,iQ,lC,CC,by rw[List.drop_of_length_le (by simp only;omega)];simpa[val] using hA,g8,g9,g10,g11,g12,g13,g14⟩ ?_
 rintro⟨j,us,os⟩ N8 H ⟨hj,rfl,PO,Js,iQ,lC,bB,hv,k8,k9,XU,SE,I9,BB,CH⟩
 simp only at hj PO Js iQ lC bB hv CH
 by_cases hz:(0:Int)≤(j:Int)-1
 ·obtain⟨i,rfl⟩:∃i,j=i+1:=⟨j-1,by omega⟩
  have Ke:((i+1:Nat):Int)-1=(i:Int):=by omega
  rw[Ke] at CH hz
  obtain⟨Tn,zO,O5,hsW,aaC,abA,vA⟩:=Wd (n:=n+2) PO (by omega) Js hVb bB
  generalize Xk:(us.drop i).take (n+2+1)=gZ at *
  have OB:∀d∈gZ,d<4294967296:=fun d hd=>by rw[←Xk] at hd;exact Js d (List.mem_of_mem_drop (List.mem_of_mem_take hd))
  obtain⟨u2,hu2⟩:∃u2,us[i+(n+2)]? = some u2:=⟨_,List.getElem?_eq_getElem (by omega)⟩
  obtain⟨u1,hu1⟩:∃u1,us[i+(n+1)]? = some u1:=⟨_,List.getElem?_eq_getElem (by omega)⟩
  obtain⟨u0,hu0⟩:∃u0,us[i+n]? = some u0:=⟨_,List.getElem?_eq_getElem (by omega)⟩
  have G:wH 4294967296 gZ vs n u2 u1 u0 v1 v0:=⟨by decide,OB,GD,O5,EX,by rw[vA _ (by omega)];exact hu2,by rw[vA _ (by omega)];exact hu1,by rw[vA _ (by omega)];exact hu0,f1,f0,jT,hsW⟩
  have lu2:=G.afY
  have lu1:=G.abD
  have lv1:=G.U6
  have qlt:=G.adP
  have Ia:=G.Ia
  have aiZ:pT (.ref 1 0 0 (n+2) (n+3)) (H3 us ws os)=some (VI ((n+2:Nat):Int)):=dU apC
  have w1:IntKind.i64.wrap ((i:Int)+((n+2:Nat):Int))=((i+(n+2):Nat):Int):=by rw[←Int.natCast_add];exact wrapN _ rfl (by omega)
  have w2:IntKind.i64.wrap (((i+(n+2):Nat):Int)-1)=((i+(n+1):Nat):Int):=wrapN _ (by omega) (by omega)
  have e2:bM 1 (.ref 0 0 0 N N) (VI ((i+(n+2):Nat):Int)) (H3 us ws os)=some (.ptr 0 0 (i+(n+2)) 0):=by rw[bD CF (by omega),Nat.zero_add]
  have e1:bM 1 (.ref 0 0 0 N N) (VI ((i+(n+1):Nat):Int)) (H3 us ws os)=some (.ptr 0 0 (i+(n+1)) 0):=by rw[bD CF (by omega),Nat.zero_add]
  have l2:cR false 1 (.ptr 0 0 (i+(n+2)) 0) (H3 us ws os)=some (uV u2):=iH CF hu2
  have l1:cR false 1 (.ptr 0 0 (i+(n+1)) 0) (H3 us ws os)=some (uV u1):=iH CF hu1
  have wu2:IntKind.u64.wrap (u2:Int)=(u2:Int):=dW _ (by omega)
  have wu1:IntKind.u64.wrap (u1:Int)=(u1:Int):=dW _ (by omega)
  have ws2:=Ek u2 .u64 lu2
  have wa:IntKind.u64.wrap (((u2*4294967296:Nat):Int)+(u1:Int))=((u2*4294967296+u1:Nat):Int):=by rw[←Int.natCast_add];exact dW _ (by omega)
  have q1:=UE (u2*4294967296+u1) v1 (by omega) jT
  have q2:=OA (u2*4294967296+u1) v1 jT
  simp only[oG,k8,k9,XU,SE,I9,BB,CH,hz,aiZ,w1,w2,e1,e2,l1,l2,wu1,wu2,ws2,wa,q1,q2,VX,Nat.reduceEqDiff,Nat.reduceAdd]
  have hh:=Nat.mod_add_div (u2*4294967296+u1) v1
  have hml:=Nat.mod_lt (u2*4294967296+u1) jT
  have hdl:(u2*4294967296+u1) / v1≤u2*4294967296+u1:=Nat.div_le_self _ _
  have PV:val 4294967296 gZ / val 4294967296 vs≤(u2*4294967296+u1) / v1:=by
   have t1:=(C2 (n:=n+1) (xs:=gZ) OB (by omega) (by rw[vA _ (by omega)];exact hu2) (by rw[vA _ (by omega)];exact hu1)).2
   have t2:=(zS (n:=n+1) GD EX f1).1
   rw[Nat.le_div_iff_mul_le jT]
   have t3:val 4294967296 gZ / val 4294967296 vs*(v1*4294967296^(n+1))≤val 4294967296 gZ / val 4294967296 vs*val 4294967296 vs:=Nat.mul_le_mul_left _ t2
   have t4:=Nat.div_mul_le_self (val 4294967296 gZ) (val 4294967296 vs)
   have t5:val 4294967296 gZ / val 4294967296 vs*v1*4294967296^(n+1)<(u2*4294967296+u1+1)*4294967296^(n+1):=by rw[Nat.mul_assoc];omega
   have:=Nat.lt_of_mul_lt_mul_right t5
   omega
  refine T0 (k:=i+(n+2)) G PO (by omega) (by omega) CW (by rw[show i+(n+2)-2=i+n by omega];exact hu0) k9 SE I9 (by rfl) (by rfl) (by rfl) (by rw[Nat.mul_comm ((u2*4294967296+u1) / v1)];omega) PV (by omega) (by omega) ?_
  intro TT g' hq MP hgW r17 r8 r9 r10 r11 r12 r13 r14 r15
  have Qb:TT 15=VI ((i+(n+2):Nat):Int):=r15
  have r8':TT 8=VI s:=r8.trans k8
  have r9':TT 9 = .ref 0 0 0 N N:=r9.trans k9
  have ahA:TT 10 = .ref 1 0 0 (n+2) (n+3):=r10.trans XU
  have aiH:TT 11=VK .u64 v1:=r11.trans SE
  have RN:TT 12=VK .u64 v0:=r12.trans I9
  have QC:TT 13 = .ref 2 0 0 m m:=r13.trans BB
  have Qc:TT 14=VI i:=r14.trans CH
  have w3:IntKind.i64.wrap (((i+(n+2):Nat):Int)+1)=((i+(n+3):Nat):Int):=wrapN _ (by omega) (by omega)
  have ZI:Ew 1 (.ref 0 0 0 N N) (some (VI i)) (some (VI ((i+(n+3):Nat):Int))) none (H3 us ws os)=some (.ref 0 0 i (n+3) (N-i)):=by
   rw[Zc CF (by omega) (by omega),Nat.zero_add,Nat.add_sub_cancel_left]
  simp only[r8',r9',ahA,aiH,RN,QC,Qc,Qb,r17,w3,ZI,VX,Nat.reduceEqDiff,Nat.reduceAdd]
  have qR:g'*val 4294967296 vs≤val 4294967296 gZ+val 4294967296 vs:=by
   have:=Nat.mul_le_mul_right (val 4294967296 vs) MP
   rw[Nat.add_mul,Nat.one_mul] at this
   have:=Nat.div_mul_le_self (val 4294967296 gZ) (val 4294967296 vs)
   omega
  refine fC rfl ((Te (pre:=us.take i) (gZ:=gZ) (post:=us.drop (i+(n+2+1))) (L:=n+3) (o:=i) (by rw[←Tn];exact CF) (apC (us:=us) (ws:=ws) (os:=os)) (by decide) (Nat.zero_le _) zO O5 (by omega) hws (by omega) (by omega) OB GD hgW qR).mono ?_)
  rintro r H' ⟨qQ,rfl,BJ,W2,hr⟩
  generalize acW:us.take i++qQ++us.drop (i+(n+2+1))=Fx at *
  have HF:(H3 us ws os).set 0 (.row 0 (Fx.map uV) 1 true)=H3 Fx ws os:=rfl
  rw[HF]
  have ahM:Fx.length=N:=by rw[←acW,List.length_append,List.length_append,zO,BJ,List.length_drop];omega
  have aeW:∀d∈Fx,d<4294967296:=fun d hd=>by
   rw[←acW,List.mem_append,List.mem_append] at hd
   rcases hd with(hd | hd) | hd
   ·exact Js d (List.mem_of_mem_take hd)
   ·exact W2 d hd
   ·exact Js d (List.mem_of_mem_drop hd)
  have TS:Fx.drop i=qQ++us.drop (i+(n+2+1)):=by rw[←acW,List.append_assoc,List.drop_append,List.drop_of_length_le (by omega),zO];simp
  have S9:Fx.take i=us.take i:=by rw[←acW,List.append_assoc,List.take_append_of_le_length (by omega),List.take_of_length_le (by omega)]
  have Sq:val 4294967296 (Fx.drop i)=val 4294967296 qQ:=by rw[TS,xQ,abA,Nat.mul_zero,Nat.add_zero]
  have digit:∀q:Nat,q=val 4294967296 gZ / val 4294967296 vs→val 4294967296 qQ=val 4294967296 gZ % val 4294967296 vs →
    val 4294967296 (Fx.drop i)<val 4294967296 vs∧val 4294967296 Fx+4294967296^i*val 4294967296 vs*val 4294967296 ((os.set i q).drop i)=A:=by
   rintro q SG hse
   have acS:=Nat.mod_lt (val 4294967296 gZ) Ia
   refine⟨by rw[Sq,hse];exact acS,?_⟩
   have h1:=Nat.div_add_mod (val 4294967296 gZ) (val 4294967296 vs)
   rw[←SG,←hse,Nat.mul_comm] at h1
   have h2:=oY (b:=4294967296) us i
   have h3:=oY (b:=4294967296) Fx i
   rw[S9,zO,Sq] at h3
   rw[zO,aaC] at h2
   rw[set_drop (by omega),rS,h3]
   rw[h2,Nat.pow_succ] at hv
   exact Li h1.symm hv
  have e3:∀d:Nat,bM 1 (.ref 2 0 0 m m) (VI i) (H3 Fx ws os)=some (.ptr 2 0 i 0)∧bY 0 1 (.ptr 2 0 i 0) (uV d) (H3 Fx ws os)=some (H3 Fx ws (os.set i d)):=fun d=>by
   refine⟨by rw[bD adH (by omega),Nat.zero_add],?_⟩
   rw[fK (f:=uV) (e:=1) adH (by omega) (Nat.zero_le _) rfl rfl]
   rfl
  have wi:IntKind.i64.wrap ((i:Int)-1)=(i:Int)-1:=wrap64 (by omega) (by omega)
  rcases hr with⟨rfl,hr⟩ | ⟨rfl,IQ,Wo⟩
  ·have CE:g'*val 4294967296 vs≤val 4294967296 gZ:=by omega
   have SG:g'=val 4294967296 gZ / val 4294967296 vs:=by
    have:=(Nat.le_div_iff_mul_le Ia).2 CE
    omega
   have hse:val 4294967296 qQ=val 4294967296 gZ % val 4294967296 vs:=by
    have h1:=Nat.div_add_mod (val 4294967296 gZ) (val 4294967296 vs)
    rw[←SG,Nat.mul_comm] at h1
    omega
   obtain⟨d1,d2⟩:=digit g' SG hse
   simp only[r8',r9',ahA,aiH,RN,QC,Qc,Qb,r17,(e3 g').1,(e3 g').2,wi,wrap32,Nat.mod_eq_of_lt hgW,VX,Nat.reduceEqDiff,Nat.reduceAdd]
   exact⟨(i,Fx,os.set i g'),by simp only;omega,by omega,rfl,ahM,aeW,by rw[List.length_set];exact iQ,lZ lC hgW,d1,d2,by (repeat' apply And.intro)<;>first | rfl | trivial⟩
  ·have ZA:val 4294967296 gZ / val 4294967296 vs<g':=(Nat.div_lt_iff_lt_mul Ia).2 IQ
   have hg1:1≤g':=Nat.lt_of_le_of_lt (Nat.zero_le _) ZA
   obtain⟨q,rfl⟩:∃q,g'=q+1:=⟨g'-1,by omega⟩
   have SG:q=val 4294967296 gZ / val 4294967296 vs:=by omega
   have hse:val 4294967296 qQ=val 4294967296 gZ % val 4294967296 vs:=by
    have h1:=Nat.div_add_mod (val 4294967296 gZ) (val 4294967296 vs)
    rw[←SG,Nat.mul_comm] at h1
    rw[Nat.add_mul,Nat.one_mul] at Wo
    omega
   have wq:IntKind.u64.wrap (((q+1:Nat):Int)-1)=(q:Int):=by rw[show ((q+1:Nat):Int)-1=(q:Int) by omega];exact dW _ (by omega)
   obtain⟨d1,d2⟩:=digit q SG hse
   simp only[r8',r9',ahA,aiH,RN,QC,Qc,Qb,r17,wq,(e3 q).1,(e3 q).2,wi,wrap32,Nat.mod_eq_of_lt (show q<4294967296 by omega),VX,Nat.reduceEqDiff,Nat.reduceAdd]
   exact⟨(i,Fx,os.set i q),by simp only;omega,by omega,rfl,ahM,aeW,by rw[List.length_set];exact iQ,lZ lC (by omega),d1,d2,by (repeat' apply And.intro)<;>first | rfl | trivial⟩
 ·have S6:j=0:=by omega
  subst S6
  rw[List.drop_zero] at bB
  rw[Nat.pow_zero,Nat.one_mul,List.drop_zero] at hv
  simp only[oG,k8,k9,XU,SE,I9,BB,CH,hz,VX,Nat.reduceEqDiff,Nat.reduceAdd]
  exact hQ _ us os k8 k9 BB PO Js iQ lC hv bB
end Go.PM
namespace Go.PM
theorem KT {a n:Nat} (hn:(aC 4294967296 a).length=n+1):∃d,(aC 4294967296 a)[n]? = some d∧d≠0∧d<4294967296:=by
 obtain⟨d,hd⟩:∃d,(aC 4294967296 a)[n]? = some d:=⟨_,List.getElem?_eq_getElem (by omega)⟩
 refine⟨d,hd,fun h0 => ?_,fG (by decide) a d (List.mem_of_getElem? hd)⟩
 have:=N7 (b:=4294967296) (by decide) a
 rw[List.getLast?_eq_getElem?,hn,Nat.add_sub_cancel,hd,h0] at this
 exact this rfl
theorem QD {a d:Nat} (h:aC 4294967296 a=[d]):a=d∧0<d∧d<4294967296:=by
 have h1:=cC (b:=4294967296) (by decide) a
 rw[h,val_one] at h1
 obtain⟨e,h2,h3,h4⟩:=KT (a:=a) (n:=0) (by rw[h];rfl)
 rw[h] at h2
 cases h2
 exact⟨h1.symm,by omega,h4⟩
theorem xO (a b:Nat) (hb:b≠0) (ha:(aC 4294967296 a).length≤17592186044416) (uJ:(aC 4294967296 b).length≤17592186044416):TC 173 [bL a,bL b] (.dS [bL (a / b),bL (a % b)]):=by
 refine TC.walk ⟨true,false⟩ Hi rfl (Nat.le_of_ble_eq_true rfl) (by simp[aM,bO]) (by simp[gQ,rA,qA]) ?_
 have c1:=kA a b ha uJ
 by_cases Ic:fF a b<0
 ·have bB:a<b:=by
   unfold fF at Ic
   split at Ic
   ·assumption
   ·split at Ic<;>omega
  simp only[rU,pD,c1,Ic,VX,Nat.reduceEqDiff,Nat.reduceAdd]
  rw[Nat.div_eq_of_lt bB,Nat.mod_eq_of_lt bB]
  exact bN (d:=6) wK (aJ (bO a))
 have CE:b≤a:=by
  unfold fF at Ic
  split at Ic
  ·omega
  ·omega
 have hbn:(aC 4294967296 b).length≠0:=fun h=>hb ((lR (b:=4294967296) (by decide)).1 (List.length_eq_zero_iff.1 h))
 by_cases h1:(((aC 4294967296 b).length:Nat):Int)=1
 ·obtain⟨d,hd⟩:∃d,aC 4294967296 b=[d]:=by
   match hx:aC 4294967296 b with
   | []=>rw[hx] at hbn;exact absurd rfl hbn
   | [d]=>exact⟨d,rfl⟩
   | _::_::_=>rw[hx] at h1;simp at h1;omega
  obtain⟨rfl,Du,hdW⟩:=QD hd
  have c2:=wD a b Du hdW ha
  have e0:pT (bL b) []=some (VI 1):=by rw[bL,AO,eX,hd];rfl
  have e1:bM 1 (bL b) (VI 0) []=some (.cZ (uV b) 0):=by
   rw[bL,hd]
   exact aK (f:=uV) (t := .op) (H:=[]) (size:=1) (k := .i64) (xs:=[b]) (i:=0) rfl rfl
  have e2:=iD (H:=[]) (z:=[.int .u32 0]) (v:=uV (a % b)) rfl rfl rfl
  have e3:=ZP (size:=1) (v:=Value.int .u32 ((b:Nat):Int))
  simp only[rU,pD,c1,Ic,e0,e1,c2,e2,VX,Nat.reduceEqDiff,Nat.reduceAdd]
  refine Lm (ds:=[a % b]) (t := .cl 1) (fun d hd => ?_) (by show 1≤70368744177664;decide) (val_one _) fun t' ht => ?_
  ·rw[List.mem_singleton] at hd
   subst hd
   exact Nat.lt_of_lt_of_le (Nat.mod_lt _ Du) (Nat.le_of_lt hdW)
  ·simp only[VX,Nat.reduceEqDiff,Nat.reduceAdd]
   exact bN (d:=6) (aJ (bO _)) (aaG (d:=5) ht)
 obtain⟨n,hn⟩:∃n,(aC 4294967296 b).length=n+2:=⟨(aC 4294967296 b).length-2,by omega⟩
 obtain⟨t,ht,ht0,htW⟩:=KT (a:=b) (n:=n+1) hn
 obtain⟨s,hs,cl,ZU⟩:=SZ ht0 htW
 have hS:0<2^s:=Nat.pow_pos (by decide)
 have hSW:2^s*2^(32-s)=4294967296:=by rw[←Nat.pow_add,show s+(32-s)=32 by omega]
 have hla:=dZ (b:=4294967296) (by decide) CE
 have e0:pT (bL b) []=some (VI ((n+2:Nat):Int)):=by rw[bL,AO,eX,hn]
 have w0:IntKind.i64.wrap (((n+2:Nat):Int)-1)=((n+1:Nat):Int):=wrapN _ (by omega) (by omega)
 have Xz:¬(((n+2:Nat):Int)=1):=by omega
 have e1:bM 1 (bL b) (VI ((n+1:Nat):Int)) []=some (.cZ (uV t) 0):=aK (f:=uV) (t := .op) (H:=[]) (size:=1) (k := .i64) ht rfl
 simp only[rU,pD,c1,Ic,e0,Xz,w0,e1,cl,VX,Nat.reduceEqDiff,Nat.reduceAdd]
 have fa:[bL a,VI (s:Int)].mapM (fz depth ([]:aA))=some [bL a,VI (s:Int)]:=YM (aF (bO a)) (aF rfl)
 refine FC.call (xT a s hs ha) rfl fa ?_
 rintro r L ⟨Iu,rfl,rfl,hAl,hAd,hAv,hAt⟩
 simp only[VX,Nat.reduceEqDiff,Nat.reduceAdd]
 have fb:∀H:aA,[bL b,VI (s:Int)].mapM (fz depth H)=some [bL b,VI (s:Int)]:=fun H=>YM (aF (bO b)) (aF rfl)
 refine FC.call (xT b s hs uJ) rfl (fb _) ?_
 rintro r L ⟨EB,rfl,rfl,hBl,hBd,hBv,hBt⟩
 rw[hn] at hBl
 simp only[hn,List.length_singleton,VX,Nat.reduceEqDiff,Nat.reduceAdd]
 have akA:b*2^s<4294967296^(n+2):=by
  have h2:=(zS (n:=n+1) (fG (b:=4294967296) (by decide) b) hn ht).2
  rw[cC (by decide)] at h2
  have h3:b*2^s<(t+1)*4294967296^(n+1)*2^s:=Nat.mul_lt_mul_of_pos_right h2 hS
  have h4:(t+1)*4294967296^(n+1)*2^s=(t+1)*2^s*4294967296^(n+1):=by grind
  have h5:(t+1)*2^s≤4294967296:=by
   have h6:t*2^s<2^(32-s)*2^s:=by rw[Nat.mul_comm (2^(32-s)),hSW];exact ZU
   have h7:=Nat.lt_of_mul_lt_mul_right h6
   have h8:(t+1)*2^s≤2^(32-s)*2^s:=Nat.mul_le_mul_right _ h7
   rwa [Nat.mul_comm (2^(32-s)),hSW] at h8
  have h9:(t+1)*2^s*4294967296^(n+1)≤4294967296*4294967296^(n+1):=Nat.mul_le_mul_right _ h5
  have h10:4294967296*4294967296^(n+1)=4294967296^(n+2):=by rw[Nat.pow_succ 4294967296 (n+1)];exact Nat.mul_comm _ _
  omega
 have hVl:(aC 4294967296 (b*2^s)).length=n+2:=by
  have h2:=mF (b:=4294967296) (by decide) akA
  have h3:b≤b*2^s:=Nat.le_mul_of_pos_right b hS
  have h4:=dZ (b:=4294967296) (by decide) h3
  omega
 refine rH (rows:=EB) (m:=b*2^s) (by rfl) (by omega) (by omega) (by omega) (fun d hd=>hBd d (List.mem_of_mem_take hd)) (by rw[List.take_of_length_le (by omega)];exact hBv) fun k hk he => ?_
 have hk2:k=n+2:=by
  have:=congrArg List.length he
  rw[hVl,List.length_take] at this
  omega
 subst hk2
 generalize PS:aC 4294967296 (b*2^s)=vs at *
 have GD:∀d∈vs,d<4294967296:=by rw[←PS];exact fG (by decide) _
 have M6:val 4294967296 vs=b*2^s:=by rw[←PS];exact cC (by decide) _
 obtain⟨v1,f1⟩:∃v1,vs[n+1]? = some v1:=⟨_,List.getElem?_eq_getElem (by omega)⟩
 obtain⟨v0,f0⟩:∃v0,vs[n]? = some v0:=⟨_,List.getElem?_eq_getElem (by omega)⟩
 have hv1:1≤v1:=by
  obtain⟨d,hd,Du,_⟩:=KT (a:=b*2^s) (n:=n+1) (by rw[PS];exact hVl)
  rw[PS,f1] at hd
  cases hd
  omega
 have b1:EB[n+1]? = some v1:=by rw[←f1,←he,List.getElem?_take_of_lt (by omega)]
 have b0:EB[n]? = some v0:=by rw[←f0,←he,List.getElem?_take_of_lt (by omega)]
 have lv1:=GD v1 (List.mem_of_getElem? f1)
 have lv0:=GD v0 (List.mem_of_getElem? f0)
 have x1:bM 1 (.ref 1 0 0 (n+2) (n+2+1)) (VI ((n+1:Nat):Int)) [.row 0 (Iu.map uV) 1 true,.row 0 (EB.map uV) 1 true]=some (.ptr 1 0 (n+1) 0):=by rw[bD (by rfl) (by omega),Nat.zero_add]
 have x0:bM 1 (.ref 1 0 0 (n+2) (n+2+1)) (VI ((n:Nat):Int)) [.row 0 (Iu.map uV) 1 true,.row 0 (EB.map uV) 1 true]=some (.ptr 1 0 n 0):=by rw[bD (by rfl) (by omega),Nat.zero_add]
 have y1:cR false 1 (.ptr 1 0 (n+1) 0) [.row 0 (Iu.map uV) 1 true,.row 0 (EB.map uV) 1 true]=some (uV v1):=iH (rows:=EB) (g:=0) (w:=true) (by rfl) b1
 have y0:cR false 1 (.ptr 1 0 n 0) [.row 0 (Iu.map uV) 1 true,.row 0 (EB.map uV) 1 true]=some (uV v0):=iH (rows:=EB) (g:=0) (w:=true) (by rfl) b0
 have z0:pT (.ref 1 0 0 (n+2) (n+2+1)) [.row 0 (Iu.map uV) 1 true,.row 0 (EB.map uV) 1 true]=some (VI ((n+2:Nat):Int)):=dU (r:=(EB.map uV,1,true)) (by rfl)
 have z1:pT (.ref 0 0 0 ((aC 4294967296 a).length+1) ((aC 4294967296 a).length+1)) [.row 0 (Iu.map uV) 1 true,.row 0 (EB.map uV) 1 true]=some (VI (((aC 4294967296 a).length+1:Nat):Int)):=dU (r:=(Iu.map uV,1,true)) (by rfl)
 have w2:IntKind.i64.wrap (((n+2:Nat):Int)-2)=((n:Nat):Int):=wrapN _ (by omega) (by omega)
 have wv1:IntKind.u64.wrap (v1:Int)=(v1:Int):=dW _ (by omega)
 have wv0:IntKind.u64.wrap (v0:Int)=(v0:Int):=dW _ (by omega)
 obtain⟨m,hm⟩:∃m,m+(n+2)=(aC 4294967296 a).length+1:=⟨(aC 4294967296 a).length+1-(n+2),by omega⟩
 have wm:IntKind.i64.wrap ((((aC 4294967296 a).length+1:Nat):Int)-((n+2:Nat):Int))=(m:Int):=wrapN _ (by omega) (by omega)
 have wm1:IntKind.i64.wrap ((m:Int)-1)=(m:Int)-1:=wrap64 (by omega) (by omega)
 have mk:=VM m 0 (by omega) (H:=[.row 0 (Iu.map uV) 1 true,.row 0 (EB.map uV) 1 true])
 have z2:pT (.ref 2 0 0 m m) (H3 Iu EB (List.replicate m 0))=some (VI m):=dU (r:=((List.replicate m 0).map uV,1,true)) (by rfl)
 simp only[w0,x1,x0,y1,y0,z0,z1,w2,wv1,wv0,wm,mk,z2,wm1,List.length_cons,List.length_nil,VX,Nat.reduceEqDiff,Nat.reduceAdd]
 have CC:val 4294967296 (Iu.drop m)<val 4294967296 vs:=by
  obtain⟨d,hd⟩:∃d,Iu[(aC 4294967296 a).length]? = some d:=⟨_,List.getElem?_eq_getElem (by omega)⟩
  have h2:=(zS (b:=4294967296) (xs:=Iu.drop m) (n:=n+1) (t:=d) (fun x hx=>hAd x (List.mem_of_mem_drop hx)) (by rw[List.length_drop];omega) (by rw[List.getElem?_drop,show m+(n+1)=(aC 4294967296 a).length by omega];exact hd)).2
  have h3:=hAt d hd
  have h4:=(zS (n:=n+1) (fG (b:=4294967296) (by decide) b) hn ht).1
  rw[cC (by decide)] at h4
  have h5:(d+1)*4294967296^(n+1)≤2^s*4294967296^(n+1):=Nat.mul_le_mul_right _ h3
  have h6:1*4294967296^(n+1)≤t*4294967296^(n+1):=Nat.mul_le_mul_right _ (by omega)
  have h7:1*4294967296^(n+1)*2^s≤b*2^s:=Nat.mul_le_mul_right _ (by omega)
  rw[M6]
  rw[Nat.one_mul,Nat.mul_comm] at h7
  omega
 refine Ym (Ep:=Iu) (ws:=EB) (XY:=List.replicate m 0) (vs:=vs) (N:=(aC 4294967296 a).length+1) (m:=m) (n:=n) (A:=a*2^s) (s:=s) hAl hm (by omega) hAd he hBl hVl GD f1 f0 hv1 hAv CC (by simp) (Av (by decide) _) (by rfl) (by rfl) (by rfl) (by rfl) (by rfl) (by rfl) (by rfl) ?_
 intro wW us os r8 r9 r13 PO Js iQ lC hv bB
 rw[M6] at hv bB
 have hq:val 4294967296 os=a / b:=by
  rw[←Nat.mul_div_mul_right a b hS,←hv,Nat.add_mul_div_left _ _ (by omega),Nat.div_eq_of_lt bB,Nat.zero_add]
 have hr:val 4294967296 us=a % b*2^s:=by
  rw[←Nat.mul_mod_mul_right,←hv,Nat.add_mul_mod_self_left,Nat.mod_eq_of_lt bB]
 simp only[r9,VX,Nat.reduceEqDiff,Nat.reduceAdd]
 refine rH (rows:=us) (m:=a % b*2^s) CF (by omega) (Nat.le_refl _) (by omega) (fun d hd=>Js d (List.mem_of_mem_take hd)) (by rw[List.take_of_length_le (by omega)];exact hr) fun k hk he2 => ?_
 have z3:pT (.ref 0 0 0 k ((aC 4294967296 a).length+1)) (H3 us EB os)=some (VI k):=dU CF
 simp only[z3,VX,Nat.reduceEqDiff,Nat.reduceAdd]
 refine WI (us:=us) (k:=k) (N:=(aC 4294967296 a).length+1) (s:=s) (w0:=2^(32-s)) hs hSW PO hk (by omega) Js r8 (by rfl) (by rfl) (by rfl) ?_
 intro N8 Fx q9 q13 ahM aeW X5
 have atF:N8 13 = .ref 2 0 0 m m:=q13.trans r13
 have Di:val 4294967296 (Fx.take k)=a % b:=by
  rw[X5,he2,cC (by decide),Nat.mul_div_cancel _ hS]
 simp only[q9,atF,VX,Nat.reduceEqDiff,Nat.reduceAdd]
 refine rH (rows:=os) (m:=a / b) adH (by omega) (Nat.le_refl _) (by omega) (fun d hd=>lC d (List.mem_of_mem_take hd)) (by rw[List.take_of_length_le (by omega)];exact hq) fun k2 hk2 he3 => ?_
 simp only[q9,VX,Nat.reduceEqDiff,Nat.reduceAdd]
 refine rH (rows:=Fx) (m:=a % b) CF (by omega) hk (by omega) (fun d hd=>aeW d (List.mem_of_mem_take hd)) Di fun k3 hk3 he4 => ?_
 simp only[VX,Nat.reduceEqDiff,Nat.reduceAdd]
 exact bN (d:=6) (Kc (d:=5) adH (by omega) hk2 he3) (Kc (d:=5) CF (by omega) (by omega) he4)
end Go.PM
namespace Go.PM
abbrev H2 (us os:List Nat):aA:=[.row 0 (us.map tV) 1 true,.row 0 (os.map tV) 1 true]
theorem Uh {us os:List Nat}:aI (H2 us os) 0 0=some (us.map tV,1,true):=rfl
theorem anU {us os:List Nat}:aI (H2 us os) 1 0=some (os.map tV,1,true):=rfl
theorem adK {P a Z:Nat} {y:Int} (h:(a:Int)+(P:Int)*y=(Z:Int)) (ha:a<P) (hZ:Z<P):y=0∧a=Z:=by
 have hy:y=0:=by
  rcases Int.lt_trichotomy y 0 with h1 | h1 | h1
  ·have:(P:Int)*y≤(P:Int)*(-1):=Int.mul_le_mul_of_nonneg_left (by omega) (by omega)
   omega
  ·exact h1
  ·have:(P:Int)*1≤(P:Int)*y:=Int.mul_le_mul_of_nonneg_left (by omega) (by omega)
   omega
 subst hy
 rw[Int.mul_zero] at h
 exact⟨rfl,by omega⟩
theorem SI {us:List Nat} {i n N V:Nat} (hN:us.length=N) (cN:i+n<N) (hd:∀d∈us,d<1000000000) (hV:V<1000000000^n) (CC:val 1000000000 (us.drop (i+1))<V) :
  us=us.take i++(us.drop i).take (n+1)++us.drop (i+(n+1))∧(us.take i).length=i∧((us.drop i).take (n+1)).length=n+1∧val 1000000000 ((us.drop i).take (n+1))<1000000000*V∧val 1000000000 (us.drop i)=val 1000000000 ((us.drop i).take (n+1))∧val 1000000000 (us.drop (i+(n+1)))=0∧∀j,j<n+1→((us.drop i).take (n+1))[j]? = us[i+j]? := by
 obtain⟨x,hx⟩:∃x,us[i]? = some x:=⟨_,List.getElem?_eq_getElem (by omega)⟩
 have lx:=hd x (List.mem_of_getElem? hx)
 have h1:=sM (b:=1000000000) hx
 have h2:val 1000000000 (us.drop i)<1000000000*V:=by
  have:1000000000*(val 1000000000 (us.drop (i+1))+1)≤1000000000*V:=Nat.mul_le_mul_left _ CC
  omega
 have h3:=oY (b:=1000000000) (us.drop i) (n+1)
 have h4:((us.drop i).take (n+1)).length=n+1:=by rw[List.length_take,List.length_drop];omega
 rw[h4,List.drop_drop] at h3
 have h5:val 1000000000 (us.drop (i+(n+1)))=0:=by
  rcases Nat.eq_zero_or_pos (val 1000000000 (us.drop (i+(n+1)))) with h | h
  ·exact h
  ·have h6:1000000000^(n+1)*1≤1000000000^(n+1)*val 1000000000 (us.drop (i+(n+1))):=Nat.mul_le_mul_left _ h
   have h7:1000000000*V≤1000000000^(n+1):=by rw[Nat.pow_succ,Nat.mul_comm];exact Nat.mul_le_mul_right _ (by omega)
   omega
 rw[h5,Nat.mul_zero,Nat.add_zero] at h3
 refine⟨?_,by rw[List.length_take];omega,h4,by omega,h3,h5,fun j hj => ?_⟩
 ·rw[List.append_assoc,←List.drop_drop,List.take_append_drop,List.take_append_drop]
 ·rw[List.getElem?_take_of_lt hj,List.getElem?_drop]
theorem leT {g:Nat} (h:(1000000000:Int)≤(g:Int)):1000000000≤g:=by omega
theorem YS {g:Nat} (h:¬(1000000000:Int)≤(g:Int)):g<1000000000:=by omega
theorem ltC {a b:Nat} (h:(a:Int)<(b:Int)):a<b:=by omega
theorem atQ {a b:Nat} (h:¬(a:Int)<(b:Int)):b≤a:=by omega
theorem Nt {a:Nat} (h:a*1000000000≤9223372036854775807):IntKind.i64.wrap ((a:Int)*1000000000)=((a*1000000000:Nat):Int):=wrapN _ (by omega) h
theorem Ox {a b:Nat} (h:a+b≤9223372036854775807):IntKind.i64.wrap ((a:Int)+(b:Int))=((a+b:Nat):Int):=wrapN _ (by omega) h
theorem V7 {a b:Nat} (h:a*b≤9223372036854775807):IntKind.i64.wrap ((a:Int)*(b:Int))=((a*b:Nat):Int):=wrapN _ (by simp) h
theorem x17 {a:Nat} (h:a<1000000000):a*1000000000≤9223372036854775807:=by omega
theorem x18 {a b:Nat} (h:a<1000000000) (hb:b<1000000000):a*1000000000+b≤1000000000000000000:=by omega
theorem Qg {gZ vs us os:List Nat} {n u2 u1 u0 v1 v0 N i g left:Nat} (G:wH 1000000000 gZ vs n u2 u1 u0 v1 v0) {ρ:dG} {Q:VQ} (hN:us.length=N) (hiN:i+(n+2)<N) (CW:N≤70368744177664) (hu0:us[i+n]? = some u0)
  (g13:ρ 13 = .ref 0 0 0 N N) (g14:ρ 14=gU vs) (g15:ρ 15=VI ((n+2:Nat):Int)) (g17:ρ 17=VI i) (g19:ρ 19=VI g) (g20:ρ 20=VI left) (hh:u2*1000000000+u1=g*v1+left) (hq:val 1000000000 gZ / val 1000000000 vs≤g) (hl:left<1000000000) (hgb:g≤1000000000000000000)
  (hQ:∀(bC:dG) (g':Nat),val 1000000000 gZ / val 1000000000 vs≤g'→g'≤val 1000000000 gZ / val 1000000000 vs+1→g'<1000000000→bC 19=VI g'→bC 12=ρ 12→bC 13=ρ 13→bC 14=ρ 14→bC 15=ρ 15→bC 16=ρ 16→bC 17=ρ 17→Q (.exit 2) bC (H2 us os)) :
  VW ⟨true,false⟩ 0 (.loop gG) Q ρ (H2 us os):=by
 have lv1:=G.U6
 have lv0:=G.Z6
 have lu0:=G.afM
 have qlt:=G.adP
 have jT:=G.pos
 have EX:=G.K4
 refine aQ (fun(t:Nat×Nat) bC H=>H=H2 us os∧u2*1000000000+u1=t.1*v1+t.2∧val 1000000000 gZ / val 1000000000 vs≤t.1∧t.2<1000000000∧t.1≤1000000000000000000 ∧
  bC 13 = .ref 0 0 0 N N∧bC 14=gU vs∧bC 15=VI ((n+2:Nat):Int)∧bC 17=VI i∧bC 19=VI t.1∧bC 20=VI t.2∧bC 12=ρ 12∧bC 16=ρ 16) (fun t=>1000000000-t.2) (g,left) ⟨rfl,hh,hq,hl,hgb,g13,g14,g15,g17,g19,g20,rfl,rfl⟩ ?_
 rintro⟨g,left⟩ N8 H ⟨rfl,hh,hq,hl,hgb,BB,CH,J0,Hw,k19,k20,I9,k16⟩
 simp only at hh hq hl hgb k19 k20
 have f1:bM 1 (gU vs) (VI ((n+1:Nat):Int)) (H2 us os)=some (.cZ (tV v1) 0):=aK (f:=tV) (t := .op) (size:=1) (k := .i64) G.f1 rfl
 have f0:bM 1 (gU vs) (VI (n:Int)) (H2 us os)=some (.cZ (tV v0) 0):=aK (f:=tV) (t := .op) (size:=1) (k := .i64) G.f0 rfl
 have wn2:IntKind.i64.wrap (((n+2:Nat):Int)-2)=(n:Int):=wrapN _ (by omega) (by omega)
 have wn1:IntKind.i64.wrap (((n+2:Nat):Int)-1)=((n+1:Nat):Int):=wrapN _ (by omega) (by omega)
 have wi:IntKind.i64.wrap ((i:Int)+((n+2:Nat):Int))=((i+(n+2):Nat):Int):=wrapN _ (by omega) (by omega)
 have wi2:IntKind.i64.wrap (((i+(n+2):Nat):Int)-2)=((i+n:Nat):Int):=wrapN _ (by omega) (by omega)
 have e1:bM 1 (.ref 0 0 0 N N) (VI ((i+n:Nat):Int)) (H2 us os)=some (.ptr 0 0 (i+n) 0):=by rw[bD Uh (by omega),Nat.zero_add]
 have e2:cR false 1 (.ptr 0 0 (i+n) 0) (H2 us os)=some (VI (u0:Int)):=K0 Uh hu0
 have wl:IntKind.i64.wrap ((left:Int)+(v1:Int))=((left+v1:Nat):Int):=wrapN _ (by omega) (by omega)
 have down:val 1000000000 gZ / val 1000000000 vs<g→∃g',g=g'+1∧IntKind.i64.wrap ((g:Int)-1)=(g':Int)∧u2*1000000000+u1=g'*v1+(left+v1)∧val 1000000000 gZ / val 1000000000 vs≤g':=by
  intro h
  have hg1:1≤g:=Nat.lt_of_le_of_lt (Nat.zero_le _) h
  obtain⟨g',rfl⟩:∃g',g=g'+1:=⟨g-1,by omega⟩
  refine⟨g',rfl,wrapN _ (by omega) (by omega),?_,by omega⟩
  rw[hh,Nat.add_mul]
  omega
 have hmu:∀g':Nat,left+v1<1000000000→1000000000-(g',left+v1).2<1000000000-(g,left).2:=fun g' h=>by
  show 1000000000-(left+v1)<1000000000-left
  omega
 have hle:∀g':Nat,g=g'+1→g'≤1000000000000000000:=fun g' h=>by
  omega
 have atE:left*1000000000+u0≤9223372036854775807:=Nat.le_trans (x18 hl lu0) (by decide)
 have auL:left*1000000000≤9223372036854775807:=x17 hl
 have ws:IntKind.i64.wrap ((left:Int)*1000000000)=((left*1000000000:Nat):Int):=Nt auL
 have wa:IntKind.i64.wrap (((left*1000000000:Nat):Int)+(u0:Int))=((left*1000000000+u0:Nat):Int):=Ox atE
 obtain⟨s13,s14,s15,s17⟩:N8 13=ρ 13∧N8 14=ρ 14∧N8 15=ρ 15∧N8 17=ρ 17:=⟨by rw[BB,g13],by rw[CH,g14],by rw[J0,g15],by rw[Hw,g17]⟩
 by_cases hA:(1000000000:Int)≤(g:Int)
 ·have hA':=leT hA
  obtain⟨g',Rq,wg,T3,MP⟩:=down (Nat.lt_of_lt_of_le qlt hA')
  by_cases hB:(1000000000:Int)≤((left+v1:Nat):Int)
  ·obtain⟨c1,c2⟩:=G.broken T3 (leT hB)
   simp only[gG,BB,CH,J0,Hw,k19,k20,hA,hB,f1,wn1,wg,wl,VX,Nat.reduceEqDiff,Nat.reduceAdd]
   exact hQ _ g' MP (G.WC T3 (Nat.le_of_lt c1) c2) c1 rfl I9 s13 s14 s15 k16 s17
  ·simp only[gG,BB,CH,J0,Hw,k19,k20,hA,hB,f1,wn1,wg,wl,VX,Nat.reduceEqDiff,Nat.reduceAdd]
   refine⟨(g',left+v1),hmu g' (YS hB),T3,MP,YS hB,hle g' Rq,?_⟩
   exact⟨rfl,rfl,I9,k16⟩
 ·have hA':=YS hA
  have hgv:g*v0≤999999999*999999999:=Nat.mul_le_mul (Nat.le_of_lt_succ hA') (Nat.le_of_lt_succ lv0)
  have wm:IntKind.i64.wrap ((g:Int)*(v0:Int))=((g*v0:Nat):Int):=V7 (Nat.le_trans hgv (by decide))
  by_cases hT:((left*1000000000+u0:Nat):Int)<((g*v0:Nat):Int)
  ·obtain⟨g',Rq,wg,T3,MP⟩:=down (G.too hh (ltC hT))
   by_cases hB:(1000000000:Int)≤((left+v1:Nat):Int)
   ·obtain⟨c1,c2⟩:=G.broken T3 (leT hB)
    simp only[gG,BB,CH,J0,Hw,k19,k20,hA,hB,hT,f1,f0,e1,e2,wn1,wn2,wi,wi2,ws,wa,wm,wg,wl,VX,Nat.reduceEqDiff,Nat.reduceAdd]
    exact hQ _ g' MP (G.WC T3 (Nat.le_of_lt c1) c2) c1 rfl I9 s13 s14 s15 k16 s17
   ·simp only[gG,BB,CH,J0,Hw,k19,k20,hA,hB,hT,f1,f0,e1,e2,wn1,wn2,wi,wi2,ws,wa,wm,wg,wl,VX,Nat.reduceEqDiff,Nat.reduceAdd]
    refine⟨(g',left+v1),hmu g' (YS hB),T3,MP,YS hB,hle g' Rq,?_⟩
    exact⟨rfl,rfl,I9,k16⟩
  ·simp only[gG,BB,CH,J0,Hw,k19,k20,hA,hT,f0,e1,e2,wn2,wi,wi2,ws,wa,wm,VX,Nat.reduceEqDiff,Nat.reduceAdd]
   exact hQ _ g hq (G.WC hh (Nat.le_of_lt hA') (atQ hT)) hA' k19 I9 s13 s14 s15 k16 s17
theorem N5 {Ep XY vs:List Nat} {N m n v1 v0 A s:Nat} {ρ:dG} {Q:VQ} (hN:Ep.length=N) (hm:m+(n+2)=N) (CW:N≤70368744177664) (Js:∀d∈Ep,d<1000000000) (EX:vs.length=n+2) (GD:∀d∈vs,d<1000000000) (f1:vs[n+1]? = some v1) (f0:vs[n]? = some v0) (jT:1≤v1)
  (hA:val 1000000000 Ep=A) (CC:val 1000000000 (Ep.drop m)<val 1000000000 vs) (iQ:XY.length=m) (lC:∀d∈XY,d<1000000000)
  (g12:ρ 12=VI s) (g13:ρ 13 = .ref 0 0 0 N N) (g14:ρ 14=gU vs) (g15:ρ 15=VI ((n+2:Nat):Int)) (g16:ρ 16 = .ref 1 0 0 m m) (g17:ρ 17=VI ((m:Int)-1))
  (hQ:∀(bC:dG) (us os:List Nat),bC 12=VI s→bC 13 = .ref 0 0 0 N N→bC 16 = .ref 1 0 0 m m→us.length=N→(∀d∈us,d<1000000000)→os.length=m→(∀d∈os,d<1000000000)→val 1000000000 us+val 1000000000 vs*val 1000000000 os=A→val 1000000000 us<val 1000000000 vs→Q (.exit 0) bC (H2 us os)) :
  VW ⟨true,false⟩ 0 (.loop iK) Q ρ (H2 Ep XY):=by
 have hVb:=oU GD
 rw[EX] at hVb
 refine aQ (fun(t:Nat×List Nat×List Nat) bC H=>t.1≤m∧H=H2 t.2.1 t.2.2∧t.2.1.length=N∧(∀d∈t.2.1,d<1000000000)∧t.2.2.length=m∧(∀d∈t.2.2,d<1000000000)∧val 1000000000 (t.2.1.drop t.1)<val 1000000000 vs∧val 1000000000 t.2.1+1000000000^t.1*val 1000000000 vs*val 1000000000 (t.2.2.drop t.1)=A ∧
  bC 12=VI s∧bC 13 = .ref 0 0 0 N N∧bC 14=gU vs∧bC 15=VI ((n+2:Nat):Int)∧bC 16 = .ref 1 0 0 m m∧bC 17=VI ((t.1:Int)-1)) (fun t=>t.1) (m,Ep,XY) ⟨Nat.le_refl _,rfl,hN,Js,iQ,lC,CC,by rw[List.drop_of_length_le (by simp only;omega)];simpa[val] using hA,g12,g13,g14,g15,g16,g17⟩ ?_
 rintro⟨j,us,os⟩ N8 H ⟨hj,rfl,PO,Js,iQ,lC,bB,hv,I9,BB,CH,J0,k16,Hw⟩
 simp only at hj PO Js iQ lC bB hv Hw
 by_cases hz:(0:Int)≤(j:Int)-1
 ·obtain⟨i,rfl⟩:∃i,j=i+1:=⟨j-1,by omega⟩
  have Ke:((i+1:Nat):Int)-1=(i:Int):=by omega
  rw[Ke] at Hw hz
  obtain⟨Tn,zO,O5,hsW,aaC,abA,vA⟩:=SI (n:=n+2) PO (by omega) Js hVb bB
  generalize Xk:(us.drop i).take (n+2+1)=gZ at *
  have OB:∀d∈gZ,d<1000000000:=fun d hd=>by rw[←Xk] at hd;exact Js d (List.mem_of_mem_drop (List.mem_of_mem_take hd))
  obtain⟨u2,hu2⟩:∃u2,us[i+(n+2)]? = some u2:=⟨_,List.getElem?_eq_getElem (by omega)⟩
  obtain⟨u1,hu1⟩:∃u1,us[i+(n+1)]? = some u1:=⟨_,List.getElem?_eq_getElem (by omega)⟩
  obtain⟨u0,hu0⟩:∃u0,us[i+n]? = some u0:=⟨_,List.getElem?_eq_getElem (by omega)⟩
  have G:wH 1000000000 gZ vs n u2 u1 u0 v1 v0:=⟨by decide,OB,GD,O5,EX,by rw[vA _ (by omega)];exact hu2,by rw[vA _ (by omega)];exact hu1,by rw[vA _ (by omega)];exact hu0,f1,f0,jT,hsW⟩
  have lu2:=G.afY
  have lu1:=G.abD
  have lv1:=G.U6
  have qlt:=G.adP
  have Ia:=G.Ia
  have w1:IntKind.i64.wrap ((i:Int)+((n+2:Nat):Int))=((i+(n+2):Nat):Int):=wrapN _ (by omega) (by omega)
  have w2:IntKind.i64.wrap (((i+(n+2):Nat):Int)-1)=((i+(n+1):Nat):Int):=wrapN _ (by omega) (by omega)
  have wn1:IntKind.i64.wrap (((n+2:Nat):Int)-1)=((n+1:Nat):Int):=wrapN _ (by omega) (by omega)
  have ev1:bM 1 (gU vs) (VI ((n+1:Nat):Int)) (H2 us os)=some (.cZ (tV v1) 0):=aK (f:=tV) (t := .op) (size:=1) (k := .i64) f1 rfl
  have e2:bM 1 (.ref 0 0 0 N N) (VI ((i+(n+2):Nat):Int)) (H2 us os)=some (.ptr 0 0 (i+(n+2)) 0):=by rw[bD Uh (by omega),Nat.zero_add]
  have e1:bM 1 (.ref 0 0 0 N N) (VI ((i+(n+1):Nat):Int)) (H2 us os)=some (.ptr 0 0 (i+(n+1)) 0):=by rw[bD Uh (by omega),Nat.zero_add]
  have l2:cR false 1 (.ptr 0 0 (i+(n+2)) 0) (H2 us os)=some (VI (u2:Int)):=K0 Uh hu2
  have l1:cR false 1 (.ptr 0 0 (i+(n+1)) 0) (H2 us os)=some (VI (u1:Int)):=K0 Uh hu1
  have asP:u2*1000000000+u1≤1000000000000000000:=x18 lu2 lu1
  have axK:u2*1000000000≤9223372036854775807:=x17 lu2
  have anH:u2*1000000000+u1≤9223372036854775807:=Nat.le_trans asP (by decide)
  have ws2:IntKind.i64.wrap ((u2:Int)*1000000000)=((u2*1000000000:Nat):Int):=Nt axK
  have wa:IntKind.i64.wrap (((u2*1000000000:Nat):Int)+(u1:Int))=((u2*1000000000+u1:Nat):Int):=Ox anH
  have q1:=J9 (u2*1000000000+u1) v1 anH jT
  have q2:=KS (u2*1000000000+u1) v1 jT
  simp only[iK,I9,BB,CH,J0,k16,Hw,hz,w1,w2,wn1,ev1,e1,e2,l1,l2,ws2,wa,q1,q2,VX,Nat.reduceEqDiff,Nat.reduceAdd]
  clear ws2 wa q1 q2 e1 e2 l1 l2 ev1 w1 w2 wn1
  have hh:=Nat.mod_add_div (u2*1000000000+u1) v1
  have hml:=Nat.mod_lt (u2*1000000000+u1) jT
  have hdl:(u2*1000000000+u1) / v1≤u2*1000000000+u1:=Nat.div_le_self _ _
  have PV:val 1000000000 gZ / val 1000000000 vs≤(u2*1000000000+u1) / v1:=by
   have t1:=(C2 (n:=n+1) (xs:=gZ) OB (by omega) (by rw[vA _ (by omega)];exact hu2) (by rw[vA _ (by omega)];exact hu1)).2
   have t2:=(zS (n:=n+1) GD EX f1).1
   rw[Nat.le_div_iff_mul_le jT]
   have t3:val 1000000000 gZ / val 1000000000 vs*(v1*1000000000^(n+1))≤val 1000000000 gZ / val 1000000000 vs*val 1000000000 vs:=Nat.mul_le_mul_left _ t2
   have t4:=Nat.div_mul_le_self (val 1000000000 gZ) (val 1000000000 vs)
   have t5:val 1000000000 gZ / val 1000000000 vs*v1*1000000000^(n+1)<(u2*1000000000+u1+1)*1000000000^(n+1):=by rw[Nat.mul_assoc];omega
   have:=Nat.lt_of_mul_lt_mul_right t5
   omega
  generalize hQ1:(u2*1000000000+u1) / v1=g0 at *
  generalize hQ2:(u2*1000000000+u1) % v1=l0 at *
  refine Qg (i:=i) G PO (by omega) CW hu0 BB CH J0 Hw (by rfl) (by rfl) (by rw[Nat.mul_comm g0];omega) PV (by omega) (by omega) ?_
  intro TT g' hq MP hgW r19 r12 r13 r14 r15 r16 r17
  have RN:TT 12=VI s:=r12.trans I9
  have QC:TT 13 = .ref 0 0 0 N N:=r13.trans BB
  have Qc:TT 14=gU vs:=r14.trans CH
  have Qb:TT 15=VI ((n+2:Nat):Int):=r15.trans J0
  have aeT:TT 16 = .ref 1 0 0 m m:=r16.trans k16
  have adN:TT 17=VI i:=r17.trans Hw
  simp only[RN,QC,Qc,Qb,aeT,adN,r19,VX,Nat.reduceEqDiff,Nat.reduceAdd]
  have qR:g'*val 1000000000 vs≤val 1000000000 gZ+val 1000000000 vs:=by
   have:=Nat.mul_le_mul_right (val 1000000000 vs) MP
   rw[Nat.add_mul,Nat.one_mul] at this
   have:=Nat.div_mul_le_self (val 1000000000 gZ) (val 1000000000 vs)
   omega
  obtain⟨low,aiN⟩:∃low,low=gZ.take (n+2):=⟨_,rfl⟩
  have hll:low.length=n+2:=by rw[aiN,List.length_take];omega
  have hld:∀d∈low,d<1000000000:=fun d hd=>OB d (by rw[aiN] at hd;exact List.mem_of_mem_take hd)
  have hsg:gZ=low++[u2]:=by
   have h1:gZ[n+2]? = some u2:=by rw[vA _ (by omega)];exact hu2
   have h2:=List.take_append_drop (n+2) gZ
   have h3:=(List.getElem?_eq_some_iff.1 h1)
   rw[List.drop_eq_getElem_cons h3.1,h3.2,List.drop_of_length_le (by omega),←aiN] at h2
   exact h2.symm
  have PS:val 1000000000 gZ=val 1000000000 low+1000000000^(n+2)*u2:=by rw[hsg,tA,hll]
  have rN:∀(lw:List Nat) (t:Nat),(us.take i).map tV++lw.map tV++VI (t:Int)::(us.drop (i+(n+2+1))).map tV=(us.take i++(lw++[t])++us.drop (i+(n+2+1))).map tV:=fun lw t=>by simp
  have CB:aI (H2 us os) 0 0=some ((us.take i).map tV++low.map tV++VI (u2:Int)::(us.drop (i+(n+2+1))).map tV,1,true):=by
   rw[rN,←hsg,←Tn]
   rfl
  refine fC rfl ((WO (o:=i) (n:=n+2) CB (Nat.zero_le _) (by simpa using zO) hll EX (by omega) CW hld GD hgW lu2).mono ?_)
  rintro r H' ⟨Bs,c,rfl,BJ,W2,hc,hr,hE⟩
  have azX:val 1000000000 low<1000000000^(n+2):=by have:=oU hld;rwa [hll] at this
  have axI:val 1000000000 Bs<1000000000^(n+2):=by have:=oU W2;rwa [BJ] at this
  have rows:∀(lw:List Nat) (t q:Nat),lw.length=n+2→(∀d∈lw,d<1000000000)→t<1000000000→q=val 1000000000 gZ / val 1000000000 vs→val 1000000000 lw+1000000000^(n+2)*t=val 1000000000 gZ % val 1000000000 vs →
    ((us.take i++(lw++[t])++us.drop (i+(n+2+1))).length=N∧(∀d∈us.take i++(lw++[t])++us.drop (i+(n+2+1)),d<1000000000)∧val 1000000000 ((us.take i++(lw++[t])++us.drop (i+(n+2+1))).drop i)<val 1000000000 vs∧val 1000000000 (us.take i++(lw++[t])++us.drop (i+(n+2+1)))+1000000000^i*val 1000000000 vs*val 1000000000 ((os.set i q).drop i)=A):=by
   intro lw t q hlw atX ht SG hse
   have agM:val 1000000000 (lw++[t])=val 1000000000 gZ % val 1000000000 vs:=by rw[tA,hlw];exact hse
   have asW:(lw++[t]).length=n+3:=by rw[List.length_append,hlw];rfl
   have asV:∀d∈lw++[t],d<1000000000:=fun d hd=>by
    rcases List.mem_append.1 hd with h | h
    ·exact atX d h
    ·rw[List.mem_singleton.1 h];exact ht
   generalize lw++[t]=qQ at *
   have acS:=Nat.mod_lt (val 1000000000 gZ) Ia
   have TS:(us.take i++qQ++us.drop (i+(n+2+1))).drop i=qQ++us.drop (i+(n+2+1)):=by rw[List.append_assoc,List.drop_append,List.drop_of_length_le (by omega),zO];simp
   have S9:(us.take i++qQ++us.drop (i+(n+2+1))).take i=us.take i:=by rw[List.append_assoc,List.take_append_of_le_length (by omega),List.take_of_length_le (by omega)]
   have Sq:val 1000000000 ((us.take i++qQ++us.drop (i+(n+2+1))).drop i)=val 1000000000 qQ:=by rw[TS,xQ,abA,Nat.mul_zero,Nat.add_zero]
   refine⟨by rw[List.length_append,List.length_append,zO,asW,List.length_drop];omega,fun d hd => ?_,by rw[Sq,agM];exact acS,?_⟩
   ·rw[List.mem_append,List.mem_append] at hd
    rcases hd with(hd | hd) | hd
    ·exact Js d (List.mem_of_mem_take hd)
    ·exact asV d hd
    ·exact Js d (List.mem_of_mem_drop hd)
   ·have h1:=Nat.div_add_mod (val 1000000000 gZ) (val 1000000000 vs)
    rw[←SG,←agM,Nat.mul_comm] at h1
    have h2:=oY (b:=1000000000) us i
    have h3:=oY (b:=1000000000) (us.take i++qQ++us.drop (i+(n+2+1))) i
    rw[S9,zO,Sq] at h3
    rw[zO,aaC] at h2
    rw[set_drop (by omega),rS,h3]
    rw[h2,Nat.pow_succ] at hv
    exact Li h1.symm hv
  have e3:∀(Fx:List Nat) (d:Nat),bM 1 (.ref 1 0 0 m m) (VI i) (H2 Fx os)=some (.ptr 1 0 i 0)∧bY 0 1 (.ptr 1 0 i 0) (VI (d:Int)) (H2 Fx os)=some (H2 Fx (os.set i d)):=fun Fx d=>by
   refine⟨by rw[bD anU (by omega),Nat.zero_add],?_⟩
   rw[show VI (d:Int)=tV d from rfl,fK (f:=tV) (e:=1) anU (by omega) (Nat.zero_le _) rfl rfl]
   rfl
  have wi:IntKind.i64.wrap ((i:Int)-1)=(i:Int)-1:=wrap64 (by omega) (by omega)
  have hdm:=Nat.div_add_mod (val 1000000000 gZ) (val 1000000000 vs)
  have acS:=Nat.mod_lt (val 1000000000 gZ) Ia
  generalize hPP:1000000000^(n+2)=P at *
  by_cases kU:(u2:Int)-(c:Int)<0
  ·
   rw[decide_eq_true kU] at hr
   subst hr
   have hgt:val 1000000000 gZ<g'*val 1000000000 vs:=by
    have h1:P*(u2+1)≤P*c:=Nat.mul_le_mul_left _ (by omega)
    rw[Nat.mul_add,Nat.mul_one] at h1
    omega
   have SG:g'=val 1000000000 gZ / val 1000000000 vs+1:=by
    rcases Nat.lt_or_ge (val 1000000000 gZ / val 1000000000 vs) g' with h | h
    ·omega
    ·have h1:g'*val 1000000000 vs≤val 1000000000 gZ / val 1000000000 vs*val 1000000000 vs:=Nat.mul_le_mul_right _ h
     have:=Nat.div_mul_le_self (val 1000000000 gZ) (val 1000000000 vs)
     omega
   have hg1:1≤g':=by rw[SG];exact Nat.le_add_left 1 _
   have wg:IntKind.i64.wrap ((g':Int)-1)=((g'-1:Nat):Int):=wrapN _ (by omega) (by omega)
   simp only[RN,QC,Qc,Qb,aeT,adN,r19,wg,VX,Nat.reduceEqDiff,Nat.reduceAdd]
   have IQ:aI ((H2 us os).set 0 (.row 0 ((us.take i).map tV++Bs.map tV++VI ((u2:Int)-(c:Int))::(us.drop (i+(n+2+1))).map tV) 1 true)) 0 0=some ((us.take i).map tV++Bs.map tV++VI ((u2:Int)-(c:Int))::(us.drop (i+(n+2+1))).map tV,1,true):=rfl
   refine fC rfl ((Xl (o:=i) (n:=n+2) IQ (Nat.zero_le _) (by simpa using zO) BJ EX (by omega) CW W2 GD (by omega) (by omega)).mono ?_)
   rintro r H' ⟨TQ,c2,rfl,HP,hd2,XO,hE2⟩
   rw[hPP] at hE2
   have akN:val 1000000000 TQ<P:=by have:=oU hd2;rwa [HP,hPP] at this
   obtain⟨hy,hZ⟩:(u2:Int)-(c:Int)+(c2:Int)=0∧val 1000000000 TQ=val 1000000000 gZ % val 1000000000 vs:=by
    refine adK (P:=P) ?_ akN (by omega)
    have i1:(P:Int)*((u2:Int)-(c:Int)+(c2:Int))=(P:Int)*u2-(P:Int)*c+(P:Int)*c2:=by rw[Int.mul_add,Int.mul_sub]
    have i2:((P*u2:Nat):Int)=(P:Int)*u2:=by simp
    have i3:((P*c:Nat):Int)=(P:Int)*c:=by simp
    have i4:((P*c2:Nat):Int)=(P:Int)*c2:=by simp
    rw[i1,←i2,←i3,←i4]
    have i5:g'*val 1000000000 vs=val 1000000000 vs*(val 1000000000 gZ / val 1000000000 vs)+val 1000000000 vs:=by rw[SG,Nat.add_mul,Nat.one_mul,Nat.mul_comm (val 1000000000 vs)]
    omega
   have HF:((H2 us os).set 0 (.row 0 ((us.take i).map tV++Bs.map tV++VI ((u2:Int)-(c:Int))::(us.drop (i+(n+2+1))).map tV) 1 true)).set 0 (.row 0 ((us.take i).map tV++TQ.map tV++VI ((u2:Int)-(c:Int)+(c2:Int))::(us.drop (i+(n+2+1))).map tV) 1 true)=H2 (us.take i++(TQ++[0])++us.drop (i+(n+2+1))) os:=by
    rw[hy]
    rw[show (0:Int)=((0:Nat):Int) from rfl,rN]
    rfl
   rw[HF]
   obtain⟨x1,x2⟩:=e3 (us.take i++(TQ++[0])++us.drop (i+(n+2+1))) (g'-1)
   obtain⟨y1,y2,y3,y4⟩:=rows TQ 0 (g'-1) HP hd2 (by decide) (by rw[SG,Nat.add_sub_cancel]) (by rw[Nat.mul_zero,Nat.add_zero];exact hZ)
   simp only[RN,QC,Qc,Qb,aeT,adN,x1,x2,wi,VX,Nat.reduceEqDiff,Nat.reduceAdd]
   refine⟨(i,us.take i++(TQ++[0])++us.drop (i+(n+2+1)),os.set i (g'-1)),by simp only;omega,by omega,rfl,y1,y2,by rw[List.length_set];exact iQ,lZ lC (by omega),y3,y4,?_⟩
   try (repeat' apply And.intro)<;>first | rfl | trivial
  ·rw[decide_eq_false kU] at hr
   subst hr
   obtain⟨t',ht'⟩:∃t':Nat,(u2:Int)-(c:Int)=(t':Int):=⟨u2-c,by omega⟩
   have hP1:P*u2=P*c+P*t':=by rw[←Nat.mul_add];congr 1;omega
   have CE:g'*val 1000000000 vs≤val 1000000000 gZ:=by omega
   have SG:g'=val 1000000000 gZ / val 1000000000 vs:=by
    have:=(Nat.le_div_iff_mul_le Ia).2 CE
    omega
   have HF:(H2 us os).set 0 (.row 0 ((us.take i).map tV++Bs.map tV++VI ((u2:Int)-(c:Int))::(us.drop (i+(n+2+1))).map tV) 1 true)=H2 (us.take i++(Bs++[t'])++us.drop (i+(n+2+1))) os:=by
    rw[ht',rN]
    rfl
   rw[HF]
   obtain⟨x1,x2⟩:=e3 (us.take i++(Bs++[t'])++us.drop (i+(n+2+1))) g'
   have hse:val 1000000000 Bs+P*t'=val 1000000000 gZ % val 1000000000 vs:=by
    rw[←SG,Nat.mul_comm] at hdm
    omega
   obtain⟨y1,y2,y3,y4⟩:=rows Bs t' g' BJ W2 (by omega) SG hse
   simp only[RN,QC,Qc,Qb,aeT,adN,r19,x1,x2,wi,VX,Nat.reduceEqDiff,Nat.reduceAdd]
   refine⟨(i,us.take i++(Bs++[t'])++us.drop (i+(n+2+1)),os.set i g'),by simp only;omega,by omega,rfl,y1,y2,by rw[List.length_set];exact iQ,lZ lC (by omega),y3,y4,?_⟩
   try (repeat' apply And.intro)<;>first | rfl | trivial
 ·have S6:j=0:=by omega
  subst S6
  rw[Nat.pow_zero,Nat.one_mul,List.drop_zero] at hv
  rw[List.drop_zero] at bB
  simp only[iK,I9,BB,CH,J0,k16,Hw,hz,VX,Nat.reduceEqDiff,Nat.reduceAdd]
  exact hQ _ us os I9 BB k16 PO Js iQ lC hv bB
end Go.PM
namespace Go.PM
def bl (n:Nat):Nat:=(aC 2 n).length
theorem NJ (n:Nat):n<2^bl n:=gJ (by decide) n
theorem GO {n k:Nat} (h:n<2^k):bl n≤k:=mF (by decide) h
theorem pH {m n:Nat} (h:m≤n):bl m≤bl n:=dZ (by decide) h
theorem sU (m n:Nat):bl (m*n)≤bl m+bl n:=by
 refine GO ?_
 rw[Nat.pow_add]
 exact Nat.mul_lt_mul'' (NJ m) (NJ n)
theorem Gk {n k:Nat} (h:bl n≤k):n<2^k:=Nat.lt_of_lt_of_le (NJ n) (Nat.pow_le_pow_right (by decide) h)
theorem Tl {m n k:Nat} (hm:bl m≤k) (hn:bl n≤k):bl (m+n)≤k+1:=by
 refine GO ?_
 have h1:=Gk hm
 have h2:=Gk hn
 rw[Nat.pow_succ]
 omega
theorem U4:bl 0=0:=by simp[bl,bS]
theorem OD:bl 1=1:=by simp[bl,iY (b:=2) (by decide) (n:=1) (by decide),bS]
theorem alB {n:Nat} (h:n≠0):1≤bl n:=by
 have:=pH (m:=1) (n:=n) (by omega)
 rwa [OD] at this
theorem afR (n:Nat):32*(aC 4294967296 n).length≤bl n+31:=by
 by_cases h:n=0
 ·subst h;rw[bS];simp
 ·have h1:=J4 (b:=4294967296) (by decide) h
  have h2:=NJ n
  have e:(4294967296:Nat)=2^32:=by decide
  rw[e] at h1 ⊢
  rw[←Nat.pow_mul] at h1
  have h3:2^(32*((aC (2^32) n).length-1))<2^bl n:=by omega
  have h4:=(Nat.pow_lt_pow_iff_right (by decide)).1 h3
  omega
theorem agA (n:Nat):29*(aC 1000000000 n).length≤bl n+28:=by
 by_cases h:n=0
 ·subst h;rw[bS];simp
 ·have h1:=J4 (b:=1000000000) (by decide) h
  have h2:=NJ n
  have h5:(2^29)^((aC 1000000000 n).length-1)≤1000000000^((aC 1000000000 n).length-1):=Nat.pow_le_pow_left (by decide) _
  rw[←Nat.pow_mul] at h5
  have h3:2^(29*((aC 1000000000 n).length-1))<2^bl n:=by omega
  have h4:=(Nat.pow_lt_pow_iff_right (by decide)).1 h3
  omega
def dL (q:Rat):Nat:=max (bl q.num.natAbs) (bl q.den)
theorem Bw {q:Rat}:bl q.num.natAbs≤dL q:=Nat.le_max_left _ _
theorem Be {q:Rat}:bl q.den≤dL q:=Nat.le_max_right _ _
theorem Yi {q:Rat} {k:Nat} (h1:bl q.num.natAbs≤k) (h2:bl q.den≤k):dL q≤k:=Nat.max_le.2 ⟨h1,h2⟩
theorem Km {n:Int} {d k:Nat} (h1:bl n.natAbs≤k) (h2:bl d≤k) (hk:1≤k):dL (mkRat n d)≤k:=by
 refine Yi ?_ ?_
 ·rw[Rat.num_mkRat]
  split
  ·rw[Int.natAbs_zero,U4];omega
  ·exact Nat.le_trans (pH (Int.natAbs_ediv_le_natAbs _ _)) h1
 ·rw[Rat.den_mkRat]
  split
  ·rw[OD];exact hk
  ·exact Nat.le_trans (pH (Nat.div_le_self _ _)) h2
theorem XB (a b:Rat):dL (a+b)≤dL a+dL b+1:=by
 rw[Rat.add_def']
 have h1 := @Bw a
 have h2 := @Bw b
 have h3 := @Be a
 have h4 := @Be b
 have h5:=sU a.num.natAbs b.den
 have h6:=sU b.num.natAbs a.den
 have h7:=sU a.den b.den
 refine Km ?_ (by omega) (by omega)
 have h8:(a.num*b.den+b.num*a.den).natAbs≤a.num.natAbs*b.den+b.num.natAbs*a.den:=by
  refine Nat.le_trans (Int.natAbs_add_le _ _) ?_
  rw[Int.natAbs_mul,Int.natAbs_mul,Int.natAbs_natCast,Int.natAbs_natCast]
  exact Nat.le_refl _
 exact Nat.le_trans (pH h8) (Tl (by omega) (by omega))
theorem Ly:dL 0=1:=by simp[dL,U4,OD]
theorem NO:dL 1=1:=by simp[dL,OD]
def pS (neg:Bool) (t:Nat):Int:=if neg then -(t:Int) else t
theorem Aq (neg:Bool) (t:Nat):(pS neg t).natAbs=t:=by cases neg<;>simp[pS]
theorem Uz {neg:Bool} {t:Nat}:pS neg t<0↔neg=true∧t≠0:=by cases neg<;>simp[pS]<;>omega
theorem P8 (neg:Bool):pS neg 0=0:=by cases neg<;>rfl
theorem Zx (z:Int):pS (decide (z<0)) z.natAbs=z:=by
 by_cases h:z<0<;>simp[pS,h]<;>omega
theorem adS {neg:Bool} {t g:Nat}:(pS neg t) / (g:Int)=pS neg (t / g)∨¬g ∣ t:=by
 by_cases h:g ∣ t
 ·left
  obtain⟨k,rfl⟩:=h
  by_cases hg:g=0
  ·subst hg;simp[P8]
  ·rw[Nat.mul_div_cancel_left _ (by omega)]
   cases neg
   ·simp only[pS]
    simp only[Bool.false_eq_true,if_false]
    rw[Int.natCast_mul,Int.mul_ediv_cancel_left _ (by omega)]
   ·simp only[pS,if_true]
    rw[Int.natCast_mul,←Int.mul_neg,Int.mul_ediv_cancel_left _ (by omega)]
 ·exact .inr h
theorem KH {neg:Bool} {t b:Nat} (hb:b≠0):(mkRat (pS neg t) b).num=pS neg (t / Nat.gcd t b):=by
 rw[Rat.num_mkRat,if_neg hb,Aq,Nat.gcd_comm]
 rcases adS (neg:=neg) (t:=t) (g:=Nat.gcd t b) with h | h
 ·exact h
 ·exact absurd (Nat.gcd_dvd_left _ _) h
theorem TU {neg:Bool} {t b:Nat} (hb:b≠0):(mkRat (pS neg t) b).den=b / Nat.gcd t b:=by
 rw[Rat.den_mkRat,if_neg hb,Aq,Nat.gcd_comm]
theorem J1 (q:Rat):mkRat (pS (decide (q.num<0)) q.num.natAbs) q.den=q:=by rw[Zx,Rat.mkRat_self]
end Go.PM
namespace Go.PM
theorem aeK (neg:Bool) (t d:Nat):pS neg (t*d)=pS neg t*(d:Int):=by cases neg<;>simp[pS,Int.neg_mul]
theorem Eg (q:Rat) {d:Nat} (hd:d≠0):mkRat (pS (decide (q.num<0)) (q.num.natAbs*d)) (q.den*d)=q:=by
 rw[aeK,Rat.mkRat_mul_right hd,J1]
theorem DL (X Y:Int) {B:Nat} (hB:B≠0):mkRat X B+mkRat Y B=mkRat (X+Y) B:=by
 rw[Rat.mkRat_add_mkRat _ _ hB hB,←Int.add_mul,Rat.mkRat_mul_right hB]
theorem OH (n:Bool) (x y:Nat):pS n x+pS n y=pS n (x+y):=by cases n<;>simp[pS]<;>omega
theorem Ul {m n:Bool} (h:m≠n) {x y:Nat} (hx:y≤x):pS m x+pS n y=pS m (x-y):=by
 cases m<;>cases n<;>simp_all [pS]<;>omega
theorem Tg {m n:Bool} (h:m≠n) {x y:Nat} (hx:x≤y):pS m x+pS n y=pS n (y-x):=by
 cases m<;>cases n<;>simp_all [pS]<;>omega
def kR (q:Rat):Int:=if q.num=0 then 0 else if q.num<0 then -1 else 1
def MU (a b:Rat):Int:=if kR a=kR b then (if a.num<0 then -fF (a.num.natAbs*b.den) (b.num.natAbs*a.den) else fF (a.num.natAbs*b.den) (b.num.natAbs*a.den)) else kR a-kR b
theorem wQ {m n:Nat}:fF m n<0↔m<n:=by
 unfold fF
 split
 ·omega
 ·split<;>omega
theorem acM {m n:Nat}:0<fF m n↔n<m:=by
 unfold fF
 split
 ·omega
 ·split<;>omega
theorem xC {m n:Nat}:fF m n=0↔m=n:=by
 unfold fF
 split
 ·omega
 ·split<;>omega
theorem nX {q:Rat} (h:q.num<0):kR q = -1:=by unfold kR;rw[if_neg (by omega),if_pos h]
theorem lD {q:Rat} (h:q.num=0):kR q=0:=by unfold kR;rw[if_pos h]
theorem oD {q:Rat} (h:0<q.num):kR q=1:=by unfold kR;rw[if_neg (by omega),if_neg (by omega)]
theorem UD {a b:Rat}:MU a b<0↔a<b:=by
 rw[Rat.lt_iff]
 have hA:(0:Int)<a.den:=by have:=a.den_nz;omega
 have hB:(0:Int)<b.den:=by have:=b.den_nz;omega
 have eA:((a.num.natAbs*b.den:Nat):Int)=(a.num.natAbs:Int)*b.den:=by simp
 have eB:((b.num.natAbs*a.den:Nat):Int)=(b.num.natAbs:Int)*a.den:=by simp
 unfold MU
 rcases Int.lt_trichotomy a.num 0 with h1 | h1 | h1<;>rcases Int.lt_trichotomy b.num 0 with h2 | h2 | h2
 ·rw[nX h1,nX h2,if_pos rfl,if_pos h1]
  have f1:(a.num.natAbs:Int) = -a.num:=by omega
  have f2:(b.num.natAbs:Int) = -b.num:=by omega
  rw[f1,Int.neg_mul] at eA
  rw[f2,Int.neg_mul] at eB
  have := @acM (a.num.natAbs*b.den) (b.num.natAbs*a.den)
  omega
 ·rw[nX h1,lD h2,if_neg (by decide),h2,Int.zero_mul]
  have:=Int.mul_neg_of_neg_of_pos h1 hB
  omega
 ·rw[nX h1,oD h2,if_neg (by decide)]
  have:=Int.mul_neg_of_neg_of_pos h1 hB
  have:=Int.mul_pos h2 hA
  omega
 ·rw[lD h1,nX h2,if_neg (by decide),h1,Int.zero_mul]
  have:=Int.mul_neg_of_neg_of_pos h2 hA
  omega
 ·rw[lD h1,lD h2,if_pos rfl,h1,h2];simp[fF]
 ·rw[lD h1,oD h2,if_neg (by decide),h1,Int.zero_mul]
  have:=Int.mul_pos h2 hA
  omega
 ·rw[oD h1,nX h2,if_neg (by decide)]
  have:=Int.mul_neg_of_neg_of_pos h2 hA
  have:=Int.mul_pos h1 hB
  omega
 ·rw[oD h1,lD h2,if_neg (by decide),h2,Int.zero_mul]
  have:=Int.mul_pos h1 hB
  omega
 ·rw[oD h1,oD h2,if_pos rfl,if_neg (by omega)]
  have f1:(a.num.natAbs:Int)=a.num:=by omega
  have f2:(b.num.natAbs:Int)=b.num:=by omega
  rw[f1] at eA
  rw[f2] at eB
  have := @wQ (a.num.natAbs*b.den) (b.num.natAbs*a.den)
  omega
theorem Yn (m n:Nat):fF n m = -fF m n:=by
 rcases Nat.lt_trichotomy m n with h | h | h
 ·rw[fF,fF,if_neg (by omega),if_neg (by omega),if_pos h];rfl
 ·subst h;rw[fF,if_neg (by omega),if_pos rfl];rfl
 ·rw[fF,fF,if_pos h,if_neg (by omega),if_neg (by omega)]
theorem Qr (a b:Rat):MU b a = -MU a b:=by
 unfold MU
 by_cases h:kR a=kR b
 ·have h2:b.num<0↔a.num<0:=by
   rcases Int.lt_trichotomy a.num 0 with h1 | h1 | h1<;>rcases Int.lt_trichotomy b.num 0 with h2 | h2 | h2
   ·simp[h1,h2]
   ·rw[nX h1,lD h2] at h;omega
   ·rw[nX h1,oD h2] at h;omega
   ·rw[lD h1,nX h2] at h;omega
   ·omega
   ·rw[lD h1,oD h2] at h;omega
   ·rw[oD h1,nX h2] at h;omega
   ·rw[oD h1,lD h2] at h;omega
   ·omega
  rw[if_pos h,if_pos h.symm,Yn]
  by_cases h3:a.num<0
  ·rw[if_pos h3,if_pos (h2.2 h3)]
  ·rw[if_neg h3,if_neg (mt h2.1 h3)]
 ·rw[if_neg h,if_neg (fun h'=>h h'.symm)];omega
theorem adU {a b:Rat}:0<MU a b↔b<a:=by
 rw[←UD,Qr a b];omega
theorem Ot {a b:Rat}:MU a b=0↔a=b:=by
 constructor
 ·intro h
  refine Rat.le_antisymm ?_ ?_
  ·rw[←Rat.not_lt,←adU];omega
  ·rw[←Rat.not_lt,←UD];omega
 ·rintro rfl
  have:=Qr a a
  omega
theorem Lw {q:Rat}:kR q=0↔q=0:=by
 rw[←Rat.num_eq_zero]
 rcases Int.lt_trichotomy q.num 0 with h | h | h
 ·rw[nX h];omega
 ·rw[lD h];omega
 ·rw[oD h];omega
end Go.PM
namespace Go.PM
theorem Nf {ds:List Nat} {H:aA}:cU 1 (gU ds) H=some (ds.map tV):=by
 have:((ds.map tV).all fun x=>(aB x).length == 1&&(aB x).all bI)=true:=by
  rw[List.all_eq_true]
  intro x hx
  obtain⟨d,_,rfl⟩:=List.mem_map.1 hx
  rfl
 simp only[cU,gU,aY,this,if_true]
theorem Eb (n:Nat) {H:aA}:cU 1 (bR n) H=some ((aC 1000000000 n).map tV):=Nf
theorem HR {a n:Nat} (hn:(aC 1000000000 a).length=n+1):∃d,(aC 1000000000 a)[n]? = some d∧d≠0∧d<1000000000:=by
 obtain⟨d,hd⟩:∃d,(aC 1000000000 a)[n]? = some d:=⟨_,List.getElem?_eq_getElem (by omega)⟩
 refine⟨d,hd,fun h0 => ?_,fG (by decide) a d (List.mem_of_getElem? hd)⟩
 have:=N7 (b:=1000000000) (by decide) a
 rw[List.getLast?_eq_getElem?,hn,Nat.add_sub_cancel,hd,h0] at this
 exact this rfl
theorem XD {a d:Nat} (h:aC 1000000000 a=[d]):a=d∧0<d∧d<1000000000:=by
 have h1:=cC (b:=1000000000) (by decide) a
 rw[h,val_one] at h1
 obtain⟨e,h2,h3,h4⟩:=HR (a:=a) (n:=0) (by rw[h];rfl)
 rw[h] at h2
 cases h2
 exact⟨h1.symm,by omega,h4⟩
theorem ahN {a:Nat} (h:(aC 1000000000 a).length≤2):a<1000000000000000000:=by
 have h1:=gJ (b:=1000000000) (by decide) a
 have h2:1000000000^(aC 1000000000 a).length≤1000000000^2:=Nat.pow_le_pow_right (by decide) h
 omega
theorem ZQ {H:aA} {u v:VV} (hu:aR u=true) (hv:aR v=true):fz depth H (.dS [u,v])=some (.dS [u,v]):=aF (by simp only[aR,aM,hu,hv,Bool.and_self])
theorem apV {X N:Nat} (h:(aC 1000000000 X).length≤N):I0 0 1 (.ref 0 0 0 N N) (bR X) [.row 0 ((List.replicate N 0).map tV) 1 true]=some (VI ((aC 1000000000 X).length:Int),[.row 0 ((aC 1000000000 X++List.replicate (N-(aC 1000000000 X).length) 0).map tV) 1 true]):=by
 have e:((aC 1000000000 X).map tV).take N=(aC 1000000000 X).map tV:=List.take_of_length_le (by simpa using h)
 simp only[I0,bR,Nf,bA,e,List.length_map,List.length_replicate,Nat.zero_add]
 rw[if_pos ⟨trivial,Nat.le_refl _,h⟩]
 simp only[cT,List.set_cons_zero,List.take_zero,List.nil_append,Nat.zero_add,List.length_map,List.map_append,List.map_replicate,List.drop_replicate]
theorem uG (a b:Nat) (hb:b≠0) (ha:(aC 1000000000 a).length<17592186044416) (uJ:(aC 1000000000 b).length<17592186044416):TC 214 [bR a,bR b] (.dS [bR (a / b),bR (a % b)]):=by
 refine TC.walk ⟨true,false⟩ Hv rfl (Nat.le_of_ble_eq_true rfl) (by simp[aM,cB]) (by simp[gQ,rA,nD]) ?_
 have s1:=Cx a (by omega)
 have s2:=Cx b (by omega)
 have fin:∀ {H:aA},fz depth H (.dS [bR (a / b),bR (a % b)])=some (.dS [bR (a / b),bR (a % b)]):=ZQ (cB _) (cB _)
 by_cases PU:(aC 1000000000 a).length≤2∧(aC 1000000000 b).length≤2
 ·rw[if_pos PU.1] at s1
  rw[if_pos PU.2] at s2
  have la:=ahN PU.1
  have q1:=J9 a b (by omega) (by omega)
  have q2:=KS a b (by omega)
  have hdl:a / b≤a:=Nat.div_le_self _ _
  have hml:a % b≤a:=Nat.mod_le _ _
  have n1:TC 161 [VI ((a / b:Nat):Int)] (bR (a / b)):=qE ((a / b:Nat):Int) (Int.ofNat_le.2 (show a / b≤9223372036854775807 from Nat.le_trans hdl (by omega)))
  have n2:TC 161 [VI ((a % b:Nat):Int)] (bR (a % b)):=qE ((a % b:Nat):Int) (Int.ofNat_le.2 (show a % b≤9223372036854775807 from Nat.le_trans hml (by omega)))
  simp only[fE,dK,s1,s2,q1,q2,n1,n2,VX,Nat.reduceEqDiff,Nat.reduceAdd]
  exact fin
 have c1:=uQ a b (by omega) (by omega)
 obtain⟨x1,t1,Mn⟩:∃(x:Int) (t:Bool),(if (aC 1000000000 a).length≤2 then VV.dS [VI a,VB true] else .dS [VI 0,VB false]) = .dS [VI x,VB t]:=by split<;>exact⟨_,_,rfl⟩
 have hs2:∃(x:Int) (t:Bool),(if (aC 1000000000 b).length≤2 then VV.dS [VI b,VB true] else .dS [VI 0,VB false]) = .dS [VI x,VB t]∧(t1=true→t=false):=by
  by_cases h:(aC 1000000000 b).length≤2
  ·rw[if_pos h]
   refine⟨_,_,rfl,fun ht => ?_⟩
   rw[if_neg (fun h'=>PU ⟨h',h⟩)] at Mn
   injection Mn with Mn
   injection Mn with _ Mn
   injection Mn with Mn _
   injection Mn with Mn
   injection Mn with Mn
   subst ht
   cases Mn
  ·rw[if_neg h]
   exact⟨_,_,rfl,fun _=>rfl⟩
 obtain⟨x2,t2,hs2,ht⟩:=hs2
 rw[Mn] at s1
 rw[hs2] at s2
 by_cases Ic:fF a b<0
 ·have bB:a<b:=wQ.1 Ic
  have e0:∀lr,mB lr [.int .i64 0] 0 [] []=some (.ref 0 0 0 0 0,[.row 0 [] 1 true]):=fun lr=>jR (H:=[]) rfl
  have e1:∀lr,mB lr [.int .i64 0] 0 [] [.row 0 [] 1 true]=some (.ref 1 0 0 0 0,[.row 0 [] 1 true,.row 0 [] 1 true]):=fun lr=>jR (H:=[.row 0 [] 1 true]) rfl
  rw[Nat.div_eq_of_lt bB,Nat.mod_eq_of_lt bB]
  have hz:fz (6+1) [.row 0 [] 1 true,.row 0 [] 1 true] (.ref 0 0 0 0 0)=some (bR 0):=by rw[Hr];rfl
  by_cases ha0:a=0
  ·subst ha0
   have ap:eR 0 1 8 (.ref 1 0 0 0 0) ((aC 1000000000 0).map tV) [.row 0 [] 1 true,.row 0 [] 1 true]=some (.ref 1 0 0 0 0,[.row 0 [] 1 true,.row 0 [] 1 true]):=by
    rw[bS];rfl
   have Hg:fz (6+1) [.row 0 [] 1 true,.row 0 [] 1 true] (.ref 1 0 0 0 0)=some (bR 0):=by rw[Hr];rfl
   cases t1 with
   |
    false =>
    simp only[fE,dK,s1,s2,c1,Ic,e0,e1,ap,Eb,VX,Nat.reduceEqDiff,Nat.reduceAdd]
    exact bN (d:=6) hz Hg
   |
    true =>
    rw[ht rfl] at s2
    simp only[fE,dK,s1,s2,c1,Ic,e0,e1,ap,Eb,VX,Nat.reduceEqDiff,Nat.reduceAdd]
    exact bN (d:=6) hz Hg
  ·have hln:(aC 1000000000 a).length≠0:=fun h=>ha0 ((lR (b:=1000000000) (by decide)).1 (List.length_eq_zero_iff.1 h))
   have ap:eR 0 1 8 (.ref 1 0 0 0 0) ((aC 1000000000 a).map tV) [.row 0 [] 1 true,.row 0 [] 1 true]=some (.ref 1 1 0 (aC 1000000000 a).length (aC 1000000000 a).length,[.row 0 [] 1 true,.row 1 ((aC 1000000000 a).map tV) 1 true]):=by
    have hr:aI [.row 0 [] 1 true,.row 0 [] 1 true] 1 0=some ([],1,true):=rfl
    simp only[eR,hr,List.length_map,Nat.zero_add,List.length_nil,Nat.add_zero]
    rw[if_pos ⟨by decide,by decide⟩,if_pos ⟨trivial,Nat.zero_le _,Nat.le_refl _⟩,if_neg (by omega),if_pos (by omega)]
    simp
   have Ez:fz (6+1) [.row 0 [] 1 true,.row 1 ((aC 1000000000 a).map tV) 1 true] (.ref 0 0 0 0 0)=some (bR 0):=by rw[Hr];rfl
   have Hg:fz (6+1) [.row 0 [] 1 true,.row 1 ((aC 1000000000 a).map tV) 1 true] (.ref 1 1 0 (aC 1000000000 a).length (aC 1000000000 a).length)=some (bR a):=by
    have:aR (.ref 1 1 0 (aC 1000000000 a).length (aC 1000000000 a).length)=false:=rfl
    have hr:aI [.row 0 [] 1 true,.row 1 ((aC 1000000000 a).map tV) 1 true] 1 1=some ((aC 1000000000 a).map tV,1,true):=rfl
    unfold fz
    simp only[this,hr,Bool.false_eq_true,if_false]
    rw[if_pos ⟨by simp,Nat.le_refl _⟩,List.drop_zero,List.take_of_length_le (by simp),mapM_pure (n:=5) (dV fun _=>rfl)]
    rfl
   cases t1 with
   |
    false =>
    simp only[fE,dK,s1,s2,c1,Ic,e0,e1,ap,Eb,VX,Nat.reduceEqDiff,Nat.reduceAdd]
    exact bN (d:=6) Ez Hg
   |
    true =>
    rw[ht rfl] at s2
    simp only[fE,dK,s1,s2,c1,Ic,e0,e1,ap,Eb,VX,Nat.reduceEqDiff,Nat.reduceAdd]
    exact bN (d:=6) Ez Hg
 have CE:b≤a:=by have := @wQ a b;omega
 have hbn:(aC 1000000000 b).length≠0:=fun h=>hb ((lR (b:=1000000000) (by decide)).1 (List.length_eq_zero_iff.1 h))
 by_cases h1:(((aC 1000000000 b).length:Nat):Int)=1
 ·obtain⟨d,hd⟩:∃d,aC 1000000000 b=[d]:=List.length_eq_one_iff.1 (by omega)
  obtain⟨hbd,Du,hdT⟩:=XD hd
  have e1:bM 1 (bR b) (VI 0) []=some (.cZ (tV d) 0):=by
   rw[bR,hd]
   exact aK (f:=tV) (t := .op) (H:=[]) (size:=1) (k := .i64) (xs:=[d]) (i:=0) rfl rfl
  have c2:=xM a d Du hdT (by omega)
  rw[←hbd] at c2
  have Uv:a % b≤b:=Nat.le_of_lt (Nat.mod_lt _ (by omega))
  have n2:TC 161 [VI ((a % b:Nat):Int)] (bR (a % b)):=qE ((a % b:Nat):Int) (Int.ofNat_le.2 (show a % b≤9223372036854775807 from Nat.le_trans Uv (by omega)))
  have e2:tV d=tV b:=by rw[hbd]
  rw[e2] at e1
  cases t1 with
  |
   false =>
   simp only[fE,dK,s1,s2,c1,Ic,cM,h1,e1,c2,n2,VX,Nat.reduceEqDiff,Nat.reduceAdd]
   exact fin
  |
   true =>
   rw[ht rfl] at s2
   simp only[fE,dK,s1,s2,c1,Ic,cM,h1,e1,c2,n2,VX,Nat.reduceEqDiff,Nat.reduceAdd]
   exact fin
 obtain⟨n,hn⟩:∃n,(aC 1000000000 b).length=n+2:=⟨(aC 1000000000 b).length-2,by omega⟩
 obtain⟨t,htd,ht0,htT⟩:=HR (a:=b) (n:=n+1) hn
 obtain⟨s,hs⟩:∃s,s=1000000000 / (t+1):=⟨_,rfl⟩
 have Qk:1≤s:=by rw[hs];exact(Nat.le_div_iff_mul_le (by omega)).2 (by omega)
 have hsT:s<1000000000:=by rw[hs];exact Nat.div_lt_self (by decide) (by omega)
 have Ik:(t+1)*s≤1000000000:=by rw[hs];exact Nat.mul_div_le _ _
 have hla:=dZ (b:=1000000000) (by decide) CE
 have w0:IntKind.i64.wrap (((n+2:Nat):Int)-1)=((n+1:Nat):Int):=wrapN _ (by omega) (by omega)
 have w1:IntKind.i64.wrap ((t:Int)+1)=((t+1:Nat):Int):=wrapN _ (by omega) (by omega)
 have q0:dB .quo (.int .i64 1000000000) (.int .i64 ((t+1:Nat):Int))=some (.int .i64 (s:Int)):=by rw[hs];exact J9 1000000000 (t+1) (by decide) (by omega)
 have et:∀H,bM 1 (bR b) (VI ((n+1:Nat):Int)) H=some (.cZ (tV t) 0):=fun H=>aK (f:=tV) (t := .op) (size:=1) (k := .i64) htd rfl
 have Xz:¬(((n+2:Nat):Int)=1):=by omega
 obtain⟨N,hN⟩:∃N,N=(aC 1000000000 a).length+1:=⟨_,rfl⟩
 have wN:IntKind.i64.wrap (((aC 1000000000 a).length:Int)+1)=(N:Int):=wrapN _ (by omega) (by omega)
 have mkN:=Ph N (by omega)
 have c3:=yA a s Qk hsT ha
 have c4:=yA b s Qk hsT uJ
 have akA:b*s<1000000000^(n+2):=by
  have h2:=(zS (n:=n+1) (fG (b:=1000000000) (by decide) b) hn htd).2
  rw[cC (by decide)] at h2
  have h3:b*s<(t+1)*1000000000^(n+1)*s:=Nat.mul_lt_mul_of_pos_right h2 Qk
  have h4:(t+1)*1000000000^(n+1)*s=(t+1)*s*1000000000^(n+1):=by grind
  have h9:(t+1)*s*1000000000^(n+1)≤1000000000*1000000000^(n+1):=Nat.mul_le_mul_right _ Ik
  have h10:1000000000*1000000000^(n+1)=1000000000^(n+2):=by rw[Nat.pow_succ 1000000000 (n+1)];exact Nat.mul_comm _ _
  rw[h4] at h3
  rw[h10] at h9
  exact Nat.lt_of_lt_of_le h3 h9
 have hVl:(aC 1000000000 (b*s)).length=n+2:=by
  have h2:=mF (b:=1000000000) (by decide) akA
  have h3:b≤b*s:=Nat.le_mul_of_pos_right b Qk
  have h4:=dZ (b:=1000000000) (by decide) h3
  omega
 have hAl:(aC 1000000000 (a*s)).length≤N:=by
  have h2:=PC (b:=1000000000) (by decide) a s
  have h3:(aC 1000000000 s).length≤1:=mF (by decide) (by rw[Nat.pow_one];exact hsT)
  omega
 have cp:=apV hAl
 obtain⟨m,hm⟩:∃m,m+(n+2)=N:=⟨N-(n+2),by omega⟩
 have wm:IntKind.i64.wrap ((N:Int)-((n+2:Nat):Int))=(m:Int):=wrapN _ (by omega) (by omega)
 have wm1:IntKind.i64.wrap ((m:Int)-1)=(m:Int)-1:=wrap64 (by omega) (by omega)
 obtain⟨Ep,adO⟩:∃Ep,Ep=aC 1000000000 (a*s)++List.replicate (N-(aC 1000000000 (a*s)).length) 0:=⟨_,rfl⟩
 rw[←adO] at cp
 have mkm:AY [.int .i64 0] 8 (VI (m:Int)) (VI (m:Int)) [.row 0 (Ep.map tV) 1 true]=some (.ref 1 0 0 m m,[.row 0 (Ep.map tV) 1 true]++[.row 0 ((List.replicate m 0).map tV) 1 true]):=rM (f:=tV) (x:=0) (H:=[.row 0 (Ep.map tV) 1 true]) rfl (by omega) (by omega)
 have lN:∀K,aI K 0 0=some (Ep.map tV,1,true)→pT (.ref 0 0 0 N N) K=some (VI (N:Int)):=fun K h=>dU h
 have l1:=lN [.row 0 (Ep.map tV) 1 true] rfl
 have l2:=lN (H2 Ep (List.replicate m 0)) rfl
 have ajW:Ep.length=N:=by rw[adO,List.length_append,List.length_replicate];omega
 have aqD:∀d∈Ep,d<1000000000:=fun d hd=>by
  rw[adO] at hd
  rcases List.mem_append.1 hd with h | h
  ·exact fG (by decide) _ d h
  ·rw[List.eq_of_mem_replicate h];decide
 have ajB:val 1000000000 Ep=a*s:=by rw[adO,xQ,qY,Nat.mul_zero,Nat.add_zero,cC (by decide)]
 generalize PS:aC 1000000000 (b*s)=vs at *
 have GD:∀d∈vs,d<1000000000:=by rw[←PS];exact fG (by decide) _
 have M6:val 1000000000 vs=b*s:=by rw[←PS];exact cC (by decide) _
 have lV:∀H,pT (bR (b*s)) H=some (VI ((n+2:Nat):Int)):=fun H=>by rw[cM,PS,hVl]
 obtain⟨v1,f1⟩:∃v1,vs[n+1]? = some v1:=⟨_,List.getElem?_eq_getElem (by omega)⟩
 obtain⟨v0,f0⟩:∃v0,vs[n]? = some v0:=⟨_,List.getElem?_eq_getElem (by omega)⟩
 have hv1:1≤v1:=by
  obtain⟨d,hd,Du,_⟩:=HR (a:=b*s) (n:=n+1) (by rw[PS];exact hVl)
  rw[PS,f1] at hd
  cases hd
  omega
 have CC:val 1000000000 (Ep.drop m)<val 1000000000 vs:=by
  have h2:=oY (b:=1000000000) Ep m
  rw[List.length_take,ajW,Nat.min_eq_left (by omega),ajB] at h2
  have h3:a<b*1000000000^m:=by
   have y1:=gJ (b:=1000000000) (by decide) a
   have y2:=J4 (b:=1000000000) (by decide) hb
   rw[hn] at y2
   have y3:1000000000^(n+2-1)*1000000000^m≤b*1000000000^m:=Nat.mul_le_mul_right _ y2
   rw[←Nat.pow_add,show n+2-1+m=(aC 1000000000 a).length by omega] at y3
   exact Nat.lt_of_lt_of_le y1 y3
  have h4:a*s<b*1000000000^m*s:=Nat.mul_lt_mul_of_pos_right h3 Qk
  have h5:b*1000000000^m*s=1000000000^m*(b*s):=by grind
  rw[M6]
  have h6:1000000000^m*val 1000000000 (Ep.drop m)<1000000000^m*(b*s):=by
   rw[←h5]
   exact Nat.lt_of_le_of_lt (by rw[h2];exact Nat.le_add_left _ _) h4
  exact Nat.lt_of_mul_lt_mul_left h6
 have body:VW ⟨true,false⟩ 0 (.loop iK)=VW ⟨true,false⟩ 0 (.loop iK):=rfl
 have tail:∀(us os:List Nat),us.length=N→(∀d∈us,d<1000000000)→os.length=m→(∀d∈os,d<1000000000)→val 1000000000 us+val 1000000000 vs*val 1000000000 os=a*s→val 1000000000 us<val 1000000000 vs →
   (∀lo K,cQ 211 [.ref 0 0 0 N N] lo (H2 us os) K=K (bR (a % b*s)) (cY (H2 us os) [0])) ∧
   (∀lo K,cQ 211 [.ref 1 0 0 m m] lo (cY (H2 us os) [0]) K=K (bR (a / b)) (cY (cY (H2 us os) [0]) [1]))∧TC 237 [bR (a % b*s),VI (s:Int)] (.dS [bR (a % b),VI ((a % b*s % s:Nat):Int)]):=by
  intro us os PO Js iQ lC hv bB
  rw[M6] at hv bB
  have hq:val 1000000000 os=a / b:=by
   rw[←Nat.mul_div_mul_right a b Qk,←hv,Nat.add_mul_div_left _ _ (Nat.lt_of_le_of_lt (Nat.zero_le _) bB),Nat.div_eq_of_lt bB,Nat.zero_add]
  have hr:val 1000000000 us=a % b*s:=by
   rw[←Nat.mul_mod_mul_right,←hv,Nat.add_mul_mod_self_left,Nat.mod_eq_of_lt bB]
  refine⟨fun lo K => ?_,fun lo K => ?_,?_⟩
  ·have h:=sH us Js (by omega)
   rw[hr] at h
   exact TC.aeN (f:=tV) h Uh PO.symm (Nat.le_refl _) Fj (fun _=>rfl) rfl rfl lo K
  ·have h:=sH os lC (by omega)
   rw[hq] at h
   have rN:aI (cY (H2 us os) [0]) 1 0=some (os.map tV,1,true):=rfl
   exact TC.aeN (f:=tV) h rN iQ.symm (Nat.le_refl _) Fj (fun _=>rfl) rfl rfl lo K
  ·have h:=xM (a % b*s) s Qk hsT (by
    have h2:=dZ (b:=1000000000) (by decide) (Nat.le_trans (Nat.le_of_lt bB) (show b*s≤b*s from Nat.le_refl _))
    rw[hr,PS] at h2
    omega)
   rwa [Nat.mul_div_cancel _ Qk] at h
 clear body
 have nV:bR (b*s)=gU vs:=by rw[bR,PS]
 cases t1 with
 |
  false =>
  simp only[fE,dK,s1,s2,c1,Ic,cM,hn,Xz,w0,w1,q0,et,wN,mkN,c3,c4,cp,lV,l1,l2,wm,wm1,mkm,List.cons_append,List.nil_append,VX,Nat.reduceEqDiff,Nat.reduceAdd]
  refine N5 (Ep:=Ep) (XY:=List.replicate m 0) (vs:=vs) (N:=N) (m:=m) (n:=n) (A:=a*s) (s:=s) ajW hm (by omega) aqD hVl GD f1 f0 hv1 ajB CC (by simp) (Av (by decide) _) (by rfl) (by rfl) (by simp only[VX,Nat.reduceEqDiff,Nat.reduceAdd];exact nV) (by rfl) (by rfl) (by rfl) ?_
  intro wW us os r12 r13 r16 PO Js iQ lC hv bB
  obtain⟨x1,x2,x3⟩:=tail us os PO Js iQ lC hv bB
  simp only[r12,r13,r16,x1,x2,x3,VX,Nat.reduceEqDiff,Nat.reduceAdd]
  exact fin
 |
  true =>
  rw[ht rfl] at s2
  simp only[fE,dK,s1,s2,c1,Ic,cM,hn,Xz,w0,w1,q0,et,wN,mkN,c3,c4,cp,lV,l1,l2,wm,wm1,mkm,List.cons_append,List.nil_append,VX,Nat.reduceEqDiff,Nat.reduceAdd]
  refine N5 (Ep:=Ep) (XY:=List.replicate m 0) (vs:=vs) (N:=N) (m:=m) (n:=n) (A:=a*s) (s:=s) ajW hm (by omega) aqD hVl GD f1 f0 hv1 ajB CC (by simp) (Av (by decide) _) (by rfl) (by rfl) (by simp only[VX,Nat.reduceEqDiff,Nat.reduceAdd];exact nV) (by rfl) (by rfl) (by rfl) ?_
  intro wW us os r12 r13 r16 PO Js iQ lC hv bB
  obtain⟨x1,x2,x3⟩:=tail us os PO Js iQ lC hv bB
  simp only[r12,r13,r16,x1,x2,x3,VX,Nat.reduceEqDiff,Nat.reduceAdd]
  exact fin
end Go.PM
namespace Go.PM
theorem dY (n:Nat) {H:aA}:pT (bL n) H=some (VI (aC 4294967296 n).length):=eX
theorem wV {n:Nat}:(0:Int)<((aC 4294967296 n).length:Int)↔n≠0:=by
 constructor
 ·intro h h0
  subst h0
  rw[bS] at h
  simp at h
 ·intro h
  have:=(lR (b:=4294967296) (by decide) (n:=n))
  have h2:aC 4294967296 n≠[]:=fun hx=>h (this.1 hx)
  have:=List.length_pos_iff.2 h2
  omega
theorem QF {n:Nat} (h:(aC 4294967296 n).length≤2):n<18446744073709551616:=by
 have h1:=gJ (b:=4294967296) (by decide) n
 have h2:4294967296^(aC 4294967296 n).length≤4294967296^2:=Nat.pow_le_pow_right (by decide) h
 omega
theorem DM (a b:Nat) (ha:(aC 4294967296 a).length≤17592186044416) (hb:(aC 4294967296 b).length≤17592186044416):TC 171 [bL a,bL b] (bL (Nat.gcd a b)):=by
 refine TC.walk ⟨true,false⟩ Hl rfl (Nat.le_of_ble_eq_true rfl) (by simp[aM,bO]) (qA _) ?_
 simp only[DA,Bg,VX,Nat.reduceEqDiff,Nat.reduceAdd]
 refine aQ (fun(t:Nat×Nat) ρ H=>H=[]∧Nat.gcd t.1 t.2=Nat.gcd a b∧(aC 4294967296 t.1).length≤17592186044416∧(aC 4294967296 t.2).length≤17592186044416∧ρ 0=bL t.1∧ρ 1=bL t.2) (fun t=>t.2) (a,b) ⟨rfl,rfl,ha,hb,rfl,rfl⟩ ?_
 rintro⟨x,y⟩ ρ H ⟨rfl,hg,hx,hy,g0,g1⟩
 simp only at hg hx hy g0 g1
 have c1:=AS x hx
 have c2:=AS y hy
 by_cases hy0:y=0
 ·subst hy0
  have hl:¬(0:Int)<((aC 4294967296 0).length:Int):=by rw[wV];omega
  rw[Nat.gcd_zero_right] at hg
  simp only[iM,g0,g1,dY,hl,VX,Nat.reduceEqDiff,Nat.reduceAdd]
  rw[hg]
  exact aF (bO _)
 have hl:(0:Int)<((aC 4294967296 y).length:Int):=wV.2 hy0
 by_cases h1:(aC 4294967296 x).length≤2∧(aC 4294967296 y).length≤2
 ·rw[if_pos h1.1] at c1
  rw[if_pos h1.2] at c2
  simp only[iM,g0,g1,dY,hl,c1,c2,VX,Nat.reduceEqDiff,Nat.reduceAdd]
  refine aQ (fun(t:Nat×Nat) ρ H=>H=[]∧Nat.gcd t.1 t.2=Nat.gcd a b∧t.1<18446744073709551616∧t.2<18446744073709551616∧ρ 5=VK .u64 t.1∧ρ 7=VK .u64 t.2) (fun t=>t.2) (x,y) ⟨rfl,hg,QF h1.1,QF h1.2,rfl,rfl⟩ ?_
  rintro⟨u,v⟩ N8 H ⟨rfl,hg2,hu,hv,k5,k7⟩
  simp only at hg2 hu hv k5 k7
  by_cases hv0:v=0
  ·subst hv0
   rw[Nat.gcd_zero_right] at hg2
   have hz:¬(0:Int)<((0:Nat):Int):=by omega
   have c3:=mO u hu
   simp only[rW,k5,k7,hz,c3,VX,Nat.reduceEqDiff,Nat.reduceAdd]
   rw[hg2]
   exact aF (bO _)
  ·have hz:(0:Int)<(v:Int):=by omega
   have r1:=OA u v (by omega)
   simp only[rW,k5,k7,hz,r1,VX,Nat.reduceEqDiff,Nat.reduceAdd]
   refine⟨(v,u % v),?_,?_,hv,?_,rfl,rfl⟩
   ·exact Nat.mod_lt _ (by omega)
   ·simp only
    rw[←hg2,Nat.gcd_comm u v,Nat.gcd_rec v u,Nat.gcd_comm]
   ·simp only
    have:=Nat.mod_lt u (show 0<v by omega)
    omega
 ·have c3:=xO x y hy0 hx hy
  have next:∃s':Nat×Nat,s'.2<y∧Nat.gcd s'.1 s'.2=Nat.gcd a b∧(aC 4294967296 s'.1).length≤17592186044416∧(aC 4294967296 s'.2).length≤17592186044416∧bL y=bL s'.1∧bL (x % y)=bL s'.2:=by
   have hm:=Nat.mod_lt x (show 0<y by omega)
   refine⟨(y,x % y),hm,?_,hy,?_,rfl,rfl⟩
   ·simp only
    rw[←hg,Nat.gcd_comm x y,Nat.gcd_rec y x,Nat.gcd_comm]
   ·simp only
    have:=dZ (b:=4294967296) (by decide) (Nat.le_of_lt hm)
    omega
  by_cases h2:(aC 4294967296 x).length≤2
  ·have h3:¬(aC 4294967296 y).length≤2:=fun h=>h1 ⟨h2,h⟩
   rw[if_pos h2] at c1
   rw[if_neg h3] at c2
   simp only[iM,g0,g1,dY,hl,c1,c2,c3,VX,Nat.reduceEqDiff,Nat.reduceAdd]
   exact next
  ·rw[if_neg h2] at c1
   by_cases h3:(aC 4294967296 y).length≤2
   ·rw[if_pos h3] at c2
    simp only[iM,g0,g1,dY,hl,c1,c2,c3,VX,Nat.reduceEqDiff,Nat.reduceAdd]
    exact next
   ·rw[if_neg h3] at c2
    simp only[iM,g0,g1,dY,hl,c1,c2,c3,VX,Nat.reduceEqDiff,Nat.reduceAdd]
    exact next
end Go.PM
namespace Go.PM
open Go.Lib
theorem qJ (a b:List UInt8) (h:a.length+b.length≤9223372036854775807):dB .add (.string ⟨a.toArray⟩) (.string ⟨b.toArray⟩)=some (.string ⟨(a++b).toArray⟩):=by
 have h1:(⟨a.toArray⟩:ByteArray).size=a.length:=by simp[ByteArray.size]
 have h2:(⟨b.toArray⟩:ByteArray).size=b.length:=by simp[ByteArray.size]
 have h3:¬(((⟨a.toArray⟩:ByteArray).size+(⟨b.toArray⟩:ByteArray).size:Nat):Int)>IntKind.i64.max:=by
  rw[h1,h2]
  show ¬_>(9223372036854775807:Int)
  omega
 simp only[dB,h3,if_false]
 congr 2
theorem bK (a:List UInt8):A2 (.string ⟨a.toArray⟩)=some (.int .i64 (a.length:Int)):=by simp[A2,ByteArray.size]
theorem acH:∀a:List UInt8,(aB (aU a)).length=1:=fun _=>rfl
theorem Xs {xs:List (List UInt8)} {H:aA} {lo b g n:Nat} (hr:aI H b g=some (xs.map aU,1,true)) (hn:xs.length=n) (eW:lo≤b) (CW:n≤9223372036854775806) :
  jO 185 [.ref b g 0 n n] lo H fun r H'=>r = .dS []∧H'=H.set b (.row g (xs.reverse.map aU) 1 true):=by
 refine jO.walk ⟨true,false⟩ rO (Nat.le_of_ble_eq_true rfl) ?_
 have e0:pT (.ref b g 0 n n) H=some (VI n):=dU hr
 have w0:IntKind.i64.wrap ((n:Int)-1)=(n:Int)-1:=wrap64 (by omega) (by omega)
 simp only[lA,kD,e0,w0,VX,Nat.reduceEqDiff,Nat.reduceAdd]
 refine aQ (fun(t:Nat×List (List UInt8)) ρ K=>t.1≤n∧K=H.set b (.row g (t.2.map aU) 1 true)∧t.2.length=n∧(∀k,k<n→t.2[k]? = if k<t.1∨n≤k+t.1 then xs[n-1-k]? else xs[k]?)∧ρ 0 = .ref b g 0 n n∧ρ 2=VI t.1∧ρ 3=VI ((n:Int)-1-(t.1:Int))) (fun t=>n-t.1) (0,xs) ⟨Nat.zero_le _,(wL hr).symm,hn,fun k hk=>by rw[if_neg (by simp only;omega)],rfl,rfl,by show VI ((n:Int)-1)=VI ((n:Int)-1-((0:Nat):Int));rw[Int.natCast_zero,Int.sub_zero]⟩ ?_
 rintro⟨i,ys⟩ ρ K ⟨hi,rfl,hl,hy,g0,g2,g3⟩
 simp only at hi hl hy g2 g3
 have Wo:aI (H.set b (.row g (ys.map aU) 1 true)) b g=some (ys.map aU,1,true):=nK hr
 by_cases cN:(i:Int)<(n:Int)-1-(i:Int)
 ·have hj:(n:Int)-1-(i:Int)=((n-1-i:Nat):Int):=by omega
  obtain⟨x,hx⟩:∃x,ys[i]? = some x:=⟨_,List.getElem?_eq_getElem (by omega)⟩
  obtain⟨y,hyy⟩:∃y,ys[n-1-i]? = some y:=⟨_,List.getElem?_eq_getElem (by omega)⟩
  rw[hj] at g3 cN
  have a1:∀(zs:List (List UInt8)) (k:Nat),zs.length=n→k<n→bM 1 (.ref b g 0 n n) (VI (k:Int)) (H.set b (.row g (zs.map aU) 1 true))=some (.ptr b g k 0):=fun zs k h1 h2=>by rw[bD (nK hr) h2,Nat.zero_add]
  have l1:cR false 1 (.ptr b g (n-1-i) 0) (H.set b (.row g (ys.map aU) 1 true))=some (aU y):=rL Wo hyy
  have l2:cR false 1 (.ptr b g i 0) (H.set b (.row g (ys.map aU) 1 true))=some (aU x):=rL Wo hx
  have s1:bY lo 1 (.ptr b g i 0) (aU y) (H.set b (.row g (ys.map aU) 1 true))=some (H.set b (.row g ((ys.set i y).map aU) 1 true)):=by rw[fK (f:=aU) (e:=1) Wo (by omega) eW rfl rfl,mC]
  have s2:bY lo 1 (.ptr b g (n-1-i) 0) (aU x) (H.set b (.row g ((ys.set i y).map aU) 1 true))=some (H.set b (.row g (((ys.set i y).set (n-1-i) x).map aU) 1 true)):=by rw[fK (f:=aU) (e:=1) (nK hr) (by rw[List.length_set];omega) eW rfl rfl,mC]
  have w1:IntKind.i64.wrap ((i:Int)+1)=((i+1:Nat):Int):=wrapN _ (by omega) (by omega)
  have w2:IntKind.i64.wrap (((n-1-i:Nat):Int)-1)=(n:Int)-1-((i+1:Nat):Int):=by rw[wrap64 (by omega) (by omega)];omega
  have b1:=a1 ys i hl (by omega)
  have b2:=a1 ys (n-1-i) hl (by omega)
  have b3:=a1 (ys.set i y) (n-1-i) (by rw[List.length_set];exact hl) (by omega)
  simp only[fJ,g0,g2,g3,cN,b1,b2,b3,l1,l2,s1,s2,w1,w2,VX,Nat.reduceEqDiff,Nat.reduceAdd]
  refine⟨(i+1,(ys.set i y).set (n-1-i) x),by simp only;omega,by simp only;omega,rfl,by simp only[List.length_set];exact hl,fun k hk => ?_,by (repeat' apply And.intro)<;>first | rfl | trivial⟩
  simp only
  have hxx:=hy i (by omega)
  rw[if_neg (by omega),hx] at hxx
  have hyx:=hy (n-1-i) (by omega)
  rw[if_neg (by omega),hyy] at hyx
  rw[List.getElem?_set,List.getElem?_set,List.length_set]
  by_cases h1:n-1-i=k
  ·subst h1
   rw[if_pos rfl,if_pos (by omega),if_pos (by omega),show n-1-(n-1-i)=i by omega]
   exact hxx
  ·rw[if_neg h1]
   by_cases h2:i=k
   ·subst h2
    rw[if_pos rfl,if_pos (by omega),if_pos (by omega)]
    exact hyx
   ·rw[if_neg h2,hy k hk]
    by_cases h3:k<i∨n≤k+i
    ·rw[if_pos h3,if_pos (by omega)]
    ·rw[if_neg h3,if_neg (by omega)]
 ·have auT:ys=xs.reverse:=by
   apply List.ext_getElem?
   intro k
   rcases Nat.lt_or_ge k n with h | h
   ·rw[hy k h,List.getElem?_reverse (by omega),hn]
    split
    ·rfl
    ·rw[show n-1-k=k by omega]
   ·rw[List.getElem?_eq_none (by omega),List.getElem?_eq_none (by rw[List.length_reverse];omega)]
  subst auT
  simp only[fJ,g0,g2,g3,cN,VX,Nat.reduceEqDiff,Nat.reduceAdd]
  try exact⟨rfl,rfl⟩
theorem Wi (n:Nat):(aC 1000000000 n).length≤2*(aC 4294967296 n).length:=by
 refine mF (by decide) ?_
 have h1:=gJ (b:=4294967296) (by decide) n
 have h2:4294967296^(aC 4294967296 n).length≤(1000000000^2)^(aC 4294967296 n).length:=Nat.pow_le_pow_left (by decide) _
 rw[←Nat.pow_mul] at h2
 omega
theorem aeA {n:Nat} (hn:n≠0):(decDigits n).length≤9*(aC 1000000000 n).length:=by
 have h1:=gJ (b:=1000000000) (by decide) n
 have h3:(aC 1000000000 n)≠[]:=fun h=>hn ((lR (by decide)).1 h)
 have h4:=List.length_pos_iff.2 h3
 generalize (aC 1000000000 n).length=L at *
 obtain⟨k,hk⟩:∃k,9*L=k+1:=⟨9*L-1,by omega⟩
 have h5:(1000000000:Nat)^L=10^(9*L):=by rw[show (1000000000:Nat)=10^9 by decide,←Nat.pow_mul]
 rw[h5,hk] at h1
 rw[hk]
 exact zF n k h1
def lU (q:Nat):List UInt8:=if q=0 then [] else decDigits q
theorem CA (n:Nat) (hn:(aC 4294967296 n).length≤68719476736):TC 102 [bL n] (aU (decDigits n)):=by
 refine TC.walk ⟨true,false⟩ FZ rfl (Nat.le_of_ble_eq_true rfl) (by simp[aM,bO]) rfl ?_
 by_cases h0:n=0
 ·subst h0
  have hl:(((aC 4294967296 0).length:Nat):Int)=0:=by rw[bS];rfl
  simp only[vU,sB,dY,hl,VX,Nat.reduceEqDiff,Nat.reduceAdd]
  rw[iG (by decide)]
  exact aF rfl
 have hl:¬(((aC 4294967296 n).length:Nat):Int)=0:=by have:=wV.2 h0;omega
 have e1:∀lr,mB lr [.string ⟨#[]⟩] 0 [] []=some (.ref 0 0 0 0 0,[.row 0 (([]:List (List UInt8)).map aU) 1 true]):=fun lr=>jR (H:=[]) (lr:=lr) (z:=[.string ⟨#[]⟩]) rfl
 have hTn:=Wi n
 have hdl:=aeA h0
 simp only[vU,sB,dY,hl,e1,VX,Nat.reduceEqDiff,Nat.reduceAdd]
 refine aQ (fun(t:Nat×List (List UInt8)) ρ H=>H=[.row t.2.length (t.2.map aU) 1 true]∧t.1≤n∧t.2.length+(aC 1000000000 t.1).length=(aC 1000000000 n).length∧decDigits n=lU t.1++t.2.reverse.flatten∧ρ 0=bL t.1∧ρ 3 = .ref 0 t.2.length 0 t.2.length t.2.length) (fun t=>t.1) (n,[]) ⟨rfl,Nat.le_refl _,by simp,by simp[lU,h0],rfl,rfl⟩ ?_
 rintro⟨q,ps⟩ ρ H ⟨rfl,hq,hlen,Wr,g0,g3⟩
 simp only at hq hlen Wr g0 g3
 by_cases PV:q=0
 ·subst PV
  have hz:¬(0:Int)<((aC 4294967296 0).length:Int):=by rw[wV];omega
  rw[lU,if_pos rfl,List.nil_append] at Wr
  have hr:aI [.row ps.length (ps.map aU) 1 true] 0 ps.length=some (ps.map aU,1,true):=bA
  simp only[mK,g0,g3,dY,hz,VX,Nat.reduceEqDiff,Nat.reduceAdd]
  refine fC rfl ((Xs hr rfl (Nat.le_refl _) (by omega)).mono ?_)
  rintro r H' ⟨rfl,rfl⟩
  have HF:([.row ps.length (ps.map aU) 1 true]:aA).set 0 (.row ps.length (ps.reverse.map aU) 1 true)=[.row ps.length (ps.reverse.map aU) 1 true]:=rfl
  have Wo:aI [.row ps.length (ps.reverse.map aU) 1 true] 0 ps.length=some (ps.reverse.map aU,1,true):=bA
  have hfl:ps.reverse.flatten.length≤140737488355328:=by rw[←Wr];omega
  have cj:=(ahD ps.reverse (by rw[List.length_reverse];omega) hfl).flat (H:=[.row ps.length (ps.reverse.map aU) 1 true]) (args:=[.ref 0 ps.length 0 ps.length ps.length,aU []]) rfl (by simp only[aM,kI (f:=aU) acH (fun _=>rfl),Bool.and_true];rfl) (YM (FP Wo (by simp) (Nat.le_refl _) (dV fun _=>rfl)) (aF rfl)) rfl
  simp only[HF,g3,cj,VX,Nat.reduceEqDiff,Nat.reduceAdd]
  rw[←Wr]
  exact aF rfl
 ·have hz:(0:Int)<((aC 4294967296 q).length:Int):=wV.2 PV
  have hql:=dZ (b:=4294967296) (by decide) hq
  have c1:TC 183 [bL q,.sc (.int .u32 1000000000)] (.dS [bL (q / 1000000000),uV (q % 1000000000)]):=wD q 1000000000 (by decide) (by decide) (by omega)
  have hm:=Nat.mod_lt q (show 0<1000000000 by decide)
  have c2:=ahW (q % 1000000000) (by omega)
  have wm:IntKind.u64.wrap ((q % 1000000000:Nat):Int)=((q % 1000000000:Nat):Int):=dW _ (by omega)
  have hdq:=iY (b:=1000000000) (by decide) PV
  have aB7:(aC 1000000000 q).length=(aC 1000000000 (q / 1000000000)).length+1:=by rw[hdq];rfl
  have W7:=zF (q % 1000000000) 8 hm
  have hqq:=Nat.mod_add_div q 1000000000
  have e2:∀x:List UInt8,mB false [.string ⟨#[]⟩] 1 [(0,aU x)] [.row ps.length (ps.map aU) 1 true]=some (.tree [aU x] (.cl 1),[.row ps.length (ps.map aU) 1 true]):=fun x=>iD (z:=[.string ⟨#[]⟩]) rfl rfl rfl
  have e3:∀x:List UInt8,cU 1 (.tree [aU x] (.cl 1)) [.row ps.length (ps.map aU) 1 true]=some [aU x]:=fun x=>fA rfl rfl
  have e4:∀x:List UInt8,eR 0 1 16 (.ref 0 ps.length 0 ps.length ps.length) [aU x] [.row ps.length (ps.map aU) 1 true]=some (.ref 0 (ps.length+1) 0 (ps.length+1) (ps.length+1),[.row (ps.length+1) ((ps++[x]).map aU) 1 true]):=fun x=>by
   rw[iB (f:=aU) (x:=x) bA rfl (Nat.le_refl _) (by decide) (by decide) (by omega)]
   rfl
  have hle:q / 1000000000<q:=Nat.div_lt_self (by omega) (by decide)
  by_cases hqz:q / 1000000000=0
  ·have SA:¬(0:Int)<((aC 4294967296 (q / 1000000000)).length:Int):=by rw[wV];omega
   simp only[mK,g0,g3,dY,hz,c1,c2,wm,SA,e2,e3,e4,VX,Nat.reduceEqDiff,Nat.reduceAdd]
   refine⟨(q / 1000000000,ps++[decDigits (q % 1000000000)]),hle,by simp,by simp only;omega,by simp only[List.length_append,List.length_singleton];omega,?_,rfl,by simp⟩
   rw[Wr,lU,if_neg PV,lU,if_pos hqz,List.reverse_append,List.nil_append,List.reverse_singleton,List.singleton_append,List.flatten_cons,show q % 1000000000=q by omega]
  ·have SA:(0:Int)<((aC 4294967296 (q / 1000000000)).length:Int):=wV.2 hqz
   have ws:IntKind.i64.wrap ((9:Int)-((decDigits (q % 1000000000)).length:Int))=((9-(decDigits (q % 1000000000)).length:Nat):Int):=wrapN _ (by omega) (by omega)
   have c3:=ZB [48] (9-(decDigits (q % 1000000000)).length) (by simp;omega) (by omega)
   have abK:repeatL [48] (9-(decDigits (q % 1000000000)).length)++decDigits (q % 1000000000)=CO 9 (q % 1000000000):=by
    rw[ajU 8 _ hm]
    congr 1
    have:=repeatL_replicate 48 1 (9-(decDigits (q % 1000000000)).length)
    rw[Nat.mul_one] at this
    exact this
   have c4:=qJ (repeatL [48] (9-(decDigits (q % 1000000000)).length)) (decDigits (q % 1000000000)) (by rw[←List.length_append,abK,afA];decide)
   rw[abK] at c4
   simp only[mK,g0,g3,dY,hz,c1,c2,wm,SA,bK,ws,c3,c4,e2,e3,e4,VX,Nat.reduceEqDiff,Nat.reduceAdd]
   refine⟨(q / 1000000000,ps++[CO 9 (q % 1000000000)]),hle,by simp,by simp only;omega,by simp only[List.length_append,List.length_singleton];omega,?_,rfl,by simp⟩
   rw[Wr,lU,if_neg PV,lU,if_neg hqz,List.reverse_append,List.reverse_singleton,List.singleton_append,List.flatten_cons,←List.append_assoc,←HI (by omega) hm]
   congr 2
   omega
end Go.PM