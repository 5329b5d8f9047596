/- Texts of a claim, in one: part 9. -/
import Derived.Test.YtjmflicajplclaaGreatDoorKWh
set_option linter.unusedSimpArgs false
set_option linter.unusedVariables false
namespace Go.PM
theorem Uk {iC vs us ws os:List Nat} {n u2 u1 u0 v1 v0 N k g left:Nat} (G:vS 4294967296 iC vs n u2 u1 u0 v1 v0) {ρ:dQ} {Q:VQ} (hN:us.length=N) (Zm:2≤k) (hkN:k<N) (De:N≤70368744177664) (hu0:us[k-2]? = some u0)
  (g9:ρ 9 = .ref 0 0 0 N N) (g11:ρ 11=VK .u64 v1) (g12:ρ 12=VK .u64 v0) (g15:ρ 15=VI k) (g17:ρ 17=VK .u64 g) (g18:ρ 18=VK .u64 left) (hh:u2*4294967296+u1=g*v1+left) (hq:val 4294967296 iC / val 4294967296 vs≤g) (hl:left<4294967296) (hgb:g<18446744073709551616)
  (hQ:∀(bK:dQ) (g':Nat),val 4294967296 iC / val 4294967296 vs≤g'→g'≤val 4294967296 iC / val 4294967296 vs+1→g'<4294967296→bK 17=VK .u64 g'→bK 8=ρ 8→bK 9=ρ 9→bK 10=ρ 10→bK 11=ρ 11→bK 12=ρ 12→bK 13=ρ 13→bK 14=ρ 14→bK 15=ρ 15→Q (.exit 2) bK (H3 us ws os)) :
  VW ⟨true,false⟩ 0 (.loop gC) Q ρ (H3 us ws os):=by
 have lv1:=G.Vj
 have lv0:=G.ZX
 have lu0:=G.aiO
 have qlt:=G.agF
 have lB:=G.pos
 refine aT (fun(t:Nat×Nat) bK H=>H=H3 us ws os∧u2*4294967296+u1=t.1*v1+t.2∧val 4294967296 iC / val 4294967296 vs≤t.1∧t.2<4294967296∧t.1<18446744073709551616 ∧
  bK 9 = .ref 0 0 0 N N∧bK 11=VK .u64 v1∧bK 12=VK .u64 v0∧bK 15=VI k∧bK 17=VK .u64 t.1∧bK 18=VK .u64 t.2∧bK 8=ρ 8∧bK 10=ρ 10∧bK 13=ρ 13∧bK 14=ρ 14) (fun t=>4294967296-t.2) (g,left) ⟨rfl,hh,hq,hl,hgb,g9,g11,g12,g15,g17,g18,rfl,rfl,rfl,rfl⟩ ?_
 rintro⟨g,left⟩ NF H ⟨rfl,hh,hq,hl,hgb,k9,VC,Iz,Kk,Ii,YD,k8,YB,Bi,Cx⟩
 simp only at hh hq hl hgb Ii YD
 have e1:bJ 1 (.ref 0 0 0 N N) (VI ((k-2:Nat):Int)) (H3 us ws os)=some (.ptr 0 0 (k-2) 0):=by rw[bE Cz (by omega),Nat.zero_add]
 have e2:bT false 1 (.ptr 0 0 (k-2) 0) (H3 us ws os)=some (uV u0):=iN Cz hu0
 have wk:IntKind.i64.wrap ((k:Int)-2)=((k-2:Nat):Int):=wrapN _ (by omega) (by omega)
 have wu:IntKind.u64.wrap (u0:Int)=(u0:Int):=dW _ (by omega)
 have ws:=DM left .u64 hl
 have wa:IntKind.u64.wrap (((left*4294967296:Nat):Int)+(u0:Int))=((left*4294967296+u0:Nat):Int):=by rw[←Int.natCast_add];exact dW _ (by omega)
 have wl:IntKind.u64.wrap ((left:Int)+(v1:Int))=((left+v1:Nat):Int):=by rw[←Int.natCast_add];exact dW _ (by omega)
 have same:NF 9=ρ 9∧NF 11=ρ 11∧NF 12=ρ 12∧NF 15=ρ 15:=⟨by rw[k9,g9],by rw[VC,g11],by rw[Iz,g12],by rw[Kk,g15]⟩
 obtain⟨s9,s11,s12,s15⟩:=same
 have down:val 4294967296 iC / val 4294967296 vs<g→∃g',g=g'+1∧IntKind.u64.wrap ((g:Int)-1)=(g':Int)∧u2*4294967296+u1=g'*v1+(left+v1)∧val 4294967296 iC / val 4294967296 vs≤g':=by
  intro h
  have hg1:1≤g:=Nat.lt_of_le_of_lt (Nat.zero_le _) h
  obtain⟨g',rfl⟩:∃g',g=g'+1:=⟨g-1,by omega⟩
  refine⟨g',rfl,?_,?_,by omega⟩
  ·rw[show ((g'+1:Nat):Int)-1=(g':Int) by omega]
   exact dW _ (by omega)
  ·rw[hh,Nat.add_mul]
   omega
 by_cases hA:(4294967296:Int)≤(g:Int)
 ·obtain⟨g',hg',wg,UK,M7⟩:=down (by omega)
  by_cases hB:(4294967296:Int)≤((left+v1:Nat):Int)
  ·obtain⟨c1,c2⟩:=G.broken UK (by omega)
   simp only[gC,k9,VC,Iz,Kk,Ii,YD,hA,hB,wg,wl,VX,Nat.reduceEqDiff,Nat.reduceAdd]
   exact hQ _ g' M7 (G.X9 UK (by omega) c2) c1 rfl k8 s9 YB s11 s12 Bi Cx s15
  ·simp only[gC,k9,VC,Iz,Kk,Ii,YD,hA,hB,wg,wl,VX,Nat.reduceEqDiff,Nat.reduceAdd]
   exact⟨(g',left+v1),by simp only;omega,UK,M7,by simp only;omega,by simp only;omega,by rfl,by rfl,k8,YB,Bi,Cx⟩
 ·have hgv:g*v0≤4294967295*4294967295:=Nat.mul_le_mul (by omega) (by omega)
  have wm:IntKind.u64.wrap ((g:Int)*(v0:Int))=((g*v0:Nat):Int):=by rw[←Int.natCast_mul];exact dW _ (by omega)
  by_cases hT:((left*4294967296+u0:Nat):Int)<((g*v0:Nat):Int)
  ·obtain⟨g',hg',wg,UK,M7⟩:=down (G.too hh (by omega))
   by_cases hB:(4294967296:Int)≤((left+v1:Nat):Int)
   ·obtain⟨c1,c2⟩:=G.broken UK (by omega)
    simp only[gC,k9,VC,Iz,Kk,Ii,YD,hA,hB,hT,e1,e2,wk,wu,ws,wa,wm,wg,wl,VX,Nat.reduceEqDiff,Nat.reduceAdd]
    exact hQ _ g' M7 (G.X9 UK (by omega) c2) c1 rfl k8 s9 YB s11 s12 Bi Cx s15
   ·simp only[gC,k9,VC,Iz,Kk,Ii,YD,hA,hB,hT,e1,e2,wk,wu,ws,wa,wm,wg,wl,VX,Nat.reduceEqDiff,Nat.reduceAdd]
    exact⟨(g',left+v1),by simp only;omega,UK,M7,by simp only;omega,by simp only;omega,by rfl,by rfl,k8,YB,Bi,Cx⟩
  ·simp only[gC,k9,VC,Iz,Kk,Ii,YD,hA,hT,e1,e2,wk,wu,ws,wa,wm,VX,Nat.reduceEqDiff,Nat.reduceAdd]
   exact hQ _ g hq (G.X9 hh (by omega) (by omega)) (by omega) Ii k8 s9 YB s11 s12 Bi Cx s15
theorem MM {X S S' R V q Q P w:Nat} (hs:S=q*V+S') (h:X+P*S+P*w*V*Q=R):X+P*S'+P*V*(q+w*Q)=R:=by
 subst hs
 grind
theorem acZ {Ef ws YC vs:List Nat} {N m n v1 v0 A s:Nat} {ρ:dQ} {Q:VQ} (hN:Ef.length=N) (hm:m+(n+2)=N) (De:N≤70368744177664) (I4:∀d∈Ef,d<4294967296) (hws:ws.take (n+2)=vs) (hwl:ws.length=n+3) (FP:vs.length=n+2) (Gd:∀d∈vs,d<4294967296) (f1:vs[n+1]? = some v1) (f0:vs[n]? = some v0) (lB:1≤v1)
  (hA:val 4294967296 Ef=A) (Cp:val 4294967296 (Ef.drop m)<val 4294967296 vs) (jJ:YC.length=m) (lF:∀d∈YC,d<4294967296)
  (g8:ρ 8=VI s) (g9:ρ 9 = .ref 0 0 0 N N) (g10:ρ 10 = .ref 1 0 0 (n+2) (n+3)) (g11:ρ 11=VK .u64 v1) (g12:ρ 12=VK .u64 v0) (g13:ρ 13 = .ref 2 0 0 m m) (g14:ρ 14=VI ((m:Int)-1))
  (hQ:∀(bK:dQ) (us os:List Nat),bK 8=VI s→bK 9 = .ref 0 0 0 N N→bK 13 = .ref 2 0 0 m m→us.length=N→(∀d∈us,d<4294967296)→os.length=m→(∀d∈os,d<4294967296)→val 4294967296 us+val 4294967296 vs*val 4294967296 os=A→val 4294967296 us<val 4294967296 vs→Q (.exit 0) bK (H3 us ws os)) :
  VW ⟨true,false⟩ 0 (.loop nX) Q ρ (H3 Ef ws YC):=by
 have hVb:=oI Gd
 rw[FP] at hVb
 refine aT (fun(t:Nat×List Nat×List Nat) bK H=>t.1≤m∧H=H3 t.2.1 ws t.2.2∧t.2.1.length=N∧(∀d∈t.2.1,d<4294967296)∧t.2.2.length=m∧(∀d∈t.2.2,d<4294967296)∧val 4294967296 (t.2.1.drop t.1)<val 4294967296 vs∧val 4294967296 t.2.1+4294967296^t.1*val 4294967296 vs*val 4294967296 (t.2.2.drop t.1)=A ∧
  bK 8=VI s∧bK 9 = .ref 0 0 0 N N∧bK 10 = .ref 1 0 0 (n+2) (n+3)∧bK 11=VK .u64 v1∧bK 12=VK .u64 v0∧bK 13 = .ref 2 0 0 m m∧bK 14=VI ((t.1:Int)-1)) (fun t=>t.1) (m,Ef,YC) ⟨Nat.le_refl _,rfl,hN,I4,jJ,lF,Cp,by rw[List.drop_of_length_le (by simp only;omega)];simpa[val] using hA,g8,g9,g10,g11,g12,g13,g14⟩ ?_
 rintro⟨j,us,os⟩ NF H ⟨hj,rfl,Qn,I4,jJ,lF,bI,hv,k8,k9,YB,VC,Iz,Bi,Cx⟩
 simp only at hj Qn I4 jJ lF bI hv Cx
 by_cases hz:(0:Int)≤(j:Int)-1
 ·obtain⟨i,rfl⟩:∃i,j=i+1:=⟨j-1,by omega⟩
  have IA:((i+1:Nat):Int)-1=(i:Int):=by omega
  rw[IA] at Cx hz
  obtain⟨T6,yR,Pp,hsW,YR,Zl,rL⟩:=XE (n:=n+2) Qn (by omega) I4 hVb bI
  generalize XD:(us.drop i).take (n+2+1)=iC at *
  have OZ:∀d∈iC,d<4294967296:=fun d hd=>by rw[←XD] at hd;exact I4 d (List.mem_of_mem_drop (List.mem_of_mem_take hd))
  obtain⟨u2,hu2⟩:∃u2,us[i+(n+2)]? = some u2:=⟨_,List.getElem?_eq_getElem (by omega)⟩
  obtain⟨u1,hu1⟩:∃u1,us[i+(n+1)]? = some u1:=⟨_,List.getElem?_eq_getElem (by omega)⟩
  obtain⟨u0,hu0⟩:∃u0,us[i+n]? = some u0:=⟨_,List.getElem?_eq_getElem (by omega)⟩
  have G:vS 4294967296 iC vs n u2 u1 u0 v1 v0:=⟨by decide,OZ,Gd,Pp,FP,by rw[rL _ (by omega)];exact hu2,by rw[rL _ (by omega)];exact hu1,by rw[rL _ (by omega)];exact hu0,f1,f0,lB,hsW⟩
  have lu2:=G.aiI
  have lu1:=G.Zz
  have lv1:=G.Vj
  have qlt:=G.agF
  have HQ:=G.HQ
  have alP:oF (.ref 1 0 0 (n+2) (n+3)) (H3 us ws os)=some (VI ((n+2:Nat):Int)):=fP asI
  have w1:IntKind.i64.wrap ((i:Int)+((n+2:Nat):Int))=((i+(n+2):Nat):Int):=by rw[←Int.natCast_add];exact wrapN _ rfl (by omega)
  have w2:IntKind.i64.wrap (((i+(n+2):Nat):Int)-1)=((i+(n+1):Nat):Int):=wrapN _ (by omega) (by omega)
  have e2:bJ 1 (.ref 0 0 0 N N) (VI ((i+(n+2):Nat):Int)) (H3 us ws os)=some (.ptr 0 0 (i+(n+2)) 0):=by rw[bE Cz (by omega),Nat.zero_add]
  have e1:bJ 1 (.ref 0 0 0 N N) (VI ((i+(n+1):Nat):Int)) (H3 us ws os)=some (.ptr 0 0 (i+(n+1)) 0):=by rw[bE Cz (by omega),Nat.zero_add]
  have l2:bT false 1 (.ptr 0 0 (i+(n+2)) 0) (H3 us ws os)=some (uV u2):=iN Cz hu2
  have l1:bT false 1 (.ptr 0 0 (i+(n+1)) 0) (H3 us ws os)=some (uV u1):=iN Cz hu1
  have wu2:IntKind.u64.wrap (u2:Int)=(u2:Int):=dW _ (by omega)
  have wu1:IntKind.u64.wrap (u1:Int)=(u1:Int):=dW _ (by omega)
  have ws2:=DM u2 .u64 lu2
  have wa:IntKind.u64.wrap (((u2*4294967296:Nat):Int)+(u1:Int))=((u2*4294967296+u1:Nat):Int):=by rw[←Int.natCast_add];exact dW _ (by omega)
  have q1:=UZ (u2*4294967296+u1) v1 (by omega) lB
  have q2:=Pn (u2*4294967296+u1) v1 lB
  simp only[nX,k8,k9,YB,VC,Iz,Bi,Cx,hz,alP,w1,w2,e1,e2,l1,l2,wu1,wu2,ws2,wa,q1,q2,VX,Nat.reduceEqDiff,Nat.reduceAdd]
  have hh:=Nat.mod_add_div (u2*4294967296+u1) v1
  have hml:=Nat.mod_lt (u2*4294967296+u1) lB
  have hdl:(u2*4294967296+u1) / v1≤u2*4294967296+u1:=Nat.div_le_self _ _
  have Qm:val 4294967296 iC / val 4294967296 vs≤(u2*4294967296+u1) / v1:=by
   have t1:=(Du (n:=n+1) (xs:=iC) OZ (by omega) (by rw[rL _ (by omega)];exact hu2) (by rw[rL _ (by omega)];exact hu1)).2
   have t2:=(yY (n:=n+1) Gd FP f1).1
   rw[Nat.le_div_iff_mul_le lB]
   have t3:val 4294967296 iC / val 4294967296 vs*(v1*4294967296^(n+1))≤val 4294967296 iC / val 4294967296 vs*val 4294967296 vs:=Nat.mul_le_mul_left _ t2
   have t4:=Nat.div_mul_le_self (val 4294967296 iC) (val 4294967296 vs)
   have t5:val 4294967296 iC / val 4294967296 vs*v1*4294967296^(n+1)<(u2*4294967296+u1+1)*4294967296^(n+1):=by rw[Nat.mul_assoc];omega
   have:=Nat.lt_of_mul_lt_mul_right t5
   omega
  refine Uk (k:=i+(n+2)) G Qn (by omega) (by omega) De (by rw[show i+(n+2)-2=i+n by omega];exact hu0) k9 VC Iz (by rfl) (by rfl) (by rfl) (by rw[Nat.mul_comm ((u2*4294967296+u1) / v1)];omega) Qm (by omega) (by omega) ?_
  intro Um g' hq M7 hgW r17 r8 r9 r10 r11 r12 r13 r14 r15
  have Sh:Um 15=VI ((i+(n+2):Nat):Int):=r15
  have r8':Um 8=VI s:=r8.trans k8
  have r9':Um 9 = .ref 0 0 0 N N:=r9.trans k9
  have anA:Um 10 = .ref 1 0 0 (n+2) (n+3):=r10.trans YB
  have amM:Um 11=VK .u64 v1:=r11.trans VC
  have QK:Um 12=VK .u64 v0:=r12.trans Iz
  have Rx:Um 13 = .ref 2 0 0 m m:=r13.trans Bi
  have QY:Um 14=VI i:=r14.trans Cx
  have w3:IntKind.i64.wrap (((i+(n+2):Nat):Int)+1)=((i+(n+3):Nat):Int):=wrapN _ (by omega) (by omega)
  have abD:Fi 1 (.ref 0 0 0 N N) (some (VI i)) (some (VI ((i+(n+3):Nat):Int))) none (H3 us ws os)=some (.ref 0 0 i (n+3) (N-i)):=by
   rw[aaK Cz (by omega) (by omega),Nat.zero_add,Nat.add_sub_cancel_left]
  simp only[r8',r9',anA,amM,QK,Rx,QY,Sh,r17,w3,abD,VX,Nat.reduceEqDiff,Nat.reduceAdd]
  have tF:g'*val 4294967296 vs≤val 4294967296 iC+val 4294967296 vs:=by
   have:=Nat.mul_le_mul_right (val 4294967296 vs) M7
   rw[Nat.add_mul,Nat.one_mul] at this
   have:=Nat.div_mul_le_self (val 4294967296 iC) (val 4294967296 vs)
   omega
  refine gI rfl ((Uu (pre:=us.take i) (iC:=iC) (post:=us.drop (i+(n+2+1))) (L:=n+3) (o:=i) (by rw[←T6];exact Cz) (asI (us:=us) (ws:=ws) (os:=os)) (by decide) (Nat.zero_le _) yR Pp (by omega) hws (by omega) (by omega) OZ Gd hgW tF).mono ?_)
  rintro r H' ⟨qX,rfl,BW,XY,hr⟩
  generalize afG:us.take i++qX++us.drop (i+(n+2+1))=EZ at *
  have Iy:(H3 us ws os).set 0 (.row 0 (EZ.map uV) 1 true)=H3 EZ ws os:=rfl
  rw[Iy]
  have amE:EZ.length=N:=by rw[←afG,List.length_append,List.length_append,yR,BW,List.length_drop];omega
  have afC:∀d∈EZ,d<4294967296:=fun d hd=>by
   rw[←afG,List.mem_append,List.mem_append] at hd
   rcases hd with(hd | hd) | hd
   ·exact I4 d (List.mem_of_mem_take hd)
   ·exact XY d hd
   ·exact I4 d (List.mem_of_mem_drop hd)
  have Tr:EZ.drop i=qX++us.drop (i+(n+2+1)):=by rw[←afG,List.append_assoc,List.drop_append,List.drop_of_length_le (by omega),yR];simp
  have TW:EZ.take i=us.take i:=by rw[←afG,List.append_assoc,List.take_append_of_le_length (by omega),List.take_of_length_le (by omega)]
  have SM:val 4294967296 (EZ.drop i)=val 4294967296 qX:=by rw[Tr,yF,Zl,Nat.mul_zero,Nat.add_zero]
  have digit:∀q:Nat,q=val 4294967296 iC / val 4294967296 vs→val 4294967296 qX=val 4294967296 iC % val 4294967296 vs →
    val 4294967296 (EZ.drop i)<val 4294967296 vs∧val 4294967296 EZ+4294967296^i*val 4294967296 vs*val 4294967296 ((os.set i q).drop i)=A:=by
   rintro q S7 hse
   have agU:=Nat.mod_lt (val 4294967296 iC) HQ
   refine⟨by rw[SM,hse];exact agU,?_⟩
   have h1:=Nat.div_add_mod (val 4294967296 iC) (val 4294967296 vs)
   rw[←S7,←hse,Nat.mul_comm] at h1
   have h2:=pE (b:=4294967296) us i
   have h3:=pE (b:=4294967296) EZ i
   rw[TW,yR,SM] at h3
   rw[yR,YR] at h2
   rw[set_drop (by omega),sO,h3]
   rw[h2,Nat.pow_succ] at hv
   exact MM h1.symm hv
  have e3:∀d:Nat,bJ 1 (.ref 2 0 0 m m) (VI i) (H3 EZ ws os)=some (.ptr 2 0 i 0)∧bR 0 1 (.ptr 2 0 i 0) (uV d) (H3 EZ ws os)=some (H3 EZ ws (os.set i d)):=fun d=>by
   refine⟨by rw[bE aeZ (by omega),Nat.zero_add],?_⟩
   rw[fI (f:=uV) (e:=1) aeZ (by omega) (Nat.zero_le _) rfl rfl]
   rfl
  have wi:IntKind.i64.wrap ((i:Int)-1)=(i:Int)-1:=wrap64 (by omega) (by omega)
  rcases hr with⟨rfl,hr⟩ | ⟨rfl,FO,hr2⟩
  ·have EO:g'*val 4294967296 vs≤val 4294967296 iC:=by omega
   have S7:g'=val 4294967296 iC / val 4294967296 vs:=by
    have:=(Nat.le_div_iff_mul_le HQ).2 EO
    omega
   have hse:val 4294967296 qX=val 4294967296 iC % val 4294967296 vs:=by
    have h1:=Nat.div_add_mod (val 4294967296 iC) (val 4294967296 vs)
    rw[←S7,Nat.mul_comm] at h1
    omega
   obtain⟨d1,d2⟩:=digit g' S7 hse
   simp only[r8',r9',anA,amM,QK,Rx,QY,Sh,r17,(e3 g').1,(e3 g').2,wi,wrap32,Nat.mod_eq_of_lt hgW,VX,Nat.reduceEqDiff,Nat.reduceAdd]
   exact⟨(i,EZ,os.set i g'),by simp only;omega,by omega,rfl,amE,afC,by rw[List.length_set];exact jJ,lS lF hgW,d1,d2,by (repeat' apply And.intro)<;>first | rfl | trivial⟩
  ·have acV:val 4294967296 iC / val 4294967296 vs<g':=(Nat.div_lt_iff_lt_mul HQ).2 FO
   have hg1:1≤g':=Nat.lt_of_le_of_lt (Nat.zero_le _) acV
   obtain⟨q,rfl⟩:∃q,g'=q+1:=⟨g'-1,by omega⟩
   have S7:q=val 4294967296 iC / val 4294967296 vs:=by omega
   have hse:val 4294967296 qX=val 4294967296 iC % val 4294967296 vs:=by
    have h1:=Nat.div_add_mod (val 4294967296 iC) (val 4294967296 vs)
    rw[←S7,Nat.mul_comm] at h1
    rw[Nat.add_mul,Nat.one_mul] at hr2
    omega
   have wq:IntKind.u64.wrap (((q+1:Nat):Int)-1)=(q:Int):=by rw[show ((q+1:Nat):Int)-1=(q:Int) by omega];exact dW _ (by omega)
   obtain⟨d1,d2⟩:=digit q S7 hse
   simp only[r8',r9',anA,amM,QK,Rx,QY,Sh,r17,wq,(e3 q).1,(e3 q).2,wi,wrap32,Nat.mod_eq_of_lt (show q<4294967296 by omega),VX,Nat.reduceEqDiff,Nat.reduceAdd]
   exact⟨(i,EZ,os.set i q),by simp only;omega,by omega,rfl,amE,afC,by rw[List.length_set];exact jJ,lS lF (by omega),d1,d2,by (repeat' apply And.intro)<;>first | rfl | trivial⟩
 ·have Th:j=0:=by omega
  subst Th
  rw[List.drop_zero] at bI
  rw[Nat.pow_zero,Nat.one_mul,List.drop_zero] at hv
  simp only[nX,k8,k9,YB,VC,Iz,Bi,Cx,hz,VX,Nat.reduceEqDiff,Nat.reduceAdd]
  exact hQ _ us os k8 k9 Bi Qn I4 jJ lF hv bI
end Go.PM
namespace Go.PM
theorem KF {a n:Nat} (hn:(aC 4294967296 a).length=n+1):∃d,(aC 4294967296 a)[n]? = some d∧d≠0∧d<4294967296:=by
 obtain⟨d,hd⟩:∃d,(aC 4294967296 a)[n]? = some d:=⟨_,List.getElem?_eq_getElem (by omega)⟩
 refine⟨d,hd,fun h0 => ?_,fE (by decide) a d (List.mem_of_getElem? hd)⟩
 have:=OA (b:=4294967296) (by decide) a
 rw[List.getLast?_eq_getElem?,hn,Nat.add_sub_cancel,hd,h0] at this
 exact this rfl
theorem Sa {a d:Nat} (h:aC 4294967296 a=[d]):a=d∧0<d∧d<4294967296:=by
 have h1:=cI (b:=4294967296) (by decide) a
 rw[h,val_one] at h1
 obtain⟨e,h2,h3,h4⟩:=KF (a:=a) (n:=0) (by rw[h];rfl)
 rw[h] at h2
 cases h2
 exact⟨h1.symm,by omega,h4⟩
theorem xD (a b:Nat) (hb:b≠0) (ha:(aC 4294967296 a).length≤17592186044416) (uN:(aC 4294967296 b).length≤17592186044416):TC 183 [bM a,bM b] (.dT [bM (a / b),bM (a % b)]):=by
 refine TC.walk ⟨true,false⟩ IK rfl (Nat.le_of_ble_eq_true rfl) (by simp[aM,bS]) (by simp[gJ,qE,qB]) ?_
 have c1:=jZ a b ha uN
 by_cases FQ:eW a b<0
 ·have bI:a<b:=by
   unfold eW at FQ
   split at FQ
   ·assumption
   ·split at FQ<;>omega
  simp only[sZ,pF,c1,FQ,VX,Nat.reduceEqDiff,Nat.reduceAdd]
  rw[Nat.div_eq_of_lt bI,Nat.mod_eq_of_lt bI]
  exact bP (d:=6) wL (aJ (bS a))
 have EO:b≤a:=by
  unfold eW at FQ
  split at FQ
  ·omega
  ·omega
 have hbn:(aC 4294967296 b).length≠0:=fun h=>hb ((lQ (b:=4294967296) (by decide)).1 (List.length_eq_zero_iff.1 h))
 by_cases h1:(((aC 4294967296 b).length:Nat):Int)=1
 ·obtain⟨d,hd⟩:∃d,aC 4294967296 b=[d]:=by
   match hx:aC 4294967296 b with
   | []=>rw[hx] at hbn;exact absurd rfl hbn
   | [d]=>exact⟨d,rfl⟩
   | _::_::_=>rw[hx] at h1;simp at h1;omega
  obtain⟨rfl,CR,hdW⟩:=Sa hd
  have c2:=wB a b CR hdW ha
  have e0:oF (bM b) []=some (VI 1):=by rw[bM,Bc,dV,hd];rfl
  have e1:bJ 1 (bM b) (VI 0) []=some (.cT (uV b) 0):=by
   rw[bM,hd]
   exact aK (f:=uV) (t := .op) (H:=[]) (size:=1) (k := .i64) (xs:=[b]) (i:=0) rfl rfl
  have e2:=fZ (H:=[]) (z:=[.int .u32 0]) (v:=uV (a % b)) rfl rfl rfl
  have e3:=Y9 (size:=1) (v:=Value.int .u32 ((b:Nat):Int))
  simp only[sZ,pF,c1,FQ,e0,e1,c2,e2,VX,Nat.reduceEqDiff,Nat.reduceAdd]
  refine KB (ds:=[a % b]) (t := .cl 1) (fun d hd => ?_) (by show 1≤70368744177664;decide) (val_one _) fun t' ht => ?_
  ·rw[List.mem_singleton] at hd
   subst hd
   exact Nat.lt_of_lt_of_le (Nat.mod_lt _ CR) (Nat.le_of_lt hdW)
  ·simp only[VX,Nat.reduceEqDiff,Nat.reduceAdd]
   exact bP (d:=6) (aJ (bS _)) (Za (d:=5) ht)
 obtain⟨n,hn⟩:∃n,(aC 4294967296 b).length=n+2:=⟨(aC 4294967296 b).length-2,by omega⟩
 obtain⟨t,ht,ht0,htW⟩:=KF (a:=b) (n:=n+1) hn
 obtain⟨s,hs,cl,ZM⟩:=TZ ht0 htW
 have hS:0<2^s:=Nat.pow_pos (by decide)
 have hSW:2^s*2^(32-s)=4294967296:=by rw[←Nat.pow_add,show s+(32-s)=32 by omega]
 have hla:=dX (b:=4294967296) (by decide) EO
 have e0:oF (bM b) []=some (VI ((n+2:Nat):Int)):=by rw[bM,Bc,dV,hn]
 have w0:IntKind.i64.wrap (((n+2:Nat):Int)-1)=((n+1:Nat):Int):=wrapN _ (by omega) (by omega)
 have XI:¬(((n+2:Nat):Int)=1):=by omega
 have e1:bJ 1 (bM b) (VI ((n+1:Nat):Int)) []=some (.cT (uV t) 0):=aK (f:=uV) (t := .op) (H:=[]) (size:=1) (k := .i64) ht rfl
 simp only[sZ,pF,c1,FQ,e0,XI,w0,e1,cl,VX,Nat.reduceEqDiff,Nat.reduceAdd]
 have fa:[bM a,VI (s:Int)].mapM (fz depth ([]:aA))=some [bM a,VI (s:Int)]:=fz2 (aF (bS a)) (aF rfl)
 refine FC.call (xS a s hs ha) rfl fa ?_
 rintro r L ⟨IH,rfl,rfl,hAl,hAd,hAv,hAt⟩
 simp only[VX,Nat.reduceEqDiff,Nat.reduceAdd]
 have fb:∀H:aA,[bM b,VI (s:Int)].mapM (fz depth H)=some [bM b,VI (s:Int)]:=fun H=>fz2 (aF (bS b)) (aF rfl)
 refine FC.call (xS b s hs uN) rfl (fb _) ?_
 rintro r L ⟨Ee,rfl,rfl,hBl,hBd,hBv,hBt⟩
 rw[hn] at hBl
 simp only[hn,List.length_singleton,VX,Nat.reduceEqDiff,Nat.reduceAdd]
 have anR:b*2^s<4294967296^(n+2):=by
  have h2:=(yY (n:=n+1) (fE (b:=4294967296) (by decide) b) hn ht).2
  rw[cI (by decide)] at h2
  have h3:b*2^s<(t+1)*4294967296^(n+1)*2^s:=Nat.mul_lt_mul_of_pos_right h2 hS
  have h4:(t+1)*4294967296^(n+1)*2^s=(t+1)*2^s*4294967296^(n+1):=by grind
  have h5:(t+1)*2^s≤4294967296:=by
   have h6:t*2^s<2^(32-s)*2^s:=by rw[Nat.mul_comm (2^(32-s)),hSW];exact ZM
   have h7:=Nat.lt_of_mul_lt_mul_right h6
   have h8:(t+1)*2^s≤2^(32-s)*2^s:=Nat.mul_le_mul_right _ h7
   rwa [Nat.mul_comm (2^(32-s)),hSW] at h8
  have h9:(t+1)*2^s*4294967296^(n+1)≤4294967296*4294967296^(n+1):=Nat.mul_le_mul_right _ h5
  have h10:4294967296*4294967296^(n+1)=4294967296^(n+2):=by rw[Nat.pow_succ 4294967296 (n+1)];exact Nat.mul_comm _ _
  omega
 have hVl:(aC 4294967296 (b*2^s)).length=n+2:=by
  have h2:=lX (b:=4294967296) (by decide) anR
  have h3:b≤b*2^s:=Nat.le_mul_of_pos_right b hS
  have h4:=dX (b:=4294967296) (by decide) h3
  omega
 refine rI (rows:=Ee) (m:=b*2^s) (by rfl) (by omega) (by omega) (by omega) (fun d hd=>hBd d (List.mem_of_mem_take hd)) (by rw[List.take_of_length_le (by omega)];exact hBv) fun k hk he => ?_
 have Zm:k=n+2:=by
  have:=congrArg List.length he
  rw[hVl,List.length_take] at this
  omega
 subst Zm
 generalize Ql:aC 4294967296 (b*2^s)=vs at *
 have Gd:∀d∈vs,d<4294967296:=by rw[←Ql];exact fE (by decide) _
 have No:val 4294967296 vs=b*2^s:=by rw[←Ql];exact cI (by decide) _
 obtain⟨v1,f1⟩:∃v1,vs[n+1]? = some v1:=⟨_,List.getElem?_eq_getElem (by omega)⟩
 obtain⟨v0,f0⟩:∃v0,vs[n]? = some v0:=⟨_,List.getElem?_eq_getElem (by omega)⟩
 have hv1:1≤v1:=by
  obtain⟨d,hd,CR,_⟩:=KF (a:=b*2^s) (n:=n+1) (by rw[Ql];exact hVl)
  rw[Ql,f1] at hd
  cases hd
  omega
 have b1:Ee[n+1]? = some v1:=by rw[←f1,←he,List.getElem?_take_of_lt (by omega)]
 have b0:Ee[n]? = some v0:=by rw[←f0,←he,List.getElem?_take_of_lt (by omega)]
 have lv1:=Gd v1 (List.mem_of_getElem? f1)
 have lv0:=Gd v0 (List.mem_of_getElem? f0)
 have x1:bJ 1 (.ref 1 0 0 (n+2) (n+2+1)) (VI ((n+1:Nat):Int)) [.row 0 (IH.map uV) 1 true,.row 0 (Ee.map uV) 1 true]=some (.ptr 1 0 (n+1) 0):=by rw[bE (by rfl) (by omega),Nat.zero_add]
 have x0:bJ 1 (.ref 1 0 0 (n+2) (n+2+1)) (VI ((n:Nat):Int)) [.row 0 (IH.map uV) 1 true,.row 0 (Ee.map uV) 1 true]=some (.ptr 1 0 n 0):=by rw[bE (by rfl) (by omega),Nat.zero_add]
 have y1:bT false 1 (.ptr 1 0 (n+1) 0) [.row 0 (IH.map uV) 1 true,.row 0 (Ee.map uV) 1 true]=some (uV v1):=iN (rows:=Ee) (g:=0) (w:=true) (by rfl) b1
 have y0:bT false 1 (.ptr 1 0 n 0) [.row 0 (IH.map uV) 1 true,.row 0 (Ee.map uV) 1 true]=some (uV v0):=iN (rows:=Ee) (g:=0) (w:=true) (by rfl) b0
 have z0:oF (.ref 1 0 0 (n+2) (n+2+1)) [.row 0 (IH.map uV) 1 true,.row 0 (Ee.map uV) 1 true]=some (VI ((n+2:Nat):Int)):=fP (r:=(Ee.map uV,1,true)) (by rfl)
 have z1:oF (.ref 0 0 0 ((aC 4294967296 a).length+1) ((aC 4294967296 a).length+1)) [.row 0 (IH.map uV) 1 true,.row 0 (Ee.map uV) 1 true]=some (VI (((aC 4294967296 a).length+1:Nat):Int)):=fP (r:=(IH.map uV,1,true)) (by rfl)
 have w2:IntKind.i64.wrap (((n+2:Nat):Int)-2)=((n:Nat):Int):=wrapN _ (by omega) (by omega)
 have wv1:IntKind.u64.wrap (v1:Int)=(v1:Int):=dW _ (by omega)
 have wv0:IntKind.u64.wrap (v0:Int)=(v0:Int):=dW _ (by omega)
 obtain⟨m,hm⟩:∃m,m+(n+2)=(aC 4294967296 a).length+1:=⟨(aC 4294967296 a).length+1-(n+2),by omega⟩
 have wm:IntKind.i64.wrap ((((aC 4294967296 a).length+1:Nat):Int)-((n+2:Nat):Int))=(m:Int):=wrapN _ (by omega) (by omega)
 have wm1:IntKind.i64.wrap ((m:Int)-1)=(m:Int)-1:=wrap64 (by omega) (by omega)
 have mk:=Vr m 0 (by omega) (H:=[.row 0 (IH.map uV) 1 true,.row 0 (Ee.map uV) 1 true])
 have z2:oF (.ref 2 0 0 m m) (H3 IH Ee (List.replicate m 0))=some (VI m):=fP (r:=((List.replicate m 0).map uV,1,true)) (by rfl)
 simp only[w0,x1,x0,y1,y0,z0,z1,w2,wv1,wv0,wm,mk,z2,wm1,List.length_cons,List.length_nil,VX,Nat.reduceEqDiff,Nat.reduceAdd]
 have Cp:val 4294967296 (IH.drop m)<val 4294967296 vs:=by
  obtain⟨d,hd⟩:∃d,IH[(aC 4294967296 a).length]? = some d:=⟨_,List.getElem?_eq_getElem (by omega)⟩
  have h2:=(yY (b:=4294967296) (xs:=IH.drop m) (n:=n+1) (t:=d) (fun x hx=>hAd x (List.mem_of_mem_drop hx)) (by rw[List.length_drop];omega) (by rw[List.getElem?_drop,show m+(n+1)=(aC 4294967296 a).length by omega];exact hd)).2
  have h3:=hAt d hd
  have h4:=(yY (n:=n+1) (fE (b:=4294967296) (by decide) b) hn ht).1
  rw[cI (by decide)] at h4
  have h5:(d+1)*4294967296^(n+1)≤2^s*4294967296^(n+1):=Nat.mul_le_mul_right _ h3
  have h6:1*4294967296^(n+1)≤t*4294967296^(n+1):=Nat.mul_le_mul_right _ (by omega)
  have h7:1*4294967296^(n+1)*2^s≤b*2^s:=Nat.mul_le_mul_right _ (by omega)
  rw[No]
  rw[Nat.one_mul,Nat.mul_comm] at h7
  omega
 refine acZ (Ef:=IH) (ws:=Ee) (YC:=List.replicate m 0) (vs:=vs) (N:=(aC 4294967296 a).length+1) (m:=m) (n:=n) (A:=a*2^s) (s:=s) hAl hm (by omega) hAd he hBl hVl Gd f1 f0 hv1 hAv Cp (by simp) (Ah (by decide) _) (by rfl) (by rfl) (by rfl) (by rfl) (by rfl) (by rfl) (by rfl) ?_
 intro wT us os r8 r9 r13 Qn I4 jJ lF hv bI
 rw[No] at hv bI
 have hq:val 4294967296 os=a / b:=by
  rw[←Nat.mul_div_mul_right a b hS,←hv,Nat.add_mul_div_left _ _ (by omega),Nat.div_eq_of_lt bI,Nat.zero_add]
 have hr:val 4294967296 us=a % b*2^s:=by
  rw[←Nat.mul_mod_mul_right,←hv,Nat.add_mul_mod_self_left,Nat.mod_eq_of_lt bI]
 simp only[r9,VX,Nat.reduceEqDiff,Nat.reduceAdd]
 refine rI (rows:=us) (m:=a % b*2^s) Cz (by omega) (Nat.le_refl _) (by omega) (fun d hd=>I4 d (List.mem_of_mem_take hd)) (by rw[List.take_of_length_le (by omega)];exact hr) fun k hk he2 => ?_
 have z3:oF (.ref 0 0 0 k ((aC 4294967296 a).length+1)) (H3 us Ee os)=some (VI k):=fP Cz
 simp only[z3,VX,Nat.reduceEqDiff,Nat.reduceAdd]
 refine Yc (us:=us) (k:=k) (N:=(aC 4294967296 a).length+1) (s:=s) (w0:=2^(32-s)) hs hSW Qn hk (by omega) I4 r8 (by rfl) (by rfl) (by rfl) ?_
 intro NF EZ q9 q13 amE afC Yz
 have ayF:NF 13 = .ref 2 0 0 m m:=q13.trans r13
 have Ds:val 4294967296 (EZ.take k)=a % b:=by
  rw[Yz,he2,cI (by decide),Nat.mul_div_cancel _ hS]
 simp only[q9,ayF,VX,Nat.reduceEqDiff,Nat.reduceAdd]
 refine rI (rows:=os) (m:=a / b) aeZ (by omega) (Nat.le_refl _) (by omega) (fun d hd=>lF d (List.mem_of_mem_take hd)) (by rw[List.take_of_length_le (by omega)];exact hq) fun k2 Zm he3 => ?_
 simp only[q9,VX,Nat.reduceEqDiff,Nat.reduceAdd]
 refine rI (rows:=EZ) (m:=a % b) Cz (by omega) hk (by omega) (fun d hd=>afC d (List.mem_of_mem_take hd)) Ds fun k3 hk3 he4 => ?_
 simp only[VX,Nat.reduceEqDiff,Nat.reduceAdd]
 exact bP (d:=6) (J9 (d:=5) aeZ (by omega) Zm he3) (J9 (d:=5) Cz (by omega) (by omega) he4)
end Go.PM
namespace Go.PM
abbrev H2 (us os:List Nat):aA:=[.row 0 (us.map tV) 1 true,.row 0 (os.map tV) 1 true]
theorem UQ {us os:List Nat}:aI (H2 us os) 0 0=some (us.map tV,1,true):=rfl
theorem apT {us os:List Nat}:aI (H2 us os) 1 0=some (os.map tV,1,true):=rfl
theorem afN {P a Z:Nat} {y:Int} (h:(a:Int)+(P:Int)*y=(Z:Int)) (ha:a<P) (hZ:Z<P):y=0∧a=Z:=by
 have hy:y=0:=by
  rcases Int.lt_trichotomy y 0 with h1 | h1 | h1
  ·have:(P:Int)*y≤(P:Int)*(-1):=Int.mul_le_mul_of_nonneg_left (by omega) (by omega)
   omega
  ·exact h1
  ·have:(P:Int)*1≤(P:Int)*y:=Int.mul_le_mul_of_nonneg_left (by omega) (by omega)
   omega
 subst hy
 rw[Int.mul_zero] at h
 exact⟨rfl,by omega⟩
theorem TD {us:List Nat} {i n N V:Nat} (hN:us.length=N) (dA:i+n<N) (hd:∀d∈us,d<1000000000) (hV:V<1000000000^n) (Cp:val 1000000000 (us.drop (i+1))<V) :
  us=us.take i++(us.drop i).take (n+1)++us.drop (i+(n+1))∧(us.take i).length=i∧((us.drop i).take (n+1)).length=n+1∧val 1000000000 ((us.drop i).take (n+1))<1000000000*V∧val 1000000000 (us.drop i)=val 1000000000 ((us.drop i).take (n+1))∧val 1000000000 (us.drop (i+(n+1)))=0∧∀j,j<n+1→((us.drop i).take (n+1))[j]? = us[i+j]? := by
 obtain⟨x,hx⟩:∃x,us[i]? = some x:=⟨_,List.getElem?_eq_getElem (by omega)⟩
 have lx:=hd x (List.mem_of_getElem? hx)
 have h1:=sH (b:=1000000000) hx
 have h2:val 1000000000 (us.drop i)<1000000000*V:=by
  have:1000000000*(val 1000000000 (us.drop (i+1))+1)≤1000000000*V:=Nat.mul_le_mul_left _ Cp
  omega
 have h3:=pE (b:=1000000000) (us.drop i) (n+1)
 have h4:((us.drop i).take (n+1)).length=n+1:=by rw[List.length_take,List.length_drop];omega
 rw[h4,List.drop_drop] at h3
 have h5:val 1000000000 (us.drop (i+(n+1)))=0:=by
  rcases Nat.eq_zero_or_pos (val 1000000000 (us.drop (i+(n+1)))) with h | h
  ·exact h
  ·have h6:1000000000^(n+1)*1≤1000000000^(n+1)*val 1000000000 (us.drop (i+(n+1))):=Nat.mul_le_mul_left _ h
   have h7:1000000000*V≤1000000000^(n+1):=by rw[Nat.pow_succ,Nat.mul_comm];exact Nat.mul_le_mul_right _ (by omega)
   omega
 rw[h5,Nat.mul_zero,Nat.add_zero] at h3
 refine⟨?_,by rw[List.length_take];omega,h4,by omega,h3,h5,fun j hj => ?_⟩
 ·rw[List.append_assoc,←List.drop_drop,List.take_append_drop,List.take_append_drop]
 ·rw[List.getElem?_take_of_lt hj,List.getElem?_drop]
theorem leT {g:Nat} (h:(1000000000:Int)≤(g:Int)):1000000000≤g:=by omega
theorem ZN {g:Nat} (h:¬(1000000000:Int)≤(g:Int)):g<1000000000:=by omega
theorem ltC {a b:Nat} (h:(a:Int)<(b:Int)):a<b:=by omega
theorem auW {a b:Nat} (h:¬(a:Int)<(b:Int)):b≤a:=by omega
theorem NG {a:Nat} (h:a*1000000000≤9223372036854775807):IntKind.i64.wrap ((a:Int)*1000000000)=((a*1000000000:Nat):Int):=wrapN _ (by omega) h
theorem NC {a b:Nat} (h:a+b≤9223372036854775807):IntKind.i64.wrap ((a:Int)+(b:Int))=((a+b:Nat):Int):=wrapN _ (by omega) h
theorem WR {a b:Nat} (h:a*b≤9223372036854775807):IntKind.i64.wrap ((a:Int)*(b:Int))=((a*b:Nat):Int):=wrapN _ (by simp) h
theorem x17 {a:Nat} (h:a<1000000000):a*1000000000≤9223372036854775807:=by omega
theorem x18 {a b:Nat} (h:a<1000000000) (hb:b<1000000000):a*1000000000+b≤1000000000000000000:=by omega
theorem Rq {iC vs us os:List Nat} {n u2 u1 u0 v1 v0 N i g left:Nat} (G:vS 1000000000 iC vs n u2 u1 u0 v1 v0) {ρ:dQ} {Q:VQ} (hN:us.length=N) (hiN:i+(n+2)<N) (De:N≤70368744177664) (hu0:us[i+n]? = some u0)
  (g13:ρ 13 = .ref 0 0 0 N N) (g14:ρ 14=hJ vs) (g15:ρ 15=VI ((n+2:Nat):Int)) (g17:ρ 17=VI i) (g19:ρ 19=VI g) (g20:ρ 20=VI left) (hh:u2*1000000000+u1=g*v1+left) (hq:val 1000000000 iC / val 1000000000 vs≤g) (hl:left<1000000000) (hgb:g≤1000000000000000000)
  (hQ:∀(bK:dQ) (g':Nat),val 1000000000 iC / val 1000000000 vs≤g'→g'≤val 1000000000 iC / val 1000000000 vs+1→g'<1000000000→bK 19=VI g'→bK 12=ρ 12→bK 13=ρ 13→bK 14=ρ 14→bK 15=ρ 15→bK 16=ρ 16→bK 17=ρ 17→Q (.exit 2) bK (H2 us os)) :
  VW ⟨true,false⟩ 0 (.loop fY) Q ρ (H2 us os):=by
 have lv1:=G.Vj
 have lv0:=G.ZX
 have lu0:=G.aiO
 have qlt:=G.agF
 have lB:=G.pos
 have FP:=G.Mz
 refine aT (fun(t:Nat×Nat) bK H=>H=H2 us os∧u2*1000000000+u1=t.1*v1+t.2∧val 1000000000 iC / val 1000000000 vs≤t.1∧t.2<1000000000∧t.1≤1000000000000000000 ∧
  bK 13 = .ref 0 0 0 N N∧bK 14=hJ vs∧bK 15=VI ((n+2:Nat):Int)∧bK 17=VI i∧bK 19=VI t.1∧bK 20=VI t.2∧bK 12=ρ 12∧bK 16=ρ 16) (fun t=>1000000000-t.2) (g,left) ⟨rfl,hh,hq,hl,hgb,g13,g14,g15,g17,g19,g20,rfl,rfl⟩ ?_
 rintro⟨g,left⟩ NF H ⟨rfl,hh,hq,hl,hgb,Bi,Cx,Kk,Ii,k19,k20,Iz,k16⟩
 simp only at hh hq hl hgb k19 k20
 have f1:bJ 1 (hJ vs) (VI ((n+1:Nat):Int)) (H2 us os)=some (.cT (tV v1) 0):=aK (f:=tV) (t := .op) (size:=1) (k := .i64) G.f1 rfl
 have f0:bJ 1 (hJ vs) (VI (n:Int)) (H2 us os)=some (.cT (tV v0) 0):=aK (f:=tV) (t := .op) (size:=1) (k := .i64) G.f0 rfl
 have wn2:IntKind.i64.wrap (((n+2:Nat):Int)-2)=(n:Int):=wrapN _ (by omega) (by omega)
 have wn1:IntKind.i64.wrap (((n+2:Nat):Int)-1)=((n+1:Nat):Int):=wrapN _ (by omega) (by omega)
 have wi:IntKind.i64.wrap ((i:Int)+((n+2:Nat):Int))=((i+(n+2):Nat):Int):=wrapN _ (by omega) (by omega)
 have wi2:IntKind.i64.wrap (((i+(n+2):Nat):Int)-2)=((i+n:Nat):Int):=wrapN _ (by omega) (by omega)
 have e1:bJ 1 (.ref 0 0 0 N N) (VI ((i+n:Nat):Int)) (H2 us os)=some (.ptr 0 0 (i+n) 0):=by rw[bE UQ (by omega),Nat.zero_add]
 have e2:bT false 1 (.ptr 0 0 (i+n) 0) (H2 us os)=some (VI (u0:Int)):=LJ UQ hu0
 have wl:IntKind.i64.wrap ((left:Int)+(v1:Int))=((left+v1:Nat):Int):=wrapN _ (by omega) (by omega)
 have down:val 1000000000 iC / val 1000000000 vs<g→∃g',g=g'+1∧IntKind.i64.wrap ((g:Int)-1)=(g':Int)∧u2*1000000000+u1=g'*v1+(left+v1)∧val 1000000000 iC / val 1000000000 vs≤g':=by
  intro h
  have hg1:1≤g:=Nat.lt_of_le_of_lt (Nat.zero_le _) h
  obtain⟨g',rfl⟩:∃g',g=g'+1:=⟨g-1,by omega⟩
  refine⟨g',rfl,wrapN _ (by omega) (by omega),?_,by omega⟩
  rw[hh,Nat.add_mul]
  omega
 have hmu:∀g':Nat,left+v1<1000000000→1000000000-(g',left+v1).2<1000000000-(g,left).2:=fun g' h=>by
  show 1000000000-(left+v1)<1000000000-left
  omega
 have hle:∀g':Nat,g=g'+1→g'≤1000000000000000000:=fun g' h=>by
  omega
 have avB:left*1000000000+u0≤9223372036854775807:=Nat.le_trans (x18 hl lu0) (by decide)
 have ayS:left*1000000000≤9223372036854775807:=x17 hl
 have ws:IntKind.i64.wrap ((left:Int)*1000000000)=((left*1000000000:Nat):Int):=NG ayS
 have wa:IntKind.i64.wrap (((left*1000000000:Nat):Int)+(u0:Int))=((left*1000000000+u0:Nat):Int):=NC avB
 obtain⟨s13,s14,s15,s17⟩:NF 13=ρ 13∧NF 14=ρ 14∧NF 15=ρ 15∧NF 17=ρ 17:=⟨by rw[Bi,g13],by rw[Cx,g14],by rw[Kk,g15],by rw[Ii,g17]⟩
 by_cases hA:(1000000000:Int)≤(g:Int)
 ·have hA':=leT hA
  obtain⟨g',hg',wg,UK,M7⟩:=down (Nat.lt_of_lt_of_le qlt hA')
  by_cases hB:(1000000000:Int)≤((left+v1:Nat):Int)
  ·obtain⟨c1,c2⟩:=G.broken UK (leT hB)
   simp only[fY,Bi,Cx,Kk,Ii,k19,k20,hA,hB,f1,wn1,wg,wl,VX,Nat.reduceEqDiff,Nat.reduceAdd]
   exact hQ _ g' M7 (G.X9 UK (Nat.le_of_lt c1) c2) c1 rfl Iz s13 s14 s15 k16 s17
  ·simp only[fY,Bi,Cx,Kk,Ii,k19,k20,hA,hB,f1,wn1,wg,wl,VX,Nat.reduceEqDiff,Nat.reduceAdd]
   refine⟨(g',left+v1),hmu g' (ZN hB),UK,M7,ZN hB,hle g' hg',?_⟩
   exact⟨rfl,rfl,Iz,k16⟩
 ·have hA':=ZN hA
  have hgv:g*v0≤999999999*999999999:=Nat.mul_le_mul (Nat.le_of_lt_succ hA') (Nat.le_of_lt_succ lv0)
  have wm:IntKind.i64.wrap ((g:Int)*(v0:Int))=((g*v0:Nat):Int):=WR (Nat.le_trans hgv (by decide))
  by_cases hT:((left*1000000000+u0:Nat):Int)<((g*v0:Nat):Int)
  ·obtain⟨g',hg',wg,UK,M7⟩:=down (G.too hh (ltC hT))
   by_cases hB:(1000000000:Int)≤((left+v1:Nat):Int)
   ·obtain⟨c1,c2⟩:=G.broken UK (leT hB)
    simp only[fY,Bi,Cx,Kk,Ii,k19,k20,hA,hB,hT,f1,f0,e1,e2,wn1,wn2,wi,wi2,ws,wa,wm,wg,wl,VX,Nat.reduceEqDiff,Nat.reduceAdd]
    exact hQ _ g' M7 (G.X9 UK (Nat.le_of_lt c1) c2) c1 rfl Iz s13 s14 s15 k16 s17
   ·simp only[fY,Bi,Cx,Kk,Ii,k19,k20,hA,hB,hT,f1,f0,e1,e2,wn1,wn2,wi,wi2,ws,wa,wm,wg,wl,VX,Nat.reduceEqDiff,Nat.reduceAdd]
    refine⟨(g',left+v1),hmu g' (ZN hB),UK,M7,ZN hB,hle g' hg',?_⟩
    exact⟨rfl,rfl,Iz,k16⟩
  ·simp only[fY,Bi,Cx,Kk,Ii,k19,k20,hA,hT,f0,e1,e2,wn2,wi,wi2,ws,wa,wm,VX,Nat.reduceEqDiff,Nat.reduceAdd]
   exact hQ _ g hq (G.X9 hh (Nat.le_of_lt hA') (auW hT)) hA' k19 Iz s13 s14 s15 k16 s17
theorem On {Ef YC vs:List Nat} {N m n v1 v0 A s:Nat} {ρ:dQ} {Q:VQ} (hN:Ef.length=N) (hm:m+(n+2)=N) (De:N≤70368744177664) (I4:∀d∈Ef,d<1000000000) (FP:vs.length=n+2) (Gd:∀d∈vs,d<1000000000) (f1:vs[n+1]? = some v1) (f0:vs[n]? = some v0) (lB:1≤v1)
  (hA:val 1000000000 Ef=A) (Cp:val 1000000000 (Ef.drop m)<val 1000000000 vs) (jJ:YC.length=m) (lF:∀d∈YC,d<1000000000)
  (g12:ρ 12=VI s) (g13:ρ 13 = .ref 0 0 0 N N) (g14:ρ 14=hJ vs) (g15:ρ 15=VI ((n+2:Nat):Int)) (g16:ρ 16 = .ref 1 0 0 m m) (g17:ρ 17=VI ((m:Int)-1))
  (hQ:∀(bK:dQ) (us os:List Nat),bK 12=VI s→bK 13 = .ref 0 0 0 N N→bK 16 = .ref 1 0 0 m m→us.length=N→(∀d∈us,d<1000000000)→os.length=m→(∀d∈os,d<1000000000)→val 1000000000 us+val 1000000000 vs*val 1000000000 os=A→val 1000000000 us<val 1000000000 vs→Q (.exit 0) bK (H2 us os)) :
  VW ⟨true,false⟩ 0 (.loop iM) Q ρ (H2 Ef YC):=by
 have hVb:=oI Gd
 rw[FP] at hVb
 refine aT (fun(t:Nat×List Nat×List Nat) bK H=>t.1≤m∧H=H2 t.2.1 t.2.2∧t.2.1.length=N∧(∀d∈t.2.1,d<1000000000)∧t.2.2.length=m∧(∀d∈t.2.2,d<1000000000)∧val 1000000000 (t.2.1.drop t.1)<val 1000000000 vs∧val 1000000000 t.2.1+1000000000^t.1*val 1000000000 vs*val 1000000000 (t.2.2.drop t.1)=A ∧
  bK 12=VI s∧bK 13 = .ref 0 0 0 N N∧bK 14=hJ vs∧bK 15=VI ((n+2:Nat):Int)∧bK 16 = .ref 1 0 0 m m∧bK 17=VI ((t.1:Int)-1)) (fun t=>t.1) (m,Ef,YC) ⟨Nat.le_refl _,rfl,hN,I4,jJ,lF,Cp,by rw[List.drop_of_length_le (by simp only;omega)];simpa[val] using hA,g12,g13,g14,g15,g16,g17⟩ ?_
 rintro⟨j,us,os⟩ NF H ⟨hj,rfl,Qn,I4,jJ,lF,bI,hv,Iz,Bi,Cx,Kk,k16,Ii⟩
 simp only at hj Qn I4 jJ lF bI hv Ii
 by_cases hz:(0:Int)≤(j:Int)-1
 ·obtain⟨i,rfl⟩:∃i,j=i+1:=⟨j-1,by omega⟩
  have IA:((i+1:Nat):Int)-1=(i:Int):=by omega
  rw[IA] at Ii hz
  obtain⟨T6,yR,Pp,hsW,YR,Zl,rL⟩:=TD (n:=n+2) Qn (by omega) I4 hVb bI
  generalize XD:(us.drop i).take (n+2+1)=iC at *
  have OZ:∀d∈iC,d<1000000000:=fun d hd=>by rw[←XD] at hd;exact I4 d (List.mem_of_mem_drop (List.mem_of_mem_take hd))
  obtain⟨u2,hu2⟩:∃u2,us[i+(n+2)]? = some u2:=⟨_,List.getElem?_eq_getElem (by omega)⟩
  obtain⟨u1,hu1⟩:∃u1,us[i+(n+1)]? = some u1:=⟨_,List.getElem?_eq_getElem (by omega)⟩
  obtain⟨u0,hu0⟩:∃u0,us[i+n]? = some u0:=⟨_,List.getElem?_eq_getElem (by omega)⟩
  have G:vS 1000000000 iC vs n u2 u1 u0 v1 v0:=⟨by decide,OZ,Gd,Pp,FP,by rw[rL _ (by omega)];exact hu2,by rw[rL _ (by omega)];exact hu1,by rw[rL _ (by omega)];exact hu0,f1,f0,lB,hsW⟩
  have lu2:=G.aiI
  have lu1:=G.Zz
  have lv1:=G.Vj
  have qlt:=G.agF
  have HQ:=G.HQ
  have w1:IntKind.i64.wrap ((i:Int)+((n+2:Nat):Int))=((i+(n+2):Nat):Int):=wrapN _ (by omega) (by omega)
  have w2:IntKind.i64.wrap (((i+(n+2):Nat):Int)-1)=((i+(n+1):Nat):Int):=wrapN _ (by omega) (by omega)
  have wn1:IntKind.i64.wrap (((n+2:Nat):Int)-1)=((n+1:Nat):Int):=wrapN _ (by omega) (by omega)
  have ev1:bJ 1 (hJ vs) (VI ((n+1:Nat):Int)) (H2 us os)=some (.cT (tV v1) 0):=aK (f:=tV) (t := .op) (size:=1) (k := .i64) f1 rfl
  have e2:bJ 1 (.ref 0 0 0 N N) (VI ((i+(n+2):Nat):Int)) (H2 us os)=some (.ptr 0 0 (i+(n+2)) 0):=by rw[bE UQ (by omega),Nat.zero_add]
  have e1:bJ 1 (.ref 0 0 0 N N) (VI ((i+(n+1):Nat):Int)) (H2 us os)=some (.ptr 0 0 (i+(n+1)) 0):=by rw[bE UQ (by omega),Nat.zero_add]
  have l2:bT false 1 (.ptr 0 0 (i+(n+2)) 0) (H2 us os)=some (VI (u2:Int)):=LJ UQ hu2
  have l1:bT false 1 (.ptr 0 0 (i+(n+1)) 0) (H2 us os)=some (VI (u1:Int)):=LJ UQ hu1
  have axN:u2*1000000000+u1≤1000000000000000000:=x18 lu2 lu1
  have ayR:u2*1000000000≤9223372036854775807:=x17 lu2
  have aqB:u2*1000000000+u1≤9223372036854775807:=Nat.le_trans axN (by decide)
  have ws2:IntKind.i64.wrap ((u2:Int)*1000000000)=((u2*1000000000:Nat):Int):=NG ayR
  have wa:IntKind.i64.wrap (((u2*1000000000:Nat):Int)+(u1:Int))=((u2*1000000000+u1:Nat):Int):=NC aqB
  have q1:=Kb (u2*1000000000+u1) v1 aqB lB
  have q2:=KQ (u2*1000000000+u1) v1 lB
  simp only[iM,Iz,Bi,Cx,Kk,k16,Ii,hz,w1,w2,wn1,ev1,e1,e2,l1,l2,ws2,wa,q1,q2,VX,Nat.reduceEqDiff,Nat.reduceAdd]
  clear ws2 wa q1 q2 e1 e2 l1 l2 ev1 w1 w2 wn1
  have hh:=Nat.mod_add_div (u2*1000000000+u1) v1
  have hml:=Nat.mod_lt (u2*1000000000+u1) lB
  have hdl:(u2*1000000000+u1) / v1≤u2*1000000000+u1:=Nat.div_le_self _ _
  have Qm:val 1000000000 iC / val 1000000000 vs≤(u2*1000000000+u1) / v1:=by
   have t1:=(Du (n:=n+1) (xs:=iC) OZ (by omega) (by rw[rL _ (by omega)];exact hu2) (by rw[rL _ (by omega)];exact hu1)).2
   have t2:=(yY (n:=n+1) Gd FP f1).1
   rw[Nat.le_div_iff_mul_le lB]
   have t3:val 1000000000 iC / val 1000000000 vs*(v1*1000000000^(n+1))≤val 1000000000 iC / val 1000000000 vs*val 1000000000 vs:=Nat.mul_le_mul_left _ t2
   have t4:=Nat.div_mul_le_self (val 1000000000 iC) (val 1000000000 vs)
   have t5:val 1000000000 iC / val 1000000000 vs*v1*1000000000^(n+1)<(u2*1000000000+u1+1)*1000000000^(n+1):=by rw[Nat.mul_assoc];omega
   have:=Nat.lt_of_mul_lt_mul_right t5
   omega
  generalize hQ1:(u2*1000000000+u1) / v1=g0 at *
  generalize hQ2:(u2*1000000000+u1) % v1=l0 at *
  refine Rq (i:=i) G Qn (by omega) De hu0 Bi Cx Kk Ii (by rfl) (by rfl) (by rw[Nat.mul_comm g0];omega) Qm (by omega) (by omega) ?_
  intro Um g' hq M7 hgW r19 r12 r13 r14 r15 r16 r17
  have QK:Um 12=VI s:=r12.trans Iz
  have Rx:Um 13 = .ref 0 0 0 N N:=r13.trans Bi
  have QY:Um 14=hJ vs:=r14.trans Cx
  have Sh:Um 15=VI ((n+2:Nat):Int):=r15.trans Kk
  have ahH:Um 16 = .ref 1 0 0 m m:=r16.trans k16
  have agW:Um 17=VI i:=r17.trans Ii
  simp only[QK,Rx,QY,Sh,ahH,agW,r19,VX,Nat.reduceEqDiff,Nat.reduceAdd]
  have tF:g'*val 1000000000 vs≤val 1000000000 iC+val 1000000000 vs:=by
   have:=Nat.mul_le_mul_right (val 1000000000 vs) M7
   rw[Nat.add_mul,Nat.one_mul] at this
   have:=Nat.div_mul_le_self (val 1000000000 iC) (val 1000000000 vs)
   omega
  obtain⟨low,alI⟩:∃low,low=iC.take (n+2):=⟨_,rfl⟩
  have hll:low.length=n+2:=by rw[alI,List.length_take];omega
  have Z2:∀d∈low,d<1000000000:=fun d hd=>OZ d (by rw[alI] at hd;exact List.mem_of_mem_take hd)
  have hsg:iC=low++[u2]:=by
   have h1:iC[n+2]? = some u2:=by rw[rL _ (by omega)];exact hu2
   have h2:=List.take_append_drop (n+2) iC
   have h3:=(List.getElem?_eq_some_iff.1 h1)
   rw[List.drop_eq_getElem_cons h3.1,h3.2,List.drop_of_length_le (by omega),←alI] at h2
   exact h2.symm
  have Ql:val 1000000000 iC=val 1000000000 low+1000000000^(n+2)*u2:=by rw[hsg,sQ,hll]
  have kD:∀(lw:List Nat) (t:Nat),(us.take i).map tV++lw.map tV++VI (t:Int)::(us.drop (i+(n+2+1))).map tV=(us.take i++(lw++[t])++us.drop (i+(n+2+1))).map tV:=fun lw t=>by simp
  have Cu:aI (H2 us os) 0 0=some ((us.take i).map tV++low.map tV++VI (u2:Int)::(us.drop (i+(n+2+1))).map tV,1,true):=by
   rw[kD,←hsg,←T6]
   rfl
  refine gI rfl ((Xe (o:=i) (n:=n+2) Cu (Nat.zero_le _) (by simpa using yR) hll FP (by omega) De Z2 Gd hgW lu2).mono ?_)
  rintro r H' ⟨Bg,c,rfl,BW,XY,hc,hr,hE⟩
  have azQ:val 1000000000 low<1000000000^(n+2):=by have:=oI Z2;rwa [hll] at this
  have axY:val 1000000000 Bg<1000000000^(n+2):=by have:=oI XY;rwa [BW] at this
  have rows:∀(lw:List Nat) (t q:Nat),lw.length=n+2→(∀d∈lw,d<1000000000)→t<1000000000→q=val 1000000000 iC / val 1000000000 vs→val 1000000000 lw+1000000000^(n+2)*t=val 1000000000 iC % val 1000000000 vs →
    ((us.take i++(lw++[t])++us.drop (i+(n+2+1))).length=N∧(∀d∈us.take i++(lw++[t])++us.drop (i+(n+2+1)),d<1000000000)∧val 1000000000 ((us.take i++(lw++[t])++us.drop (i+(n+2+1))).drop i)<val 1000000000 vs∧val 1000000000 (us.take i++(lw++[t])++us.drop (i+(n+2+1)))+1000000000^i*val 1000000000 vs*val 1000000000 ((os.set i q).drop i)=A):=by
   intro lw t q hlw avF ht S7 hse
   have ahZ:val 1000000000 (lw++[t])=val 1000000000 iC % val 1000000000 vs:=by rw[sQ,hlw];exact hse
   have axU:(lw++[t]).length=n+3:=by rw[List.length_append,hlw];rfl
   have avS:∀d∈lw++[t],d<1000000000:=fun d hd=>by
    rcases List.mem_append.1 hd with h | h
    ·exact avF d h
    ·rw[List.mem_singleton.1 h];exact ht
   generalize lw++[t]=qX at *
   have agU:=Nat.mod_lt (val 1000000000 iC) HQ
   have Tr:(us.take i++qX++us.drop (i+(n+2+1))).drop i=qX++us.drop (i+(n+2+1)):=by rw[List.append_assoc,List.drop_append,List.drop_of_length_le (by omega),yR];simp
   have TW:(us.take i++qX++us.drop (i+(n+2+1))).take i=us.take i:=by rw[List.append_assoc,List.take_append_of_le_length (by omega),List.take_of_length_le (by omega)]
   have SM:val 1000000000 ((us.take i++qX++us.drop (i+(n+2+1))).drop i)=val 1000000000 qX:=by rw[Tr,yF,Zl,Nat.mul_zero,Nat.add_zero]
   refine⟨by rw[List.length_append,List.length_append,yR,axU,List.length_drop];omega,fun d hd => ?_,by rw[SM,ahZ];exact agU,?_⟩
   ·rw[List.mem_append,List.mem_append] at hd
    rcases hd with(hd | hd) | hd
    ·exact I4 d (List.mem_of_mem_take hd)
    ·exact avS d hd
    ·exact I4 d (List.mem_of_mem_drop hd)
   ·have h1:=Nat.div_add_mod (val 1000000000 iC) (val 1000000000 vs)
    rw[←S7,←ahZ,Nat.mul_comm] at h1
    have h2:=pE (b:=1000000000) us i
    have h3:=pE (b:=1000000000) (us.take i++qX++us.drop (i+(n+2+1))) i
    rw[TW,yR,SM] at h3
    rw[yR,YR] at h2
    rw[set_drop (by omega),sO,h3]
    rw[h2,Nat.pow_succ] at hv
    exact MM h1.symm hv
  have e3:∀(EZ:List Nat) (d:Nat),bJ 1 (.ref 1 0 0 m m) (VI i) (H2 EZ os)=some (.ptr 1 0 i 0)∧bR 0 1 (.ptr 1 0 i 0) (VI (d:Int)) (H2 EZ os)=some (H2 EZ (os.set i d)):=fun EZ d=>by
   refine⟨by rw[bE apT (by omega),Nat.zero_add],?_⟩
   rw[show VI (d:Int)=tV d from rfl,fI (f:=tV) (e:=1) apT (by omega) (Nat.zero_le _) rfl rfl]
   rfl
  have wi:IntKind.i64.wrap ((i:Int)-1)=(i:Int)-1:=wrap64 (by omega) (by omega)
  have hdm:=Nat.div_add_mod (val 1000000000 iC) (val 1000000000 vs)
  have agU:=Nat.mod_lt (val 1000000000 iC) HQ
  generalize hPP:1000000000^(n+2)=P at *
  by_cases pO:(u2:Int)-(c:Int)<0
  ·
   rw[decide_eq_true pO] at hr
   subst hr
   have hgt:val 1000000000 iC<g'*val 1000000000 vs:=by
    have h1:P*(u2+1)≤P*c:=Nat.mul_le_mul_left _ (by omega)
    rw[Nat.mul_add,Nat.mul_one] at h1
    omega
   have S7:g'=val 1000000000 iC / val 1000000000 vs+1:=by
    rcases Nat.lt_or_ge (val 1000000000 iC / val 1000000000 vs) g' with h | h
    ·omega
    ·have h1:g'*val 1000000000 vs≤val 1000000000 iC / val 1000000000 vs*val 1000000000 vs:=Nat.mul_le_mul_right _ h
     have:=Nat.div_mul_le_self (val 1000000000 iC) (val 1000000000 vs)
     omega
   have hg1:1≤g':=by rw[S7];exact Nat.le_add_left 1 _
   have wg:IntKind.i64.wrap ((g':Int)-1)=((g'-1:Nat):Int):=wrapN _ (by omega) (by omega)
   simp only[QK,Rx,QY,Sh,ahH,agW,r19,wg,VX,Nat.reduceEqDiff,Nat.reduceAdd]
   have FO:aI ((H2 us os).set 0 (.row 0 ((us.take i).map tV++Bg.map tV++VI ((u2:Int)-(c:Int))::(us.drop (i+(n+2+1))).map tV) 1 true)) 0 0=some ((us.take i).map tV++Bg.map tV++VI ((u2:Int)-(c:Int))::(us.drop (i+(n+2+1))).map tV,1,true):=rfl
   refine gI rfl ((Ya (o:=i) (n:=n+2) FO (Nat.zero_le _) (by simpa using yR) BW FP (by omega) De XY Gd (by omega) (by omega)).mono ?_)
   rintro r H' ⟨US,c2,rfl,FF,hd2,ZR,hE2⟩
   rw[hPP] at hE2
   have akV:val 1000000000 US<P:=by have:=oI hd2;rwa [FF,hPP] at this
   obtain⟨hy,hZ⟩:(u2:Int)-(c:Int)+(c2:Int)=0∧val 1000000000 US=val 1000000000 iC % val 1000000000 vs:=by
    refine afN (P:=P) ?_ akV (by omega)
    have i1:(P:Int)*((u2:Int)-(c:Int)+(c2:Int))=(P:Int)*u2-(P:Int)*c+(P:Int)*c2:=by rw[Int.mul_add,Int.mul_sub]
    have i2:((P*u2:Nat):Int)=(P:Int)*u2:=by simp
    have i3:((P*c:Nat):Int)=(P:Int)*c:=by simp
    have i4:((P*c2:Nat):Int)=(P:Int)*c2:=by simp
    rw[i1,←i2,←i3,←i4]
    have i5:g'*val 1000000000 vs=val 1000000000 vs*(val 1000000000 iC / val 1000000000 vs)+val 1000000000 vs:=by rw[S7,Nat.add_mul,Nat.one_mul,Nat.mul_comm (val 1000000000 vs)]
    omega
   have Iy:((H2 us os).set 0 (.row 0 ((us.take i).map tV++Bg.map tV++VI ((u2:Int)-(c:Int))::(us.drop (i+(n+2+1))).map tV) 1 true)).set 0 (.row 0 ((us.take i).map tV++US.map tV++VI ((u2:Int)-(c:Int)+(c2:Int))::(us.drop (i+(n+2+1))).map tV) 1 true)=H2 (us.take i++(US++[0])++us.drop (i+(n+2+1))) os:=by
    rw[hy]
    rw[show (0:Int)=((0:Nat):Int) from rfl,kD]
    rfl
   rw[Iy]
   obtain⟨x1,x2⟩:=e3 (us.take i++(US++[0])++us.drop (i+(n+2+1))) (g'-1)
   obtain⟨y1,y2,y3,y4⟩:=rows US 0 (g'-1) FF hd2 (by decide) (by rw[S7,Nat.add_sub_cancel]) (by rw[Nat.mul_zero,Nat.add_zero];exact hZ)
   simp only[QK,Rx,QY,Sh,ahH,agW,x1,x2,wi,VX,Nat.reduceEqDiff,Nat.reduceAdd]
   refine⟨(i,us.take i++(US++[0])++us.drop (i+(n+2+1)),os.set i (g'-1)),by simp only;omega,by omega,rfl,y1,y2,by rw[List.length_set];exact jJ,lS lF (by omega),y3,y4,?_⟩
   try (repeat' apply And.intro)<;>first | rfl | trivial
  ·rw[decide_eq_false pO] at hr
   subst hr
   obtain⟨t',ht'⟩:∃t':Nat,(u2:Int)-(c:Int)=(t':Int):=⟨u2-c,by omega⟩
   have hP1:P*u2=P*c+P*t':=by rw[←Nat.mul_add];congr 1;omega
   have EO:g'*val 1000000000 vs≤val 1000000000 iC:=by omega
   have S7:g'=val 1000000000 iC / val 1000000000 vs:=by
    have:=(Nat.le_div_iff_mul_le HQ).2 EO
    omega
   have Iy:(H2 us os).set 0 (.row 0 ((us.take i).map tV++Bg.map tV++VI ((u2:Int)-(c:Int))::(us.drop (i+(n+2+1))).map tV) 1 true)=H2 (us.take i++(Bg++[t'])++us.drop (i+(n+2+1))) os:=by
    rw[ht',kD]
    rfl
   rw[Iy]
   obtain⟨x1,x2⟩:=e3 (us.take i++(Bg++[t'])++us.drop (i+(n+2+1))) g'
   have hse:val 1000000000 Bg+P*t'=val 1000000000 iC % val 1000000000 vs:=by
    rw[←S7,Nat.mul_comm] at hdm
    omega
   obtain⟨y1,y2,y3,y4⟩:=rows Bg t' g' BW XY (by omega) S7 hse
   simp only[QK,Rx,QY,Sh,ahH,agW,r19,x1,x2,wi,VX,Nat.reduceEqDiff,Nat.reduceAdd]
   refine⟨(i,us.take i++(Bg++[t'])++us.drop (i+(n+2+1)),os.set i g'),by simp only;omega,by omega,rfl,y1,y2,by rw[List.length_set];exact jJ,lS lF (by omega),y3,y4,?_⟩
   try (repeat' apply And.intro)<;>first | rfl | trivial
 ·have Th:j=0:=by omega
  subst Th
  rw[Nat.pow_zero,Nat.one_mul,List.drop_zero] at hv
  rw[List.drop_zero] at bI
  simp only[iM,Iz,Bi,Cx,Kk,k16,Ii,hz,VX,Nat.reduceEqDiff,Nat.reduceAdd]
  exact hQ _ us os Iz Bi k16 Qn I4 jJ lF hv bI
end Go.PM
namespace Go.PM
def bl (n:Nat):Nat:=(aC 2 n).length
theorem Ow (n:Nat):n<2^bl n:=gL (by decide) n
theorem GZ {n k:Nat} (h:n<2^k):bl n≤k:=lX (by decide) h
theorem kB {m n:Nat} (h:m≤n):bl m≤bl n:=dX (by decide) h
theorem nJ (m n:Nat):bl (m*n)≤bl m+bl n:=by
 refine GZ ?_
 rw[Nat.pow_add]
 exact Nat.mul_lt_mul'' (Ow m) (Ow n)
theorem Ga {n k:Nat} (h:bl n≤k):n<2^k:=Nat.lt_of_lt_of_le (Ow n) (Nat.pow_le_pow_right (by decide) h)
theorem UR {m n k:Nat} (hm:bl m≤k) (hn:bl n≤k):bl (m+n)≤k+1:=by
 refine GZ ?_
 have h1:=Ga hm
 have h2:=Ga hn
 rw[Nat.pow_succ]
 omega
theorem VM:bl 0=0:=by simp[bl,cC]
theorem MA:bl 1=1:=by simp[bl,iW (b:=2) (by decide) (n:=1) (by decide),cC]
theorem aaZ {n:Nat} (h:n≠0):1≤bl n:=by
 have:=kB (m:=1) (n:=n) (by omega)
 rwa [MA] at this
theorem ajK (n:Nat):32*(aC 4294967296 n).length≤bl n+31:=by
 by_cases h:n=0
 ·subst h;rw[cC];simp
 ·have h1:=Kj (b:=4294967296) (by decide) h
  have h2:=Ow n
  have e:(4294967296:Nat)=2^32:=by decide
  rw[e] at h1 ⊢
  rw[←Nat.pow_mul] at h1
  have h3:2^(32*((aC (2^32) n).length-1))<2^bl n:=by omega
  have h4:=(Nat.pow_lt_pow_iff_right (by decide)).1 h3
  omega
theorem ajC (n:Nat):29*(aC 1000000000 n).length≤bl n+28:=by
 by_cases h:n=0
 ·subst h;rw[cC];simp
 ·have h1:=Kj (b:=1000000000) (by decide) h
  have h2:=Ow n
  have h5:(2^29)^((aC 1000000000 n).length-1)≤1000000000^((aC 1000000000 n).length-1):=Nat.pow_le_pow_left (by decide) _
  rw[←Nat.pow_mul] at h5
  have h3:2^(29*((aC 1000000000 n).length-1))<2^bl n:=by omega
  have h4:=(Nat.pow_lt_pow_iff_right (by decide)).1 h3
  omega
def aY (q:Rat):Nat:=max (bl q.num.natAbs) (bl q.den)
theorem rH {q:Rat}:bl q.num.natAbs≤aY q:=Nat.le_max_left _ _
theorem pB {q:Rat}:bl q.den≤aY q:=Nat.le_max_right _ _
theorem OB {q:Rat}:1≤aY q:=Nat.le_trans (aaZ q.den_nz) pB
theorem SG {q:Rat} {k:Nat} (h1:bl q.num.natAbs≤k) (h2:bl q.den≤k):aY q≤k:=Nat.max_le.2 ⟨h1,h2⟩
theorem Gv {n:Int} {d k:Nat} (h1:bl n.natAbs≤k) (h2:bl d≤k) (hk:1≤k):aY (mkRat n d)≤k:=by
 refine SG ?_ ?_
 ·rw[Rat.num_mkRat]
  split
  ·rw[Int.natAbs_zero,VM];omega
  ·exact Nat.le_trans (kB (Int.natAbs_ediv_le_natAbs _ _)) h1
 ·rw[Rat.den_mkRat]
  split
  ·rw[MA];exact hk
  ·exact Nat.le_trans (kB (Nat.div_le_self _ _)) h2
theorem HJ (a b:Rat):aY (a+b)≤aY a+aY b+1:=by
 rw[Rat.add_def']
 have h1 := @rH a
 have h2 := @rH b
 have h3 := @pB a
 have h4 := @pB b
 have h5:=nJ a.num.natAbs b.den
 have h6:=nJ b.num.natAbs a.den
 have h7:=nJ a.den b.den
 refine Gv ?_ (by omega) (by omega)
 have h8:(a.num*b.den+b.num*a.den).natAbs≤a.num.natAbs*b.den+b.num.natAbs*a.den:=by
  refine Nat.le_trans (Int.natAbs_add_le _ _) ?_
  rw[Int.natAbs_mul,Int.natAbs_mul,Int.natAbs_natCast,Int.natAbs_natCast]
  exact Nat.le_refl _
 exact Nat.le_trans (kB h8) (UR (by omega) (by omega))
theorem WL (a b:Rat):aY (a*b)≤aY a+aY b:=by
 rw[Rat.mul_def']
 have h1 := @rH a
 have h2 := @rH b
 have h3 := @pB a
 have h4 := @pB b
 have h5:=nJ a.num.natAbs b.num.natAbs
 have h7:=nJ a.den b.den
 have h8 := @OB a
 refine Gv ?_ (by omega) (by omega)
 rw[Int.natAbs_mul]
 omega
theorem H8 (a:Rat):aY (-a)=aY a:=by simp[aY]
theorem X7 (a b:Rat):aY (a-b)≤aY a+aY b+1:=by
 rw[Rat.sub_eq_add_neg]
 have:=HJ a (-b)
 rwa [H8] at this
theorem NJ (a:Rat):aY a⁻¹≤aY a:=by
 have h1 := @rH a
 have h2 := @pB a
 refine SG ?_ ?_
 ·rw[Rat.num_inv,Int.natAbs_mul,Int.natAbs_natCast]
  refine Nat.le_trans (kB ?_) h2
  have h3:a.num.sign.natAbs≤1:=by
   rcases Int.lt_trichotomy a.num 0 with h | h | h
   ·rw[Int.sign_eq_neg_one_of_neg h];decide
   ·rw[h];decide
   ·rw[Int.sign_eq_one_of_pos h];decide
  have:=Nat.mul_le_mul_right a.den h3
  omega
 ·rw[Rat.den_inv]
  split
  ·rw[MA];exact OB
  ·exact h1
theorem Xi (a b:Rat):aY (a / b)≤aY a+aY b:=by
 rw[Rat.div_def]
 have:=WL a b⁻¹
 have:=NJ b
 omega
theorem Fk:aY 0=1:=by simp[aY,VM,MA]
theorem HF:aY 1=1:=by simp[aY,MA]
def kG (neg:Bool) (t:Nat):Int:=if neg then -(t:Int) else t
theorem nQ (neg:Bool) (t:Nat):(kG neg t).natAbs=t:=by cases neg<;>simp[kG]
theorem P4 {neg:Bool} {t:Nat}:kG neg t<0↔neg=true∧t≠0:=by cases neg<;>simp[kG]<;>omega
theorem xQ (neg:Bool):kG neg 0=0:=by cases neg<;>rfl
theorem F2 (z:Int):kG (decide (z<0)) z.natAbs=z:=by
 by_cases h:z<0<;>simp[kG,h]<;>omega
theorem afK {neg:Bool} {t g:Nat}:(kG neg t) / (g:Int)=kG neg (t / g)∨¬g ∣ t:=by
 by_cases h:g ∣ t
 ·left
  obtain⟨k,rfl⟩:=h
  by_cases hg:g=0
  ·subst hg;simp[xQ]
  ·rw[Nat.mul_div_cancel_left _ (by omega)]
   cases neg
   ·simp only[kG]
    simp only[Bool.false_eq_true,if_false]
    rw[Int.natCast_mul,Int.mul_ediv_cancel_left _ (by omega)]
   ·simp only[kG,if_true]
    rw[Int.natCast_mul,←Int.mul_neg,Int.mul_ediv_cancel_left _ (by omega)]
 ·exact .inr h
theorem E6 {neg:Bool} {t b:Nat} (hb:b≠0):(mkRat (kG neg t) b).num=kG neg (t / Nat.gcd t b):=by
 rw[Rat.num_mkRat,if_neg hb,nQ,Nat.gcd_comm]
 rcases afK (neg:=neg) (t:=t) (g:=Nat.gcd t b) with h | h
 ·exact h
 ·exact absurd (Nat.gcd_dvd_left _ _) h
theorem Pb {neg:Bool} {t b:Nat} (hb:b≠0):(mkRat (kG neg t) b).den=b / Nat.gcd t b:=by
 rw[Rat.den_mkRat,if_neg hb,nQ,Nat.gcd_comm]
theorem Kd (q:Rat):mkRat (kG (decide (q.num<0)) q.num.natAbs) q.den=q:=by rw[F2,Rat.mkRat_self]
end Go.PM
namespace Go.PM
theorem ahR (neg:Bool) (t d:Nat):kG neg (t*d)=kG neg t*(d:Int):=by cases neg<;>simp[kG,Int.neg_mul]
theorem DR (q:Rat) {d:Nat} (hd:d≠0):mkRat (kG (decide (q.num<0)) (q.num.natAbs*d)) (q.den*d)=q:=by
 rw[ahR,Rat.mkRat_mul_right hd,Kd]
theorem CL (X Y:Int) {B:Nat} (hB:B≠0):mkRat X B+mkRat Y B=mkRat (X+Y) B:=by
 rw[Rat.mkRat_add_mkRat _ _ hB hB,←Int.add_mul,Rat.mkRat_mul_right hB]
theorem Pj (n:Bool) (x y:Nat):kG n x+kG n y=kG n (x+y):=by cases n<;>simp[kG]<;>omega
theorem Te {m n:Bool} (h:m≠n) {x y:Nat} (hx:y≤x):kG m x+kG n y=kG m (x-y):=by
 cases m<;>cases n<;>simp_all [kG]<;>omega
theorem Ty {m n:Bool} (h:m≠n) {x y:Nat} (hx:x≤y):kG m x+kG n y=kG n (y-x):=by
 cases m<;>cases n<;>simp_all [kG]<;>omega
theorem Qa (n:Int) {d:Nat} (hd:d≠0):(mkRat n d).num.natAbs=n.natAbs / Nat.gcd n.natAbs d:=by
 have:=E6 (neg:=decide (n<0)) (t:=n.natAbs) (b:=d) hd
 rw[F2] at this
 rw[this,nQ]
theorem Ka (n:Int) {d:Nat} (hd:d≠0):(mkRat n d).den=d / Nat.gcd n.natAbs d:=by
 have:=Pb (neg:=decide (n<0)) (t:=n.natAbs) (b:=d) hd
 rwa [F2] at this
theorem alX (n:Int) {d:Nat} (hd:d≠0):(mkRat n d).num<0↔n<0:=by
 have:=E6 (neg:=decide (n<0)) (t:=n.natAbs) (b:=d) hd
 rw[F2] at this
 rw[this,P4]
 have h:n<0→n.natAbs / Nat.gcd n.natAbs d≠0:=fun h=>by
  have:=Nat.div_pos (Nat.le_of_dvd (by omega) (Nat.gcd_dvd_left n.natAbs d)) (Nat.gcd_pos_of_pos_left d (show 0<n.natAbs by omega))
  omega
 constructor
 ·rintro⟨h1,_⟩;simpa using h1
 ·intro h1;exact⟨by simpa using h1,h h1⟩
theorem BD (t:Nat) {d:Nat} (hd:d≠0):(mkRat (kG false t) d).num.natAbs ∣ t∧(mkRat (kG false t) d).den ∣ d:=by
 rw[Qa _ hd,Ka _ hd,nQ]
 exact⟨Nat.div_dvd_of_dvd (Nat.gcd_dvd_left _ _),Nat.div_dvd_of_dvd (Nat.gcd_dvd_right _ _)⟩
theorem XP (a b:Rat):(a*b).num.natAbs=(mkRat (kG false a.num.natAbs) b.den).num.natAbs*(mkRat (kG false b.num.natAbs) a.den).num.natAbs ∧
  (a*b).den=(mkRat (kG false a.num.natAbs) b.den).den*(mkRat (kG false b.num.natAbs) a.den).den:=by
 have ha:=a.den_nz
 have hb:=b.den_nz
 have FQ:a.den*b.den≠0:=Nat.mul_ne_zero ha hb
 obtain⟨u1,u2⟩:=BD a.num.natAbs hb
 obtain⟨v1,v2⟩:=BD b.num.natAbs ha
 have e:(mkRat (kG false a.num.natAbs) b.den)*(mkRat (kG false b.num.natAbs) a.den)=mkRat (kG false a.num.natAbs*kG false b.num.natAbs) (b.den*a.den):=Rat.mkRat_mul_mkRat _ _ _ _
 have en:((mkRat (kG false a.num.natAbs) b.den)*(mkRat (kG false b.num.natAbs) a.den)).num.natAbs=(a*b).num.natAbs:=by
  rw[e,Rat.mul_def',Qa _ FQ,Qa _ (Nat.mul_ne_zero hb ha),Int.natAbs_mul,Int.natAbs_mul,nQ,nQ,Nat.mul_comm b.den]
 have ed:((mkRat (kG false a.num.natAbs) b.den)*(mkRat (kG false b.num.natAbs) a.den)).den=(a*b).den:=by
  rw[e,Rat.mul_def',Ka _ FQ,Ka _ (Nat.mul_ne_zero hb ha),Int.natAbs_mul,Int.natAbs_mul,nQ,nQ,Nat.mul_comm b.den]
 rw[←en,←ed]
 generalize hu:mkRat (kG false a.num.natAbs) b.den=u at *
 generalize hv:mkRat (kG false b.num.natAbs) a.den=v at *
 have c1:Nat.Coprime u.num.natAbs u.den:=u.reduced
 have c2:Nat.Coprime v.num.natAbs v.den:=v.reduced
 have c3:Nat.Coprime u.num.natAbs v.den:=Nat.Coprime.coprime_dvd_left u1 (Nat.Coprime.coprime_dvd_right v2 a.reduced)
 have c4:Nat.Coprime v.num.natAbs u.den:=Nat.Coprime.coprime_dvd_left v1 (Nat.Coprime.coprime_dvd_right u2 b.reduced)
 have c:Nat.gcd (u.num*v.num).natAbs (u.den*v.den)=1:=by
  rw[Int.natAbs_mul]
  exact Nat.Coprime.mul_left (Nat.Coprime.mul_right c1 c3) (Nat.Coprime.mul_right c4 c2)
 rw[Rat.mul_def',Qa _ (Nat.mul_ne_zero u.den_nz v.den_nz),Ka _ (Nat.mul_ne_zero u.den_nz v.den_nz),c,Nat.div_one,Nat.div_one,Int.natAbs_mul]
 exact⟨rfl,rfl⟩
theorem Rh {a b:Rat} (ha:a.num≠0) (hb:b.num≠0):(a*b).num<0↔(decide (a.num<0) != decide (b.num<0))=true:=by
 rw[Rat.mul_def',alX _ (Nat.mul_ne_zero a.den_nz b.den_nz)]
 rcases Int.lt_or_gt_of_ne ha with h1 | h1<;>rcases Int.lt_or_gt_of_ne hb with h2 | h2
 ·have:=Int.mul_pos_of_neg_of_neg h1 h2
  rw[decide_eq_true h1,decide_eq_true h2]
  simp;omega
 ·have:=Int.mul_neg_of_neg_of_pos h1 h2
  rw[decide_eq_true h1,decide_eq_false (show ¬b.num<0 by omega)]
  simp[this]
 ·have:=Int.mul_neg_of_pos_of_neg h1 h2
  rw[decide_eq_false (show ¬a.num<0 by omega),decide_eq_true h2]
  simp[this]
 ·have:=Int.mul_pos h1 h2
  rw[decide_eq_false (show ¬a.num<0 by omega),decide_eq_false (show ¬b.num<0 by omega)]
  simp;omega
def kV (q:Rat):Int:=if q.num=0 then 0 else if q.num<0 then -1 else 1
def RN (a b:Rat):Int:=if kV a=kV b then (if a.num<0 then -eW (a.num.natAbs*b.den) (b.num.natAbs*a.den) else eW (a.num.natAbs*b.den) (b.num.natAbs*a.den)) else kV a-kV b
theorem uH {m n:Nat}:eW m n<0↔m<n:=by
 unfold eW
 split
 ·omega
 ·split<;>omega
theorem Wy {m n:Nat}:0<eW m n↔n<m:=by
 unfold eW
 split
 ·omega
 ·split<;>omega
theorem AY {m n:Nat}:eW m n=0↔m=n:=by
 unfold eW
 split
 ·omega
 ·split<;>omega
theorem pM {q:Rat} (h:q.num<0):kV q = -1:=by unfold kV;rw[if_neg (by omega),if_pos h]
theorem kQ {q:Rat} (h:q.num=0):kV q=0:=by unfold kV;rw[if_pos h]
theorem oW {q:Rat} (h:0<q.num):kV q=1:=by unfold kV;rw[if_neg (by omega),if_neg (by omega)]
theorem afO {a b:Rat}:RN a b<0↔a<b:=by
 rw[Rat.lt_iff]
 have hA:(0:Int)<a.den:=by have:=a.den_nz;omega
 have hB:(0:Int)<b.den:=by have:=b.den_nz;omega
 have eA:((a.num.natAbs*b.den:Nat):Int)=(a.num.natAbs:Int)*b.den:=by simp
 have eB:((b.num.natAbs*a.den:Nat):Int)=(b.num.natAbs:Int)*a.den:=by simp
 unfold RN
 rcases Int.lt_trichotomy a.num 0 with h1 | h1 | h1<;>rcases Int.lt_trichotomy b.num 0 with h2 | h2 | h2
 ·rw[pM h1,pM h2,if_pos rfl,if_pos h1]
  have f1:(a.num.natAbs:Int) = -a.num:=by omega
  have f2:(b.num.natAbs:Int) = -b.num:=by omega
  rw[f1,Int.neg_mul] at eA
  rw[f2,Int.neg_mul] at eB
  have := @Wy (a.num.natAbs*b.den) (b.num.natAbs*a.den)
  omega
 ·rw[pM h1,kQ h2,if_neg (by decide),h2,Int.zero_mul]
  have:=Int.mul_neg_of_neg_of_pos h1 hB
  omega
 ·rw[pM h1,oW h2,if_neg (by decide)]
  have:=Int.mul_neg_of_neg_of_pos h1 hB
  have:=Int.mul_pos h2 hA
  omega
 ·rw[kQ h1,pM h2,if_neg (by decide),h1,Int.zero_mul]
  have:=Int.mul_neg_of_neg_of_pos h2 hA
  omega
 ·rw[kQ h1,kQ h2,if_pos rfl,h1,h2];simp[eW]
 ·rw[kQ h1,oW h2,if_neg (by decide),h1,Int.zero_mul]
  have:=Int.mul_pos h2 hA
  omega
 ·rw[oW h1,pM h2,if_neg (by decide)]
  have:=Int.mul_neg_of_neg_of_pos h2 hA
  have:=Int.mul_pos h1 hB
  omega
 ·rw[oW h1,kQ h2,if_neg (by decide),h2,Int.zero_mul]
  have:=Int.mul_pos h1 hB
  omega
 ·rw[oW h1,oW h2,if_pos rfl,if_neg (by omega)]
  have f1:(a.num.natAbs:Int)=a.num:=by omega
  have f2:(b.num.natAbs:Int)=b.num:=by omega
  rw[f1] at eA
  rw[f2] at eB
  have := @uH (a.num.natAbs*b.den) (b.num.natAbs*a.den)
  omega
theorem ZK (m n:Nat):eW n m = -eW m n:=by
 rcases Nat.lt_trichotomy m n with h | h | h
 ·rw[eW,eW,if_neg (by omega),if_neg (by omega),if_pos h];rfl
 ·subst h;rw[eW,if_neg (by omega),if_pos rfl];rfl
 ·rw[eW,eW,if_pos h,if_neg (by omega),if_neg (by omega)]
theorem Y8 (a b:Rat):RN b a = -RN a b:=by
 unfold RN
 by_cases h:kV a=kV b
 ·have h2:b.num<0↔a.num<0:=by
   rcases Int.lt_trichotomy a.num 0 with h1 | h1 | h1<;>rcases Int.lt_trichotomy b.num 0 with h2 | h2 | h2
   ·simp[h1,h2]
   ·rw[pM h1,kQ h2] at h;omega
   ·rw[pM h1,oW h2] at h;omega
   ·rw[kQ h1,pM h2] at h;omega
   ·omega
   ·rw[kQ h1,oW h2] at h;omega
   ·rw[oW h1,pM h2] at h;omega
   ·rw[oW h1,kQ h2] at h;omega
   ·omega
  rw[if_pos h,if_pos h.symm,ZK]
  by_cases h3:a.num<0
  ·rw[if_pos h3,if_pos (h2.2 h3)]
  ·rw[if_neg h3,if_neg (mt h2.1 h3)]
 ·rw[if_neg h,if_neg (fun h'=>h h'.symm)];omega
theorem Wh {a b:Rat}:0<RN a b↔b<a:=by
 rw[←afO,Y8 a b];omega
theorem BT {q:Rat}:kV q=0↔q=0:=by
 rw[←Rat.num_eq_zero]
 rcases Int.lt_trichotomy q.num 0 with h | h | h
 ·rw[pM h];omega
 ·rw[kQ h];omega
 ·rw[oW h];omega
end Go.PM
namespace Go.PM
theorem OV {ds:List Nat} {H:aA}:cU 1 (hJ ds) H=some (ds.map tV):=by
 have:((ds.map tV).all fun x=>(aB x).length == 1&&(aB x).all bO)=true:=by
  rw[List.all_eq_true]
  intro x hx
  obtain⟨d,_,rfl⟩:=List.mem_map.1 hx
  rfl
 simp only[cU,hJ,aS,this,if_true]
theorem D5 (n:Nat) {H:aA}:cU 1 (bY n) H=some ((aC 1000000000 n).map tV):=OV
theorem Ih {a n:Nat} (hn:(aC 1000000000 a).length=n+1):∃d,(aC 1000000000 a)[n]? = some d∧d≠0∧d<1000000000:=by
 obtain⟨d,hd⟩:∃d,(aC 1000000000 a)[n]? = some d:=⟨_,List.getElem?_eq_getElem (by omega)⟩
 refine⟨d,hd,fun h0 => ?_,fE (by decide) a d (List.mem_of_getElem? hd)⟩
 have:=OA (b:=1000000000) (by decide) a
 rw[List.getLast?_eq_getElem?,hn,Nat.add_sub_cancel,hd,h0] at this
 exact this rfl
theorem Xp {a d:Nat} (h:aC 1000000000 a=[d]):a=d∧0<d∧d<1000000000:=by
 have h1:=cI (b:=1000000000) (by decide) a
 rw[h,val_one] at h1
 obtain⟨e,h2,h3,h4⟩:=Ih (a:=a) (n:=0) (by rw[h];rfl)
 rw[h] at h2
 cases h2
 exact⟨h1.symm,by omega,h4⟩
theorem alW {a:Nat} (h:(aC 1000000000 a).length≤2):a<1000000000000000000:=by
 have h1:=gL (b:=1000000000) (by decide) a
 have h2:1000000000^(aC 1000000000 a).length≤1000000000^2:=Nat.pow_le_pow_right (by decide) h
 omega
theorem adQ {H:aA} {u v:VV} (hu:aN u=true) (hv:aN v=true):fz depth H (.dT [u,v])=some (.dT [u,v]):=aF (by simp only[aN,aM,hu,hv,Bool.and_self])
theorem apW {X N:Nat} (h:(aC 1000000000 X).length≤N):Jv 0 1 (.ref 0 0 0 N N) (bY X) [.row 0 ((List.replicate N 0).map tV) 1 true]=some (VI ((aC 1000000000 X).length:Int),[.row 0 ((aC 1000000000 X++List.replicate (N-(aC 1000000000 X).length) 0).map tV) 1 true]):=by
 have e:((aC 1000000000 X).map tV).take N=(aC 1000000000 X).map tV:=List.take_of_length_le (by simpa using h)
 simp only[Jv,bY,OV,bA,e,List.length_map,List.length_replicate,Nat.zero_add]
 rw[if_pos ⟨trivial,Nat.le_refl _,h⟩]
 simp only[cW,List.set_cons_zero,List.take_zero,List.nil_append,Nat.zero_add,List.length_map,List.map_append,List.map_replicate,List.drop_replicate]
theorem tO (a b:Nat) (hb:b≠0) (ha:(aC 1000000000 a).length<17592186044416) (uN:(aC 1000000000 b).length<17592186044416):TC 185 [bY a,bY b] (.dT [bY (a / b),bY (a % b)]):=by
 refine TC.walk ⟨true,false⟩ HR rfl (Nat.le_of_ble_eq_true rfl) (by simp[aM,cG]) (by simp[gJ,qE,nA]) ?_
 have s1:=B0 a (by omega)
 have s2:=B0 b (by omega)
 have fin:∀ {H:aA},fz depth H (.dT [bY (a / b),bY (a % b)])=some (.dT [bY (a / b),bY (a % b)]):=adQ (cG _) (cG _)
 by_cases Rg:(aC 1000000000 a).length≤2∧(aC 1000000000 b).length≤2
 ·rw[if_pos Rg.1] at s1
  rw[if_pos Rg.2] at s2
  have la:=alW Rg.1
  have q1:=Kb a b (by omega) (by omega)
  have q2:=KQ a b (by omega)
  have hdl:a / b≤a:=Nat.div_le_self _ _
  have hml:a % b≤a:=Nat.mod_le _ _
  have n1:TC 178 [VI ((a / b:Nat):Int)] (bY (a / b)):=qA ((a / b:Nat):Int) (Int.ofNat_le.2 (show a / b≤9223372036854775807 from Nat.le_trans hdl (by omega)))
  have n2:TC 178 [VI ((a % b:Nat):Int)] (bY (a % b)):=qA ((a % b:Nat):Int) (Int.ofNat_le.2 (show a % b≤9223372036854775807 from Nat.le_trans hml (by omega)))
  simp only[fD,dM,s1,s2,q1,q2,n1,n2,VX,Nat.reduceEqDiff,Nat.reduceAdd]
  exact fin
 have c1:=uO a b (by omega) (by omega)
 obtain⟨x1,t1,Nh⟩:∃(x:Int) (t:Bool),(if (aC 1000000000 a).length≤2 then VV.dT [VI a,VB true] else .dT [VI 0,VB false]) = .dT [VI x,VB t]:=by split<;>exact⟨_,_,rfl⟩
 have hs2:∃(x:Int) (t:Bool),(if (aC 1000000000 b).length≤2 then VV.dT [VI b,VB true] else .dT [VI 0,VB false]) = .dT [VI x,VB t]∧(t1=true→t=false):=by
  by_cases h:(aC 1000000000 b).length≤2
  ·rw[if_pos h]
   refine⟨_,_,rfl,fun ht => ?_⟩
   rw[if_neg (fun h'=>Rg ⟨h',h⟩)] at Nh
   injection Nh with Nh
   injection Nh with _ Nh
   injection Nh with Nh _
   injection Nh with Nh
   injection Nh with Nh
   subst ht
   cases Nh
  ·rw[if_neg h]
   exact⟨_,_,rfl,fun _=>rfl⟩
 obtain⟨x2,t2,hs2,ht⟩:=hs2
 rw[Nh] at s1
 rw[hs2] at s2
 by_cases FQ:eW a b<0
 ·have bI:a<b:=uH.1 FQ
  have e0:∀lr,jE lr [.int .i64 0] 0 [] []=some (.ref 0 0 0 0 0,[.row 0 [] 1 true]):=fun lr=>iH (H:=[]) rfl
  have e1:∀lr,jE lr [.int .i64 0] 0 [] [.row 0 [] 1 true]=some (.ref 1 0 0 0 0,[.row 0 [] 1 true,.row 0 [] 1 true]):=fun lr=>iH (H:=[.row 0 [] 1 true]) rfl
  rw[Nat.div_eq_of_lt bI,Nat.mod_eq_of_lt bI]
  have hz:fz (6+1) [.row 0 [] 1 true,.row 0 [] 1 true] (.ref 0 0 0 0 0)=some (bY 0):=by rw[Hz];rfl
  by_cases ha0:a=0
  ·subst ha0
   have ap:eI 0 1 8 (.ref 1 0 0 0 0) ((aC 1000000000 0).map tV) [.row 0 [] 1 true,.row 0 [] 1 true]=some (.ref 1 0 0 0 0,[.row 0 [] 1 true,.row 0 [] 1 true]):=by
    rw[cC];rfl
   have HT:fz (6+1) [.row 0 [] 1 true,.row 0 [] 1 true] (.ref 1 0 0 0 0)=some (bY 0):=by rw[Hz];rfl
   cases t1 with
   |
    false =>
    simp only[fD,dM,s1,s2,c1,FQ,e0,e1,ap,D5,VX,Nat.reduceEqDiff,Nat.reduceAdd]
    exact bP (d:=6) hz HT
   |
    true =>
    rw[ht rfl] at s2
    simp only[fD,dM,s1,s2,c1,FQ,e0,e1,ap,D5,VX,Nat.reduceEqDiff,Nat.reduceAdd]
    exact bP (d:=6) hz HT
  ·have hln:(aC 1000000000 a).length≠0:=fun h=>ha0 ((lQ (b:=1000000000) (by decide)).1 (List.length_eq_zero_iff.1 h))
   have ap:eI 0 1 8 (.ref 1 0 0 0 0) ((aC 1000000000 a).map tV) [.row 0 [] 1 true,.row 0 [] 1 true]=some (.ref 1 1 0 (aC 1000000000 a).length (aC 1000000000 a).length,[.row 0 [] 1 true,.row 1 ((aC 1000000000 a).map tV) 1 true]):=by
    have hr:aI [.row 0 [] 1 true,.row 0 [] 1 true] 1 0=some ([],1,true):=rfl
    simp only[eI,hr,List.length_map,Nat.zero_add,List.length_nil,Nat.add_zero]
    rw[if_pos ⟨by decide,by decide⟩,if_pos ⟨trivial,Nat.zero_le _,Nat.le_refl _⟩,if_neg (by omega),if_pos (by omega)]
    simp
   have Eh:fz (6+1) [.row 0 [] 1 true,.row 1 ((aC 1000000000 a).map tV) 1 true] (.ref 0 0 0 0 0)=some (bY 0):=by rw[Hz];rfl
   have HT:fz (6+1) [.row 0 [] 1 true,.row 1 ((aC 1000000000 a).map tV) 1 true] (.ref 1 1 0 (aC 1000000000 a).length (aC 1000000000 a).length)=some (bY a):=by
    have:aN (.ref 1 1 0 (aC 1000000000 a).length (aC 1000000000 a).length)=false:=rfl
    have hr:aI [.row 0 [] 1 true,.row 1 ((aC 1000000000 a).map tV) 1 true] 1 1=some ((aC 1000000000 a).map tV,1,true):=rfl
    unfold fz
    simp only[this,hr,Bool.false_eq_true,if_false]
    rw[if_pos ⟨by simp,Nat.le_refl _⟩,List.drop_zero,List.take_of_length_le (by simp),mapM_pure (n:=5) (gQ fun _=>rfl)]
    rfl
   cases t1 with
   |
    false =>
    simp only[fD,dM,s1,s2,c1,FQ,e0,e1,ap,D5,VX,Nat.reduceEqDiff,Nat.reduceAdd]
    exact bP (d:=6) Eh HT
   |
    true =>
    rw[ht rfl] at s2
    simp only[fD,dM,s1,s2,c1,FQ,e0,e1,ap,D5,VX,Nat.reduceEqDiff,Nat.reduceAdd]
    exact bP (d:=6) Eh HT
 have EO:b≤a:=by have := @uH a b;omega
 have hbn:(aC 1000000000 b).length≠0:=fun h=>hb ((lQ (b:=1000000000) (by decide)).1 (List.length_eq_zero_iff.1 h))
 by_cases h1:(((aC 1000000000 b).length:Nat):Int)=1
 ·obtain⟨d,hd⟩:∃d,aC 1000000000 b=[d]:=List.length_eq_one_iff.1 (by omega)
  obtain⟨hbd,CR,hdT⟩:=Xp hd
  have e1:bJ 1 (bY b) (VI 0) []=some (.cT (tV d) 0):=by
   rw[bY,hd]
   exact aK (f:=tV) (t := .op) (H:=[]) (size:=1) (k := .i64) (xs:=[d]) (i:=0) rfl rfl
  have c2:=xU a d CR hdT (by omega)
  rw[←hbd] at c2
  have T1:a % b≤b:=Nat.le_of_lt (Nat.mod_lt _ (by omega))
  have n2:TC 178 [VI ((a % b:Nat):Int)] (bY (a % b)):=qA ((a % b:Nat):Int) (Int.ofNat_le.2 (show a % b≤9223372036854775807 from Nat.le_trans T1 (by omega)))
  have e2:tV d=tV b:=by rw[hbd]
  rw[e2] at e1
  cases t1 with
  |
   false =>
   simp only[fD,dM,s1,s2,c1,FQ,cL,h1,e1,c2,n2,VX,Nat.reduceEqDiff,Nat.reduceAdd]
   exact fin
  |
   true =>
   rw[ht rfl] at s2
   simp only[fD,dM,s1,s2,c1,FQ,cL,h1,e1,c2,n2,VX,Nat.reduceEqDiff,Nat.reduceAdd]
   exact fin
 obtain⟨n,hn⟩:∃n,(aC 1000000000 b).length=n+2:=⟨(aC 1000000000 b).length-2,by omega⟩
 obtain⟨t,htd,ht0,htT⟩:=Ih (a:=b) (n:=n+1) hn
 obtain⟨s,hs⟩:∃s,s=1000000000 / (t+1):=⟨_,rfl⟩
 have QH:1≤s:=by rw[hs];exact(Nat.le_div_iff_mul_le (by omega)).2 (by omega)
 have hsT:s<1000000000:=by rw[hs];exact Nat.div_lt_self (by decide) (by omega)
 have Fg:(t+1)*s≤1000000000:=by rw[hs];exact Nat.mul_div_le _ _
 have hla:=dX (b:=1000000000) (by decide) EO
 have w0:IntKind.i64.wrap (((n+2:Nat):Int)-1)=((n+1:Nat):Int):=wrapN _ (by omega) (by omega)
 have w1:IntKind.i64.wrap ((t:Int)+1)=((t+1:Nat):Int):=wrapN _ (by omega) (by omega)
 have q0:dJ .quo (.int .i64 1000000000) (.int .i64 ((t+1:Nat):Int))=some (.int .i64 (s:Int)):=by rw[hs];exact Kb 1000000000 (t+1) (by decide) (by omega)
 have et:∀H,bJ 1 (bY b) (VI ((n+1:Nat):Int)) H=some (.cT (tV t) 0):=fun H=>aK (f:=tV) (t := .op) (size:=1) (k := .i64) htd rfl
 have XI:¬(((n+2:Nat):Int)=1):=by omega
 obtain⟨N,hN⟩:∃N,N=(aC 1000000000 a).length+1:=⟨_,rfl⟩
 have wN:IntKind.i64.wrap (((aC 1000000000 a).length:Int)+1)=(N:Int):=wrapN _ (by omega) (by omega)
 have mkN:=PK N (by omega)
 have c3:=xP a s QH hsT ha
 have c4:=xP b s QH hsT uN
 have anR:b*s<1000000000^(n+2):=by
  have h2:=(yY (n:=n+1) (fE (b:=1000000000) (by decide) b) hn htd).2
  rw[cI (by decide)] at h2
  have h3:b*s<(t+1)*1000000000^(n+1)*s:=Nat.mul_lt_mul_of_pos_right h2 QH
  have h4:(t+1)*1000000000^(n+1)*s=(t+1)*s*1000000000^(n+1):=by grind
  have h9:(t+1)*s*1000000000^(n+1)≤1000000000*1000000000^(n+1):=Nat.mul_le_mul_right _ Fg
  have h10:1000000000*1000000000^(n+1)=1000000000^(n+2):=by rw[Nat.pow_succ 1000000000 (n+1)];exact Nat.mul_comm _ _
  rw[h4] at h3
  rw[h10] at h9
  exact Nat.lt_of_lt_of_le h3 h9
 have hVl:(aC 1000000000 (b*s)).length=n+2:=by
  have h2:=lX (b:=1000000000) (by decide) anR
  have h3:b≤b*s:=Nat.le_mul_of_pos_right b QH
  have h4:=dX (b:=1000000000) (by decide) h3
  omega
 have hAl:(aC 1000000000 (a*s)).length≤N:=by
  have h2:=Pg (b:=1000000000) (by decide) a s
  have h3:(aC 1000000000 s).length≤1:=lX (by decide) (by rw[Nat.pow_one];exact hsT)
  omega
 have cp:=apW hAl
 obtain⟨m,hm⟩:∃m,m+(n+2)=N:=⟨N-(n+2),by omega⟩
 have wm:IntKind.i64.wrap ((N:Int)-((n+2:Nat):Int))=(m:Int):=wrapN _ (by omega) (by omega)
 have wm1:IntKind.i64.wrap ((m:Int)-1)=(m:Int)-1:=wrap64 (by omega) (by omega)
 obtain⟨Ef,afS⟩:∃Ef,Ef=aC 1000000000 (a*s)++List.replicate (N-(aC 1000000000 (a*s)).length) 0:=⟨_,rfl⟩
 rw[←afS] at cp
 have mkm:AK [.int .i64 0] 8 (VI (m:Int)) (VI (m:Int)) [.row 0 (Ef.map tV) 1 true]=some (.ref 1 0 0 m m,[.row 0 (Ef.map tV) 1 true]++[.row 0 ((List.replicate m 0).map tV) 1 true]):=tY (f:=tV) (x:=0) (H:=[.row 0 (Ef.map tV) 1 true]) rfl (by omega) (by omega)
 have lN:∀K,aI K 0 0=some (Ef.map tV,1,true)→oF (.ref 0 0 0 N N) K=some (VI (N:Int)):=fun K h=>fP h
 have l1:=lN [.row 0 (Ef.map tV) 1 true] rfl
 have l2:=lN (H2 Ef (List.replicate m 0)) rfl
 have amK:Ef.length=N:=by rw[afS,List.length_append,List.length_replicate];omega
 have asQ:∀d∈Ef,d<1000000000:=fun d hd=>by
  rw[afS] at hd
  rcases List.mem_append.1 hd with h | h
  ·exact fE (by decide) _ d h
  ·rw[List.eq_of_mem_replicate h];decide
 have akY:val 1000000000 Ef=a*s:=by rw[afS,yF,qV,Nat.mul_zero,Nat.add_zero,cI (by decide)]
 generalize Ql:aC 1000000000 (b*s)=vs at *
 have Gd:∀d∈vs,d<1000000000:=by rw[←Ql];exact fE (by decide) _
 have No:val 1000000000 vs=b*s:=by rw[←Ql];exact cI (by decide) _
 have lV:∀H,oF (bY (b*s)) H=some (VI ((n+2:Nat):Int)):=fun H=>by rw[cL,Ql,hVl]
 obtain⟨v1,f1⟩:∃v1,vs[n+1]? = some v1:=⟨_,List.getElem?_eq_getElem (by omega)⟩
 obtain⟨v0,f0⟩:∃v0,vs[n]? = some v0:=⟨_,List.getElem?_eq_getElem (by omega)⟩
 have hv1:1≤v1:=by
  obtain⟨d,hd,CR,_⟩:=Ih (a:=b*s) (n:=n+1) (by rw[Ql];exact hVl)
  rw[Ql,f1] at hd
  cases hd
  omega
 have Cp:val 1000000000 (Ef.drop m)<val 1000000000 vs:=by
  have h2:=pE (b:=1000000000) Ef m
  rw[List.length_take,amK,Nat.min_eq_left (by omega),akY] at h2
  have h3:a<b*1000000000^m:=by
   have y1:=gL (b:=1000000000) (by decide) a
   have y2:=Kj (b:=1000000000) (by decide) hb
   rw[hn] at y2
   have y3:1000000000^(n+2-1)*1000000000^m≤b*1000000000^m:=Nat.mul_le_mul_right _ y2
   rw[←Nat.pow_add,show n+2-1+m=(aC 1000000000 a).length by omega] at y3
   exact Nat.lt_of_lt_of_le y1 y3
  have h4:a*s<b*1000000000^m*s:=Nat.mul_lt_mul_of_pos_right h3 QH
  have h5:b*1000000000^m*s=1000000000^m*(b*s):=by grind
  rw[No]
  have h6:1000000000^m*val 1000000000 (Ef.drop m)<1000000000^m*(b*s):=by
   rw[←h5]
   exact Nat.lt_of_le_of_lt (by rw[h2];exact Nat.le_add_left _ _) h4
  exact Nat.lt_of_mul_lt_mul_left h6
 have body:VW ⟨true,false⟩ 0 (.loop iM)=VW ⟨true,false⟩ 0 (.loop iM):=rfl
 have tail:∀(us os:List Nat),us.length=N→(∀d∈us,d<1000000000)→os.length=m→(∀d∈os,d<1000000000)→val 1000000000 us+val 1000000000 vs*val 1000000000 os=a*s→val 1000000000 us<val 1000000000 vs →
   (∀lo K,cS 184 [.ref 0 0 0 N N] lo (H2 us os) K=K (bY (a % b*s)) (dB (H2 us os) [0])) ∧
   (∀lo K,cS 184 [.ref 1 0 0 m m] lo (dB (H2 us os) [0]) K=K (bY (a / b)) (dB (dB (H2 us os) [0]) [1]))∧TC 202 [bY (a % b*s),VI (s:Int)] (.dT [bY (a % b),VI ((a % b*s % s:Nat):Int)]):=by
  intro us os Qn I4 jJ lF hv bI
  rw[No] at hv bI
  have hq:val 1000000000 os=a / b:=by
   rw[←Nat.mul_div_mul_right a b QH,←hv,Nat.add_mul_div_left _ _ (Nat.lt_of_le_of_lt (Nat.zero_le _) bI),Nat.div_eq_of_lt bI,Nat.zero_add]
  have hr:val 1000000000 us=a % b*s:=by
   rw[←Nat.mul_mod_mul_right,←hv,Nat.add_mul_mod_self_left,Nat.mod_eq_of_lt bI]
  refine⟨fun lo K => ?_,fun lo K => ?_,?_⟩
  ·have h:=sY us I4 (by omega)
   rw[hr] at h
   exact TC.aeV (f:=tV) h UQ Qn.symm (Nat.le_refl _) FI (fun _=>rfl) rfl rfl lo K
  ·have h:=sY os lF (by omega)
   rw[hq] at h
   have kD:aI (dB (H2 us os) [0]) 1 0=some (os.map tV,1,true):=rfl
   exact TC.aeV (f:=tV) h kD jJ.symm (Nat.le_refl _) FI (fun _=>rfl) rfl rfl lo K
  ·have h:=xU (a % b*s) s QH hsT (by
    have h2:=dX (b:=1000000000) (by decide) (Nat.le_trans (Nat.le_of_lt bI) (show b*s≤b*s from Nat.le_refl _))
    rw[hr,Ql] at h2
    omega)
   rwa [Nat.mul_div_cancel _ QH] at h
 clear body
 have nV:bY (b*s)=hJ vs:=by rw[bY,Ql]
 cases t1 with
 |
  false =>
  simp only[fD,dM,s1,s2,c1,FQ,cL,hn,XI,w0,w1,q0,et,wN,mkN,c3,c4,cp,lV,l1,l2,wm,wm1,mkm,List.cons_append,List.nil_append,VX,Nat.reduceEqDiff,Nat.reduceAdd]
  refine On (Ef:=Ef) (YC:=List.replicate m 0) (vs:=vs) (N:=N) (m:=m) (n:=n) (A:=a*s) (s:=s) amK hm (by omega) asQ hVl Gd f1 f0 hv1 akY Cp (by simp) (Ah (by decide) _) (by rfl) (by rfl) (by simp only[VX,Nat.reduceEqDiff,Nat.reduceAdd];exact nV) (by rfl) (by rfl) (by rfl) ?_
  intro wT us os r12 r13 r16 Qn I4 jJ lF hv bI
  obtain⟨x1,x2,x3⟩:=tail us os Qn I4 jJ lF hv bI
  simp only[r12,r13,r16,x1,x2,x3,VX,Nat.reduceEqDiff,Nat.reduceAdd]
  exact fin
 |
  true =>
  rw[ht rfl] at s2
  simp only[fD,dM,s1,s2,c1,FQ,cL,hn,XI,w0,w1,q0,et,wN,mkN,c3,c4,cp,lV,l1,l2,wm,wm1,mkm,List.cons_append,List.nil_append,VX,Nat.reduceEqDiff,Nat.reduceAdd]
  refine On (Ef:=Ef) (YC:=List.replicate m 0) (vs:=vs) (N:=N) (m:=m) (n:=n) (A:=a*s) (s:=s) amK hm (by omega) asQ hVl Gd f1 f0 hv1 akY Cp (by simp) (Ah (by decide) _) (by rfl) (by rfl) (by simp only[VX,Nat.reduceEqDiff,Nat.reduceAdd];exact nV) (by rfl) (by rfl) (by rfl) ?_
  intro wT us os r12 r13 r16 Qn I4 jJ lF hv bI
  obtain⟨x1,x2,x3⟩:=tail us os Qn I4 jJ lF hv bI
  simp only[r12,r13,r16,x1,x2,x3,VX,Nat.reduceEqDiff,Nat.reduceAdd]
  exact fin
end Go.PM
namespace Go.PM
theorem dH (n:Nat) {H:aA}:oF (bM n) H=some (VI (aC 4294967296 n).length):=dV
theorem wG {n:Nat}:(0:Int)<((aC 4294967296 n).length:Int)↔n≠0:=by
 constructor
 ·intro h h0
  subst h0
  rw[cC] at h
  simp at h
 ·intro h
  have:=(lQ (b:=4294967296) (by decide) (n:=n))
  have h2:aC 4294967296 n≠[]:=fun hx=>h (this.1 hx)
  have:=List.length_pos_iff.2 h2
  omega
theorem R5 {n:Nat} (h:(aC 4294967296 n).length≤2):n<18446744073709551616:=by
 have h1:=gL (b:=4294967296) (by decide) n
 have h2:4294967296^(aC 4294967296 n).length≤4294967296^2:=Nat.pow_le_pow_right (by decide) h
 omega
theorem Dg (a b:Nat) (ha:(aC 4294967296 a).length≤17592186044416) (hb:(aC 4294967296 b).length≤17592186044416):TC 175 [bM a,bM b] (bM (Nat.gcd a b)):=by
 refine TC.walk ⟨true,false⟩ ID rfl (Nat.le_of_ble_eq_true rfl) (by simp[aM,bS]) (qB _) ?_
 simp only[Dh,Bb,VX,Nat.reduceEqDiff,Nat.reduceAdd]
 refine aT (fun(t:Nat×Nat) ρ H=>H=[]∧Nat.gcd t.1 t.2=Nat.gcd a b∧(aC 4294967296 t.1).length≤17592186044416∧(aC 4294967296 t.2).length≤17592186044416∧ρ 0=bM t.1∧ρ 1=bM t.2) (fun t=>t.2) (a,b) ⟨rfl,rfl,ha,hb,rfl,rfl⟩ ?_
 rintro⟨x,y⟩ ρ H ⟨rfl,hg,hx,hy,g0,g1⟩
 simp only at hg hx hy g0 g1
 have c1:=Aq x hx
 have c2:=Aq y hy
 by_cases hy0:y=0
 ·subst hy0
  have hl:¬(0:Int)<((aC 4294967296 0).length:Int):=by rw[wG];omega
  rw[Nat.gcd_zero_right] at hg
  simp only[iI,g0,g1,dH,hl,VX,Nat.reduceEqDiff,Nat.reduceAdd]
  rw[hg]
  exact aF (bS _)
 have hl:(0:Int)<((aC 4294967296 y).length:Int):=wG.2 hy0
 by_cases h1:(aC 4294967296 x).length≤2∧(aC 4294967296 y).length≤2
 ·rw[if_pos h1.1] at c1
  rw[if_pos h1.2] at c2
  simp only[iI,g0,g1,dH,hl,c1,c2,VX,Nat.reduceEqDiff,Nat.reduceAdd]
  refine aT (fun(t:Nat×Nat) ρ H=>H=[]∧Nat.gcd t.1 t.2=Nat.gcd a b∧t.1<18446744073709551616∧t.2<18446744073709551616∧ρ 5=VK .u64 t.1∧ρ 7=VK .u64 t.2) (fun t=>t.2) (x,y) ⟨rfl,hg,R5 h1.1,R5 h1.2,rfl,rfl⟩ ?_
  rintro⟨u,v⟩ NF H ⟨rfl,hg2,hu,hv,k5,k7⟩
  simp only at hg2 hu hv k5 k7
  by_cases hv0:v=0
  ·subst hv0
   rw[Nat.gcd_zero_right] at hg2
   have hz:¬(0:Int)<((0:Nat):Int):=by omega
   have c3:=mO u hu
   simp only[sL,k5,k7,hz,c3,VX,Nat.reduceEqDiff,Nat.reduceAdd]
   rw[hg2]
   exact aF (bS _)
  ·have hz:(0:Int)<(v:Int):=by omega
   have r1:=Pn u v (by omega)
   simp only[sL,k5,k7,hz,r1,VX,Nat.reduceEqDiff,Nat.reduceAdd]
   refine⟨(v,u % v),?_,?_,hv,?_,rfl,rfl⟩
   ·exact Nat.mod_lt _ (by omega)
   ·simp only
    rw[←hg2,Nat.gcd_comm u v,Nat.gcd_rec v u,Nat.gcd_comm]
   ·simp only
    have:=Nat.mod_lt u (show 0<v by omega)
    omega
 ·have c3:=xD x y hy0 hx hy
  have next:∃s':Nat×Nat,s'.2<y∧Nat.gcd s'.1 s'.2=Nat.gcd a b∧(aC 4294967296 s'.1).length≤17592186044416∧(aC 4294967296 s'.2).length≤17592186044416∧bM y=bM s'.1∧bM (x % y)=bM s'.2:=by
   have hm:=Nat.mod_lt x (show 0<y by omega)
   refine⟨(y,x % y),hm,?_,hy,?_,rfl,rfl⟩
   ·simp only
    rw[←hg,Nat.gcd_comm x y,Nat.gcd_rec y x,Nat.gcd_comm]
   ·simp only
    have:=dX (b:=4294967296) (by decide) (Nat.le_of_lt hm)
    omega
  by_cases h2:(aC 4294967296 x).length≤2
  ·have h3:¬(aC 4294967296 y).length≤2:=fun h=>h1 ⟨h2,h⟩
   rw[if_pos h2] at c1
   rw[if_neg h3] at c2
   simp only[iI,g0,g1,dH,hl,c1,c2,c3,VX,Nat.reduceEqDiff,Nat.reduceAdd]
   exact next
  ·rw[if_neg h2] at c1
   by_cases h3:(aC 4294967296 y).length≤2
   ·rw[if_pos h3] at c2
    simp only[iI,g0,g1,dH,hl,c1,c2,c3,VX,Nat.reduceEqDiff,Nat.reduceAdd]
    exact next
   ·rw[if_neg h3] at c2
    simp only[iI,g0,g1,dH,hl,c1,c2,c3,VX,Nat.reduceEqDiff,Nat.reduceAdd]
    exact next
end Go.PM
namespace Go.PM
open Go.Lib
theorem qO (a b:List UInt8) (h:a.length+b.length≤9223372036854775807):dJ .add (.string ⟨a.toArray⟩) (.string ⟨b.toArray⟩)=some (.string ⟨(a++b).toArray⟩):=by
 have h1:(⟨a.toArray⟩:ByteArray).size=a.length:=by simp[ByteArray.size]
 have h2:(⟨b.toArray⟩:ByteArray).size=b.length:=by simp[ByteArray.size]
 have h3:¬(((⟨a.toArray⟩:ByteArray).size+(⟨b.toArray⟩:ByteArray).size:Nat):Int)>IntKind.i64.max:=by
  rw[h1,h2]
  show ¬_>(9223372036854775807:Int)
  omega
 simp only[dJ,h3,if_false]
 congr 2
theorem bN (a:List UInt8):zR (.string ⟨a.toArray⟩)=some (.int .i64 (a.length:Int)):=by simp[zR,ByteArray.size]
theorem afY:∀a:List UInt8,(aB (bC a)).length=1:=fun _=>rfl
theorem Xk {xs:List (List UInt8)} {H:aA} {lo b g n:Nat} (hr:aI H b g=some (xs.map bC,1,true)) (hn:xs.length=n) (dK:lo≤b) (De:n≤9223372036854775806) :
  gU 216 [.ref b g 0 n n] lo H fun r H'=>r = .dT []∧H'=H.set b (.row g (xs.reverse.map bC) 1 true):=by
 refine gU.walk ⟨true,false⟩ rK (Nat.le_of_ble_eq_true rfl) ?_
 have e0:oF (.ref b g 0 n n) H=some (VI n):=fP hr
 have w0:IntKind.i64.wrap ((n:Int)-1)=(n:Int)-1:=wrap64 (by omega) (by omega)
 simp only[lD,kE,e0,w0,VX,Nat.reduceEqDiff,Nat.reduceAdd]
 refine aT (fun(t:Nat×List (List UInt8)) ρ K=>t.1≤n∧K=H.set b (.row g (t.2.map bC) 1 true)∧t.2.length=n∧(∀k,k<n→t.2[k]? = if k<t.1∨n≤k+t.1 then xs[n-1-k]? else xs[k]?)∧ρ 0 = .ref b g 0 n n∧ρ 2=VI t.1∧ρ 3=VI ((n:Int)-1-(t.1:Int))) (fun t=>n-t.1) (0,xs) ⟨Nat.zero_le _,(wD hr).symm,hn,fun k hk=>by rw[if_neg (by simp only;omega)],rfl,rfl,by show VI ((n:Int)-1)=VI ((n:Int)-1-((0:Nat):Int));rw[Int.natCast_zero,Int.sub_zero]⟩ ?_
 rintro⟨i,ys⟩ ρ K ⟨hi,rfl,hl,hy,g0,g2,g3⟩
 simp only at hi hl hy g2 g3
 have hr2:aI (H.set b (.row g (ys.map bC) 1 true)) b g=some (ys.map bC,1,true):=nH hr
 by_cases dA:(i:Int)<(n:Int)-1-(i:Int)
 ·have hj:(n:Int)-1-(i:Int)=((n-1-i:Nat):Int):=by omega
  obtain⟨x,hx⟩:∃x,ys[i]? = some x:=⟨_,List.getElem?_eq_getElem (by omega)⟩
  obtain⟨y,hyy⟩:∃y,ys[n-1-i]? = some y:=⟨_,List.getElem?_eq_getElem (by omega)⟩
  rw[hj] at g3 dA
  have a1:∀(zs:List (List UInt8)) (k:Nat),zs.length=n→k<n→bJ 1 (.ref b g 0 n n) (VI (k:Int)) (H.set b (.row g (zs.map bC) 1 true))=some (.ptr b g k 0):=fun zs k h1 h2=>by rw[bE (nH hr) h2,Nat.zero_add]
  have l1:bT false 1 (.ptr b g (n-1-i) 0) (H.set b (.row g (ys.map bC) 1 true))=some (bC y):=pL hr2 hyy
  have l2:bT false 1 (.ptr b g i 0) (H.set b (.row g (ys.map bC) 1 true))=some (bC x):=pL hr2 hx
  have s1:bR lo 1 (.ptr b g i 0) (bC y) (H.set b (.row g (ys.map bC) 1 true))=some (H.set b (.row g ((ys.set i y).map bC) 1 true)):=by rw[fI (f:=bC) (e:=1) hr2 (by omega) dK rfl rfl,lZ]
  have s2:bR lo 1 (.ptr b g (n-1-i) 0) (bC x) (H.set b (.row g ((ys.set i y).map bC) 1 true))=some (H.set b (.row g (((ys.set i y).set (n-1-i) x).map bC) 1 true)):=by rw[fI (f:=bC) (e:=1) (nH hr) (by rw[List.length_set];omega) dK rfl rfl,lZ]
  have w1:IntKind.i64.wrap ((i:Int)+1)=((i+1:Nat):Int):=wrapN _ (by omega) (by omega)
  have w2:IntKind.i64.wrap (((n-1-i:Nat):Int)-1)=(n:Int)-1-((i+1:Nat):Int):=by rw[wrap64 (by omega) (by omega)];omega
  have b1:=a1 ys i hl (by omega)
  have b2:=a1 ys (n-1-i) hl (by omega)
  have b3:=a1 (ys.set i y) (n-1-i) (by rw[List.length_set];exact hl) (by omega)
  simp only[fK,g0,g2,g3,dA,b1,b2,b3,l1,l2,s1,s2,w1,w2,VX,Nat.reduceEqDiff,Nat.reduceAdd]
  refine⟨(i+1,(ys.set i y).set (n-1-i) x),by simp only;omega,by simp only;omega,rfl,by simp only[List.length_set];exact hl,fun k hk => ?_,by (repeat' apply And.intro)<;>first | rfl | trivial⟩
  simp only
  have hxx:=hy i (by omega)
  rw[if_neg (by omega),hx] at hxx
  have hyx:=hy (n-1-i) (by omega)
  rw[if_neg (by omega),hyy] at hyx
  rw[List.getElem?_set,List.getElem?_set,List.length_set]
  by_cases h1:n-1-i=k
  ·subst h1
   rw[if_pos rfl,if_pos (by omega),if_pos (by omega),show n-1-(n-1-i)=i by omega]
   exact hxx
  ·rw[if_neg h1]
   by_cases h2:i=k
   ·subst h2
    rw[if_pos rfl,if_pos (by omega),if_pos (by omega)]
    exact hyx
   ·rw[if_neg h2,hy k hk]
    by_cases h3:k<i∨n≤k+i
    ·rw[if_pos h3,if_pos (by omega)]
    ·rw[if_neg h3,if_neg (by omega)]
 ·have axV:ys=xs.reverse:=by
   apply List.ext_getElem?
   intro k
   rcases Nat.lt_or_ge k n with h | h
   ·rw[hy k h,List.getElem?_reverse (by omega),hn]
    split
    ·rfl
    ·rw[show n-1-k=k by omega]
   ·rw[List.getElem?_eq_none (by omega),List.getElem?_eq_none (by rw[List.length_reverse];omega)]
  subst axV
  simp only[fK,g0,g2,g3,dA,VX,Nat.reduceEqDiff,Nat.reduceAdd]
  try exact⟨rfl,rfl⟩
theorem Xw (n:Nat):(aC 1000000000 n).length≤2*(aC 4294967296 n).length:=by
 refine lX (by decide) ?_
 have h1:=gL (b:=4294967296) (by decide) n
 have h2:4294967296^(aC 4294967296 n).length≤(1000000000^2)^(aC 4294967296 n).length:=Nat.pow_le_pow_left (by decide) _
 rw[←Nat.pow_mul] at h2
 omega
theorem aeO {n:Nat} (hn:n≠0):(decDigits n).length≤9*(aC 1000000000 n).length:=by
 have h1:=gL (b:=1000000000) (by decide) n
 have h3:(aC 1000000000 n)≠[]:=fun h=>hn ((lQ (by decide)).1 h)
 have h4:=List.length_pos_iff.2 h3
 generalize (aC 1000000000 n).length=L at *
 obtain⟨k,hk⟩:∃k,9*L=k+1:=⟨9*L-1,by omega⟩
 have h5:(1000000000:Nat)^L=10^(9*L):=by rw[show (1000000000:Nat)=10^9 by decide,←Nat.pow_mul]
 rw[h5,hk] at h1
 rw[hk]
 exact yN n k h1
def lK (q:Nat):List UInt8:=if q=0 then [] else decDigits q
theorem B1 (n:Nat) (hn:(aC 4294967296 n).length≤68719476736):TC 196 [bM n] (bC (decDigits n)):=by
 refine TC.walk ⟨true,false⟩ GU rfl (Nat.le_of_ble_eq_true rfl) (by simp[aM,bS]) rfl ?_
 by_cases h0:n=0
 ·subst h0
  have hl:(((aC 4294967296 0).length:Nat):Int)=0:=by rw[cC];rfl
  simp only[vR,sT,dH,hl,VX,Nat.reduceEqDiff,Nat.reduceAdd]
  rw[iK (by decide)]
  exact aF rfl
 have hl:¬(((aC 4294967296 n).length:Nat):Int)=0:=by have:=wG.2 h0;omega
 have e1:∀lr,jE lr [.string ⟨#[]⟩] 0 [] []=some (.ref 0 0 0 0 0,[.row 0 (([]:List (List UInt8)).map bC) 1 true]):=fun lr=>iH (H:=[]) (lr:=lr) (z:=[.string ⟨#[]⟩]) rfl
 have hTn:=Xw n
 have hdl:=aeO h0
 simp only[vR,sT,dH,hl,e1,VX,Nat.reduceEqDiff,Nat.reduceAdd]
 refine aT (fun(t:Nat×List (List UInt8)) ρ H=>H=[.row t.2.length (t.2.map bC) 1 true]∧t.1≤n∧t.2.length+(aC 1000000000 t.1).length=(aC 1000000000 n).length∧decDigits n=lK t.1++t.2.reverse.flatten∧ρ 0=bM t.1∧ρ 3 = .ref 0 t.2.length 0 t.2.length t.2.length) (fun t=>t.1) (n,[]) ⟨rfl,Nat.le_refl _,by simp,by simp[lK,h0],rfl,rfl⟩ ?_
 rintro⟨q,ps⟩ ρ H ⟨rfl,hq,hlen,Yr,g0,g3⟩
 simp only at hq hlen Yr g0 g3
 by_cases Qm:q=0
 ·subst Qm
  have hz:¬(0:Int)<((aC 4294967296 0).length:Int):=by rw[wG];omega
  rw[lK,if_pos rfl,List.nil_append] at Yr
  have hr:aI [.row ps.length (ps.map bC) 1 true] 0 ps.length=some (ps.map bC,1,true):=bA
  simp only[mV,g0,g3,dH,hz,VX,Nat.reduceEqDiff,Nat.reduceAdd]
  refine gI rfl ((Xk hr rfl (Nat.le_refl _) (by omega)).mono ?_)
  rintro r H' ⟨rfl,rfl⟩
  have Iy:([.row ps.length (ps.map bC) 1 true]:aA).set 0 (.row ps.length (ps.reverse.map bC) 1 true)=[.row ps.length (ps.reverse.map bC) 1 true]:=rfl
  have hr2:aI [.row ps.length (ps.reverse.map bC) 1 true] 0 ps.length=some (ps.reverse.map bC,1,true):=bA
  have hfl:ps.reverse.flatten.length≤140737488355328:=by rw[←Yr];omega
  have cj:=(akC ps.reverse (by rw[List.length_reverse];omega) hfl).flat (H:=[.row ps.length (ps.reverse.map bC) 1 true]) (args:=[.ref 0 ps.length 0 ps.length ps.length,bC []]) rfl (by simp only[aM,lT (f:=bC) afY (fun _=>rfl),Bool.and_true];rfl) (fz2 (Li hr2 (by simp) (Nat.le_refl _) (gQ fun _=>rfl)) (aF rfl)) rfl
  simp only[Iy,g3,cj,VX,Nat.reduceEqDiff,Nat.reduceAdd]
  rw[←Yr]
  exact aF rfl
 ·have hz:(0:Int)<((aC 4294967296 q).length:Int):=wG.2 Qm
  have hql:=dX (b:=4294967296) (by decide) hq
  have c1:TC 197 [bM q,.sc (.int .u32 1000000000)] (.dT [bM (q / 1000000000),uV (q % 1000000000)]):=wB q 1000000000 (by decide) (by decide) (by omega)
  have hm:=Nat.mod_lt q (show 0<1000000000 by decide)
  have c2:=alL (q % 1000000000) (by omega)
  have wm:IntKind.u64.wrap ((q % 1000000000:Nat):Int)=((q % 1000000000:Nat):Int):=dW _ (by omega)
  have hdq:=iW (b:=1000000000) (by decide) Qm
  have aBh:(aC 1000000000 q).length=(aC 1000000000 (q / 1000000000)).length+1:=by rw[hdq];rfl
  have XS:=yN (q % 1000000000) 8 hm
  have hqq:=Nat.mod_add_div q 1000000000
  have e2:∀x:List UInt8,jE false [.string ⟨#[]⟩] 1 [(0,bC x)] [.row ps.length (ps.map bC) 1 true]=some (.tree [bC x] (.cl 1),[.row ps.length (ps.map bC) 1 true]):=fun x=>fZ (z:=[.string ⟨#[]⟩]) rfl rfl rfl
  have e3:∀x:List UInt8,cU 1 (.tree [bC x] (.cl 1)) [.row ps.length (ps.map bC) 1 true]=some [bC x]:=fun x=>dP rfl rfl
  have e4:∀x:List UInt8,eI 0 1 16 (.ref 0 ps.length 0 ps.length ps.length) [bC x] [.row ps.length (ps.map bC) 1 true]=some (.ref 0 (ps.length+1) 0 (ps.length+1) (ps.length+1),[.row (ps.length+1) ((ps++[x]).map bC) 1 true]):=fun x=>by
   rw[iE (f:=bC) (x:=x) bA rfl (Nat.le_refl _) (by decide) (by decide) (by omega)]
   rfl
  have hle:q / 1000000000<q:=Nat.div_lt_self (by omega) (by decide)
  by_cases hqz:q / 1000000000=0
  ·have S8:¬(0:Int)<((aC 4294967296 (q / 1000000000)).length:Int):=by rw[wG];omega
   simp only[mV,g0,g3,dH,hz,c1,c2,wm,S8,e2,e3,e4,VX,Nat.reduceEqDiff,Nat.reduceAdd]
   refine⟨(q / 1000000000,ps++[decDigits (q % 1000000000)]),hle,by simp,by simp only;omega,by simp only[List.length_append,List.length_singleton];omega,?_,rfl,by simp⟩
   rw[Yr,lK,if_neg Qm,lK,if_pos hqz,List.reverse_append,List.nil_append,List.reverse_singleton,List.singleton_append,List.flatten_cons,show q % 1000000000=q by omega]
  ·have S8:(0:Int)<((aC 4294967296 (q / 1000000000)).length:Int):=wG.2 hqz
   have ws:IntKind.i64.wrap ((9:Int)-((decDigits (q % 1000000000)).length:Int))=((9-(decDigits (q % 1000000000)).length:Nat):Int):=wrapN _ (by omega) (by omega)
   have c3:=abV [48] (9-(decDigits (q % 1000000000)).length) (by simp;omega) (by omega)
   have abB:repeatL [48] (9-(decDigits (q % 1000000000)).length)++decDigits (q % 1000000000)=Cr 9 (q % 1000000000):=by
    rw[alT 8 _ hm]
    congr 1
    have:=repeatL_replicate 48 1 (9-(decDigits (q % 1000000000)).length)
    rw[Nat.mul_one] at this
    exact this
   have c4:=qO (repeatL [48] (9-(decDigits (q % 1000000000)).length)) (decDigits (q % 1000000000)) (by rw[←List.length_append,abB,ahF];decide)
   rw[abB] at c4
   simp only[mV,g0,g3,dH,hz,c1,c2,wm,S8,bN,ws,c3,c4,e2,e3,e4,VX,Nat.reduceEqDiff,Nat.reduceAdd]
   refine⟨(q / 1000000000,ps++[Cr 9 (q % 1000000000)]),hle,by simp,by simp only;omega,by simp only[List.length_append,List.length_singleton];omega,?_,rfl,by simp⟩
   rw[Yr,lK,if_neg Qm,lK,if_neg hqz,List.reverse_append,List.reverse_singleton,List.singleton_append,List.flatten_cons,←List.append_assoc,←H9 (by omega) hm]
   congr 2
   omega
end Go.PM