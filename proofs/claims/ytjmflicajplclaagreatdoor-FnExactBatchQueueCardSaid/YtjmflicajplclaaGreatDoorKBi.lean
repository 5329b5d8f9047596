/- Texts of a claim, in one: part 9. -/
import Derived.Test.YtjmflicajplclaaGreatDoorKBh
set_option linter.unusedSimpArgs false
set_option linter.unusedVariables false
namespace Go.PM
theorem W5 {iV vs us ws os:List Nat} {n u2 u1 u0 v1 v0 N k g left:Nat} (G:xY 4294967296 iV vs n u2 u1 u0 v1 v0) {ρ:dU} {Q:VQ} (hN:us.length=N) (hk2:2≤k) (hkN:k<N) (EB:N≤70368744177664) (hu0:us[k-2]? = some u0)
  (g9:ρ 9 = .ref 0 0 0 N N) (g11:ρ 11=VK .u64 v1) (g12:ρ 12=VK .u64 v0) (g15:ρ 15=VI k) (g17:ρ 17=VK .u64 g) (g18:ρ 18=VK .u64 left) (hh:u2*4294967296+u1=g*v1+left) (hq:val 4294967296 iV / val 4294967296 vs≤g) (hl:left<4294967296) (hgb:g<18446744073709551616)
  (hQ:∀(bI:dU) (g':Nat),val 4294967296 iV / val 4294967296 vs≤g'→g'≤val 4294967296 iV / val 4294967296 vs+1→g'<4294967296→bI 17=VK .u64 g'→bI 8=ρ 8→bI 9=ρ 9→bI 10=ρ 10→bI 11=ρ 11→bI 12=ρ 12→bI 13=ρ 13→bI 14=ρ 14→bI 15=ρ 15→Q (.exit 2) bI (H3 us ws os)) :
  VW ⟨true,false⟩ 0 (.loop gV) Q ρ (H3 us ws os):=by
 have lv1:=G.YO
 have lv0:=G.acX
 have lu0:=G.aoA
 have qlt:=G.alF
 have mC:=G.pos
 refine aV (fun(t:Nat×Nat) bI H=>H=H3 us ws os∧u2*4294967296+u1=t.1*v1+t.2∧val 4294967296 iV / val 4294967296 vs≤t.1∧t.2<4294967296∧t.1<18446744073709551616 ∧
  bI 9 = .ref 0 0 0 N N∧bI 11=VK .u64 v1∧bI 12=VK .u64 v0∧bI 15=VI k∧bI 17=VK .u64 t.1∧bI 18=VK .u64 t.2∧bI 8=ρ 8∧bI 10=ρ 10∧bI 13=ρ 13∧bI 14=ρ 14) (fun t=>4294967296-t.2) (g,left) ⟨rfl,hh,hq,hl,hgb,g9,g11,g12,g15,g17,g18,rfl,rfl,rfl,rfl⟩ ?_
 rintro⟨g,left⟩ Rk H ⟨rfl,hh,hq,hl,hgb,k9,Yq,J6,MD,JZ,k18,k8,k10,Cq,DX⟩
 simp only at hh hq hl hgb JZ k18
 have e1:bL 1 (.ref 0 0 0 N N) (VI ((k-2:Nat):Int)) (H3 us ws os)=some (.ptr 0 0 (k-2) 0):=by rw[bC DW (by omega),Nat.zero_add]
 have e2:cC false 1 (.ptr 0 0 (k-2) 0) (H3 us ws os)=some (uV u0):=jG DW hu0
 have wk:IntKind.i64.wrap ((k:Int)-2)=((k-2:Nat):Int):=wrapN _ (by omega) (by omega)
 have wu:IntKind.u64.wrap (u0:Int)=(u0:Int):=eU _ (by omega)
 have ws:=Fg left .u64 hl
 have wa:IntKind.u64.wrap (((left*4294967296:Nat):Int)+(u0:Int))=((left*4294967296+u0:Nat):Int):=by rw[←Int.natCast_add];exact eU _ (by omega)
 have wl:IntKind.u64.wrap ((left:Int)+(v1:Int))=((left+v1:Nat):Int):=by rw[←Int.natCast_add];exact eU _ (by omega)
 have same:Rk 9=ρ 9∧Rk 11=ρ 11∧Rk 12=ρ 12∧Rk 15=ρ 15:=⟨by rw[k9,g9],by rw[Yq,g11],by rw[J6,g12],by rw[MD,g15]⟩
 obtain⟨s9,s11,s12,s15⟩:=same
 have down:val 4294967296 iV / val 4294967296 vs<g→∃g',g=g'+1∧IntKind.u64.wrap ((g:Int)-1)=(g':Int)∧u2*4294967296+u1=g'*v1+(left+v1)∧val 4294967296 iV / val 4294967296 vs≤g':=by
  intro h
  have hg1:1≤g:=Nat.lt_of_le_of_lt (Nat.zero_le _) h
  obtain⟨g',rfl⟩:∃g',g=g'+1:=⟨g-1,by omega⟩
  refine⟨g',rfl,?_,?_,by omega⟩
  ·rw[show ((g'+1:Nat):Int)-1=(g':Int) by omega]
   exact eU _ (by omega)
  ·rw[hh,Nat.add_mul]
   omega
 by_cases hA:(4294967296:Int)≤(g:Int)
 ·obtain⟨g',hg',wg,Xj,Pf⟩:=down (by omega)
  by_cases hB:(4294967296:Int)≤((left+v1:Nat):Int)
  ·obtain⟨c1,c2⟩:=G.broken Xj (by omega)
   simp only[gV,k9,Yq,J6,MD,JZ,k18,hA,hB,wg,wl,VX,Nat.reduceEqDiff,Nat.reduceAdd]
   exact hQ _ g' Pf (G.Z4 Xj (by omega) c2) c1 rfl k8 s9 k10 s11 s12 Cq DX s15
  ·simp only[gV,k9,Yq,J6,MD,JZ,k18,hA,hB,wg,wl,VX,Nat.reduceEqDiff,Nat.reduceAdd]
   exact⟨(g',left+v1),by simp only;omega,Xj,Pf,by simp only;omega,by simp only;omega,by rfl,by rfl,k8,k10,Cq,DX⟩
 ·have hgv:g*v0≤4294967295*4294967295:=Nat.mul_le_mul (by omega) (by omega)
  have wm:IntKind.u64.wrap ((g:Int)*(v0:Int))=((g*v0:Nat):Int):=by rw[←Int.natCast_mul];exact eU _ (by omega)
  by_cases hT:((left*4294967296+u0:Nat):Int)<((g*v0:Nat):Int)
  ·obtain⟨g',hg',wg,Xj,Pf⟩:=down (G.too hh (by omega))
   by_cases hB:(4294967296:Int)≤((left+v1:Nat):Int)
   ·obtain⟨c1,c2⟩:=G.broken Xj (by omega)
    simp only[gV,k9,Yq,J6,MD,JZ,k18,hA,hB,hT,e1,e2,wk,wu,ws,wa,wm,wg,wl,VX,Nat.reduceEqDiff,Nat.reduceAdd]
    exact hQ _ g' Pf (G.Z4 Xj (by omega) c2) c1 rfl k8 s9 k10 s11 s12 Cq DX s15
   ·simp only[gV,k9,Yq,J6,MD,JZ,k18,hA,hB,hT,e1,e2,wk,wu,ws,wa,wm,wg,wl,VX,Nat.reduceEqDiff,Nat.reduceAdd]
    exact⟨(g',left+v1),by simp only;omega,Xj,Pf,by simp only;omega,by simp only;omega,by rfl,by rfl,k8,k10,Cq,DX⟩
  ·simp only[gV,k9,Yq,J6,MD,JZ,k18,hA,hT,e1,e2,wk,wu,ws,wa,wm,VX,Nat.reduceEqDiff,Nat.reduceAdd]
   exact hQ _ g hq (G.Z4 hh (by omega) (by omega)) (by omega) JZ k8 s9 k10 s11 s12 Cq DX s15
theorem O0 {X S S' R V q Q P w:Nat} (hs:S=q*V+S') (h:X+P*S+P*w*V*Q=R):X+P*S'+P*V*(q+w*Q)=R:=by
 subst hs
 grind
theorem agA {FZ ws os0 vs:List Nat} {N m n v1 v0 A s:Nat} {ρ:dU} {Q:VQ} (hN:FZ.length=N) (hm:m+(n+2)=N) (EB:N≤70368744177664) (K0:∀d∈FZ,d<4294967296) (hws:ws.take (n+2)=vs) (hwl:ws.length=n+3) (Gj:vs.length=n+2) (IE:∀d∈vs,d<4294967296) (f1:vs[n+1]? = some v1) (f0:vs[n]? = some v0) (mC:1≤v1)
  (hA:val 4294967296 FZ=A) (Dl:val 4294967296 (FZ.drop m)<val 4294967296 vs) (jT:os0.length=m) (mJ:∀d∈os0,d<4294967296)
  (g8:ρ 8=VI s) (g9:ρ 9 = .ref 0 0 0 N N) (g10:ρ 10 = .ref 1 0 0 (n+2) (n+3)) (g11:ρ 11=VK .u64 v1) (g12:ρ 12=VK .u64 v0) (g13:ρ 13 = .ref 2 0 0 m m) (g14:ρ 14=VI ((m:Int)-1))
  (hQ:∀(bI:dU) (us os:List Nat),bI 8=VI s→bI 9 = .ref 0 0 0 N N→bI 13 = .ref 2 0 0 m m→us.length=N→(∀d∈us,d<4294967296)→os.length=m→(∀d∈os,d<4294967296)→val 4294967296 us+val 4294967296 vs*val 4294967296 os=A→val 4294967296 us<val 4294967296 vs→Q (.exit 0) bI (H3 us ws os)) :
  VW ⟨true,false⟩ 0 (.loop oY) Q ρ (H3 FZ ws os0):=by
 have hVb:=pL IE
 rw[Gj] at hVb
 refine aV (fun(t:Nat×List Nat×List Nat) bI H=>t.1≤m∧H=H3 t.2.1 ws t.2.2∧t.2.1.length=N∧(∀d∈t.2.1,d<4294967296)∧t.2.2.length=m∧(∀d∈t.2.2,d<4294967296)∧val 4294967296 (t.2.1.drop t.1)<val 4294967296 vs∧val 4294967296 t.2.1+4294967296^t.1*val 4294967296 vs*val 4294967296 (t.2.2.drop t.1)=A ∧
  bI 8=VI s∧bI 9 = .ref 0 0 0 N N∧bI 10 = .ref 1 0 0 (n+2) (n+3)∧bI 11=VK .u64 v1∧bI 12=VK .u64 v0∧bI 13 = .ref 2 0 0 m m∧bI 14=VI ((t.1:Int)-1)) (fun t=>t.1) (m,FZ,os0) ⟨Nat.le_refl _,rfl,hN,K0,jT,mJ,Dl,by rw[List.drop_of_length_le (by simp only;omega)];simpa[val] using hA,g8,g9,g10,g11,g12,g13,g14⟩ ?_
 rintro⟨j,us,os⟩ Rk H ⟨hj,rfl,SY,K0,jT,mJ,bH,hv,k8,k9,k10,Yq,J6,Cq,DX⟩
 simp only at hj SY K0 jT mJ bH hv DX
 by_cases hz:(0:Int)≤(j:Int)-1
 ·obtain⟨i,rfl⟩:∃i,j=i+1:=⟨j-1,by omega⟩
  have FU:((i+1:Nat):Int)-1=(i:Int):=by omega
  rw[FU] at DX hz
  obtain⟨Wf,AK,Rp,hsW,ajD,aiB,tF⟩:=ZT (n:=n+2) SY (by omega) K0 hVb bH
  generalize Zo:(us.drop i).take (n+2+1)=iV at *
  have R9:∀d∈iV,d<4294967296:=fun d hd=>by rw[←Zo] at hd;exact K0 d (List.mem_of_mem_drop (List.mem_of_mem_take hd))
  obtain⟨u2,hu2⟩:∃u2,us[i+(n+2)]? = some u2:=⟨_,List.getElem?_eq_getElem (by omega)⟩
  obtain⟨u1,hu1⟩:∃u1,us[i+(n+1)]? = some u1:=⟨_,List.getElem?_eq_getElem (by omega)⟩
  obtain⟨u0,hu0⟩:∃u0,us[i+n]? = some u0:=⟨_,List.getElem?_eq_getElem (by omega)⟩
  have G:xY 4294967296 iV vs n u2 u1 u0 v1 v0:=⟨by decide,R9,IE,Rp,Gj,by rw[tF _ (by omega)];exact hu2,by rw[tF _ (by omega)];exact hu1,by rw[tF _ (by omega)];exact hu0,f1,f0,mC,hsW⟩
  have lu2:=G.apG
  have lu1:=G.ajE
  have lv1:=G.YO
  have qlt:=G.alF
  have Kw:=G.Kw
  have atN:pW (.ref 1 0 0 (n+2) (n+3)) (H3 us ws os)=some (VI ((n+2:Nat):Int)):=eR azC
  have w1:IntKind.i64.wrap ((i:Int)+((n+2:Nat):Int))=((i+(n+2):Nat):Int):=by rw[←Int.natCast_add];exact wrapN _ rfl (by omega)
  have w2:IntKind.i64.wrap (((i+(n+2):Nat):Int)-1)=((i+(n+1):Nat):Int):=wrapN _ (by omega) (by omega)
  have e2:bL 1 (.ref 0 0 0 N N) (VI ((i+(n+2):Nat):Int)) (H3 us ws os)=some (.ptr 0 0 (i+(n+2)) 0):=by rw[bC DW (by omega),Nat.zero_add]
  have e1:bL 1 (.ref 0 0 0 N N) (VI ((i+(n+1):Nat):Int)) (H3 us ws os)=some (.ptr 0 0 (i+(n+1)) 0):=by rw[bC DW (by omega),Nat.zero_add]
  have l2:cC false 1 (.ptr 0 0 (i+(n+2)) 0) (H3 us ws os)=some (uV u2):=jG DW hu2
  have l1:cC false 1 (.ptr 0 0 (i+(n+1)) 0) (H3 us ws os)=some (uV u1):=jG DW hu1
  have wu2:IntKind.u64.wrap (u2:Int)=(u2:Int):=eU _ (by omega)
  have wu1:IntKind.u64.wrap (u1:Int)=(u1:Int):=eU _ (by omega)
  have ws2:=Fg u2 .u64 lu2
  have wa:IntKind.u64.wrap (((u2*4294967296:Nat):Int)+(u1:Int))=((u2*4294967296+u1:Nat):Int):=by rw[←Int.natCast_add];exact eU _ (by omega)
  have q1:=Yu (u2*4294967296+u1) v1 (by omega) mC
  have q2:=RI (u2*4294967296+u1) v1 mC
  simp only[oY,k8,k9,k10,Yq,J6,Cq,DX,hz,atN,w1,w2,e1,e2,l1,l2,wu1,wu2,ws2,wa,q1,q2,VX,Nat.reduceEqDiff,Nat.reduceAdd]
  have hh:=Nat.mod_add_div (u2*4294967296+u1) v1
  have hml:=Nat.mod_lt (u2*4294967296+u1) mC
  have hdl:(u2*4294967296+u1) / v1≤u2*4294967296+u1:=Nat.div_le_self _ _
  have SW:val 4294967296 iV / val 4294967296 vs≤(u2*4294967296+u1) / v1:=by
   have t1:=(D3 (n:=n+1) (xs:=iV) R9 (by omega) (by rw[tF _ (by omega)];exact hu2) (by rw[tF _ (by omega)];exact hu1)).2
   have t2:=(A5 (n:=n+1) IE Gj f1).1
   rw[Nat.le_div_iff_mul_le mC]
   have t3:val 4294967296 iV / val 4294967296 vs*(v1*4294967296^(n+1))≤val 4294967296 iV / val 4294967296 vs*val 4294967296 vs:=Nat.mul_le_mul_left _ t2
   have t4:=Nat.div_mul_le_self (val 4294967296 iV) (val 4294967296 vs)
   have t5:val 4294967296 iV / val 4294967296 vs*v1*4294967296^(n+1)<(u2*4294967296+u1+1)*4294967296^(n+1):=by rw[Nat.mul_assoc];omega
   have:=Nat.lt_of_mul_lt_mul_right t5
   omega
  refine W5 (k:=i+(n+2)) G SY (by omega) (by omega) EB (by rw[show i+(n+2)-2=i+n by omega];exact hu0) k9 Yq J6 (by rfl) (by rfl) (by rfl) (by rw[Nat.mul_comm ((u2*4294967296+u1) / v1)];omega) SW (by omega) (by omega) ?_
  intro We g' hq Pf hgW r17 r8 r9 r10 r11 r12 r13 r14 r15
  have Tp:We 15=VI ((i+(n+2):Nat):Int):=r15
  have r8':We 8=VI s:=r8.trans k8
  have r9':We 9 = .ref 0 0 0 N N:=r9.trans k9
  have atM:We 10 = .ref 1 0 0 (n+2) (n+3):=r10.trans k10
  have apW:We 11=VK .u64 v1:=r11.trans Yq
  have Ti:We 12=VK .u64 v0:=r12.trans J6
  have Vf:We 13 = .ref 2 0 0 m m:=r13.trans Cq
  have UT:We 14=VI i:=r14.trans DX
  have w3:IntKind.i64.wrap (((i+(n+2):Nat):Int)+1)=((i+(n+3):Nat):Int):=wrapN _ (by omega) (by omega)
  have afI:FW 1 (.ref 0 0 0 N N) (some (VI i)) (some (VI ((i+(n+3):Nat):Int))) none (H3 us ws os)=some (.ref 0 0 i (n+3) (N-i)):=by
   rw[aiN DW (by omega) (by omega),Nat.zero_add,Nat.add_sub_cancel_left]
  simp only[r8',r9',atM,apW,Ti,Vf,UT,Tp,r17,w3,afI,VX,Nat.reduceEqDiff,Nat.reduceAdd]
  have sJ:g'*val 4294967296 vs≤val 4294967296 iV+val 4294967296 vs:=by
   have:=Nat.mul_le_mul_right (val 4294967296 vs) Pf
   rw[Nat.add_mul,Nat.one_mul] at this
   have:=Nat.div_mul_le_self (val 4294967296 iV) (val 4294967296 vs)
   omega
  refine fS rfl ((Ws (pre:=us.take i) (iV:=iV) (post:=us.drop (i+(n+2+1))) (L:=n+3) (o:=i) (by rw[←Wf];exact DW) (azC (us:=us) (ws:=ws) (os:=os)) (by decide) (Nat.zero_le _) AK Rp (by omega) hws (by omega) (by omega) R9 IE hgW sJ).mono ?_)
  rintro r H' ⟨sI,rfl,Cp,hd',hr⟩
  generalize alC:us.take i++sI++us.drop (i+(n+2+1))=Hi at *
  have Jt:(H3 us ws os).set 0 (.row 0 (Hi.map uV) 1 true)=H3 Hi ws os:=rfl
  rw[Jt]
  have asA:Hi.length=N:=by rw[←alC,List.length_append,List.length_append,AK,Cp,List.length_drop];omega
  have alE:∀d∈Hi,d<4294967296:=fun d hd=>by
   rw[←alC,List.mem_append,List.mem_append] at hd
   rcases hd with(hd | hd) | hd
   ·exact K0 d (List.mem_of_mem_take hd)
   ·exact hd' d hd
   ·exact K0 d (List.mem_of_mem_drop hd)
  have Xo:Hi.drop i=sI++us.drop (i+(n+2+1)):=by rw[←alC,List.append_assoc,List.drop_append,List.drop_of_length_le (by omega),AK];simp
  have W1:Hi.take i=us.take i:=by rw[←alC,List.append_assoc,List.take_append_of_le_length (by omega),List.take_of_length_le (by omega)]
  have Vw:val 4294967296 (Hi.drop i)=val 4294967296 sI:=by rw[Xo,zG,aiB,Nat.mul_zero,Nat.add_zero]
  have digit:∀q:Nat,q=val 4294967296 iV / val 4294967296 vs→val 4294967296 sI=val 4294967296 iV % val 4294967296 vs →
    val 4294967296 (Hi.drop i)<val 4294967296 vs∧val 4294967296 Hi+4294967296^i*val 4294967296 vs*val 4294967296 ((os.set i q).drop i)=A:=by
   rintro q VE hse
   have anC:=Nat.mod_lt (val 4294967296 iV) Kw
   refine⟨by rw[Vw,hse];exact anC,?_⟩
   have h1:=Nat.div_add_mod (val 4294967296 iV) (val 4294967296 vs)
   rw[←VE,←hse,Nat.mul_comm] at h1
   have h2:=qM (b:=4294967296) us i
   have h3:=qM (b:=4294967296) Hi i
   rw[W1,AK,Vw] at h3
   rw[AK,ajD] at h2
   rw[set_drop (by omega),uU,h3]
   rw[h2,Nat.pow_succ] at hv
   exact O0 h1.symm hv
  have e3:∀d:Nat,bL 1 (.ref 2 0 0 m m) (VI i) (H3 Hi ws os)=some (.ptr 2 0 i 0)∧bQ 0 1 (.ptr 2 0 i 0) (uV d) (H3 Hi ws os)=some (H3 Hi ws (os.set i d)):=fun d=>by
   refine⟨by rw[bC alK (by omega),Nat.zero_add],?_⟩
   rw[eV (f:=uV) (e:=1) alK (by omega) (Nat.zero_le _) rfl rfl]
   rfl
  have wi:IntKind.i64.wrap ((i:Int)-1)=(i:Int)-1:=wrap64 (by omega) (by omega)
  rcases hr with⟨rfl,hr⟩ | ⟨rfl,HC,hr2⟩
  ·have DV:g'*val 4294967296 vs≤val 4294967296 iV:=by omega
   have VE:g'=val 4294967296 iV / val 4294967296 vs:=by
    have:=(Nat.le_div_iff_mul_le Kw).2 DV
    omega
   have hse:val 4294967296 sI=val 4294967296 iV % val 4294967296 vs:=by
    have h1:=Nat.div_add_mod (val 4294967296 iV) (val 4294967296 vs)
    rw[←VE,Nat.mul_comm] at h1
    omega
   obtain⟨d1,d2⟩:=digit g' VE hse
   simp only[r8',r9',atM,apW,Ti,Vf,UT,Tp,r17,(e3 g').1,(e3 g').2,wi,wrap32,Nat.mod_eq_of_lt hgW,VX,Nat.reduceEqDiff,Nat.reduceAdd]
   exact⟨(i,Hi,os.set i g'),by simp only;omega,by omega,rfl,asA,alE,by rw[List.length_set];exact jT,mU mJ hgW,d1,d2,by (repeat' apply And.intro)<;>first | rfl | trivial⟩
  ·have acV:val 4294967296 iV / val 4294967296 vs<g':=(Nat.div_lt_iff_lt_mul Kw).2 HC
   have hg1:1≤g':=Nat.lt_of_le_of_lt (Nat.zero_le _) acV
   obtain⟨q,rfl⟩:∃q,g'=q+1:=⟨g'-1,by omega⟩
   have VE:q=val 4294967296 iV / val 4294967296 vs:=by omega
   have hse:val 4294967296 sI=val 4294967296 iV % val 4294967296 vs:=by
    have h1:=Nat.div_add_mod (val 4294967296 iV) (val 4294967296 vs)
    rw[←VE,Nat.mul_comm] at h1
    rw[Nat.add_mul,Nat.one_mul] at hr2
    omega
   have wq:IntKind.u64.wrap (((q+1:Nat):Int)-1)=(q:Int):=by rw[show ((q+1:Nat):Int)-1=(q:Int) by omega];exact eU _ (by omega)
   obtain⟨d1,d2⟩:=digit q VE hse
   simp only[r8',r9',atM,apW,Ti,Vf,UT,Tp,r17,wq,(e3 q).1,(e3 q).2,wi,wrap32,Nat.mod_eq_of_lt (show q<4294967296 by omega),VX,Nat.reduceEqDiff,Nat.reduceAdd]
   exact⟨(i,Hi,os.set i q),by simp only;omega,by omega,rfl,asA,alE,by rw[List.length_set];exact jT,mU mJ (by omega),d1,d2,by (repeat' apply And.intro)<;>first | rfl | trivial⟩
 ·have Xc:j=0:=by omega
  subst Xc
  rw[List.drop_zero] at bH
  rw[Nat.pow_zero,Nat.one_mul,List.drop_zero] at hv
  simp only[oY,k8,k9,k10,Yq,J6,Cq,DX,hz,VX,Nat.reduceEqDiff,Nat.reduceAdd]
  exact hQ _ us os k8 k9 Cq SY K0 jT mJ hv bH
end Go.PM
namespace Go.PM
theorem OP {a n:Nat} (hn:(aC 4294967296 a).length=n+1):∃d,(aC 4294967296 a)[n]? = some d∧d≠0∧d<4294967296:=by
 obtain⟨d,hd⟩:∃d,(aC 4294967296 a)[n]? = some d:=⟨_,List.getElem?_eq_getElem (by omega)⟩
 refine⟨d,hd,fun h0 => ?_,fW (by decide) a d (List.mem_of_getElem? hd)⟩
 have:=Qw (b:=4294967296) (by decide) a
 rw[List.getLast?_eq_getElem?,hn,Nat.add_sub_cancel,hd,h0] at this
 exact this rfl
theorem T1 {a d:Nat} (h:aC 4294967296 a=[d]):a=d∧0<d∧d<4294967296:=by
 have h1:=cN (b:=4294967296) (by decide) a
 rw[h,val_one] at h1
 obtain⟨e,h2,h3,h4⟩:=OP (a:=a) (n:=0) (by rw[h];rfl)
 rw[h] at h2
 cases h2
 exact⟨h1.symm,by omega,h4⟩
theorem zJ (a b:Nat) (hb:b≠0) (ha:(aC 4294967296 a).length≤17592186044416) (vB:(aC 4294967296 b).length≤17592186044416):TC 183 [bN a,bN b] (.dQ [bN (a / b),bN (a % b)]):=by
 refine TC.walk ⟨true,false⟩ Kv rfl (Nat.le_of_ble_eq_true rfl) (by simp[aO,bU]) (by simp[fX,rE,rH]) ?_
 have c1:=kW a b ha vB
 by_cases HD:fK a b<0
 ·have bH:a<b:=by
   unfold fK at HD
   split at HD
   ·assumption
   ·split at HD<;>omega
  simp only[uP,qJ,c1,HD,VX,Nat.reduceEqDiff,Nat.reduceAdd]
  rw[Nat.div_eq_of_lt bH,Nat.mod_eq_of_lt bH]
  exact bR (d:=6) yN (aI (bU a))
 have DV:b≤a:=by
  unfold fK at HD
  split at HD
  ·omega
  ·omega
 have hbn:(aC 4294967296 b).length≠0:=fun h=>hb ((nA (b:=4294967296) (by decide)).1 (List.length_eq_zero_iff.1 h))
 by_cases h1:(((aC 4294967296 b).length:Nat):Int)=1
 ·obtain⟨d,hd⟩:∃d,aC 4294967296 b=[d]:=by
   match hx:aC 4294967296 b with
   | []=>rw[hx] at hbn;exact absurd rfl hbn
   | [d]=>exact⟨d,rfl⟩
   | _::_::_=>rw[hx] at h1;simp at h1;omega
  obtain⟨rfl,Eg,hdW⟩:=T1 hd
  have c2:=xT a b Eg hdW ha
  have e0:pW (bN b) []=some (VI 1):=by rw[bN,BD,eX,hd];rfl
  have e1:bL 1 (bN b) (VI 0) []=some (.dA (uV b) 0):=by
   rw[bN,hd]
   exact aK (f:=uV) (t := .op) (H:=[]) (size:=1) (k := .i64) (xs:=[b]) (i:=0) rfl rfl
  have e2:=fU (H:=[]) (z:=[.int .u32 0]) (v:=uV (a % b)) rfl rfl rfl
  have e3:=aeN (size:=1) (v:=Value.int .u32 ((b:Nat):Int))
  simp only[uP,qJ,c1,HD,e0,e1,c2,e2,VX,Nat.reduceEqDiff,Nat.reduceAdd]
  refine Ni (ds:=[a % b]) (t := .cl 1) (fun d hd => ?_) (by show 1≤70368744177664;decide) (val_one _) fun t' ht => ?_
  ·rw[List.mem_singleton] at hd
   subst hd
   exact Nat.lt_of_lt_of_le (Nat.mod_lt _ Eg) (Nat.le_of_lt hdW)
  ·simp only[VX,Nat.reduceEqDiff,Nat.reduceAdd]
   exact bR (d:=6) (aI (bU _)) (ahR (d:=5) ht)
 obtain⟨n,hn⟩:∃n,(aC 4294967296 b).length=n+2:=⟨(aC 4294967296 b).length-2,by omega⟩
 obtain⟨t,ht,ht0,htW⟩:=OP (a:=b) (n:=n+1) hn
 obtain⟨s,hs,cl,adH⟩:=V8 ht0 htW
 have hS:0<2^s:=Nat.pow_pos (by decide)
 have hSW:2^s*2^(32-s)=4294967296:=by rw[←Nat.pow_add,show s+(32-s)=32 by omega]
 have hla:=eZ (b:=4294967296) (by decide) DV
 have e0:pW (bN b) []=some (VI ((n+2:Nat):Int)):=by rw[bN,BD,eX,hn]
 have w0:IntKind.i64.wrap (((n+2:Nat):Int)-1)=((n+1:Nat):Int):=wrapN _ (by omega) (by omega)
 have h1':¬(((n+2:Nat):Int)=1):=by omega
 have e1:bL 1 (bN b) (VI ((n+1:Nat):Int)) []=some (.dA (uV t) 0):=aK (f:=uV) (t := .op) (H:=[]) (size:=1) (k := .i64) ht rfl
 simp only[uP,qJ,c1,HD,e0,h1',w0,e1,cl,VX,Nat.reduceEqDiff,Nat.reduceAdd]
 have fa:[bN a,VI (s:Int)].mapM (fz depth ([]:aA))=some [bN a,VI (s:Int)]:=fz2 (aE (bU a)) (aE rfl)
 refine FC.call (zT a s hs ha) rfl fa ?_
 rintro r L ⟨Kd,rfl,rfl,hAl,hAd,hAv,hAt⟩
 simp only[VX,Nat.reduceEqDiff,Nat.reduceAdd]
 have fb:∀H:aA,[bN b,VI (s:Int)].mapM (fz depth H)=some [bN b,VI (s:Int)]:=fun H=>fz2 (aE (bU b)) (aE rfl)
 refine FC.call (zT b s hs vB) rfl (fb _) ?_
 rintro r L ⟨F2,rfl,rfl,hBl,hBd,hBv,hBt⟩
 rw[hn] at hBl
 simp only[hn,List.length_singleton,VX,Nat.reduceEqDiff,Nat.reduceAdd]
 have atJ:b*2^s<4294967296^(n+2):=by
  have h2:=(A5 (n:=n+1) (fW (b:=4294967296) (by decide) b) hn ht).2
  rw[cN (by decide)] at h2
  have h3:b*2^s<(t+1)*4294967296^(n+1)*2^s:=Nat.mul_lt_mul_of_pos_right h2 hS
  have h4:(t+1)*4294967296^(n+1)*2^s=(t+1)*2^s*4294967296^(n+1):=by grind
  have h5:(t+1)*2^s≤4294967296:=by
   have h6:t*2^s<2^(32-s)*2^s:=by rw[Nat.mul_comm (2^(32-s)),hSW];exact adH
   have h7:=Nat.lt_of_mul_lt_mul_right h6
   have h8:(t+1)*2^s≤2^(32-s)*2^s:=Nat.mul_le_mul_right _ h7
   rwa [Nat.mul_comm (2^(32-s)),hSW] at h8
  have h9:(t+1)*2^s*4294967296^(n+1)≤4294967296*4294967296^(n+1):=Nat.mul_le_mul_right _ h5
  have h10:4294967296*4294967296^(n+1)=4294967296^(n+2):=by rw[Nat.pow_succ 4294967296 (n+1)];exact Nat.mul_comm _ _
  omega
 have hVl:(aC 4294967296 (b*2^s)).length=n+2:=by
  have h2:=nL (b:=4294967296) (by decide) atJ
  have h3:b≤b*2^s:=Nat.le_mul_of_pos_right b hS
  have h4:=eZ (b:=4294967296) (by decide) h3
  omega
 refine tC (rows:=F2) (m:=b*2^s) (by rfl) (by omega) (by omega) (by omega) (fun d hd=>hBd d (List.mem_of_mem_take hd)) (by rw[List.take_of_length_le (by omega)];exact hBv) fun k hk he => ?_
 have hk2:k=n+2:=by
  have:=congrArg List.length he
  rw[hVl,List.length_take] at this
  omega
 subst hk2
 generalize SX:aC 4294967296 (b*2^s)=vs at *
 have IE:∀d∈vs,d<4294967296:=by rw[←SX];exact fW (by decide) _
 have Ps:val 4294967296 vs=b*2^s:=by rw[←SX];exact cN (by decide) _
 obtain⟨v1,f1⟩:∃v1,vs[n+1]? = some v1:=⟨_,List.getElem?_eq_getElem (by omega)⟩
 obtain⟨v0,f0⟩:∃v0,vs[n]? = some v0:=⟨_,List.getElem?_eq_getElem (by omega)⟩
 have hv1:1≤v1:=by
  obtain⟨d,hd,Eg,_⟩:=OP (a:=b*2^s) (n:=n+1) (by rw[SX];exact hVl)
  rw[SX,f1] at hd
  cases hd
  omega
 have b1:F2[n+1]? = some v1:=by rw[←f1,←he,List.getElem?_take_of_lt (by omega)]
 have b0:F2[n]? = some v0:=by rw[←f0,←he,List.getElem?_take_of_lt (by omega)]
 have lv1:=IE v1 (List.mem_of_getElem? f1)
 have lv0:=IE v0 (List.mem_of_getElem? f0)
 have x1:bL 1 (.ref 1 0 0 (n+2) (n+2+1)) (VI ((n+1:Nat):Int)) [.row 0 (Kd.map uV) 1 true,.row 0 (F2.map uV) 1 true]=some (.ptr 1 0 (n+1) 0):=by rw[bC (by rfl) (by omega),Nat.zero_add]
 have x0:bL 1 (.ref 1 0 0 (n+2) (n+2+1)) (VI ((n:Nat):Int)) [.row 0 (Kd.map uV) 1 true,.row 0 (F2.map uV) 1 true]=some (.ptr 1 0 n 0):=by rw[bC (by rfl) (by omega),Nat.zero_add]
 have y1:cC false 1 (.ptr 1 0 (n+1) 0) [.row 0 (Kd.map uV) 1 true,.row 0 (F2.map uV) 1 true]=some (uV v1):=jG (rows:=F2) (g:=0) (w:=true) (by rfl) b1
 have y0:cC false 1 (.ptr 1 0 n 0) [.row 0 (Kd.map uV) 1 true,.row 0 (F2.map uV) 1 true]=some (uV v0):=jG (rows:=F2) (g:=0) (w:=true) (by rfl) b0
 have z0:pW (.ref 1 0 0 (n+2) (n+2+1)) [.row 0 (Kd.map uV) 1 true,.row 0 (F2.map uV) 1 true]=some (VI ((n+2:Nat):Int)):=eR (r:=(F2.map uV,1,true)) (by rfl)
 have z1:pW (.ref 0 0 0 ((aC 4294967296 a).length+1) ((aC 4294967296 a).length+1)) [.row 0 (Kd.map uV) 1 true,.row 0 (F2.map uV) 1 true]=some (VI (((aC 4294967296 a).length+1:Nat):Int)):=eR (r:=(Kd.map uV,1,true)) (by rfl)
 have w2:IntKind.i64.wrap (((n+2:Nat):Int)-2)=((n:Nat):Int):=wrapN _ (by omega) (by omega)
 have wv1:IntKind.u64.wrap (v1:Int)=(v1:Int):=eU _ (by omega)
 have wv0:IntKind.u64.wrap (v0:Int)=(v0:Int):=eU _ (by omega)
 obtain⟨m,hm⟩:∃m,m+(n+2)=(aC 4294967296 a).length+1:=⟨(aC 4294967296 a).length+1-(n+2),by omega⟩
 have wm:IntKind.i64.wrap ((((aC 4294967296 a).length+1:Nat):Int)-((n+2:Nat):Int))=(m:Int):=wrapN _ (by omega) (by omega)
 have wm1:IntKind.i64.wrap ((m:Int)-1)=(m:Int)-1:=wrap64 (by omega) (by omega)
 have mk:=X3 m 0 (by omega) (H:=[.row 0 (Kd.map uV) 1 true,.row 0 (F2.map uV) 1 true])
 have z2:pW (.ref 2 0 0 m m) (H3 Kd F2 (List.replicate m 0))=some (VI m):=eR (r:=((List.replicate m 0).map uV,1,true)) (by rfl)
 simp only[w0,x1,x0,y1,y0,z0,z1,w2,wv1,wv0,wm,mk,z2,wm1,List.length_cons,List.length_nil,VX,Nat.reduceEqDiff,Nat.reduceAdd]
 have Dl:val 4294967296 (Kd.drop m)<val 4294967296 vs:=by
  obtain⟨d,hd⟩:∃d,Kd[(aC 4294967296 a).length]? = some d:=⟨_,List.getElem?_eq_getElem (by omega)⟩
  have h2:=(A5 (b:=4294967296) (xs:=Kd.drop m) (n:=n+1) (t:=d) (fun x hx=>hAd x (List.mem_of_mem_drop hx)) (by rw[List.length_drop];omega) (by rw[List.getElem?_drop,show m+(n+1)=(aC 4294967296 a).length by omega];exact hd)).2
  have h3:=hAt d hd
  have h4:=(A5 (n:=n+1) (fW (b:=4294967296) (by decide) b) hn ht).1
  rw[cN (by decide)] at h4
  have h5:(d+1)*4294967296^(n+1)≤2^s*4294967296^(n+1):=Nat.mul_le_mul_right _ h3
  have h6:1*4294967296^(n+1)≤t*4294967296^(n+1):=Nat.mul_le_mul_right _ (by omega)
  have h7:1*4294967296^(n+1)*2^s≤b*2^s:=Nat.mul_le_mul_right _ (by omega)
  rw[Ps]
  rw[Nat.one_mul,Nat.mul_comm] at h7
  omega
 refine agA (FZ:=Kd) (ws:=F2) (os0:=List.replicate m 0) (vs:=vs) (N:=(aC 4294967296 a).length+1) (m:=m) (n:=n) (A:=a*2^s) (s:=s) hAl hm (by omega) hAd he hBl hVl IE f1 f0 hv1 hAv Dl (by simp) (Bn (by decide) _) (by rfl) (by rfl) (by rfl) (by rfl) (by rfl) (by rfl) (by rfl) ?_
 intro yY us os r8 r9 r13 SY K0 jT mJ hv bH
 rw[Ps] at hv bH
 have hq:val 4294967296 os=a / b:=by
  rw[←Nat.mul_div_mul_right a b hS,←hv,Nat.add_mul_div_left _ _ (by omega),Nat.div_eq_of_lt bH,Nat.zero_add]
 have hr:val 4294967296 us=a % b*2^s:=by
  rw[←Nat.mul_mod_mul_right,←hv,Nat.add_mul_mod_self_left,Nat.mod_eq_of_lt bH]
 simp only[r9,VX,Nat.reduceEqDiff,Nat.reduceAdd]
 refine tC (rows:=us) (m:=a % b*2^s) DW (by omega) (Nat.le_refl _) (by omega) (fun d hd=>K0 d (List.mem_of_mem_take hd)) (by rw[List.take_of_length_le (by omega)];exact hr) fun k hk he2 => ?_
 have z3:pW (.ref 0 0 0 k ((aC 4294967296 a).length+1)) (H3 us F2 os)=some (VI k):=eR DW
 simp only[z3,VX,Nat.reduceEqDiff,Nat.reduceAdd]
 refine Zs (us:=us) (k:=k) (N:=(aC 4294967296 a).length+1) (s:=s) (w0:=2^(32-s)) hs hSW SY hk (by omega) K0 r8 (by rfl) (by rfl) (by rfl) ?_
 intro Rk Hi q9 q13 asA alE Sf
 have aCH:Rk 13 = .ref 2 0 0 m m:=q13.trans r13
 have EF:val 4294967296 (Hi.take k)=a % b:=by
  rw[Sf,he2,cN (by decide),Nat.mul_div_cancel _ hS]
 simp only[q9,aCH,VX,Nat.reduceEqDiff,Nat.reduceAdd]
 refine tC (rows:=os) (m:=a / b) alK (by omega) (Nat.le_refl _) (by omega) (fun d hd=>mJ d (List.mem_of_mem_take hd)) (by rw[List.take_of_length_le (by omega)];exact hq) fun k2 hk2 he3 => ?_
 simp only[q9,VX,Nat.reduceEqDiff,Nat.reduceAdd]
 refine tC (rows:=Hi) (m:=a % b) DW (by omega) hk (by omega) (fun d hd=>alE d (List.mem_of_mem_take hd)) EF fun k3 hk3 he4 => ?_
 simp only[VX,Nat.reduceEqDiff,Nat.reduceAdd]
 exact bR (d:=6) (Mw (d:=5) alK (by omega) hk2 he3) (Mw (d:=5) DW (by omega) (by omega) he4)
end Go.PM
namespace Go.PM
abbrev H2 (us os:List Nat):aA:=[.row 0 (us.map tV) 1 true,.row 0 (os.map tV) 1 true]
theorem Xr {us os:List Nat}:aJ (H2 us os) 0 0=some (us.map tV,1,true):=rfl
theorem avD {us os:List Nat}:aJ (H2 us os) 1 0=some (os.map tV,1,true):=rfl
theorem amL {P a Z:Nat} {y:Int} (h:(a:Int)+(P:Int)*y=(Z:Int)) (ha:a<P) (hZ:Z<P):y=0∧a=Z:=by
 have hy:y=0:=by
  rcases Int.lt_trichotomy y 0 with h1 | h1 | h1
  ·have:(P:Int)*y≤(P:Int)*(-1):=Int.mul_le_mul_of_nonneg_left (by omega) (by omega)
   omega
  ·exact h1
  ·have:(P:Int)*1≤(P:Int)*y:=Int.mul_le_mul_of_nonneg_left (by omega) (by omega)
   omega
 subst hy
 rw[Int.mul_zero] at h
 exact⟨rfl,by omega⟩
theorem Xe {us:List Nat} {i n N V:Nat} (hN:us.length=N) (cS:i+n<N) (hd:∀d∈us,d<1000000000) (hV:V<1000000000^n) (Dl:val 1000000000 (us.drop (i+1))<V) :
  us=us.take i++(us.drop i).take (n+1)++us.drop (i+(n+1))∧(us.take i).length=i∧((us.drop i).take (n+1)).length=n+1∧val 1000000000 ((us.drop i).take (n+1))<1000000000*V∧val 1000000000 (us.drop i)=val 1000000000 ((us.drop i).take (n+1))∧val 1000000000 (us.drop (i+(n+1)))=0∧∀j,j<n+1→((us.drop i).take (n+1))[j]? = us[i+j]? := by
 obtain⟨x,hx⟩:∃x,us[i]? = some x:=⟨_,List.getElem?_eq_getElem (by omega)⟩
 have lx:=hd x (List.mem_of_getElem? hx)
 have h1:=uE (b:=1000000000) hx
 have h2:val 1000000000 (us.drop i)<1000000000*V:=by
  have:1000000000*(val 1000000000 (us.drop (i+1))+1)≤1000000000*V:=Nat.mul_le_mul_left _ Dl
  omega
 have h3:=qM (b:=1000000000) (us.drop i) (n+1)
 have h4:((us.drop i).take (n+1)).length=n+1:=by rw[List.length_take,List.length_drop];omega
 rw[h4,List.drop_drop] at h3
 have h5:val 1000000000 (us.drop (i+(n+1)))=0:=by
  rcases Nat.eq_zero_or_pos (val 1000000000 (us.drop (i+(n+1)))) with h | h
  ·exact h
  ·have h6:1000000000^(n+1)*1≤1000000000^(n+1)*val 1000000000 (us.drop (i+(n+1))):=Nat.mul_le_mul_left _ h
   have h7:1000000000*V≤1000000000^(n+1):=by rw[Nat.pow_succ,Nat.mul_comm];exact Nat.mul_le_mul_right _ (by omega)
   omega
 rw[h5,Nat.mul_zero,Nat.add_zero] at h3
 refine⟨?_,by rw[List.length_take];omega,h4,by omega,h3,h5,fun j hj => ?_⟩
 ·rw[List.append_assoc,←List.drop_drop,List.take_append_drop,List.take_append_drop]
 ·rw[List.getElem?_take_of_lt hj,List.getElem?_drop]
theorem leT {g:Nat} (h:(1000000000:Int)≤(g:Int)):1000000000≤g:=by omega
theorem agI {g:Nat} (h:¬(1000000000:Int)≤(g:Int)):g<1000000000:=by omega
theorem ltC {a b:Nat} (h:(a:Int)<(b:Int)):a<b:=by omega
theorem aBo {a b:Nat} (h:¬(a:Int)<(b:Int)):b≤a:=by omega
theorem P9 {a:Nat} (h:a*1000000000≤9223372036854775807):IntKind.i64.wrap ((a:Int)*1000000000)=((a*1000000000:Nat):Int):=wrapN _ (by omega) h
theorem Rc {a b:Nat} (h:a+b≤9223372036854775807):IntKind.i64.wrap ((a:Int)+(b:Int))=((a+b:Nat):Int):=wrapN _ (by omega) h
theorem ZB {a b:Nat} (h:a*b≤9223372036854775807):IntKind.i64.wrap ((a:Int)*(b:Int))=((a*b:Nat):Int):=wrapN _ (by simp) h
theorem x17 {a:Nat} (h:a<1000000000):a*1000000000≤9223372036854775807:=by omega
theorem x18 {a b:Nat} (h:a<1000000000) (hb:b<1000000000):a*1000000000+b≤1000000000000000000:=by omega
theorem UM {iV vs us os:List Nat} {n u2 u1 u0 v1 v0 N i g left:Nat} (G:xY 1000000000 iV vs n u2 u1 u0 v1 v0) {ρ:dU} {Q:VQ} (hN:us.length=N) (hiN:i+(n+2)<N) (EB:N≤70368744177664) (hu0:us[i+n]? = some u0)
  (g13:ρ 13 = .ref 0 0 0 N N) (g14:ρ 14=iT vs) (g15:ρ 15=VI ((n+2:Nat):Int)) (g17:ρ 17=VI i) (g19:ρ 19=VI g) (g20:ρ 20=VI left) (hh:u2*1000000000+u1=g*v1+left) (hq:val 1000000000 iV / val 1000000000 vs≤g) (hl:left<1000000000) (hgb:g≤1000000000000000000)
  (hQ:∀(bI:dU) (g':Nat),val 1000000000 iV / val 1000000000 vs≤g'→g'≤val 1000000000 iV / val 1000000000 vs+1→g'<1000000000→bI 19=VI g'→bI 12=ρ 12→bI 13=ρ 13→bI 14=ρ 14→bI 15=ρ 15→bI 16=ρ 16→bI 17=ρ 17→Q (.exit 2) bI (H2 us os)) :
  VW ⟨true,false⟩ 0 (.loop gX) Q ρ (H2 us os):=by
 have lv1:=G.YO
 have lv0:=G.acX
 have lu0:=G.aoA
 have qlt:=G.alF
 have mC:=G.pos
 have Gj:=G.MU
 refine aV (fun(t:Nat×Nat) bI H=>H=H2 us os∧u2*1000000000+u1=t.1*v1+t.2∧val 1000000000 iV / val 1000000000 vs≤t.1∧t.2<1000000000∧t.1≤1000000000000000000 ∧
  bI 13 = .ref 0 0 0 N N∧bI 14=iT vs∧bI 15=VI ((n+2:Nat):Int)∧bI 17=VI i∧bI 19=VI t.1∧bI 20=VI t.2∧bI 12=ρ 12∧bI 16=ρ 16) (fun t=>1000000000-t.2) (g,left) ⟨rfl,hh,hq,hl,hgb,g13,g14,g15,g17,g19,g20,rfl,rfl⟩ ?_
 rintro⟨g,left⟩ Rk H ⟨rfl,hh,hq,hl,hgb,Cq,DX,MD,JZ,k19,k20,J6,k16⟩
 simp only at hh hq hl hgb k19 k20
 have f1:bL 1 (iT vs) (VI ((n+1:Nat):Int)) (H2 us os)=some (.dA (tV v1) 0):=aK (f:=tV) (t := .op) (size:=1) (k := .i64) G.f1 rfl
 have f0:bL 1 (iT vs) (VI (n:Int)) (H2 us os)=some (.dA (tV v0) 0):=aK (f:=tV) (t := .op) (size:=1) (k := .i64) G.f0 rfl
 have wn2:IntKind.i64.wrap (((n+2:Nat):Int)-2)=(n:Int):=wrapN _ (by omega) (by omega)
 have wn1:IntKind.i64.wrap (((n+2:Nat):Int)-1)=((n+1:Nat):Int):=wrapN _ (by omega) (by omega)
 have wi:IntKind.i64.wrap ((i:Int)+((n+2:Nat):Int))=((i+(n+2):Nat):Int):=wrapN _ (by omega) (by omega)
 have wi2:IntKind.i64.wrap (((i+(n+2):Nat):Int)-2)=((i+n:Nat):Int):=wrapN _ (by omega) (by omega)
 have e1:bL 1 (.ref 0 0 0 N N) (VI ((i+n:Nat):Int)) (H2 us os)=some (.ptr 0 0 (i+n) 0):=by rw[bC Xr (by omega),Nat.zero_add]
 have e2:cC false 1 (.ptr 0 0 (i+n) 0) (H2 us os)=some (VI (u0:Int)):=NI Xr hu0
 have wl:IntKind.i64.wrap ((left:Int)+(v1:Int))=((left+v1:Nat):Int):=wrapN _ (by omega) (by omega)
 have down:val 1000000000 iV / val 1000000000 vs<g→∃g',g=g'+1∧IntKind.i64.wrap ((g:Int)-1)=(g':Int)∧u2*1000000000+u1=g'*v1+(left+v1)∧val 1000000000 iV / val 1000000000 vs≤g':=by
  intro h
  have hg1:1≤g:=Nat.lt_of_le_of_lt (Nat.zero_le _) h
  obtain⟨g',rfl⟩:∃g',g=g'+1:=⟨g-1,by omega⟩
  refine⟨g',rfl,wrapN _ (by omega) (by omega),?_,by omega⟩
  rw[hh,Nat.add_mul]
  omega
 have hmu:∀g':Nat,left+v1<1000000000→1000000000-(g',left+v1).2<1000000000-(g,left).2:=fun g' h=>by
  show 1000000000-(left+v1)<1000000000-left
  omega
 have hle:∀g':Nat,g=g'+1→g'≤1000000000000000000:=fun g' h=>by
  omega
 have aAQ:left*1000000000+u0≤9223372036854775807:=Nat.le_trans (x18 hl lu0) (by decide)
 have aCm:left*1000000000≤9223372036854775807:=x17 hl
 have ws:IntKind.i64.wrap ((left:Int)*1000000000)=((left*1000000000:Nat):Int):=P9 aCm
 have wa:IntKind.i64.wrap (((left*1000000000:Nat):Int)+(u0:Int))=((left*1000000000+u0:Nat):Int):=Rc aAQ
 obtain⟨s13,s14,s15,s17⟩:Rk 13=ρ 13∧Rk 14=ρ 14∧Rk 15=ρ 15∧Rk 17=ρ 17:=⟨by rw[Cq,g13],by rw[DX,g14],by rw[MD,g15],by rw[JZ,g17]⟩
 by_cases hA:(1000000000:Int)≤(g:Int)
 ·have hA':=leT hA
  obtain⟨g',hg',wg,Xj,Pf⟩:=down (Nat.lt_of_lt_of_le qlt hA')
  by_cases hB:(1000000000:Int)≤((left+v1:Nat):Int)
  ·obtain⟨c1,c2⟩:=G.broken Xj (leT hB)
   simp only[gX,Cq,DX,MD,JZ,k19,k20,hA,hB,f1,wn1,wg,wl,VX,Nat.reduceEqDiff,Nat.reduceAdd]
   exact hQ _ g' Pf (G.Z4 Xj (Nat.le_of_lt c1) c2) c1 rfl J6 s13 s14 s15 k16 s17
  ·simp only[gX,Cq,DX,MD,JZ,k19,k20,hA,hB,f1,wn1,wg,wl,VX,Nat.reduceEqDiff,Nat.reduceAdd]
   refine⟨(g',left+v1),hmu g' (agI hB),Xj,Pf,agI hB,hle g' hg',?_⟩
   exact⟨rfl,rfl,J6,k16⟩
 ·have hA':=agI hA
  have hgv:g*v0≤999999999*999999999:=Nat.mul_le_mul (Nat.le_of_lt_succ hA') (Nat.le_of_lt_succ lv0)
  have wm:IntKind.i64.wrap ((g:Int)*(v0:Int))=((g*v0:Nat):Int):=ZB (Nat.le_trans hgv (by decide))
  by_cases hT:((left*1000000000+u0:Nat):Int)<((g*v0:Nat):Int)
  ·obtain⟨g',hg',wg,Xj,Pf⟩:=down (G.too hh (ltC hT))
   by_cases hB:(1000000000:Int)≤((left+v1:Nat):Int)
   ·obtain⟨c1,c2⟩:=G.broken Xj (leT hB)
    simp only[gX,Cq,DX,MD,JZ,k19,k20,hA,hB,hT,f1,f0,e1,e2,wn1,wn2,wi,wi2,ws,wa,wm,wg,wl,VX,Nat.reduceEqDiff,Nat.reduceAdd]
    exact hQ _ g' Pf (G.Z4 Xj (Nat.le_of_lt c1) c2) c1 rfl J6 s13 s14 s15 k16 s17
   ·simp only[gX,Cq,DX,MD,JZ,k19,k20,hA,hB,hT,f1,f0,e1,e2,wn1,wn2,wi,wi2,ws,wa,wm,wg,wl,VX,Nat.reduceEqDiff,Nat.reduceAdd]
    refine⟨(g',left+v1),hmu g' (agI hB),Xj,Pf,agI hB,hle g' hg',?_⟩
    exact⟨rfl,rfl,J6,k16⟩
  ·simp only[gX,Cq,DX,MD,JZ,k19,k20,hA,hT,f0,e1,e2,wn2,wi,wi2,ws,wa,wm,VX,Nat.reduceEqDiff,Nat.reduceAdd]
   exact hQ _ g hq (G.Z4 hh (Nat.le_of_lt hA') (aBo hT)) hA' k19 J6 s13 s14 s15 k16 s17
theorem Qr {FZ os0 vs:List Nat} {N m n v1 v0 A s:Nat} {ρ:dU} {Q:VQ} (hN:FZ.length=N) (hm:m+(n+2)=N) (EB:N≤70368744177664) (K0:∀d∈FZ,d<1000000000) (Gj:vs.length=n+2) (IE:∀d∈vs,d<1000000000) (f1:vs[n+1]? = some v1) (f0:vs[n]? = some v0) (mC:1≤v1)
  (hA:val 1000000000 FZ=A) (Dl:val 1000000000 (FZ.drop m)<val 1000000000 vs) (jT:os0.length=m) (mJ:∀d∈os0,d<1000000000)
  (g12:ρ 12=VI s) (g13:ρ 13 = .ref 0 0 0 N N) (g14:ρ 14=iT vs) (g15:ρ 15=VI ((n+2:Nat):Int)) (g16:ρ 16 = .ref 1 0 0 m m) (g17:ρ 17=VI ((m:Int)-1))
  (hQ:∀(bI:dU) (us os:List Nat),bI 12=VI s→bI 13 = .ref 0 0 0 N N→bI 16 = .ref 1 0 0 m m→us.length=N→(∀d∈us,d<1000000000)→os.length=m→(∀d∈os,d<1000000000)→val 1000000000 us+val 1000000000 vs*val 1000000000 os=A→val 1000000000 us<val 1000000000 vs→Q (.exit 0) bI (H2 us os)) :
  VW ⟨true,false⟩ 0 (.loop jH) Q ρ (H2 FZ os0):=by
 have hVb:=pL IE
 rw[Gj] at hVb
 refine aV (fun(t:Nat×List Nat×List Nat) bI H=>t.1≤m∧H=H2 t.2.1 t.2.2∧t.2.1.length=N∧(∀d∈t.2.1,d<1000000000)∧t.2.2.length=m∧(∀d∈t.2.2,d<1000000000)∧val 1000000000 (t.2.1.drop t.1)<val 1000000000 vs∧val 1000000000 t.2.1+1000000000^t.1*val 1000000000 vs*val 1000000000 (t.2.2.drop t.1)=A ∧
  bI 12=VI s∧bI 13 = .ref 0 0 0 N N∧bI 14=iT vs∧bI 15=VI ((n+2:Nat):Int)∧bI 16 = .ref 1 0 0 m m∧bI 17=VI ((t.1:Int)-1)) (fun t=>t.1) (m,FZ,os0) ⟨Nat.le_refl _,rfl,hN,K0,jT,mJ,Dl,by rw[List.drop_of_length_le (by simp only;omega)];simpa[val] using hA,g12,g13,g14,g15,g16,g17⟩ ?_
 rintro⟨j,us,os⟩ Rk H ⟨hj,rfl,SY,K0,jT,mJ,bH,hv,J6,Cq,DX,MD,k16,JZ⟩
 simp only at hj SY K0 jT mJ bH hv JZ
 by_cases hz:(0:Int)≤(j:Int)-1
 ·obtain⟨i,rfl⟩:∃i,j=i+1:=⟨j-1,by omega⟩
  have FU:((i+1:Nat):Int)-1=(i:Int):=by omega
  rw[FU] at JZ hz
  obtain⟨Wf,AK,Rp,hsW,ajD,aiB,tF⟩:=Xe (n:=n+2) SY (by omega) K0 hVb bH
  generalize Zo:(us.drop i).take (n+2+1)=iV at *
  have R9:∀d∈iV,d<1000000000:=fun d hd=>by rw[←Zo] at hd;exact K0 d (List.mem_of_mem_drop (List.mem_of_mem_take hd))
  obtain⟨u2,hu2⟩:∃u2,us[i+(n+2)]? = some u2:=⟨_,List.getElem?_eq_getElem (by omega)⟩
  obtain⟨u1,hu1⟩:∃u1,us[i+(n+1)]? = some u1:=⟨_,List.getElem?_eq_getElem (by omega)⟩
  obtain⟨u0,hu0⟩:∃u0,us[i+n]? = some u0:=⟨_,List.getElem?_eq_getElem (by omega)⟩
  have G:xY 1000000000 iV vs n u2 u1 u0 v1 v0:=⟨by decide,R9,IE,Rp,Gj,by rw[tF _ (by omega)];exact hu2,by rw[tF _ (by omega)];exact hu1,by rw[tF _ (by omega)];exact hu0,f1,f0,mC,hsW⟩
  have lu2:=G.apG
  have lu1:=G.ajE
  have lv1:=G.YO
  have qlt:=G.alF
  have Kw:=G.Kw
  have w1:IntKind.i64.wrap ((i:Int)+((n+2:Nat):Int))=((i+(n+2):Nat):Int):=wrapN _ (by omega) (by omega)
  have w2:IntKind.i64.wrap (((i+(n+2):Nat):Int)-1)=((i+(n+1):Nat):Int):=wrapN _ (by omega) (by omega)
  have wn1:IntKind.i64.wrap (((n+2:Nat):Int)-1)=((n+1:Nat):Int):=wrapN _ (by omega) (by omega)
  have ev1:bL 1 (iT vs) (VI ((n+1:Nat):Int)) (H2 us os)=some (.dA (tV v1) 0):=aK (f:=tV) (t := .op) (size:=1) (k := .i64) f1 rfl
  have e2:bL 1 (.ref 0 0 0 N N) (VI ((i+(n+2):Nat):Int)) (H2 us os)=some (.ptr 0 0 (i+(n+2)) 0):=by rw[bC Xr (by omega),Nat.zero_add]
  have e1:bL 1 (.ref 0 0 0 N N) (VI ((i+(n+1):Nat):Int)) (H2 us os)=some (.ptr 0 0 (i+(n+1)) 0):=by rw[bC Xr (by omega),Nat.zero_add]
  have l2:cC false 1 (.ptr 0 0 (i+(n+2)) 0) (H2 us os)=some (VI (u2:Int)):=NI Xr hu2
  have l1:cC false 1 (.ptr 0 0 (i+(n+1)) 0) (H2 us os)=some (VI (u1:Int)):=NI Xr hu1
  have aCE:u2*1000000000+u1≤1000000000000000000:=x18 lu2 lu1
  have aCj:u2*1000000000≤9223372036854775807:=x17 lu2
  have awX:u2*1000000000+u1≤9223372036854775807:=Nat.le_trans aCE (by decide)
  have ws2:IntKind.i64.wrap ((u2:Int)*1000000000)=((u2*1000000000:Nat):Int):=P9 aCj
  have wa:IntKind.i64.wrap (((u2*1000000000:Nat):Int)+(u1:Int))=((u2*1000000000+u1:Nat):Int):=Rc awX
  have q1:=ML (u2*1000000000+u1) v1 awX mC
  have q2:=NZ (u2*1000000000+u1) v1 mC
  simp only[jH,J6,Cq,DX,MD,k16,JZ,hz,w1,w2,wn1,ev1,e1,e2,l1,l2,ws2,wa,q1,q2,VX,Nat.reduceEqDiff,Nat.reduceAdd]
  clear ws2 wa q1 q2 e1 e2 l1 l2 ev1 w1 w2 wn1
  have hh:=Nat.mod_add_div (u2*1000000000+u1) v1
  have hml:=Nat.mod_lt (u2*1000000000+u1) mC
  have hdl:(u2*1000000000+u1) / v1≤u2*1000000000+u1:=Nat.div_le_self _ _
  have SW:val 1000000000 iV / val 1000000000 vs≤(u2*1000000000+u1) / v1:=by
   have t1:=(D3 (n:=n+1) (xs:=iV) R9 (by omega) (by rw[tF _ (by omega)];exact hu2) (by rw[tF _ (by omega)];exact hu1)).2
   have t2:=(A5 (n:=n+1) IE Gj f1).1
   rw[Nat.le_div_iff_mul_le mC]
   have t3:val 1000000000 iV / val 1000000000 vs*(v1*1000000000^(n+1))≤val 1000000000 iV / val 1000000000 vs*val 1000000000 vs:=Nat.mul_le_mul_left _ t2
   have t4:=Nat.div_mul_le_self (val 1000000000 iV) (val 1000000000 vs)
   have t5:val 1000000000 iV / val 1000000000 vs*v1*1000000000^(n+1)<(u2*1000000000+u1+1)*1000000000^(n+1):=by rw[Nat.mul_assoc];omega
   have:=Nat.lt_of_mul_lt_mul_right t5
   omega
  generalize hQ1:(u2*1000000000+u1) / v1=g0 at *
  generalize hQ2:(u2*1000000000+u1) % v1=l0 at *
  refine UM (i:=i) G SY (by omega) EB hu0 Cq DX MD JZ (by rfl) (by rfl) (by rw[Nat.mul_comm g0];omega) SW (by omega) (by omega) ?_
  intro We g' hq Pf hgW r19 r12 r13 r14 r15 r16 r17
  have Ti:We 12=VI s:=r12.trans J6
  have Vf:We 13 = .ref 0 0 0 N N:=r13.trans Cq
  have UT:We 14=iT vs:=r14.trans DX
  have Tp:We 15=VI ((n+2:Nat):Int):=r15.trans MD
  have alO:We 16 = .ref 1 0 0 m m:=r16.trans k16
  have anA:We 17=VI i:=r17.trans JZ
  simp only[Ti,Vf,UT,Tp,alO,anA,r19,VX,Nat.reduceEqDiff,Nat.reduceAdd]
  have sJ:g'*val 1000000000 vs≤val 1000000000 iV+val 1000000000 vs:=by
   have:=Nat.mul_le_mul_right (val 1000000000 vs) Pf
   rw[Nat.add_mul,Nat.one_mul] at this
   have:=Nat.div_mul_le_self (val 1000000000 iV) (val 1000000000 vs)
   omega
  obtain⟨low,atG⟩:∃low,low=iV.take (n+2):=⟨_,rfl⟩
  have hll:low.length=n+2:=by rw[atG,List.length_take];omega
  have hld:∀d∈low,d<1000000000:=fun d hd=>R9 d (by rw[atG] at hd;exact List.mem_of_mem_take hd)
  have hsg:iV=low++[u2]:=by
   have h1:iV[n+2]? = some u2:=by rw[tF _ (by omega)];exact hu2
   have h2:=List.take_append_drop (n+2) iV
   have h3:=(List.getElem?_eq_some_iff.1 h1)
   rw[List.drop_eq_getElem_cons h3.1,h3.2,List.drop_of_length_le (by omega),←atG] at h2
   exact h2.symm
  have SX:val 1000000000 iV=val 1000000000 low+1000000000^(n+2)*u2:=by rw[hsg,tT,hll]
  have lF:∀(lw:List Nat) (t:Nat),(us.take i).map tV++lw.map tV++VI (t:Int)::(us.drop (i+(n+2+1))).map tV=(us.take i++(lw++[t])++us.drop (i+(n+2+1))).map tV:=fun lw t=>by simp
  have DR:aJ (H2 us os) 0 0=some ((us.take i).map tV++low.map tV++VI (u2:Int)::(us.drop (i+(n+2+1))).map tV,1,true):=by
   rw[lF,←hsg,←Wf]
   rfl
  refine fS rfl ((Zh (o:=i) (n:=n+2) DR (Nat.zero_le _) (by simpa using AK) hll Gj (by omega) EB hld IE hgW lu2).mono ?_)
  rintro r H' ⟨BZ,c,rfl,Cp,hd',hc,hr,hE⟩
  have aDm:val 1000000000 low<1000000000^(n+2):=by have:=pL hld;rwa [hll] at this
  have aAU:val 1000000000 BZ<1000000000^(n+2):=by have:=pL hd';rwa [Cp] at this
  have rows:∀(lw:List Nat) (t q:Nat),lw.length=n+2→(∀d∈lw,d<1000000000)→t<1000000000→q=val 1000000000 iV / val 1000000000 vs→val 1000000000 lw+1000000000^(n+2)*t=val 1000000000 iV % val 1000000000 vs →
    ((us.take i++(lw++[t])++us.drop (i+(n+2+1))).length=N∧(∀d∈us.take i++(lw++[t])++us.drop (i+(n+2+1)),d<1000000000)∧val 1000000000 ((us.take i++(lw++[t])++us.drop (i+(n+2+1))).drop i)<val 1000000000 vs∧val 1000000000 (us.take i++(lw++[t])++us.drop (i+(n+2+1)))+1000000000^i*val 1000000000 vs*val 1000000000 ((os.set i q).drop i)=A):=by
   intro lw t q hlw aBQ ht VE hse
   have aoJ:val 1000000000 (lw++[t])=val 1000000000 iV % val 1000000000 vs:=by rw[tT,hlw];exact hse
   have aAO:(lw++[t]).length=n+3:=by rw[List.length_append,hlw];rfl
   have aBy:∀d∈lw++[t],d<1000000000:=fun d hd=>by
    rcases List.mem_append.1 hd with h | h
    ·exact aBQ d h
    ·rw[List.mem_singleton.1 h];exact ht
   generalize lw++[t]=sI at *
   have anC:=Nat.mod_lt (val 1000000000 iV) Kw
   have Xo:(us.take i++sI++us.drop (i+(n+2+1))).drop i=sI++us.drop (i+(n+2+1)):=by rw[List.append_assoc,List.drop_append,List.drop_of_length_le (by omega),AK];simp
   have W1:(us.take i++sI++us.drop (i+(n+2+1))).take i=us.take i:=by rw[List.append_assoc,List.take_append_of_le_length (by omega),List.take_of_length_le (by omega)]
   have Vw:val 1000000000 ((us.take i++sI++us.drop (i+(n+2+1))).drop i)=val 1000000000 sI:=by rw[Xo,zG,aiB,Nat.mul_zero,Nat.add_zero]
   refine⟨by rw[List.length_append,List.length_append,AK,aAO,List.length_drop];omega,fun d hd => ?_,by rw[Vw,aoJ];exact anC,?_⟩
   ·rw[List.mem_append,List.mem_append] at hd
    rcases hd with(hd | hd) | hd
    ·exact K0 d (List.mem_of_mem_take hd)
    ·exact aBy d hd
    ·exact K0 d (List.mem_of_mem_drop hd)
   ·have h1:=Nat.div_add_mod (val 1000000000 iV) (val 1000000000 vs)
    rw[←VE,←aoJ,Nat.mul_comm] at h1
    have h2:=qM (b:=1000000000) us i
    have h3:=qM (b:=1000000000) (us.take i++sI++us.drop (i+(n+2+1))) i
    rw[W1,AK,Vw] at h3
    rw[AK,ajD] at h2
    rw[set_drop (by omega),uU,h3]
    rw[h2,Nat.pow_succ] at hv
    exact O0 h1.symm hv
  have e3:∀(Hi:List Nat) (d:Nat),bL 1 (.ref 1 0 0 m m) (VI i) (H2 Hi os)=some (.ptr 1 0 i 0)∧bQ 0 1 (.ptr 1 0 i 0) (VI (d:Int)) (H2 Hi os)=some (H2 Hi (os.set i d)):=fun Hi d=>by
   refine⟨by rw[bC avD (by omega),Nat.zero_add],?_⟩
   rw[show VI (d:Int)=tV d from rfl,eV (f:=tV) (e:=1) avD (by omega) (Nat.zero_le _) rfl rfl]
   rfl
  have wi:IntKind.i64.wrap ((i:Int)-1)=(i:Int)-1:=wrap64 (by omega) (by omega)
  have hdm:=Nat.div_add_mod (val 1000000000 iV) (val 1000000000 vs)
  have anC:=Nat.mod_lt (val 1000000000 iV) Kw
  generalize hPP:1000000000^(n+2)=P at *
  by_cases lM:(u2:Int)-(c:Int)<0
  ·
   rw[decide_eq_true lM] at hr
   subst hr
   have hgt:val 1000000000 iV<g'*val 1000000000 vs:=by
    have h1:P*(u2+1)≤P*c:=Nat.mul_le_mul_left _ (by omega)
    rw[Nat.mul_add,Nat.mul_one] at h1
    omega
   have VE:g'=val 1000000000 iV / val 1000000000 vs+1:=by
    rcases Nat.lt_or_ge (val 1000000000 iV / val 1000000000 vs) g' with h | h
    ·omega
    ·have h1:g'*val 1000000000 vs≤val 1000000000 iV / val 1000000000 vs*val 1000000000 vs:=Nat.mul_le_mul_right _ h
     have:=Nat.div_mul_le_self (val 1000000000 iV) (val 1000000000 vs)
     omega
   have hg1:1≤g':=by rw[VE];exact Nat.le_add_left 1 _
   have wg:IntKind.i64.wrap ((g':Int)-1)=((g'-1:Nat):Int):=wrapN _ (by omega) (by omega)
   simp only[Ti,Vf,UT,Tp,alO,anA,r19,wg,VX,Nat.reduceEqDiff,Nat.reduceAdd]
   have HC:aJ ((H2 us os).set 0 (.row 0 ((us.take i).map tV++BZ.map tV++VI ((u2:Int)-(c:Int))::(us.drop (i+(n+2+1))).map tV) 1 true)) 0 0=some ((us.take i).map tV++BZ.map tV++VI ((u2:Int)-(c:Int))::(us.drop (i+(n+2+1))).map tV,1,true):=rfl
   refine fS rfl ((aaV (o:=i) (n:=n+2) HC (Nat.zero_le _) (by simpa using AK) Cp Gj (by omega) EB hd' IE (by omega) (by omega)).mono ?_)
   rintro r H' ⟨WR,c2,rfl,Hz,hd2,hc2,hE2⟩
   rw[hPP] at hE2
   have atB:val 1000000000 WR<P:=by have:=pL hd2;rwa [Hz,hPP] at this
   obtain⟨hy,hZ⟩:(u2:Int)-(c:Int)+(c2:Int)=0∧val 1000000000 WR=val 1000000000 iV % val 1000000000 vs:=by
    refine amL (P:=P) ?_ atB (by omega)
    have i1:(P:Int)*((u2:Int)-(c:Int)+(c2:Int))=(P:Int)*u2-(P:Int)*c+(P:Int)*c2:=by rw[Int.mul_add,Int.mul_sub]
    have i2:((P*u2:Nat):Int)=(P:Int)*u2:=by simp
    have i3:((P*c:Nat):Int)=(P:Int)*c:=by simp
    have i4:((P*c2:Nat):Int)=(P:Int)*c2:=by simp
    rw[i1,←i2,←i3,←i4]
    have i5:g'*val 1000000000 vs=val 1000000000 vs*(val 1000000000 iV / val 1000000000 vs)+val 1000000000 vs:=by rw[VE,Nat.add_mul,Nat.one_mul,Nat.mul_comm (val 1000000000 vs)]
    omega
   have Jt:((H2 us os).set 0 (.row 0 ((us.take i).map tV++BZ.map tV++VI ((u2:Int)-(c:Int))::(us.drop (i+(n+2+1))).map tV) 1 true)).set 0 (.row 0 ((us.take i).map tV++WR.map tV++VI ((u2:Int)-(c:Int)+(c2:Int))::(us.drop (i+(n+2+1))).map tV) 1 true)=H2 (us.take i++(WR++[0])++us.drop (i+(n+2+1))) os:=by
    rw[hy]
    rw[show (0:Int)=((0:Nat):Int) from rfl,lF]
    rfl
   rw[Jt]
   obtain⟨x1,x2⟩:=e3 (us.take i++(WR++[0])++us.drop (i+(n+2+1))) (g'-1)
   obtain⟨y1,y2,y3,y4⟩:=rows WR 0 (g'-1) Hz hd2 (by decide) (by rw[VE,Nat.add_sub_cancel]) (by rw[Nat.mul_zero,Nat.add_zero];exact hZ)
   simp only[Ti,Vf,UT,Tp,alO,anA,x1,x2,wi,VX,Nat.reduceEqDiff,Nat.reduceAdd]
   refine⟨(i,us.take i++(WR++[0])++us.drop (i+(n+2+1)),os.set i (g'-1)),by simp only;omega,by omega,rfl,y1,y2,by rw[List.length_set];exact jT,mU mJ (by omega),y3,y4,?_⟩
   try (repeat' apply And.intro)<;>first | rfl | trivial
  ·rw[decide_eq_false lM] at hr
   subst hr
   obtain⟨t',ht'⟩:∃t':Nat,(u2:Int)-(c:Int)=(t':Int):=⟨u2-c,by omega⟩
   have hP1:P*u2=P*c+P*t':=by rw[←Nat.mul_add];congr 1;omega
   have DV:g'*val 1000000000 vs≤val 1000000000 iV:=by omega
   have VE:g'=val 1000000000 iV / val 1000000000 vs:=by
    have:=(Nat.le_div_iff_mul_le Kw).2 DV
    omega
   have Jt:(H2 us os).set 0 (.row 0 ((us.take i).map tV++BZ.map tV++VI ((u2:Int)-(c:Int))::(us.drop (i+(n+2+1))).map tV) 1 true)=H2 (us.take i++(BZ++[t'])++us.drop (i+(n+2+1))) os:=by
    rw[ht',lF]
    rfl
   rw[Jt]
   obtain⟨x1,x2⟩:=e3 (us.take i++(BZ++[t'])++us.drop (i+(n+2+1))) g'
   have hse:val 1000000000 BZ+P*t'=val 1000000000 iV % val 1000000000 vs:=by
    rw[←VE,Nat.mul_comm] at hdm
    omega
   obtain⟨y1,y2,y3,y4⟩:=rows BZ t' g' Cp hd' (by omega) VE hse
   simp only[Ti,Vf,UT,Tp,alO,anA,r19,x1,x2,wi,VX,Nat.reduceEqDiff,Nat.reduceAdd]
   refine⟨(i,us.take i++(BZ++[t'])++us.drop (i+(n+2+1)),os.set i g'),by simp only;omega,by omega,rfl,y1,y2,by rw[List.length_set];exact jT,mU mJ (by omega),y3,y4,?_⟩
   try (repeat' apply And.intro)<;>first | rfl | trivial
 ·have Xc:j=0:=by omega
  subst Xc
  rw[Nat.pow_zero,Nat.one_mul,List.drop_zero] at hv
  rw[List.drop_zero] at bH
  simp only[jH,J6,Cq,DX,MD,k16,JZ,hz,VX,Nat.reduceEqDiff,Nat.reduceAdd]
  exact hQ _ us os J6 Cq k16 SY K0 jT mJ hv bH
end Go.PM
namespace Go.PM
def bl (n:Nat):Nat:=(aC 2 n).length
theorem QR (n:Nat):n<2^bl n:=iD (by decide) n
theorem Jk {n k:Nat} (h:n<2^k):bl n≤k:=nL (by decide) h
theorem lE {m n:Nat} (h:m≤n):bl m≤bl n:=eZ (by decide) h
theorem lL (m n:Nat):bl (m*n)≤bl m+bl n:=by
 refine Jk ?_
 rw[Nat.pow_add]
 exact Nat.mul_lt_mul'' (QR m) (QR n)
theorem IQ {n k:Nat} (h:bl n≤k):n<2^k:=Nat.lt_of_lt_of_le (QR n) (Nat.pow_le_pow_right (by decide) h)
theorem VN {m n k:Nat} (hm:bl m≤k) (hn:bl n≤k):bl (m+n)≤k+1:=by
 refine Jk ?_
 have h1:=IQ hm
 have h2:=IQ hn
 rw[Nat.pow_succ]
 omega
theorem Yd:bl 0=0:=by simp[bl,cF]
theorem Nu:bl 1=1:=by simp[bl,jV (b:=2) (by decide) (n:=1) (by decide),cF]
theorem aeI {n:Nat} (h:n≠0):1≤bl n:=by
 have:=lE (m:=1) (n:=n) (by omega)
 rwa [Nu] at this
theorem apE (n:Nat):32*(aC 4294967296 n).length≤bl n+31:=by
 by_cases h:n=0
 ·subst h;rw[cF];simp
 ·have h1:=MA (b:=4294967296) (by decide) h
  have h2:=QR n
  have e:(4294967296:Nat)=2^32:=by decide
  rw[e] at h1 ⊢
  rw[←Nat.pow_mul] at h1
  have h3:2^(32*((aC (2^32) n).length-1))<2^bl n:=by omega
  have h4:=(Nat.pow_lt_pow_iff_right (by decide)).1 h3
  omega
theorem aoL (n:Nat):29*(aC 1000000000 n).length≤bl n+28:=by
 by_cases h:n=0
 ·subst h;rw[cF];simp
 ·have h1:=MA (b:=1000000000) (by decide) h
  have h2:=QR n
  have h5:(2^29)^((aC 1000000000 n).length-1)≤1000000000^((aC 1000000000 n).length-1):=Nat.pow_le_pow_left (by decide) _
  rw[←Nat.pow_mul] at h5
  have h3:2^(29*((aC 1000000000 n).length-1))<2^bl n:=by omega
  have h4:=(Nat.pow_lt_pow_iff_right (by decide)).1 h3
  omega
def aZ (q:Rat):Nat:=max (bl q.num.natAbs) (bl q.den)
theorem oK {q:Rat}:bl q.num.natAbs≤aZ q:=Nat.le_max_left _ _
theorem mP {q:Rat}:bl q.den≤aZ q:=Nat.le_max_right _ _
theorem Ri {q:Rat}:1≤aZ q:=Nat.le_trans (aeI q.den_nz) mP
theorem TM {q:Rat} {k:Nat} (h1:bl q.num.natAbs≤k) (h2:bl q.den≤k):aZ q≤k:=Nat.max_le.2 ⟨h1,h2⟩
theorem Jl {n:Int} {d k:Nat} (h1:bl n.natAbs≤k) (h2:bl d≤k) (hk:1≤k):aZ (mkRat n d)≤k:=by
 refine TM ?_ ?_
 ·rw[Rat.num_mkRat]
  split
  ·rw[Int.natAbs_zero,Yd];omega
  ·exact Nat.le_trans (lE (Int.natAbs_ediv_le_natAbs _ _)) h1
 ·rw[Rat.den_mkRat]
  split
  ·rw[Nu];exact hk
  ·exact Nat.le_trans (lE (Nat.div_le_self _ _)) h2
theorem J1 (a b:Rat):aZ (a+b)≤aZ a+aZ b+1:=by
 rw[Rat.add_def']
 have h1 := @oK a
 have h2 := @oK b
 have h3 := @mP a
 have h4 := @mP b
 have h5:=lL a.num.natAbs b.den
 have h6:=lL b.num.natAbs a.den
 have h7:=lL a.den b.den
 refine Jl ?_ (by omega) (by omega)
 have h8:(a.num*b.den+b.num*a.den).natAbs≤a.num.natAbs*b.den+b.num.natAbs*a.den:=by
  refine Nat.le_trans (Int.natAbs_add_le _ _) ?_
  rw[Int.natAbs_mul,Int.natAbs_mul,Int.natAbs_natCast,Int.natAbs_natCast]
  exact Nat.le_refl _
 exact Nat.le_trans (lE h8) (VN (by omega) (by omega))
theorem Fo (a b:Rat):aZ (a*b)≤aZ a+aZ b:=by
 rw[Rat.mul_def']
 have h1 := @oK a
 have h2 := @oK b
 have h3 := @mP a
 have h4 := @mP b
 have h5:=lL a.num.natAbs b.num.natAbs
 have h7:=lL a.den b.den
 have h8 := @Ri a
 refine Jl ?_ (by omega) (by omega)
 rw[Int.natAbs_mul]
 omega
theorem Kr (a:Rat):aZ (-a)=aZ a:=by simp[aZ]
theorem ZE (a b:Rat):aZ (a-b)≤aZ a+aZ b+1:=by
 rw[Rat.sub_eq_add_neg]
 have:=J1 a (-b)
 rwa [Kr] at this
theorem QO (a:Rat):aZ a⁻¹≤aZ a:=by
 have h1 := @oK a
 have h2 := @mP a
 refine TM ?_ ?_
 ·rw[Rat.num_inv,Int.natAbs_mul,Int.natAbs_natCast]
  refine Nat.le_trans (lE ?_) h2
  have h3:a.num.sign.natAbs≤1:=by
   rcases Int.lt_trichotomy a.num 0 with h | h | h
   ·rw[Int.sign_eq_neg_one_of_neg h];decide
   ·rw[h];decide
   ·rw[Int.sign_eq_one_of_pos h];decide
  have:=Nat.mul_le_mul_right a.den h3
  omega
 ·rw[Rat.den_inv]
  split
  ·rw[Nu];exact Ri
  ·exact h1
theorem Zv (a b:Rat):aZ (a / b)≤aZ a+aZ b:=by
 rw[Rat.div_def]
 have:=Fo a b⁻¹
 have:=QO b
 omega
theorem CR:aZ 0=1:=by simp[aZ,Yd,Nu]
theorem Cn:aZ 1=1:=by simp[aZ,Nu]
def lJ (neg:Bool) (t:Nat):Int:=if neg then -(t:Int) else t
theorem pD (neg:Bool) (t:Nat):(lJ neg t).natAbs=t:=by cases neg<;>simp[lJ]
theorem RD {neg:Bool} {t:Nat}:lJ neg t<0↔neg=true∧t≠0:=by cases neg<;>simp[lJ]<;>omega
theorem Ai (neg:Bool):lJ neg 0=0:=by cases neg<;>rfl
theorem Iu (z:Int):lJ (decide (z<0)) z.natAbs=z:=by
 by_cases h:z<0<;>simp[lJ,h]<;>omega
theorem amZ {neg:Bool} {t g:Nat}:(lJ neg t) / (g:Int)=lJ neg (t / g)∨¬g ∣ t:=by
 by_cases h:g ∣ t
 ·left
  obtain⟨k,rfl⟩:=h
  by_cases hg:g=0
  ·subst hg;simp[Ai]
  ·rw[Nat.mul_div_cancel_left _ (by omega)]
   cases neg
   ·simp only[lJ]
    simp only[Bool.false_eq_true,if_false]
    rw[Int.natCast_mul,Int.mul_ediv_cancel_left _ (by omega)]
   ·simp only[lJ,if_true]
    rw[Int.natCast_mul,←Int.mul_neg,Int.mul_ediv_cancel_left _ (by omega)]
 ·exact .inr h
theorem GM {neg:Bool} {t b:Nat} (hb:b≠0):(mkRat (lJ neg t) b).num=lJ neg (t / Nat.gcd t b):=by
 rw[Rat.num_mkRat,if_neg hb,pD,Nat.gcd_comm]
 rcases amZ (neg:=neg) (t:=t) (g:=Nat.gcd t b) with h | h
 ·exact h
 ·exact absurd (Nat.gcd_dvd_left _ _) h
theorem SJ {neg:Bool} {t b:Nat} (hb:b≠0):(mkRat (lJ neg t) b).den=b / Nat.gcd t b:=by
 rw[Rat.den_mkRat,if_neg hb,pD,Nat.gcd_comm]
theorem My (q:Rat):mkRat (lJ (decide (q.num<0)) q.num.natAbs) q.den=q:=by rw[Iu,Rat.mkRat_self]
end Go.PM
namespace Go.PM
theorem alZ (neg:Bool) (t d:Nat):lJ neg (t*d)=lJ neg t*(d:Int):=by cases neg<;>simp[lJ,Int.neg_mul]
theorem Fu (q:Rat) {d:Nat} (hd:d≠0):mkRat (lJ (decide (q.num<0)) (q.num.natAbs*d)) (q.den*d)=q:=by
 rw[alZ,Rat.mkRat_mul_right hd,My]
theorem Et (X Y:Int) {B:Nat} (hB:B≠0):mkRat X B+mkRat Y B=mkRat (X+Y) B:=by
 rw[Rat.mkRat_add_mkRat _ _ hB hB,←Int.add_mul,Rat.mkRat_mul_right hB]
theorem Sl (n:Bool) (x y:Nat):lJ n x+lJ n y=lJ n (x+y):=by cases n<;>simp[lJ]<;>omega
theorem Wv {m n:Bool} (h:m≠n) {x y:Nat} (hx:y≤x):lJ m x+lJ n y=lJ m (x-y):=by
 cases m<;>cases n<;>simp_all [lJ]<;>omega
theorem V5 {m n:Bool} (h:m≠n) {x y:Nat} (hx:x≤y):lJ m x+lJ n y=lJ n (y-x):=by
 cases m<;>cases n<;>simp_all [lJ]<;>omega
theorem SA (n:Int) {d:Nat} (hd:d≠0):(mkRat n d).num.natAbs=n.natAbs / Nat.gcd n.natAbs d:=by
 have:=GM (neg:=decide (n<0)) (t:=n.natAbs) (b:=d) hd
 rw[Iu] at this
 rw[this,pD]
theorem MQ (n:Int) {d:Nat} (hd:d≠0):(mkRat n d).den=d / Nat.gcd n.natAbs d:=by
 have:=SJ (neg:=decide (n<0)) (t:=n.natAbs) (b:=d) hd
 rwa [Iu] at this
theorem aqU (n:Int) {d:Nat} (hd:d≠0):(mkRat n d).num<0↔n<0:=by
 have:=GM (neg:=decide (n<0)) (t:=n.natAbs) (b:=d) hd
 rw[Iu] at this
 rw[this,RD]
 have h:n<0→n.natAbs / Nat.gcd n.natAbs d≠0:=fun h=>by
  have:=Nat.div_pos (Nat.le_of_dvd (by omega) (Nat.gcd_dvd_left n.natAbs d)) (Nat.gcd_pos_of_pos_left d (show 0<n.natAbs by omega))
  omega
 constructor
 ·rintro⟨h1,_⟩;simpa using h1
 ·intro h1;exact⟨by simpa using h1,h h1⟩
theorem Ct (t:Nat) {d:Nat} (hd:d≠0):(mkRat (lJ false t) d).num.natAbs ∣ t∧(mkRat (lJ false t) d).den ∣ d:=by
 rw[SA _ hd,MQ _ hd,pD]
 exact⟨Nat.div_dvd_of_dvd (Nat.gcd_dvd_left _ _),Nat.div_dvd_of_dvd (Nat.gcd_dvd_right _ _)⟩
theorem ZX (a b:Rat):(a*b).num.natAbs=(mkRat (lJ false a.num.natAbs) b.den).num.natAbs*(mkRat (lJ false b.num.natAbs) a.den).num.natAbs ∧
  (a*b).den=(mkRat (lJ false a.num.natAbs) b.den).den*(mkRat (lJ false b.num.natAbs) a.den).den:=by
 have ha:=a.den_nz
 have hb:=b.den_nz
 have HD:a.den*b.den≠0:=Nat.mul_ne_zero ha hb
 obtain⟨u1,u2⟩:=Ct a.num.natAbs hb
 obtain⟨v1,v2⟩:=Ct b.num.natAbs ha
 have e:(mkRat (lJ false a.num.natAbs) b.den)*(mkRat (lJ false b.num.natAbs) a.den)=mkRat (lJ false a.num.natAbs*lJ false b.num.natAbs) (b.den*a.den):=Rat.mkRat_mul_mkRat _ _ _ _
 have en:((mkRat (lJ false a.num.natAbs) b.den)*(mkRat (lJ false b.num.natAbs) a.den)).num.natAbs=(a*b).num.natAbs:=by
  rw[e,Rat.mul_def',SA _ HD,SA _ (Nat.mul_ne_zero hb ha),Int.natAbs_mul,Int.natAbs_mul,pD,pD,Nat.mul_comm b.den]
 have ed:((mkRat (lJ false a.num.natAbs) b.den)*(mkRat (lJ false b.num.natAbs) a.den)).den=(a*b).den:=by
  rw[e,Rat.mul_def',MQ _ HD,MQ _ (Nat.mul_ne_zero hb ha),Int.natAbs_mul,Int.natAbs_mul,pD,pD,Nat.mul_comm b.den]
 rw[←en,←ed]
 generalize hu:mkRat (lJ false a.num.natAbs) b.den=u at *
 generalize hv:mkRat (lJ false b.num.natAbs) a.den=v at *
 have c1:Nat.Coprime u.num.natAbs u.den:=u.reduced
 have c2:Nat.Coprime v.num.natAbs v.den:=v.reduced
 have c3:Nat.Coprime u.num.natAbs v.den:=Nat.Coprime.coprime_dvd_left u1 (Nat.Coprime.coprime_dvd_right v2 a.reduced)
 have c4:Nat.Coprime v.num.natAbs u.den:=Nat.Coprime.coprime_dvd_left v1 (Nat.Coprime.coprime_dvd_right u2 b.reduced)
 have c:Nat.gcd (u.num*v.num).natAbs (u.den*v.den)=1:=by
  rw[Int.natAbs_mul]
  exact Nat.Coprime.mul_left (Nat.Coprime.mul_right c1 c3) (Nat.Coprime.mul_right c4 c2)
 rw[Rat.mul_def',SA _ (Nat.mul_ne_zero u.den_nz v.den_nz),MQ _ (Nat.mul_ne_zero u.den_nz v.den_nz),c,Nat.div_one,Nat.div_one,Int.natAbs_mul]
 exact⟨rfl,rfl⟩
theorem Ug {a b:Rat} (ha:a.num≠0) (hb:b.num≠0):(a*b).num<0↔(decide (a.num<0) != decide (b.num<0))=true:=by
 rw[Rat.mul_def',aqU _ (Nat.mul_ne_zero a.den_nz b.den_nz)]
 rcases Int.lt_or_gt_of_ne ha with h1 | h1<;>rcases Int.lt_or_gt_of_ne hb with h2 | h2
 ·have:=Int.mul_pos_of_neg_of_neg h1 h2
  rw[decide_eq_true h1,decide_eq_true h2]
  simp;omega
 ·have:=Int.mul_neg_of_neg_of_pos h1 h2
  rw[decide_eq_true h1,decide_eq_false (show ¬b.num<0 by omega)]
  simp[this]
 ·have:=Int.mul_neg_of_pos_of_neg h1 h2
  rw[decide_eq_false (show ¬a.num<0 by omega),decide_eq_true h2]
  simp[this]
 ·have:=Int.mul_pos h1 h2
  rw[decide_eq_false (show ¬a.num<0 by omega),decide_eq_false (show ¬b.num<0 by omega)]
  simp;omega
def kS (q:Rat):Int:=if q.num=0 then 0 else if q.num<0 then -1 else 1
def Pj (a b:Rat):Int:=if kS a=kS b then (if a.num<0 then -fK (a.num.natAbs*b.den) (b.num.natAbs*a.den) else fK (a.num.natAbs*b.den) (b.num.natAbs*a.den)) else kS a-kS b
theorem wD {m n:Nat}:fK m n<0↔m<n:=by
 unfold fK
 split
 ·omega
 ·split<;>omega
theorem Ya {m n:Nat}:0<fK m n↔n<m:=by
 unfold fK
 split
 ·omega
 ·split<;>omega
theorem yZ {m n:Nat}:fK m n=0↔m=n:=by
 unfold fK
 split
 ·omega
 ·split<;>omega
theorem pC {q:Rat} (h:q.num<0):kS q = -1:=by unfold kS;rw[if_neg (by omega),if_pos h]
theorem lC {q:Rat} (h:q.num=0):kS q=0:=by unfold kS;rw[if_pos h]
theorem pF {q:Rat} (h:0<q.num):kS q=1:=by unfold kS;rw[if_neg (by omega),if_neg (by omega)]
theorem XN {a b:Rat}:Pj a b<0↔a<b:=by
 rw[Rat.lt_iff]
 have hA:(0:Int)<a.den:=by have:=a.den_nz;omega
 have hB:(0:Int)<b.den:=by have:=b.den_nz;omega
 have eA:((a.num.natAbs*b.den:Nat):Int)=(a.num.natAbs:Int)*b.den:=by simp
 have eB:((b.num.natAbs*a.den:Nat):Int)=(b.num.natAbs:Int)*a.den:=by simp
 unfold Pj
 rcases Int.lt_trichotomy a.num 0 with h1 | h1 | h1<;>rcases Int.lt_trichotomy b.num 0 with h2 | h2 | h2
 ·rw[pC h1,pC h2,if_pos rfl,if_pos h1]
  have f1:(a.num.natAbs:Int) = -a.num:=by omega
  have f2:(b.num.natAbs:Int) = -b.num:=by omega
  rw[f1,Int.neg_mul] at eA
  rw[f2,Int.neg_mul] at eB
  have := @Ya (a.num.natAbs*b.den) (b.num.natAbs*a.den)
  omega
 ·rw[pC h1,lC h2,if_neg (by decide),h2,Int.zero_mul]
  have:=Int.mul_neg_of_neg_of_pos h1 hB
  omega
 ·rw[pC h1,pF h2,if_neg (by decide)]
  have:=Int.mul_neg_of_neg_of_pos h1 hB
  have:=Int.mul_pos h2 hA
  omega
 ·rw[lC h1,pC h2,if_neg (by decide),h1,Int.zero_mul]
  have:=Int.mul_neg_of_neg_of_pos h2 hA
  omega
 ·rw[lC h1,lC h2,if_pos rfl,h1,h2];simp[fK]
 ·rw[lC h1,pF h2,if_neg (by decide),h1,Int.zero_mul]
  have:=Int.mul_pos h2 hA
  omega
 ·rw[pF h1,pC h2,if_neg (by decide)]
  have:=Int.mul_neg_of_neg_of_pos h2 hA
  have:=Int.mul_pos h1 hB
  omega
 ·rw[pF h1,lC h2,if_neg (by decide),h2,Int.zero_mul]
  have:=Int.mul_pos h1 hB
  omega
 ·rw[pF h1,pF h2,if_pos rfl,if_neg (by omega)]
  have f1:(a.num.natAbs:Int)=a.num:=by omega
  have f2:(b.num.natAbs:Int)=b.num:=by omega
  rw[f1] at eA
  rw[f2] at eB
  have := @wD (a.num.natAbs*b.den) (b.num.natAbs*a.den)
  omega
theorem aiF (m n:Nat):fK n m = -fK m n:=by
 rcases Nat.lt_trichotomy m n with h | h | h
 ·rw[fK,fK,if_neg (by omega),if_neg (by omega),if_pos h];rfl
 ·subst h;rw[fK,if_neg (by omega),if_pos rfl];rfl
 ·rw[fK,fK,if_pos h,if_neg (by omega),if_neg (by omega)]
theorem U8 (a b:Rat):Pj b a = -Pj a b:=by
 unfold Pj
 by_cases h:kS a=kS b
 ·have h2:b.num<0↔a.num<0:=by
   rcases Int.lt_trichotomy a.num 0 with h1 | h1 | h1<;>rcases Int.lt_trichotomy b.num 0 with h2 | h2 | h2
   ·simp[h1,h2]
   ·rw[pC h1,lC h2] at h;omega
   ·rw[pC h1,pF h2] at h;omega
   ·rw[lC h1,pC h2] at h;omega
   ·omega
   ·rw[lC h1,pF h2] at h;omega
   ·rw[pF h1,pC h2] at h;omega
   ·rw[pF h1,lC h2] at h;omega
   ·omega
  rw[if_pos h,if_pos h.symm,aiF]
  by_cases h3:a.num<0
  ·rw[if_pos h3,if_pos (h2.2 h3)]
  ·rw[if_neg h3,if_neg (mt h2.1 h3)]
 ·rw[if_neg h,if_neg (fun h'=>h h'.symm)];omega
theorem Rw {a b:Rat}:0<Pj a b↔b<a:=by
 rw[←XN,U8 a b];omega
theorem Rm {a b:Rat}:Pj a b=0↔a=b:=by
 constructor
 ·intro h
  refine Rat.le_antisymm ?_ ?_
  ·rw[←Rat.not_lt,←Rw];omega
  ·rw[←Rat.not_lt,←XN];omega
 ·rintro rfl
  have:=U8 a a
  omega
theorem CP {q:Rat}:kS q=0↔q=0:=by
 rw[←Rat.num_eq_zero]
 rcases Int.lt_trichotomy q.num 0 with h | h | h
 ·rw[pC h];omega
 ·rw[lC h];omega
 ·rw[pF h];omega
end Go.PM
namespace Go.PM
theorem Qy {ds:List Nat} {H:aA}:cT 1 (iT ds) H=some (ds.map tV):=by
 have:((ds.map tV).all fun x=>(aB x).length == 1&&(aB x).all bS)=true:=by
  rw[List.all_eq_true]
  intro x hx
  obtain⟨d,_,rfl⟩:=List.mem_map.1 hx
  rfl
 simp only[cT,iT,aM,this,if_true]
theorem Ff (n:Nat) {H:aA}:cT 1 (cA n) H=some ((aC 1000000000 n).map tV):=Qy
theorem KA {a n:Nat} (hn:(aC 1000000000 a).length=n+1):∃d,(aC 1000000000 a)[n]? = some d∧d≠0∧d<1000000000:=by
 obtain⟨d,hd⟩:∃d,(aC 1000000000 a)[n]? = some d:=⟨_,List.getElem?_eq_getElem (by omega)⟩
 refine⟨d,hd,fun h0 => ?_,fW (by decide) a d (List.mem_of_getElem? hd)⟩
 have:=Qw (b:=1000000000) (by decide) a
 rw[List.getLast?_eq_getElem?,hn,Nat.add_sub_cancel,hd,h0] at this
 exact this rfl
theorem Zw {a d:Nat} (h:aC 1000000000 a=[d]):a=d∧0<d∧d<1000000000:=by
 have h1:=cN (b:=1000000000) (by decide) a
 rw[h,val_one] at h1
 obtain⟨e,h2,h3,h4⟩:=KA (a:=a) (n:=0) (by rw[h];rfl)
 rw[h] at h2
 cases h2
 exact⟨h1.symm,by omega,h4⟩
theorem arN {a:Nat} (h:(aC 1000000000 a).length≤2):a<1000000000000000000:=by
 have h1:=iD (b:=1000000000) (by decide) a
 have h2:1000000000^(aC 1000000000 a).length≤1000000000^2:=Nat.pow_le_pow_right (by decide) h
 omega
theorem ajL {H:aA} {u v:VV} (hu:aQ u=true) (hv:aQ v=true):fz depth H (.dQ [u,v])=some (.dQ [u,v]):=aE (by simp only[aQ,aO,hu,hv,Bool.and_self])
theorem ayI {X N:Nat} (h:(aC 1000000000 X).length≤N):Lt 0 1 (.ref 0 0 0 N N) (cA X) [.row 0 ((List.replicate N 0).map tV) 1 true]=some (VI ((aC 1000000000 X).length:Int),[.row 0 ((aC 1000000000 X++List.replicate (N-(aC 1000000000 X).length) 0).map tV) 1 true]):=by
 have e:((aC 1000000000 X).map tV).take N=(aC 1000000000 X).map tV:=List.take_of_length_le (by simpa using h)
 simp only[Lt,cA,Qy,bB,e,List.length_map,List.length_replicate,Nat.zero_add]
 rw[if_pos ⟨trivial,Nat.le_refl _,h⟩]
 simp only[dC,List.set_cons_zero,List.take_zero,List.nil_append,Nat.zero_add,List.length_map,List.map_append,List.map_replicate,List.drop_replicate]
theorem vP (a b:Nat) (hb:b≠0) (ha:(aC 1000000000 a).length<17592186044416) (vB:(aC 1000000000 b).length<17592186044416):TC 185 [cA a,cA b] (.dQ [cA (a / b),cA (a % b)]):=by
 refine TC.walk ⟨true,false⟩ J8 rfl (Nat.le_of_ble_eq_true rfl) (by simp[aO,cL]) (by simp[fX,rE,oH]) ?_
 have s1:=DL a (by omega)
 have s2:=DL b (by omega)
 have fin:∀ {H:aA},fz depth H (.dQ [cA (a / b),cA (a % b)])=some (.dQ [cA (a / b),cA (a % b)]):=ajL (cL _) (cL _)
 by_cases SZ:(aC 1000000000 a).length≤2∧(aC 1000000000 b).length≤2
 ·rw[if_pos SZ.1] at s1
  rw[if_pos SZ.2] at s2
  have la:=arN SZ.1
  have q1:=ML a b (by omega) (by omega)
  have q2:=NZ a b (by omega)
  have hdl:a / b≤a:=Nat.div_le_self _ _
  have hml:a % b≤a:=Nat.mod_le _ _
  have n1:TC 178 [VI ((a / b:Nat):Int)] (cA (a / b)):=rQ ((a / b:Nat):Int) (Int.ofNat_le.2 (show a / b≤9223372036854775807 from Nat.le_trans hdl (by omega)))
  have n2:TC 178 [VI ((a % b:Nat):Int)] (cA (a % b)):=rQ ((a % b:Nat):Int) (Int.ofNat_le.2 (show a % b≤9223372036854775807 from Nat.le_trans hml (by omega)))
  simp only[fV,dZ,s1,s2,q1,q2,n1,n2,VX,Nat.reduceEqDiff,Nat.reduceAdd]
  exact fin
 have c1:=rP a b (by omega) (by omega)
 obtain⟨x1,t1,OU⟩:∃(x:Int) (t:Bool),(if (aC 1000000000 a).length≤2 then VV.dQ [VI a,VB true] else .dQ [VI 0,VB false]) = .dQ [VI x,VB t]:=by split<;>exact⟨_,_,rfl⟩
 have hs2:∃(x:Int) (t:Bool),(if (aC 1000000000 b).length≤2 then VV.dQ [VI b,VB true] else .dQ [VI 0,VB false]) = .dQ [VI x,VB t]∧(t1=true→t=false):=by
  by_cases h:(aC 1000000000 b).length≤2
  ·rw[if_pos h]
   refine⟨_,_,rfl,fun ht => ?_⟩
   rw[if_neg (fun h'=>SZ ⟨h',h⟩)] at OU
   injection OU with OU
   injection OU with _ OU
   injection OU with OU _
   injection OU with OU
   injection OU with OU
   subst ht
   cases OU
  ·rw[if_neg h]
   exact⟨_,_,rfl,fun _=>rfl⟩
 obtain⟨x2,t2,hs2,ht⟩:=hs2
 rw[OU] at s1
 rw[hs2] at s2
 by_cases HD:fK a b<0
 ·have bH:a<b:=wD.1 HD
  have e0:∀lr,kD lr [.int .i64 0] 0 [] []=some (.ref 0 0 0 0 0,[.row 0 [] 1 true]):=fun lr=>gY (H:=[]) rfl
  have e1:∀lr,kD lr [.int .i64 0] 0 [] [.row 0 [] 1 true]=some (.ref 1 0 0 0 0,[.row 0 [] 1 true,.row 0 [] 1 true]):=fun lr=>gY (H:=[.row 0 [] 1 true]) rfl
  rw[Nat.div_eq_of_lt bH,Nat.mod_eq_of_lt bH]
  have hz:fz (6+1) [.row 0 [] 1 true,.row 0 [] 1 true] (.ref 0 0 0 0 0)=some (cA 0):=by rw[JP];rfl
  by_cases ha0:a=0
  ·subst ha0
   have ap:eE 0 1 8 (.ref 1 0 0 0 0) ((aC 1000000000 0).map tV) [.row 0 [] 1 true,.row 0 [] 1 true]=some (.ref 1 0 0 0 0,[.row 0 [] 1 true,.row 0 [] 1 true]):=by
    rw[cF];rfl
   have JO:fz (6+1) [.row 0 [] 1 true,.row 0 [] 1 true] (.ref 1 0 0 0 0)=some (cA 0):=by rw[JP];rfl
   cases t1 with
   |
    false =>
    simp only[fV,dZ,s1,s2,c1,HD,e0,e1,ap,Ff,VX,Nat.reduceEqDiff,Nat.reduceAdd]
    exact bR (d:=6) hz JO
   |
    true =>
    rw[ht rfl] at s2
    simp only[fV,dZ,s1,s2,c1,HD,e0,e1,ap,Ff,VX,Nat.reduceEqDiff,Nat.reduceAdd]
    exact bR (d:=6) hz JO
  ·have hln:(aC 1000000000 a).length≠0:=fun h=>ha0 ((nA (b:=1000000000) (by decide)).1 (List.length_eq_zero_iff.1 h))
   have ap:eE 0 1 8 (.ref 1 0 0 0 0) ((aC 1000000000 a).map tV) [.row 0 [] 1 true,.row 0 [] 1 true]=some (.ref 1 1 0 (aC 1000000000 a).length (aC 1000000000 a).length,[.row 0 [] 1 true,.row 1 ((aC 1000000000 a).map tV) 1 true]):=by
    have hr:aJ [.row 0 [] 1 true,.row 0 [] 1 true] 1 0=some ([],1,true):=rfl
    simp only[eE,hr,List.length_map,Nat.zero_add,List.length_nil,Nat.add_zero]
    rw[if_pos ⟨by decide,by decide⟩,if_pos ⟨trivial,Nat.zero_le _,Nat.le_refl _⟩,if_neg (by omega),if_pos (by omega)]
    simp
   have F1:fz (6+1) [.row 0 [] 1 true,.row 1 ((aC 1000000000 a).map tV) 1 true] (.ref 0 0 0 0 0)=some (cA 0):=by rw[JP];rfl
   have JO:fz (6+1) [.row 0 [] 1 true,.row 1 ((aC 1000000000 a).map tV) 1 true] (.ref 1 1 0 (aC 1000000000 a).length (aC 1000000000 a).length)=some (cA a):=by
    have:aQ (.ref 1 1 0 (aC 1000000000 a).length (aC 1000000000 a).length)=false:=rfl
    have hr:aJ [.row 0 [] 1 true,.row 1 ((aC 1000000000 a).map tV) 1 true] 1 1=some ((aC 1000000000 a).map tV,1,true):=rfl
    unfold fz
    simp only[this,hr,Bool.false_eq_true,if_false]
    rw[if_pos ⟨by simp,Nat.le_refl _⟩,List.drop_zero,List.take_of_length_le (by simp),mapM_pure (n:=5) (eW fun _=>rfl)]
    rfl
   cases t1 with
   |
    false =>
    simp only[fV,dZ,s1,s2,c1,HD,e0,e1,ap,Ff,VX,Nat.reduceEqDiff,Nat.reduceAdd]
    exact bR (d:=6) F1 JO
   |
    true =>
    rw[ht rfl] at s2
    simp only[fV,dZ,s1,s2,c1,HD,e0,e1,ap,Ff,VX,Nat.reduceEqDiff,Nat.reduceAdd]
    exact bR (d:=6) F1 JO
 have DV:b≤a:=by have := @wD a b;omega
 have hbn:(aC 1000000000 b).length≠0:=fun h=>hb ((nA (b:=1000000000) (by decide)).1 (List.length_eq_zero_iff.1 h))
 by_cases h1:(((aC 1000000000 b).length:Nat):Int)=1
 ·obtain⟨d,hd⟩:∃d,aC 1000000000 b=[d]:=List.length_eq_one_iff.1 (by omega)
  obtain⟨hbd,Eg,hdT⟩:=Zw hd
  have e1:bL 1 (cA b) (VI 0) []=some (.dA (tV d) 0):=by
   rw[cA,hd]
   exact aK (f:=tV) (t := .op) (H:=[]) (size:=1) (k := .i64) (xs:=[d]) (i:=0) rfl rfl
  have c2:=zQ a d Eg hdT (by omega)
  rw[←hbd] at c2
  have V7:a % b≤b:=Nat.le_of_lt (Nat.mod_lt _ (by omega))
  have n2:TC 178 [VI ((a % b:Nat):Int)] (cA (a % b)):=rQ ((a % b:Nat):Int) (Int.ofNat_le.2 (show a % b≤9223372036854775807 from Nat.le_trans V7 (by omega)))
  have e2:tV d=tV b:=by rw[hbd]
  rw[e2] at e1
  cases t1 with
  |
   false =>
   simp only[fV,dZ,s1,s2,c1,HD,cQ,h1,e1,c2,n2,VX,Nat.reduceEqDiff,Nat.reduceAdd]
   exact fin
  |
   true =>
   rw[ht rfl] at s2
   simp only[fV,dZ,s1,s2,c1,HD,cQ,h1,e1,c2,n2,VX,Nat.reduceEqDiff,Nat.reduceAdd]
   exact fin
 obtain⟨n,hn⟩:∃n,(aC 1000000000 b).length=n+2:=⟨(aC 1000000000 b).length-2,by omega⟩
 obtain⟨t,htd,ht0,htT⟩:=KA (a:=b) (n:=n+1) hn
 obtain⟨s,hs⟩:∃s,s=1000000000 / (t+1):=⟨_,rfl⟩
 have UD:1≤s:=by rw[hs];exact(Nat.le_div_iff_mul_le (by omega)).2 (by omega)
 have hsT:s<1000000000:=by rw[hs];exact Nat.div_lt_self (by decide) (by omega)
 have DZ:(t+1)*s≤1000000000:=by rw[hs];exact Nat.mul_div_le _ _
 have hla:=eZ (b:=1000000000) (by decide) DV
 have w0:IntKind.i64.wrap (((n+2:Nat):Int)-1)=((n+1:Nat):Int):=wrapN _ (by omega) (by omega)
 have w1:IntKind.i64.wrap ((t:Int)+1)=((t+1:Nat):Int):=wrapN _ (by omega) (by omega)
 have q0:dN .quo (.int .i64 1000000000) (.int .i64 ((t+1:Nat):Int))=some (.int .i64 (s:Int)):=by rw[hs];exact ML 1000000000 (t+1) (by decide) (by omega)
 have et:∀H,bL 1 (cA b) (VI ((n+1:Nat):Int)) H=some (.dA (tV t) 0):=fun H=>aK (f:=tV) (t := .op) (size:=1) (k := .i64) htd rfl
 have h1':¬(((n+2:Nat):Int)=1):=by omega
 obtain⟨N,hN⟩:∃N,N=(aC 1000000000 a).length+1:=⟨_,rfl⟩
 have wN:IntKind.i64.wrap (((aC 1000000000 a).length:Int)+1)=(N:Int):=wrapN _ (by omega) (by omega)
 have mkN:=SC N (by omega)
 have c3:=zW a s UD hsT ha
 have c4:=zW b s UD hsT vB
 have atJ:b*s<1000000000^(n+2):=by
  have h2:=(A5 (n:=n+1) (fW (b:=1000000000) (by decide) b) hn htd).2
  rw[cN (by decide)] at h2
  have h3:b*s<(t+1)*1000000000^(n+1)*s:=Nat.mul_lt_mul_of_pos_right h2 UD
  have h4:(t+1)*1000000000^(n+1)*s=(t+1)*s*1000000000^(n+1):=by grind
  have h9:(t+1)*s*1000000000^(n+1)≤1000000000*1000000000^(n+1):=Nat.mul_le_mul_right _ DZ
  have h10:1000000000*1000000000^(n+1)=1000000000^(n+2):=by rw[Nat.pow_succ 1000000000 (n+1)];exact Nat.mul_comm _ _
  rw[h4] at h3
  rw[h10] at h9
  exact Nat.lt_of_lt_of_le h3 h9
 have hVl:(aC 1000000000 (b*s)).length=n+2:=by
  have h2:=nL (b:=1000000000) (by decide) atJ
  have h3:b≤b*s:=Nat.le_mul_of_pos_right b UD
  have h4:=eZ (b:=1000000000) (by decide) h3
  omega
 have hAl:(aC 1000000000 (a*s)).length≤N:=by
  have h2:=SM (b:=1000000000) (by decide) a s
  have h3:(aC 1000000000 s).length≤1:=nL (by decide) (by rw[Nat.pow_one];exact hsT)
  omega
 have cp:=ayI hAl
 obtain⟨m,hm⟩:∃m,m+(n+2)=N:=⟨N-(n+2),by omega⟩
 have wm:IntKind.i64.wrap ((N:Int)-((n+2:Nat):Int))=(m:Int):=wrapN _ (by omega) (by omega)
 have wm1:IntKind.i64.wrap ((m:Int)-1)=(m:Int)-1:=wrap64 (by omega) (by omega)
 obtain⟨FZ,akT⟩:∃FZ,FZ=aC 1000000000 (a*s)++List.replicate (N-(aC 1000000000 (a*s)).length) 0:=⟨_,rfl⟩
 rw[←akT] at cp
 have mkm:BK [.int .i64 0] 8 (VI (m:Int)) (VI (m:Int)) [.row 0 (FZ.map tV) 1 true]=some (.ref 1 0 0 m m,[.row 0 (FZ.map tV) 1 true]++[.row 0 ((List.replicate m 0).map tV) 1 true]):=tE (f:=tV) (x:=0) (H:=[.row 0 (FZ.map tV) 1 true]) rfl (by omega) (by omega)
 have lN:∀K,aJ K 0 0=some (FZ.map tV,1,true)→pW (.ref 0 0 0 N N) K=some (VI (N:Int)):=fun K h=>eR h
 have l1:=lN [.row 0 (FZ.map tV) 1 true] rfl
 have l2:=lN (H2 FZ (List.replicate m 0)) rfl
 have aqI:FZ.length=N:=by rw[akT,List.length_append,List.length_replicate];omega
 have avN:∀d∈FZ,d<1000000000:=fun d hd=>by
  rw[akT] at hd
  rcases List.mem_append.1 hd with h | h
  ·exact fW (by decide) _ d h
  ·rw[List.eq_of_mem_replicate h];decide
 have asU:val 1000000000 FZ=a*s:=by rw[akT,zG,sG,Nat.mul_zero,Nat.add_zero,cN (by decide)]
 generalize SX:aC 1000000000 (b*s)=vs at *
 have IE:∀d∈vs,d<1000000000:=by rw[←SX];exact fW (by decide) _
 have Ps:val 1000000000 vs=b*s:=by rw[←SX];exact cN (by decide) _
 have lV:∀H,pW (cA (b*s)) H=some (VI ((n+2:Nat):Int)):=fun H=>by rw[cQ,SX,hVl]
 obtain⟨v1,f1⟩:∃v1,vs[n+1]? = some v1:=⟨_,List.getElem?_eq_getElem (by omega)⟩
 obtain⟨v0,f0⟩:∃v0,vs[n]? = some v0:=⟨_,List.getElem?_eq_getElem (by omega)⟩
 have hv1:1≤v1:=by
  obtain⟨d,hd,Eg,_⟩:=KA (a:=b*s) (n:=n+1) (by rw[SX];exact hVl)
  rw[SX,f1] at hd
  cases hd
  omega
 have Dl:val 1000000000 (FZ.drop m)<val 1000000000 vs:=by
  have h2:=qM (b:=1000000000) FZ m
  rw[List.length_take,aqI,Nat.min_eq_left (by omega),asU] at h2
  have h3:a<b*1000000000^m:=by
   have y1:=iD (b:=1000000000) (by decide) a
   have y2:=MA (b:=1000000000) (by decide) hb
   rw[hn] at y2
   have y3:1000000000^(n+2-1)*1000000000^m≤b*1000000000^m:=Nat.mul_le_mul_right _ y2
   rw[←Nat.pow_add,show n+2-1+m=(aC 1000000000 a).length by omega] at y3
   exact Nat.lt_of_lt_of_le y1 y3
  have h4:a*s<b*1000000000^m*s:=Nat.mul_lt_mul_of_pos_right h3 UD
  have h5:b*1000000000^m*s=1000000000^m*(b*s):=by grind
  rw[Ps]
  have h6:1000000000^m*val 1000000000 (FZ.drop m)<1000000000^m*(b*s):=by
   rw[←h5]
   exact Nat.lt_of_le_of_lt (by rw[h2];exact Nat.le_add_left _ _) h4
  exact Nat.lt_of_mul_lt_mul_left h6
 have body:VW ⟨true,false⟩ 0 (.loop jH)=VW ⟨true,false⟩ 0 (.loop jH):=rfl
 have tail:∀(us os:List Nat),us.length=N→(∀d∈us,d<1000000000)→os.length=m→(∀d∈os,d<1000000000)→val 1000000000 us+val 1000000000 vs*val 1000000000 os=a*s→val 1000000000 us<val 1000000000 vs →
   (∀lo K,cO 184 [.ref 0 0 0 N N] lo (H2 us os) K=K (cA (a % b*s)) (dI (H2 us os) [0])) ∧
   (∀lo K,cO 184 [.ref 1 0 0 m m] lo (dI (H2 us os) [0]) K=K (cA (a / b)) (dI (dI (H2 us os) [0]) [1]))∧TC 202 [cA (a % b*s),VI (s:Int)] (.dQ [cA (a % b),VI ((a % b*s % s:Nat):Int)]):=by
  intro us os SY K0 jT mJ hv bH
  rw[Ps] at hv bH
  have hq:val 1000000000 os=a / b:=by
   rw[←Nat.mul_div_mul_right a b UD,←hv,Nat.add_mul_div_left _ _ (Nat.lt_of_le_of_lt (Nat.zero_le _) bH),Nat.div_eq_of_lt bH,Nat.zero_add]
  have hr:val 1000000000 us=a % b*s:=by
   rw[←Nat.mul_mod_mul_right,←hv,Nat.add_mul_mod_self_left,Nat.mod_eq_of_lt bH]
  refine⟨fun lo K => ?_,fun lo K => ?_,?_⟩
  ·have h:=uQ us K0 (by omega)
   rw[hr] at h
   exact TC.alR (f:=tV) h Xr SY.symm (Nat.le_refl _) G4 (fun _=>rfl) rfl rfl lo K
  ·have h:=uQ os mJ (by omega)
   rw[hq] at h
   have lF:aJ (dI (H2 us os) [0]) 1 0=some (os.map tV,1,true):=rfl
   exact TC.alR (f:=tV) h lF jT.symm (Nat.le_refl _) G4 (fun _=>rfl) rfl rfl lo K
  ·have h:=zQ (a % b*s) s UD hsT (by
    have h2:=eZ (b:=1000000000) (by decide) (Nat.le_trans (Nat.le_of_lt bH) (show b*s≤b*s from Nat.le_refl _))
    rw[hr,SX] at h2
    omega)
   rwa [Nat.mul_div_cancel _ UD] at h
 clear body
 have nV:cA (b*s)=iT vs:=by rw[cA,SX]
 cases t1 with
 |
  false =>
  simp only[fV,dZ,s1,s2,c1,HD,cQ,hn,h1',w0,w1,q0,et,wN,mkN,c3,c4,cp,lV,l1,l2,wm,wm1,mkm,List.cons_append,List.nil_append,VX,Nat.reduceEqDiff,Nat.reduceAdd]
  refine Qr (FZ:=FZ) (os0:=List.replicate m 0) (vs:=vs) (N:=N) (m:=m) (n:=n) (A:=a*s) (s:=s) aqI hm (by omega) avN hVl IE f1 f0 hv1 asU Dl (by simp) (Bn (by decide) _) (by rfl) (by rfl) (by simp only[VX,Nat.reduceEqDiff,Nat.reduceAdd];exact nV) (by rfl) (by rfl) (by rfl) ?_
  intro yY us os r12 r13 r16 SY K0 jT mJ hv bH
  obtain⟨x1,x2,x3⟩:=tail us os SY K0 jT mJ hv bH
  simp only[r12,r13,r16,x1,x2,x3,VX,Nat.reduceEqDiff,Nat.reduceAdd]
  exact fin
 |
  true =>
  rw[ht rfl] at s2
  simp only[fV,dZ,s1,s2,c1,HD,cQ,hn,h1',w0,w1,q0,et,wN,mkN,c3,c4,cp,lV,l1,l2,wm,wm1,mkm,List.cons_append,List.nil_append,VX,Nat.reduceEqDiff,Nat.reduceAdd]
  refine Qr (FZ:=FZ) (os0:=List.replicate m 0) (vs:=vs) (N:=N) (m:=m) (n:=n) (A:=a*s) (s:=s) aqI hm (by omega) avN hVl IE f1 f0 hv1 asU Dl (by simp) (Bn (by decide) _) (by rfl) (by rfl) (by simp only[VX,Nat.reduceEqDiff,Nat.reduceAdd];exact nV) (by rfl) (by rfl) (by rfl) ?_
  intro yY us os r12 r13 r16 SY K0 jT mJ hv bH
  obtain⟨x1,x2,x3⟩:=tail us os SY K0 jT mJ hv bH
  simp only[r12,r13,r16,x1,x2,x3,VX,Nat.reduceEqDiff,Nat.reduceAdd]
  exact fin
end Go.PM
namespace Go.PM
theorem dT (n:Nat) {H:aA}:pW (bN n) H=some (VI (aC 4294967296 n).length):=eX
theorem yP {n:Nat}:(0:Int)<((aC 4294967296 n).length:Int)↔n≠0:=by
 constructor
 ·intro h h0
  subst h0
  rw[cF] at h
  simp at h
 ·intro h
  have:=(nA (b:=4294967296) (by decide) (n:=n))
  have h2:aC 4294967296 n≠[]:=fun hx=>h (this.1 hx)
  have:=List.length_pos_iff.2 h2
  omega
theorem Tt {n:Nat} (h:(aC 4294967296 n).length≤2):n<18446744073709551616:=by
 have h1:=iD (b:=4294967296) (by decide) n
 have h2:4294967296^(aC 4294967296 n).length≤4294967296^2:=Nat.pow_le_pow_right (by decide) h
 omega
theorem E7 (a b:Nat) (ha:(aC 4294967296 a).length≤17592186044416) (hb:(aC 4294967296 b).length≤17592186044416):TC 175 [bN a,bN b] (bN (Nat.gcd a b)):=by
 refine TC.walk ⟨true,false⟩ Kx rfl (Nat.le_of_ble_eq_true rfl) (by simp[aO,bU]) (rH _) ?_
 simp only[EE,Cm,VX,Nat.reduceEqDiff,Nat.reduceAdd]
 refine aV (fun(t:Nat×Nat) ρ H=>H=[]∧Nat.gcd t.1 t.2=Nat.gcd a b∧(aC 4294967296 t.1).length≤17592186044416∧(aC 4294967296 t.2).length≤17592186044416∧ρ 0=bN t.1∧ρ 1=bN t.2) (fun t=>t.2) (a,b) ⟨rfl,rfl,ha,hb,rfl,rfl⟩ ?_
 rintro⟨x,y⟩ ρ H ⟨rfl,hg,hx,hy,g0,g1⟩
 simp only at hg hx hy g0 g1
 have c1:=BF x hx
 have c2:=BF y hy
 by_cases hy0:y=0
 ·subst hy0
  have hl:¬(0:Int)<((aC 4294967296 0).length:Int):=by rw[yP];omega
  rw[Nat.gcd_zero_right] at hg
  simp only[jI,g0,g1,dT,hl,VX,Nat.reduceEqDiff,Nat.reduceAdd]
  rw[hg]
  exact aE (bU _)
 have hl:(0:Int)<((aC 4294967296 y).length:Int):=yP.2 hy0
 by_cases h1:(aC 4294967296 x).length≤2∧(aC 4294967296 y).length≤2
 ·rw[if_pos h1.1] at c1
  rw[if_pos h1.2] at c2
  simp only[jI,g0,g1,dT,hl,c1,c2,VX,Nat.reduceEqDiff,Nat.reduceAdd]
  refine aV (fun(t:Nat×Nat) ρ H=>H=[]∧Nat.gcd t.1 t.2=Nat.gcd a b∧t.1<18446744073709551616∧t.2<18446744073709551616∧ρ 5=VK .u64 t.1∧ρ 7=VK .u64 t.2) (fun t=>t.2) (x,y) ⟨rfl,hg,Tt h1.1,Tt h1.2,rfl,rfl⟩ ?_
  rintro⟨u,v⟩ Rk H ⟨rfl,hg2,hu,hv,k5,k7⟩
  simp only at hg2 hu hv k5 k7
  by_cases hv0:v=0
  ·subst hv0
   rw[Nat.gcd_zero_right] at hg2
   have hz:¬(0:Int)<((0:Nat):Int):=by omega
   have c3:=nT u hu
   simp only[uY,k5,k7,hz,c3,VX,Nat.reduceEqDiff,Nat.reduceAdd]
   rw[hg2]
   exact aE (bU _)
  ·have hz:(0:Int)<(v:Int):=by omega
   have r1:=RI u v (by omega)
   simp only[uY,k5,k7,hz,r1,VX,Nat.reduceEqDiff,Nat.reduceAdd]
   refine⟨(v,u % v),?_,?_,hv,?_,rfl,rfl⟩
   ·exact Nat.mod_lt _ (by omega)
   ·simp only
    rw[←hg2,Nat.gcd_comm u v,Nat.gcd_rec v u,Nat.gcd_comm]
   ·simp only
    have:=Nat.mod_lt u (show 0<v by omega)
    omega
 ·have c3:=zJ x y hy0 hx hy
  have next:∃s':Nat×Nat,s'.2<y∧Nat.gcd s'.1 s'.2=Nat.gcd a b∧(aC 4294967296 s'.1).length≤17592186044416∧(aC 4294967296 s'.2).length≤17592186044416∧bN y=bN s'.1∧bN (x % y)=bN s'.2:=by
   have hm:=Nat.mod_lt x (show 0<y by omega)
   refine⟨(y,x % y),hm,?_,hy,?_,rfl,rfl⟩
   ·simp only
    rw[←hg,Nat.gcd_comm x y,Nat.gcd_rec y x,Nat.gcd_comm]
   ·simp only
    have:=eZ (b:=4294967296) (by decide) (Nat.le_of_lt hm)
    omega
  by_cases h2:(aC 4294967296 x).length≤2
  ·have h3:¬(aC 4294967296 y).length≤2:=fun h=>h1 ⟨h2,h⟩
   rw[if_pos h2] at c1
   rw[if_neg h3] at c2
   simp only[jI,g0,g1,dT,hl,c1,c2,c3,VX,Nat.reduceEqDiff,Nat.reduceAdd]
   exact next
  ·rw[if_neg h2] at c1
   by_cases h3:(aC 4294967296 y).length≤2
   ·rw[if_pos h3] at c2
    simp only[jI,g0,g1,dT,hl,c1,c2,c3,VX,Nat.reduceEqDiff,Nat.reduceAdd]
    exact next
   ·rw[if_neg h3] at c2
    simp only[jI,g0,g1,dT,hl,c1,c2,c3,VX,Nat.reduceEqDiff,Nat.reduceAdd]
    exact next
end Go.PM
namespace Go.PM
open Go.Lib
theorem sB (a b:List UInt8) (h:a.length+b.length≤9223372036854775807):dN .add (.string ⟨a.toArray⟩) (.string ⟨b.toArray⟩)=some (.string ⟨(a++b).toArray⟩):=by
 have h1:(⟨a.toArray⟩:ByteArray).size=a.length:=by simp[ByteArray.size]
 have h2:(⟨b.toArray⟩:ByteArray).size=b.length:=by simp[ByteArray.size]
 have h3:¬(((⟨a.toArray⟩:ByteArray).size+(⟨b.toArray⟩:ByteArray).size:Nat):Int)>IntKind.i64.max:=by
  rw[h1,h2]
  show ¬_>(9223372036854775807:Int)
  omega
 simp only[dN,h3,if_false]
 congr 2
theorem bO (a:List UInt8):xV (.string ⟨a.toArray⟩)=some (.int .i64 (a.length:Int)):=by simp[xV,ByteArray.size]
theorem amS:∀a:List UInt8,(aB (bE a)).length=1:=fun _=>rfl
theorem acD {xs:List (List UInt8)} {H:aA} {lo b g n:Nat} (hr:aJ H b g=some (xs.map bE,1,true)) (hn:xs.length=n) (dV:lo≤b) (EB:n≤9223372036854775806) :
  iI 216 [.ref b g 0 n n] lo H fun r H'=>r = .dQ []∧H'=H.set b (.row g (xs.reverse.map bE) 1 true):=by
 refine iI.walk ⟨true,false⟩ tG (Nat.le_of_ble_eq_true rfl) ?_
 have e0:pW (.ref b g 0 n n) H=some (VI n):=eR hr
 have w0:IntKind.i64.wrap ((n:Int)-1)=(n:Int)-1:=wrap64 (by omega) (by omega)
 simp only[mH,lH,e0,w0,VX,Nat.reduceEqDiff,Nat.reduceAdd]
 refine aV (fun(t:Nat×List (List UInt8)) ρ K=>t.1≤n∧K=H.set b (.row g (t.2.map bE) 1 true)∧t.2.length=n∧(∀k,k<n→t.2[k]? = if k<t.1∨n≤k+t.1 then xs[n-1-k]? else xs[k]?)∧ρ 0 = .ref b g 0 n n∧ρ 2=VI t.1∧ρ 3=VI ((n:Int)-1-(t.1:Int))) (fun t=>n-t.1) (0,xs) ⟨Nat.zero_le _,(yD hr).symm,hn,fun k hk=>by rw[if_neg (by simp only;omega)],rfl,rfl,by show VI ((n:Int)-1)=VI ((n:Int)-1-((0:Nat):Int));rw[Int.natCast_zero,Int.sub_zero]⟩ ?_
 rintro⟨i,ys⟩ ρ K ⟨hi,rfl,hl,hy,g0,g2,g3⟩
 simp only at hi hl hy g2 g3
 have hr2:aJ (H.set b (.row g (ys.map bE) 1 true)) b g=some (ys.map bE,1,true):=oI hr
 by_cases cS:(i:Int)<(n:Int)-1-(i:Int)
 ·have hj:(n:Int)-1-(i:Int)=((n-1-i:Nat):Int):=by omega
  obtain⟨x,hx⟩:∃x,ys[i]? = some x:=⟨_,List.getElem?_eq_getElem (by omega)⟩
  obtain⟨y,hyy⟩:∃y,ys[n-1-i]? = some y:=⟨_,List.getElem?_eq_getElem (by omega)⟩
  rw[hj] at g3 cS
  have a1:∀(zs:List (List UInt8)) (k:Nat),zs.length=n→k<n→bL 1 (.ref b g 0 n n) (VI (k:Int)) (H.set b (.row g (zs.map bE) 1 true))=some (.ptr b g k 0):=fun zs k h1 h2=>by rw[bC (oI hr) h2,Nat.zero_add]
  have l1:cC false 1 (.ptr b g (n-1-i) 0) (H.set b (.row g (ys.map bE) 1 true))=some (bE y):=qU hr2 hyy
  have l2:cC false 1 (.ptr b g i 0) (H.set b (.row g (ys.map bE) 1 true))=some (bE x):=qU hr2 hx
  have s1:bQ lo 1 (.ptr b g i 0) (bE y) (H.set b (.row g (ys.map bE) 1 true))=some (H.set b (.row g ((ys.set i y).map bE) 1 true)):=by rw[eV (f:=bE) (e:=1) hr2 (by omega) dV rfl rfl,nJ]
  have s2:bQ lo 1 (.ptr b g (n-1-i) 0) (bE x) (H.set b (.row g ((ys.set i y).map bE) 1 true))=some (H.set b (.row g (((ys.set i y).set (n-1-i) x).map bE) 1 true)):=by rw[eV (f:=bE) (e:=1) (oI hr) (by rw[List.length_set];omega) dV rfl rfl,nJ]
  have w1:IntKind.i64.wrap ((i:Int)+1)=((i+1:Nat):Int):=wrapN _ (by omega) (by omega)
  have w2:IntKind.i64.wrap (((n-1-i:Nat):Int)-1)=(n:Int)-1-((i+1:Nat):Int):=by rw[wrap64 (by omega) (by omega)];omega
  have b1:=a1 ys i hl (by omega)
  have b2:=a1 ys (n-1-i) hl (by omega)
  have b3:=a1 (ys.set i y) (n-1-i) (by rw[List.length_set];exact hl) (by omega)
  simp only[gA,g0,g2,g3,cS,b1,b2,b3,l1,l2,s1,s2,w1,w2,VX,Nat.reduceEqDiff,Nat.reduceAdd]
  refine⟨(i+1,(ys.set i y).set (n-1-i) x),by simp only;omega,by simp only;omega,rfl,by simp only[List.length_set];exact hl,fun k hk => ?_,by (repeat' apply And.intro)<;>first | rfl | trivial⟩
  simp only
  have hxx:=hy i (by omega)
  rw[if_neg (by omega),hx] at hxx
  have hyx:=hy (n-1-i) (by omega)
  rw[if_neg (by omega),hyy] at hyx
  rw[List.getElem?_set,List.getElem?_set,List.length_set]
  by_cases h1:n-1-i=k
  ·subst h1
   rw[if_pos rfl,if_pos (by omega),if_pos (by omega),show n-1-(n-1-i)=i by omega]
   exact hxx
  ·rw[if_neg h1]
   by_cases h2:i=k
   ·subst h2
    rw[if_pos rfl,if_pos (by omega),if_pos (by omega)]
    exact hyx
   ·rw[if_neg h2,hy k hk]
    by_cases h3:k<i∨n≤k+i
    ·rw[if_pos h3,if_pos (by omega)]
    ·rw[if_neg h3,if_neg (by omega)]
 ·have aBY:ys=xs.reverse:=by
   apply List.ext_getElem?
   intro k
   rcases Nat.lt_or_ge k n with h | h
   ·rw[hy k h,List.getElem?_reverse (by omega),hn]
    split
    ·rfl
    ·rw[show n-1-k=k by omega]
   ·rw[List.getElem?_eq_none (by omega),List.getElem?_eq_none (by rw[List.length_reverse];omega)]
  subst aBY
  simp only[gA,g0,g2,g3,cS,VX,Nat.reduceEqDiff,Nat.reduceAdd]
  try exact⟨rfl,rfl⟩
theorem ZR (n:Nat):(aC 1000000000 n).length≤2*(aC 4294967296 n).length:=by
 refine nL (by decide) ?_
 have h1:=iD (b:=4294967296) (by decide) n
 have h2:4294967296^(aC 4294967296 n).length≤(1000000000^2)^(aC 4294967296 n).length:=Nat.pow_le_pow_left (by decide) _
 rw[←Nat.pow_mul] at h2
 omega
theorem amU {n:Nat} (hn:n≠0):(decDigits n).length≤9*(aC 1000000000 n).length:=by
 have h1:=iD (b:=1000000000) (by decide) n
 have h3:(aC 1000000000 n)≠[]:=fun h=>hn ((nA (by decide)).1 h)
 have h4:=List.length_pos_iff.2 h3
 generalize (aC 1000000000 n).length=L at *
 obtain⟨k,hk⟩:∃k,9*L=k+1:=⟨9*L-1,by omega⟩
 have h5:(1000000000:Nat)^L=10^(9*L):=by rw[show (1000000000:Nat)=10^9 by decide,←Nat.pow_mul]
 rw[h5,hk] at h1
 rw[hk]
 exact AE n k h1
def mR (q:Nat):List UInt8:=if q=0 then [] else decDigits q
theorem DJ (n:Nat) (hn:(aC 4294967296 n).length≤68719476736):TC 196 [bN n] (bE (decDigits n)):=by
 refine TC.walk ⟨true,false⟩ HR rfl (Nat.le_of_ble_eq_true rfl) (by simp[aO,bU]) rfl ?_
 by_cases h0:n=0
 ·subst h0
  have hl:(((aC 4294967296 0).length:Nat):Int)=0:=by rw[cF];rfl
  simp only[xE,tY,dT,hl,VX,Nat.reduceEqDiff,Nat.reduceAdd]
  rw[jL (by decide)]
  exact aE rfl
 have hl:¬(((aC 4294967296 n).length:Nat):Int)=0:=by have:=yP.2 h0;omega
 have e1:∀lr,kD lr [.string ⟨#[]⟩] 0 [] []=some (.ref 0 0 0 0 0,[.row 0 (([]:List (List UInt8)).map bE) 1 true]):=fun lr=>gY (H:=[]) (lr:=lr) (z:=[.string ⟨#[]⟩]) rfl
 have hTn:=ZR n
 have hdl:=amU h0
 simp only[xE,tY,dT,hl,e1,VX,Nat.reduceEqDiff,Nat.reduceAdd]
 refine aV (fun(t:Nat×List (List UInt8)) ρ H=>H=[.row t.2.length (t.2.map bE) 1 true]∧t.1≤n∧t.2.length+(aC 1000000000 t.1).length=(aC 1000000000 n).length∧decDigits n=mR t.1++t.2.reverse.flatten∧ρ 0=bN t.1∧ρ 3 = .ref 0 t.2.length 0 t.2.length t.2.length) (fun t=>t.1) (n,[]) ⟨rfl,Nat.le_refl _,by simp,by simp[mR,h0],rfl,rfl⟩ ?_
 rintro⟨q,ps⟩ ρ H ⟨rfl,hq,hlen,aaT,g0,g3⟩
 simp only at hq hlen aaT g0 g3
 by_cases SW:q=0
 ·subst SW
  have hz:¬(0:Int)<((aC 4294967296 0).length:Int):=by rw[yP];omega
  rw[mR,if_pos rfl,List.nil_append] at aaT
  have hr:aJ [.row ps.length (ps.map bE) 1 true] 0 ps.length=some (ps.map bE,1,true):=bB
  simp only[nP,g0,g3,dT,hz,VX,Nat.reduceEqDiff,Nat.reduceAdd]
  refine fS rfl ((acD hr rfl (Nat.le_refl _) (by omega)).mono ?_)
  rintro r H' ⟨rfl,rfl⟩
  have Jt:([.row ps.length (ps.map bE) 1 true]:aA).set 0 (.row ps.length (ps.reverse.map bE) 1 true)=[.row ps.length (ps.reverse.map bE) 1 true]:=rfl
  have hr2:aJ [.row ps.length (ps.reverse.map bE) 1 true] 0 ps.length=some (ps.reverse.map bE,1,true):=bB
  have hfl:ps.reverse.flatten.length≤140737488355328:=by rw[←aaT];omega
  have cj:=(asV ps.reverse (by rw[List.length_reverse];omega) hfl).flat (H:=[.row ps.length (ps.reverse.map bE) 1 true]) (args:=[.ref 0 ps.length 0 ps.length ps.length,bE []]) rfl (by simp only[aO,kL (f:=bE) amS (fun _=>rfl),Bool.and_true];rfl) (fz2 (Hf hr2 (by simp) (Nat.le_refl _) (eW fun _=>rfl)) (aE rfl)) rfl
  simp only[Jt,g3,cj,VX,Nat.reduceEqDiff,Nat.reduceAdd]
  rw[←aaT]
  exact aE rfl
 ·have hz:(0:Int)<((aC 4294967296 q).length:Int):=yP.2 SW
  have hql:=eZ (b:=4294967296) (by decide) hq
  have c1:TC 197 [bN q,.sc (.int .u32 1000000000)] (.dQ [bN (q / 1000000000),uV (q % 1000000000)]):=xT q 1000000000 (by decide) (by decide) (by omega)
  have hm:=Nat.mod_lt q (show 0<1000000000 by decide)
  have c2:=arA (q % 1000000000) (by omega)
  have wm:IntKind.u64.wrap ((q % 1000000000:Nat):Int)=((q % 1000000000:Nat):Int):=eU _ (by omega)
  have hdq:=jV (b:=1000000000) (by decide) SW
  have aEi:(aC 1000000000 q).length=(aC 1000000000 (q / 1000000000)).length+1:=by rw[hdq];rfl
  have hdr:=AE (q % 1000000000) 8 hm
  have hqq:=Nat.mod_add_div q 1000000000
  have e2:∀x:List UInt8,kD false [.string ⟨#[]⟩] 1 [(0,bE x)] [.row ps.length (ps.map bE) 1 true]=some (.tree [bE x] (.cl 1),[.row ps.length (ps.map bE) 1 true]):=fun x=>fU (z:=[.string ⟨#[]⟩]) rfl rfl rfl
  have e3:∀x:List UInt8,cT 1 (.tree [bE x] (.cl 1)) [.row ps.length (ps.map bE) 1 true]=some [bE x]:=fun x=>dL rfl rfl
  have e4:∀x:List UInt8,eE 0 1 16 (.ref 0 ps.length 0 ps.length ps.length) [bE x] [.row ps.length (ps.map bE) 1 true]=some (.ref 0 (ps.length+1) 0 (ps.length+1) (ps.length+1),[.row (ps.length+1) ((ps++[x]).map bE) 1 true]):=fun x=>by
   rw[gG (f:=bE) (x:=x) bB rfl (Nat.le_refl _) (by decide) (by decide) (by omega)]
   rfl
  have hle:q / 1000000000<q:=Nat.div_lt_self (by omega) (by decide)
  by_cases hqz:q / 1000000000=0
  ·have VA:¬(0:Int)<((aC 4294967296 (q / 1000000000)).length:Int):=by rw[yP];omega
   simp only[nP,g0,g3,dT,hz,c1,c2,wm,VA,e2,e3,e4,VX,Nat.reduceEqDiff,Nat.reduceAdd]
   refine⟨(q / 1000000000,ps++[decDigits (q % 1000000000)]),hle,by simp,by simp only;omega,by simp only[List.length_append,List.length_singleton];omega,?_,rfl,by simp⟩
   rw[aaT,mR,if_neg SW,mR,if_pos hqz,List.reverse_append,List.nil_append,List.reverse_singleton,List.singleton_append,List.flatten_cons,show q % 1000000000=q by omega]
  ·have VA:(0:Int)<((aC 4294967296 (q / 1000000000)).length:Int):=yP.2 hqz
   have ws:IntKind.i64.wrap ((9:Int)-((decDigits (q % 1000000000)).length:Int))=((9-(decDigits (q % 1000000000)).length:Nat):Int):=wrapN _ (by omega) (by omega)
   have c3:=adI [48] (9-(decDigits (q % 1000000000)).length) (by simp;omega) (by omega)
   have aiX:repeatL [48] (9-(decDigits (q % 1000000000)).length)++decDigits (q % 1000000000)=DU 9 (q % 1000000000):=by
    rw[aqP 8 _ hm]
    congr 1
    have:=repeatL_replicate 48 1 (9-(decDigits (q % 1000000000)).length)
    rw[Nat.mul_one] at this
    exact this
   have c4:=sB (repeatL [48] (9-(decDigits (q % 1000000000)).length)) (decDigits (q % 1000000000)) (by rw[←List.length_append,aiX,anH];decide)
   rw[aiX] at c4
   simp only[nP,g0,g3,dT,hz,c1,c2,wm,VA,bO,ws,c3,c4,e2,e3,e4,VX,Nat.reduceEqDiff,Nat.reduceAdd]
   refine⟨(q / 1000000000,ps++[DU 9 (q % 1000000000)]),hle,by simp,by simp only;omega,by simp only[List.length_append,List.length_singleton];omega,?_,rfl,by simp⟩
   rw[aaT,mR,if_neg SW,mR,if_neg hqz,List.reverse_append,List.reverse_singleton,List.singleton_append,List.flatten_cons,←List.append_assoc,←Kc (by omega) hm]
   congr 2
   omega
end Go.PM