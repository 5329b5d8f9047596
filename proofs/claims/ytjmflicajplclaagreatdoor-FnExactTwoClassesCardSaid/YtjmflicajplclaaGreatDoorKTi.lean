/- Texts of a claim, in one: part 9. -/
import Derived.Test.YtjmflicajplclaaGreatDoorKTh
set_option linter.unusedSimpArgs false
set_option linter.unusedVariables false
namespace Go.PM
theorem Uz {iB vs us ws os:List Nat} {n u2 u1 u0 v1 v0 N k g left:Nat} (G:vR 4294967296 iB vs n u2 u1 u0 v1 v0) {ρ:dM} {Q:VQ} (hN:us.length=N) (hk2:2≤k) (hkN:k<N) (CS:N≤70368744177664) (hu0:us[k-2]? = some u0)
  (g9:ρ 9 = .ref 0 0 0 N N) (g11:ρ 11=VK .u64 v1) (g12:ρ 12=VK .u64 v0) (g15:ρ 15=VI k) (g17:ρ 17=VK .u64 g) (g18:ρ 18=VK .u64 left) (hh:u2*4294967296+u1=g*v1+left) (hq:val 4294967296 iB / val 4294967296 vs≤g) (hl:left<4294967296) (hgb:g<18446744073709551616)
  (hQ:∀(bI:dM) (g':Nat),val 4294967296 iB / val 4294967296 vs≤g'→g'≤val 4294967296 iB / val 4294967296 vs+1→g'<4294967296→bI 17=VK .u64 g'→bI 8=ρ 8→bI 9=ρ 9→bI 10=ρ 10→bI 11=ρ 11→bI 12=ρ 12→bI 13=ρ 13→bI 14=ρ 14→bI 15=ρ 15→Q (.exit 2) bI (H3 us ws os)) :
  VW ⟨true,false⟩ 0 (.loop fZ) Q ρ (H3 us ws os):=by
 have lv1:=G.V6
 have lv0:=G.adY
 have lu0:=G.ajV
 have qlt:=G.aiA
 have kY:=G.pos
 refine aS (fun(t:Nat×Nat) bI H=>H=H3 us ws os∧u2*4294967296+u1=t.1*v1+t.2∧val 4294967296 iB / val 4294967296 vs≤t.1∧t.2<4294967296∧t.1<18446744073709551616 ∧
  bI 9 = .ref 0 0 0 N N∧bI 11=VK .u64 v1∧bI 12=VK .u64 v0∧bI 15=VI k∧bI 17=VK .u64 t.1∧bI 18=VK .u64 t.2∧bI 8=ρ 8∧bI 10=ρ 10∧bI 13=ρ 13∧bI 14=ρ 14) (fun t=>4294967296-t.2) (g,left) ⟨rfl,hh,hq,hl,hgb,g9,g11,g12,g15,g17,g18,rfl,rfl,rfl,rfl⟩ ?_
 rintro⟨g,left⟩ OB H ⟨rfl,hh,hq,hl,hgb,k9,Wc,HM,Kk,Hu,YS,k8,Y1,Bh,Cx⟩
 simp only at hh hq hl hgb Hu YS
 have e1:bK 1 (.ref 0 0 0 N N) (VI ((k-2:Nat):Int)) (H3 us ws os)=some (.ptr 0 0 (k-2) 0):=by rw[bE Cq (by omega),Nat.zero_add]
 have e2:bT false 1 (.ptr 0 0 (k-2) 0) (H3 us ws os)=some (uV u0):=iH Cq hu0
 have wk:IntKind.i64.wrap ((k:Int)-2)=((k-2:Nat):Int):=wrapN _ (by omega) (by omega)
 have wu:IntKind.u64.wrap (u0:Int)=(u0:Int):=dV _ (by omega)
 have ws:=D1 left .u64 hl
 have wa:IntKind.u64.wrap (((left*4294967296:Nat):Int)+(u0:Int))=((left*4294967296+u0:Nat):Int):=by rw[←Int.natCast_add];exact dV _ (by omega)
 have wl:IntKind.u64.wrap ((left:Int)+(v1:Int))=((left+v1:Nat):Int):=by rw[←Int.natCast_add];exact dV _ (by omega)
 have same:OB 9=ρ 9∧OB 11=ρ 11∧OB 12=ρ 12∧OB 15=ρ 15:=⟨by rw[k9,g9],by rw[Wc,g11],by rw[HM,g12],by rw[Kk,g15]⟩
 obtain⟨s9,s11,s12,s15⟩:=same
 have down:val 4294967296 iB / val 4294967296 vs<g→∃g',g=g'+1∧IntKind.u64.wrap ((g:Int)-1)=(g':Int)∧u2*4294967296+u1=g'*v1+(left+v1)∧val 4294967296 iB / val 4294967296 vs≤g':=by
  intro h
  have hg1:1≤g:=Nat.lt_of_le_of_lt (Nat.zero_le _) h
  obtain⟨g',rfl⟩:∃g',g=g'+1:=⟨g-1,by omega⟩
  refine⟨g',rfl,?_,?_,by omega⟩
  ·rw[show ((g'+1:Nat):Int)-1=(g':Int) by omega]
   exact dV _ (by omega)
  ·rw[hh,Nat.add_mul]
   omega
 by_cases hA:(4294967296:Int)≤(g:Int)
 ·obtain⟨g',hg',wg,Un,Nz⟩:=down (by omega)
  by_cases hB:(4294967296:Int)≤((left+v1:Nat):Int)
  ·obtain⟨c1,c2⟩:=G.broken Un (by omega)
   simp only[fZ,k9,Wc,HM,Kk,Hu,YS,hA,hB,wg,wl,VX,Nat.reduceEqDiff,Nat.reduceAdd]
   exact hQ _ g' Nz (G.YK Un (by omega) c2) c1 rfl k8 s9 Y1 s11 s12 Bh Cx s15
  ·simp only[fZ,k9,Wc,HM,Kk,Hu,YS,hA,hB,wg,wl,VX,Nat.reduceEqDiff,Nat.reduceAdd]
   exact⟨(g',left+v1),by simp only;omega,Un,Nz,by simp only;omega,by simp only;omega,by rfl,by rfl,k8,Y1,Bh,Cx⟩
 ·have hgv:g*v0≤4294967295*4294967295:=Nat.mul_le_mul (by omega) (by omega)
  have wm:IntKind.u64.wrap ((g:Int)*(v0:Int))=((g*v0:Nat):Int):=by rw[←Int.natCast_mul];exact dV _ (by omega)
  by_cases hT:((left*4294967296+u0:Nat):Int)<((g*v0:Nat):Int)
  ·obtain⟨g',hg',wg,Un,Nz⟩:=down (G.too hh (by omega))
   by_cases hB:(4294967296:Int)≤((left+v1:Nat):Int)
   ·obtain⟨c1,c2⟩:=G.broken Un (by omega)
    simp only[fZ,k9,Wc,HM,Kk,Hu,YS,hA,hB,hT,e1,e2,wk,wu,ws,wa,wm,wg,wl,VX,Nat.reduceEqDiff,Nat.reduceAdd]
    exact hQ _ g' Nz (G.YK Un (by omega) c2) c1 rfl k8 s9 Y1 s11 s12 Bh Cx s15
   ·simp only[fZ,k9,Wc,HM,Kk,Hu,YS,hA,hB,hT,e1,e2,wk,wu,ws,wa,wm,wg,wl,VX,Nat.reduceEqDiff,Nat.reduceAdd]
    exact⟨(g',left+v1),by simp only;omega,Un,Nz,by simp only;omega,by simp only;omega,by rfl,by rfl,k8,Y1,Bh,Cx⟩
  ·simp only[fZ,k9,Wc,HM,Kk,Hu,YS,hA,hT,e1,e2,wk,wu,ws,wa,wm,VX,Nat.reduceEqDiff,Nat.reduceAdd]
   exact hQ _ g hq (G.YK hh (by omega) (by omega)) (by omega) Hu k8 s9 Y1 s11 s12 Bh Cx s15
theorem Mh {X S S' R V q Q P w:Nat} (hs:S=q*V+S') (h:X+P*S+P*w*V*Q=R):X+P*S'+P*V*(q+w*Q)=R:=by
 subst hs
 grind
theorem aaQ {Ed ws YX vs:List Nat} {N m n v1 v0 A s:Nat} {ρ:dM} {Q:VQ} (hN:Ed.length=N) (hm:m+(n+2)=N) (CS:N≤70368744177664) (I2:∀d∈Ed,d<4294967296) (hws:ws.take (n+2)=vs) (hwl:ws.length=n+3) (FT:vs.length=n+2) (Gz:∀d∈vs,d<4294967296) (f1:vs[n+1]? = some v1) (f0:vs[n]? = some v0) (kY:1≤v1)
  (hA:val 4294967296 Ed=A) (BX:val 4294967296 (Ed.drop m)<val 4294967296 vs) (jL:YX.length=m) (lG:∀d∈YX,d<4294967296)
  (g8:ρ 8=VI s) (g9:ρ 9 = .ref 0 0 0 N N) (g10:ρ 10 = .ref 1 0 0 (n+2) (n+3)) (g11:ρ 11=VK .u64 v1) (g12:ρ 12=VK .u64 v0) (g13:ρ 13 = .ref 2 0 0 m m) (g14:ρ 14=VI ((m:Int)-1))
  (hQ:∀(bI:dM) (us os:List Nat),bI 8=VI s→bI 9 = .ref 0 0 0 N N→bI 13 = .ref 2 0 0 m m→us.length=N→(∀d∈us,d<4294967296)→os.length=m→(∀d∈os,d<4294967296)→val 4294967296 us+val 4294967296 vs*val 4294967296 os=A→val 4294967296 us<val 4294967296 vs→Q (.exit 0) bI (H3 us ws os)) :
  VW ⟨true,false⟩ 0 (.loop nT) Q ρ (H3 Ed ws YX):=by
 have hVb:=oF Gz
 rw[FT] at hVb
 refine aS (fun(t:Nat×List Nat×List Nat) bI H=>t.1≤m∧H=H3 t.2.1 ws t.2.2∧t.2.1.length=N∧(∀d∈t.2.1,d<4294967296)∧t.2.2.length=m∧(∀d∈t.2.2,d<4294967296)∧val 4294967296 (t.2.1.drop t.1)<val 4294967296 vs∧val 4294967296 t.2.1+4294967296^t.1*val 4294967296 vs*val 4294967296 (t.2.2.drop t.1)=A ∧
  bI 8=VI s∧bI 9 = .ref 0 0 0 N N∧bI 10 = .ref 1 0 0 (n+2) (n+3)∧bI 11=VK .u64 v1∧bI 12=VK .u64 v0∧bI 13 = .ref 2 0 0 m m∧bI 14=VI ((t.1:Int)-1)) (fun t=>t.1) (m,Ed,YX) ⟨Nat.le_refl _,rfl,hN,I2,jL,lG,BX,by rw[List.drop_of_length_le (by simp only;omega)];simpa[val] using hA,g8,g9,g10,g11,g12,g13,g14⟩ ?_
 rintro⟨j,us,os⟩ OB H ⟨hj,rfl,Qz,I2,jL,lG,bF,hv,k8,k9,Y1,Wc,HM,Bh,Cx⟩
 simp only at hj Qz I2 jL lG bF hv Cx
 by_cases hz:(0:Int)≤(j:Int)-1
 ·obtain⟨i,rfl⟩:∃i,j=i+1:=⟨j-1,by omega⟩
  have HD:((i+1:Nat):Int)-1=(i:Int):=by omega
  rw[HD] at Cx hz
  obtain⟨US,yQ,Qt,hsW,abX,aeF,rG⟩:=Xr (n:=n+2) Qz (by omega) I2 hVb bF
  generalize Xj:(us.drop i).take (n+2+1)=iB at *
  have PB:∀d∈iB,d<4294967296:=fun d hd=>by rw[←Xj] at hd;exact I2 d (List.mem_of_mem_drop (List.mem_of_mem_take hd))
  obtain⟨u2,hu2⟩:∃u2,us[i+(n+2)]? = some u2:=⟨_,List.getElem?_eq_getElem (by omega)⟩
  obtain⟨u1,hu1⟩:∃u1,us[i+(n+1)]? = some u1:=⟨_,List.getElem?_eq_getElem (by omega)⟩
  obtain⟨u0,hu0⟩:∃u0,us[i+n]? = some u0:=⟨_,List.getElem?_eq_getElem (by omega)⟩
  have G:vR 4294967296 iB vs n u2 u1 u0 v1 v0:=⟨by decide,PB,Gz,Qt,FT,by rw[rG _ (by omega)];exact hu2,by rw[rG _ (by omega)];exact hu1,by rw[rG _ (by omega)];exact hu0,f1,f0,kY,hsW⟩
  have lu2:=G.aiT
  have lu1:=G.abK
  have lv1:=G.V6
  have qlt:=G.aiA
  have Iy:=G.Iy
  have amG:oI (.ref 1 0 0 (n+2) (n+3)) (H3 us ws os)=some (VI ((n+2:Nat):Int)):=fQ arK
  have w1:IntKind.i64.wrap ((i:Int)+((n+2:Nat):Int))=((i+(n+2):Nat):Int):=by rw[←Int.natCast_add];exact wrapN _ rfl (by omega)
  have w2:IntKind.i64.wrap (((i+(n+2):Nat):Int)-1)=((i+(n+1):Nat):Int):=wrapN _ (by omega) (by omega)
  have e2:bK 1 (.ref 0 0 0 N N) (VI ((i+(n+2):Nat):Int)) (H3 us ws os)=some (.ptr 0 0 (i+(n+2)) 0):=by rw[bE Cq (by omega),Nat.zero_add]
  have e1:bK 1 (.ref 0 0 0 N N) (VI ((i+(n+1):Nat):Int)) (H3 us ws os)=some (.ptr 0 0 (i+(n+1)) 0):=by rw[bE Cq (by omega),Nat.zero_add]
  have l2:bT false 1 (.ptr 0 0 (i+(n+2)) 0) (H3 us ws os)=some (uV u2):=iH Cq hu2
  have l1:bT false 1 (.ptr 0 0 (i+(n+1)) 0) (H3 us ws os)=some (uV u1):=iH Cq hu1
  have wu2:IntKind.u64.wrap (u2:Int)=(u2:Int):=dV _ (by omega)
  have wu1:IntKind.u64.wrap (u1:Int)=(u1:Int):=dV _ (by omega)
  have ws2:=D1 u2 .u64 lu2
  have wa:IntKind.u64.wrap (((u2*4294967296:Nat):Int)+(u1:Int))=((u2*4294967296+u1:Nat):Int):=by rw[←Int.natCast_add];exact dV _ (by omega)
  have q1:=Vv (u2*4294967296+u1) v1 (by omega) kY
  have q2:=Ph (u2*4294967296+u1) v1 kY
  simp only[nT,k8,k9,Y1,Wc,HM,Bh,Cx,hz,amG,w1,w2,e1,e2,l1,l2,wu1,wu2,ws2,wa,q1,q2,VX,Nat.reduceEqDiff,Nat.reduceAdd]
  have hh:=Nat.mod_add_div (u2*4294967296+u1) v1
  have hml:=Nat.mod_lt (u2*4294967296+u1) kY
  have hdl:(u2*4294967296+u1) / v1≤u2*4294967296+u1:=Nat.div_le_self _ _
  have Qy:val 4294967296 iB / val 4294967296 vs≤(u2*4294967296+u1) / v1:=by
   have t1:=(C2 (n:=n+1) (xs:=iB) PB (by omega) (by rw[rG _ (by omega)];exact hu2) (by rw[rG _ (by omega)];exact hu1)).2
   have t2:=(zV (n:=n+1) Gz FT f1).1
   rw[Nat.le_div_iff_mul_le kY]
   have t3:val 4294967296 iB / val 4294967296 vs*(v1*4294967296^(n+1))≤val 4294967296 iB / val 4294967296 vs*val 4294967296 vs:=Nat.mul_le_mul_left _ t2
   have t4:=Nat.div_mul_le_self (val 4294967296 iB) (val 4294967296 vs)
   have t5:val 4294967296 iB / val 4294967296 vs*v1*4294967296^(n+1)<(u2*4294967296+u1+1)*4294967296^(n+1):=by rw[Nat.mul_assoc];omega
   have:=Nat.lt_of_mul_lt_mul_right t5
   omega
  refine Uz (k:=i+(n+2)) G Qz (by omega) (by omega) CS (by rw[show i+(n+2)-2=i+n by omega];exact hu0) k9 Wc HM (by rfl) (by rfl) (by rfl) (by rw[Nat.mul_comm ((u2*4294967296+u1) / v1)];omega) Qy (by omega) (by omega) ?_
  intro Tv g' hq Nz hgW r17 r8 r9 r10 r11 r12 r13 r14 r15
  have Rv:Tv 15=VI ((i+(n+2):Nat):Int):=r15
  have r8':Tv 8=VI s:=r8.trans k8
  have r9':Tv 9 = .ref 0 0 0 N N:=r9.trans k9
  have alF:Tv 10 = .ref 1 0 0 (n+2) (n+3):=r10.trans Y1
  have aoL:Tv 11=VK .u64 v1:=r11.trans Wc
  have SK:Tv 12=VK .u64 v0:=r12.trans HM
  have QL:Tv 13 = .ref 2 0 0 m m:=r13.trans Bh
  have Re:Tv 14=VI i:=r14.trans Cx
  have w3:IntKind.i64.wrap (((i+(n+2):Nat):Int)+1)=((i+(n+3):Nat):Int):=wrapN _ (by omega) (by omega)
  have acN:FP 1 (.ref 0 0 0 N N) (some (VI i)) (some (VI ((i+(n+3):Nat):Int))) none (H3 us ws os)=some (.ref 0 0 i (n+3) (N-i)):=by
   rw[adL Cq (by omega) (by omega),Nat.zero_add,Nat.add_sub_cancel_left]
  simp only[r8',r9',alF,aoL,SK,QL,Re,Rv,r17,w3,acN,VX,Nat.reduceEqDiff,Nat.reduceAdd]
  have sZ:g'*val 4294967296 vs≤val 4294967296 iB+val 4294967296 vs:=by
   have:=Nat.mul_le_mul_right (val 4294967296 vs) Nz
   rw[Nat.add_mul,Nat.one_mul] at this
   have:=Nat.div_mul_le_self (val 4294967296 iB) (val 4294967296 vs)
   omega
  refine gI rfl ((Uj (pre:=us.take i) (iB:=iB) (post:=us.drop (i+(n+2+1))) (L:=n+3) (o:=i) (by rw[←US];exact Cq) (arK (us:=us) (ws:=ws) (os:=os)) (by decide) (Nat.zero_le _) yQ Qt (by omega) hws (by omega) (by omega) PB Gz hgW sZ).mono ?_)
  rintro r H' ⟨qM,rfl,BV,YQ,hr⟩
  generalize ahH:us.take i++qM++us.drop (i+(n+2+1))=E2 at *
  have HE:(H3 us ws os).set 0 (.row 0 (E2.map uV) 1 true)=H3 E2 ws os:=rfl
  rw[HE]
  have amD:E2.length=N:=by rw[←ahH,List.length_append,List.length_append,yQ,BV,List.length_drop];omega
  have ahX:∀d∈E2,d<4294967296:=fun d hd=>by
   rw[←ahH,List.mem_append,List.mem_append] at hd
   rcases hd with(hd | hd) | hd
   ·exact I2 d (List.mem_of_mem_take hd)
   ·exact YQ d hd
   ·exact I2 d (List.mem_of_mem_drop hd)
  have Ux:E2.drop i=qM++us.drop (i+(n+2+1)):=by rw[←ahH,List.append_assoc,List.drop_append,List.drop_of_length_le (by omega),yQ];simp
  have TJ:E2.take i=us.take i:=by rw[←ahH,List.append_assoc,List.take_append_of_le_length (by omega),List.take_of_length_le (by omega)]
  have Rj:val 4294967296 (E2.drop i)=val 4294967296 qM:=by rw[Ux,yN,aeF,Nat.mul_zero,Nat.add_zero]
  have digit:∀q:Nat,q=val 4294967296 iB / val 4294967296 vs→val 4294967296 qM=val 4294967296 iB % val 4294967296 vs →
    val 4294967296 (E2.drop i)<val 4294967296 vs∧val 4294967296 E2+4294967296^i*val 4294967296 vs*val 4294967296 ((os.set i q).drop i)=A:=by
   rintro q Ts hse
   have agZ:=Nat.mod_lt (val 4294967296 iB) Iy
   refine⟨by rw[Rj,hse];exact agZ,?_⟩
   have h1:=Nat.div_add_mod (val 4294967296 iB) (val 4294967296 vs)
   rw[←Ts,←hse,Nat.mul_comm] at h1
   have h2:=pB (b:=4294967296) us i
   have h3:=pB (b:=4294967296) E2 i
   rw[TJ,yQ,Rj] at h3
   rw[yQ,abX] at h2
   rw[set_drop (by omega),rX,h3]
   rw[h2,Nat.pow_succ] at hv
   exact Mh h1.symm hv
  have e3:∀d:Nat,bK 1 (.ref 2 0 0 m m) (VI i) (H3 E2 ws os)=some (.ptr 2 0 i 0)∧bR 0 1 (.ptr 2 0 i 0) (uV d) (H3 E2 ws os)=some (H3 E2 ws (os.set i d)):=fun d=>by
   refine⟨by rw[bE agA (by omega),Nat.zero_add],?_⟩
   rw[fK (f:=uV) (e:=1) agA (by omega) (Nat.zero_le _) rfl rfl]
   rfl
  have wi:IntKind.i64.wrap ((i:Int)-1)=(i:Int)-1:=wrap64 (by omega) (by omega)
  rcases hr with⟨rfl,hr⟩ | ⟨rfl,FQ,hr2⟩
  ·have EN:g'*val 4294967296 vs≤val 4294967296 iB:=by omega
   have Ts:g'=val 4294967296 iB / val 4294967296 vs:=by
    have:=(Nat.le_div_iff_mul_le Iy).2 EN
    omega
   have hse:val 4294967296 qM=val 4294967296 iB % val 4294967296 vs:=by
    have h1:=Nat.div_add_mod (val 4294967296 iB) (val 4294967296 vs)
    rw[←Ts,Nat.mul_comm] at h1
    omega
   obtain⟨d1,d2⟩:=digit g' Ts hse
   simp only[r8',r9',alF,aoL,SK,QL,Re,Rv,r17,(e3 g').1,(e3 g').2,wi,wrap32,Nat.mod_eq_of_lt hgW,VX,Nat.reduceEqDiff,Nat.reduceAdd]
   exact⟨(i,E2,os.set i g'),by simp only;omega,by omega,rfl,amD,ahX,by rw[List.length_set];exact jL,lU lG hgW,d1,d2,by (repeat' apply And.intro)<;>first | rfl | trivial⟩
  ·have Zz:val 4294967296 iB / val 4294967296 vs<g':=(Nat.div_lt_iff_lt_mul Iy).2 FQ
   have hg1:1≤g':=Nat.lt_of_le_of_lt (Nat.zero_le _) Zz
   obtain⟨q,rfl⟩:∃q,g'=q+1:=⟨g'-1,by omega⟩
   have Ts:q=val 4294967296 iB / val 4294967296 vs:=by omega
   have hse:val 4294967296 qM=val 4294967296 iB % val 4294967296 vs:=by
    have h1:=Nat.div_add_mod (val 4294967296 iB) (val 4294967296 vs)
    rw[←Ts,Nat.mul_comm] at h1
    rw[Nat.add_mul,Nat.one_mul] at hr2
    omega
   have wq:IntKind.u64.wrap (((q+1:Nat):Int)-1)=(q:Int):=by rw[show ((q+1:Nat):Int)-1=(q:Int) by omega];exact dV _ (by omega)
   obtain⟨d1,d2⟩:=digit q Ts hse
   simp only[r8',r9',alF,aoL,SK,QL,Re,Rv,r17,wq,(e3 q).1,(e3 q).2,wi,wrap32,Nat.mod_eq_of_lt (show q<4294967296 by omega),VX,Nat.reduceEqDiff,Nat.reduceAdd]
   exact⟨(i,E2,os.set i q),by simp only;omega,by omega,rfl,amD,ahX,by rw[List.length_set];exact jL,lU lG (by omega),d1,d2,by (repeat' apply And.intro)<;>first | rfl | trivial⟩
 ·have QA:j=0:=by omega
  subst QA
  rw[List.drop_zero] at bF
  rw[Nat.pow_zero,Nat.one_mul,List.drop_zero] at hv
  simp only[nT,k8,k9,Y1,Wc,HM,Bh,Cx,hz,VX,Nat.reduceEqDiff,Nat.reduceAdd]
  exact hQ _ us os k8 k9 Bh Qz I2 jL lG hv bF
end Go.PM
namespace Go.PM
theorem Kv {a n:Nat} (hn:(aC 4294967296 a).length=n+1):∃d,(aC 4294967296 a)[n]? = some d∧d≠0∧d<4294967296:=by
 obtain⟨d,hd⟩:∃d,(aC 4294967296 a)[n]? = some d:=⟨_,List.getElem?_eq_getElem (by omega)⟩
 refine⟨d,hd,fun h0 => ?_,fF (by decide) a d (List.mem_of_getElem? hd)⟩
 have:=N2 (b:=4294967296) (by decide) a
 rw[List.getLast?_eq_getElem?,hn,Nat.add_sub_cancel,hd,h0] at this
 exact this rfl
theorem Ri {a d:Nat} (h:aC 4294967296 a=[d]):a=d∧0<d∧d<4294967296:=by
 have h1:=cI (b:=4294967296) (by decide) a
 rw[h,val_one] at h1
 obtain⟨e,h2,h3,h4⟩:=Kv (a:=a) (n:=0) (by rw[h];rfl)
 rw[h] at h2
 cases h2
 exact⟨h1.symm,by omega,h4⟩
theorem xW (a b:Nat) (hb:b≠0) (ha:(aC 4294967296 a).length≤17592186044416) (uB:(aC 4294967296 b).length≤17592186044416):TC 183 [bN a,bN b] (.dT [bN (a / b),bN (a % b)]):=by
 refine TC.walk ⟨true,false⟩ Il rfl (Nat.le_of_ble_eq_true rfl) (by simp[aM,bS]) (by simp[gJ,qB,pW]) ?_
 have c1:=jS a b ha uB
 by_cases Ef:eX a b<0
 ·have bF:a<b:=by
   unfold eX at Ef
   split at Ef
   ·assumption
   ·split at Ef<;>omega
  simp only[sM,pC,c1,Ef,VX,Nat.reduceEqDiff,Nat.reduceAdd]
  rw[Nat.div_eq_of_lt bF,Nat.mod_eq_of_lt bF]
  exact bO (d:=6) wK (aJ (bS a))
 have EN:b≤a:=by
  unfold eX at Ef
  split at Ef
  ·omega
  ·omega
 have hbn:(aC 4294967296 b).length≠0:=fun h=>hb ((lQ (b:=4294967296) (by decide)).1 (List.length_eq_zero_iff.1 h))
 by_cases h1:(((aC 4294967296 b).length:Nat):Int)=1
 ·obtain⟨d,hd⟩:∃d,aC 4294967296 b=[d]:=by
   match hx:aC 4294967296 b with
   | []=>rw[hx] at hbn;exact absurd rfl hbn
   | [d]=>exact⟨d,rfl⟩
   | _::_::_=>rw[hx] at h1;simp at h1;omega
  obtain⟨rfl,Dp,hdW⟩:=Ri hd
  have c2:=vQ a b Dp hdW ha
  have e0:oI (bN b) []=some (VI 1):=by rw[bN,A4,dW,hd];rfl
  have e1:bK 1 (bN b) (VI 0) []=some (.cN (uV b) 0):=by
   rw[bN,hd]
   exact aK (f:=uV) (t := .op) (H:=[]) (size:=1) (k := .i64) (xs:=[b]) (i:=0) rfl rfl
  have e2:=gE (H:=[]) (z:=[.int .u32 0]) (v:=uV (a % b)) rfl rfl rfl
  have e3:=aeK (size:=1) (v:=Value.int .u32 ((b:Nat):Int))
  simp only[sM,pC,c1,Ef,e0,e1,c2,e2,VX,Nat.reduceEqDiff,Nat.reduceAdd]
  refine KZ (ds:=[a % b]) (t := .cl 1) (fun d hd => ?_) (by show 1≤70368744177664;decide) (val_one _) fun t' ht => ?_
  ·rw[List.mem_singleton] at hd
   subst hd
   exact Nat.lt_of_lt_of_le (Nat.mod_lt _ Dp) (Nat.le_of_lt hdW)
  ·simp only[VX,Nat.reduceEqDiff,Nat.reduceAdd]
   exact bO (d:=6) (aJ (bS _)) (Zw (d:=5) ht)
 obtain⟨n,hn⟩:∃n,(aC 4294967296 b).length=n+2:=⟨(aC 4294967296 b).length-2,by omega⟩
 obtain⟨t,ht,ht0,htW⟩:=Kv (a:=b) (n:=n+1) hn
 obtain⟨s,hs,cl,Zt⟩:=Um ht0 htW
 have hS:0<2^s:=Nat.pow_pos (by decide)
 have hSW:2^s*2^(32-s)=4294967296:=by rw[←Nat.pow_add,show s+(32-s)=32 by omega]
 have hla:=dY (b:=4294967296) (by decide) EN
 have e0:oI (bN b) []=some (VI ((n+2:Nat):Int)):=by rw[bN,A4,dW,hn]
 have w0:IntKind.i64.wrap (((n+2:Nat):Int)-1)=((n+1:Nat):Int):=wrapN _ (by omega) (by omega)
 have XD:¬(((n+2:Nat):Int)=1):=by omega
 have e1:bK 1 (bN b) (VI ((n+1:Nat):Int)) []=some (.cN (uV t) 0):=aK (f:=uV) (t := .op) (H:=[]) (size:=1) (k := .i64) ht rfl
 simp only[sM,pC,c1,Ef,e0,XD,w0,e1,cl,VX,Nat.reduceEqDiff,Nat.reduceAdd]
 have fa:[bN a,VI (s:Int)].mapM (fz depth ([]:aA))=some [bN a,VI (s:Int)]:=fz2 (aF (bS a)) (aF rfl)
 refine FC.call (xD a s hs ha) rfl fa ?_
 rintro r L ⟨Ij,rfl,rfl,hAl,hAd,hAv,hAt⟩
 simp only[VX,Nat.reduceEqDiff,Nat.reduceAdd]
 have fb:∀H:aA,[bN b,VI (s:Int)].mapM (fz depth H)=some [bN b,VI (s:Int)]:=fun H=>fz2 (aF (bS b)) (aF rfl)
 refine FC.call (xD b s hs uB) rfl (fb _) ?_
 rintro r L ⟨Ei,rfl,rfl,hBl,hBd,hBv,hBt⟩
 rw[hn] at hBl
 simp only[hn,List.length_singleton,VX,Nat.reduceEqDiff,Nat.reduceAdd]
 have alW:b*2^s<4294967296^(n+2):=by
  have h2:=(zV (n:=n+1) (fF (b:=4294967296) (by decide) b) hn ht).2
  rw[cI (by decide)] at h2
  have h3:b*2^s<(t+1)*4294967296^(n+1)*2^s:=Nat.mul_lt_mul_of_pos_right h2 hS
  have h4:(t+1)*4294967296^(n+1)*2^s=(t+1)*2^s*4294967296^(n+1):=by grind
  have h5:(t+1)*2^s≤4294967296:=by
   have h6:t*2^s<2^(32-s)*2^s:=by rw[Nat.mul_comm (2^(32-s)),hSW];exact Zt
   have h7:=Nat.lt_of_mul_lt_mul_right h6
   have h8:(t+1)*2^s≤2^(32-s)*2^s:=Nat.mul_le_mul_right _ h7
   rwa [Nat.mul_comm (2^(32-s)),hSW] at h8
  have h9:(t+1)*2^s*4294967296^(n+1)≤4294967296*4294967296^(n+1):=Nat.mul_le_mul_right _ h5
  have h10:4294967296*4294967296^(n+1)=4294967296^(n+2):=by rw[Nat.pow_succ 4294967296 (n+1)];exact Nat.mul_comm _ _
  omega
 have hVl:(aC 4294967296 (b*2^s)).length=n+2:=by
  have h2:=lX (b:=4294967296) (by decide) alW
  have h3:b≤b*2^s:=Nat.le_mul_of_pos_right b hS
  have h4:=dY (b:=4294967296) (by decide) h3
  omega
 refine rA (rows:=Ei) (m:=b*2^s) (by rfl) (by omega) (by omega) (by omega) (fun d hd=>hBd d (List.mem_of_mem_take hd)) (by rw[List.take_of_length_le (by omega)];exact hBv) fun k hk he => ?_
 have hk2:k=n+2:=by
  have:=congrArg List.length he
  rw[hVl,List.length_take] at this
  omega
 subst hk2
 generalize Qw:aC 4294967296 (b*2^s)=vs at *
 have Gz:∀d∈vs,d<4294967296:=by rw[←Qw];exact fF (by decide) _
 have Ns:val 4294967296 vs=b*2^s:=by rw[←Qw];exact cI (by decide) _
 obtain⟨v1,f1⟩:∃v1,vs[n+1]? = some v1:=⟨_,List.getElem?_eq_getElem (by omega)⟩
 obtain⟨v0,f0⟩:∃v0,vs[n]? = some v0:=⟨_,List.getElem?_eq_getElem (by omega)⟩
 have hv1:1≤v1:=by
  obtain⟨d,hd,Dp,_⟩:=Kv (a:=b*2^s) (n:=n+1) (by rw[Qw];exact hVl)
  rw[Qw,f1] at hd
  cases hd
  omega
 have b1:Ei[n+1]? = some v1:=by rw[←f1,←he,List.getElem?_take_of_lt (by omega)]
 have b0:Ei[n]? = some v0:=by rw[←f0,←he,List.getElem?_take_of_lt (by omega)]
 have lv1:=Gz v1 (List.mem_of_getElem? f1)
 have lv0:=Gz v0 (List.mem_of_getElem? f0)
 have x1:bK 1 (.ref 1 0 0 (n+2) (n+2+1)) (VI ((n+1:Nat):Int)) [.row 0 (Ij.map uV) 1 true,.row 0 (Ei.map uV) 1 true]=some (.ptr 1 0 (n+1) 0):=by rw[bE (by rfl) (by omega),Nat.zero_add]
 have x0:bK 1 (.ref 1 0 0 (n+2) (n+2+1)) (VI ((n:Nat):Int)) [.row 0 (Ij.map uV) 1 true,.row 0 (Ei.map uV) 1 true]=some (.ptr 1 0 n 0):=by rw[bE (by rfl) (by omega),Nat.zero_add]
 have y1:bT false 1 (.ptr 1 0 (n+1) 0) [.row 0 (Ij.map uV) 1 true,.row 0 (Ei.map uV) 1 true]=some (uV v1):=iH (rows:=Ei) (g:=0) (w:=true) (by rfl) b1
 have y0:bT false 1 (.ptr 1 0 n 0) [.row 0 (Ij.map uV) 1 true,.row 0 (Ei.map uV) 1 true]=some (uV v0):=iH (rows:=Ei) (g:=0) (w:=true) (by rfl) b0
 have z0:oI (.ref 1 0 0 (n+2) (n+2+1)) [.row 0 (Ij.map uV) 1 true,.row 0 (Ei.map uV) 1 true]=some (VI ((n+2:Nat):Int)):=fQ (r:=(Ei.map uV,1,true)) (by rfl)
 have z1:oI (.ref 0 0 0 ((aC 4294967296 a).length+1) ((aC 4294967296 a).length+1)) [.row 0 (Ij.map uV) 1 true,.row 0 (Ei.map uV) 1 true]=some (VI (((aC 4294967296 a).length+1:Nat):Int)):=fQ (r:=(Ij.map uV,1,true)) (by rfl)
 have w2:IntKind.i64.wrap (((n+2:Nat):Int)-2)=((n:Nat):Int):=wrapN _ (by omega) (by omega)
 have wv1:IntKind.u64.wrap (v1:Int)=(v1:Int):=dV _ (by omega)
 have wv0:IntKind.u64.wrap (v0:Int)=(v0:Int):=dV _ (by omega)
 obtain⟨m,hm⟩:∃m,m+(n+2)=(aC 4294967296 a).length+1:=⟨(aC 4294967296 a).length+1-(n+2),by omega⟩
 have wm:IntKind.i64.wrap ((((aC 4294967296 a).length+1:Nat):Int)-((n+2:Nat):Int))=(m:Int):=wrapN _ (by omega) (by omega)
 have wm1:IntKind.i64.wrap ((m:Int)-1)=(m:Int)-1:=wrap64 (by omega) (by omega)
 have mk:=VZ m 0 (by omega) (H:=[.row 0 (Ij.map uV) 1 true,.row 0 (Ei.map uV) 1 true])
 have z2:oI (.ref 2 0 0 m m) (H3 Ij Ei (List.replicate m 0))=some (VI m):=fQ (r:=((List.replicate m 0).map uV,1,true)) (by rfl)
 simp only[w0,x1,x0,y1,y0,z0,z1,w2,wv1,wv0,wm,mk,z2,wm1,List.length_cons,List.length_nil,VX,Nat.reduceEqDiff,Nat.reduceAdd]
 have BX:val 4294967296 (Ij.drop m)<val 4294967296 vs:=by
  obtain⟨d,hd⟩:∃d,Ij[(aC 4294967296 a).length]? = some d:=⟨_,List.getElem?_eq_getElem (by omega)⟩
  have h2:=(zV (b:=4294967296) (xs:=Ij.drop m) (n:=n+1) (t:=d) (fun x hx=>hAd x (List.mem_of_mem_drop hx)) (by rw[List.length_drop];omega) (by rw[List.getElem?_drop,show m+(n+1)=(aC 4294967296 a).length by omega];exact hd)).2
  have h3:=hAt d hd
  have h4:=(zV (n:=n+1) (fF (b:=4294967296) (by decide) b) hn ht).1
  rw[cI (by decide)] at h4
  have h5:(d+1)*4294967296^(n+1)≤2^s*4294967296^(n+1):=Nat.mul_le_mul_right _ h3
  have h6:1*4294967296^(n+1)≤t*4294967296^(n+1):=Nat.mul_le_mul_right _ (by omega)
  have h7:1*4294967296^(n+1)*2^s≤b*2^s:=Nat.mul_le_mul_right _ (by omega)
  rw[Ns]
  rw[Nat.one_mul,Nat.mul_comm] at h7
  omega
 refine aaQ (Ed:=Ij) (ws:=Ei) (YX:=List.replicate m 0) (vs:=vs) (N:=(aC 4294967296 a).length+1) (m:=m) (n:=n) (A:=a*2^s) (s:=s) hAl hm (by omega) hAd he hBl hVl Gz f1 f0 hv1 hAv BX (by simp) (Ag (by decide) _) (by rfl) (by rfl) (by rfl) (by rfl) (by rfl) (by rfl) (by rfl) ?_
 intro wP us os r8 r9 r13 Qz I2 jL lG hv bF
 rw[Ns] at hv bF
 have hq:val 4294967296 os=a / b:=by
  rw[←Nat.mul_div_mul_right a b hS,←hv,Nat.add_mul_div_left _ _ (by omega),Nat.div_eq_of_lt bF,Nat.zero_add]
 have hr:val 4294967296 us=a % b*2^s:=by
  rw[←Nat.mul_mod_mul_right,←hv,Nat.add_mul_mod_self_left,Nat.mod_eq_of_lt bF]
 simp only[r9,VX,Nat.reduceEqDiff,Nat.reduceAdd]
 refine rA (rows:=us) (m:=a % b*2^s) Cq (by omega) (Nat.le_refl _) (by omega) (fun d hd=>I2 d (List.mem_of_mem_take hd)) (by rw[List.take_of_length_le (by omega)];exact hr) fun k hk he2 => ?_
 have z3:oI (.ref 0 0 0 k ((aC 4294967296 a).length+1)) (H3 us Ei os)=some (VI k):=fQ Cq
 simp only[z3,VX,Nat.reduceEqDiff,Nat.reduceAdd]
 refine Yn (us:=us) (k:=k) (N:=(aC 4294967296 a).length+1) (s:=s) (w0:=2^(32-s)) hs hSW Qz hk (by omega) I2 r8 (by rfl) (by rfl) (by rfl) ?_
 intro OB E2 q9 q13 amD ahX YR
 have aAe:OB 13 = .ref 2 0 0 m m:=q13.trans r13
 have De:val 4294967296 (E2.take k)=a % b:=by
  rw[YR,he2,cI (by decide),Nat.mul_div_cancel _ hS]
 simp only[q9,aAe,VX,Nat.reduceEqDiff,Nat.reduceAdd]
 refine rA (rows:=os) (m:=a / b) agA (by omega) (Nat.le_refl _) (by omega) (fun d hd=>lG d (List.mem_of_mem_take hd)) (by rw[List.take_of_length_le (by omega)];exact hq) fun k2 hk2 he3 => ?_
 simp only[q9,VX,Nat.reduceEqDiff,Nat.reduceAdd]
 refine rA (rows:=E2) (m:=a % b) Cq (by omega) hk (by omega) (fun d hd=>ahX d (List.mem_of_mem_take hd)) De fun k3 hk3 he4 => ?_
 simp only[VX,Nat.reduceEqDiff,Nat.reduceAdd]
 exact bO (d:=6) (Ks (d:=5) agA (by omega) hk2 he3) (Ks (d:=5) Cq (by omega) (by omega) he4)
end Go.PM
namespace Go.PM
abbrev H2 (us os:List Nat):aA:=[.row 0 (us.map tV) 1 true,.row 0 (os.map tV) 1 true]
theorem TZ {us os:List Nat}:aI (H2 us os) 0 0=some (us.map tV,1,true):=rfl
theorem atO {us os:List Nat}:aI (H2 us os) 1 0=some (os.map tV,1,true):=rfl
theorem agW {P a Z:Nat} {y:Int} (h:(a:Int)+(P:Int)*y=(Z:Int)) (ha:a<P) (hZ:Z<P):y=0∧a=Z:=by
 have hy:y=0:=by
  rcases Int.lt_trichotomy y 0 with h1 | h1 | h1
  ·have:(P:Int)*y≤(P:Int)*(-1):=Int.mul_le_mul_of_nonneg_left (by omega) (by omega)
   omega
  ·exact h1
  ·have:(P:Int)*1≤(P:Int)*y:=Int.mul_le_mul_of_nonneg_left (by omega) (by omega)
   omega
 subst hy
 rw[Int.mul_zero] at h
 exact⟨rfl,by omega⟩
theorem UO {us:List Nat} {i n N V:Nat} (hN:us.length=N) (dB:i+n<N) (hd:∀d∈us,d<1000000000) (hV:V<1000000000^n) (BX:val 1000000000 (us.drop (i+1))<V) :
  us=us.take i++(us.drop i).take (n+1)++us.drop (i+(n+1))∧(us.take i).length=i∧((us.drop i).take (n+1)).length=n+1∧val 1000000000 ((us.drop i).take (n+1))<1000000000*V∧val 1000000000 (us.drop i)=val 1000000000 ((us.drop i).take (n+1))∧val 1000000000 (us.drop (i+(n+1)))=0∧∀j,j<n+1→((us.drop i).take (n+1))[j]? = us[i+j]? := by
 obtain⟨x,hx⟩:∃x,us[i]? = some x:=⟨_,List.getElem?_eq_getElem (by omega)⟩
 have lx:=hd x (List.mem_of_getElem? hx)
 have h1:=rM (b:=1000000000) hx
 have h2:val 1000000000 (us.drop i)<1000000000*V:=by
  have:1000000000*(val 1000000000 (us.drop (i+1))+1)≤1000000000*V:=Nat.mul_le_mul_left _ BX
  omega
 have h3:=pB (b:=1000000000) (us.drop i) (n+1)
 have h4:((us.drop i).take (n+1)).length=n+1:=by rw[List.length_take,List.length_drop];omega
 rw[h4,List.drop_drop] at h3
 have h5:val 1000000000 (us.drop (i+(n+1)))=0:=by
  rcases Nat.eq_zero_or_pos (val 1000000000 (us.drop (i+(n+1)))) with h | h
  ·exact h
  ·have h6:1000000000^(n+1)*1≤1000000000^(n+1)*val 1000000000 (us.drop (i+(n+1))):=Nat.mul_le_mul_left _ h
   have h7:1000000000*V≤1000000000^(n+1):=by rw[Nat.pow_succ,Nat.mul_comm];exact Nat.mul_le_mul_right _ (by omega)
   omega
 rw[h5,Nat.mul_zero,Nat.add_zero] at h3
 refine⟨?_,by rw[List.length_take];omega,h4,by omega,h3,h5,fun j hj => ?_⟩
 ·rw[List.append_assoc,←List.drop_drop,List.take_append_drop,List.take_append_drop]
 ·rw[List.getElem?_take_of_lt hj,List.getElem?_drop]
theorem leT {g:Nat} (h:(1000000000:Int)≤(g:Int)):1000000000≤g:=by omega
theorem aeR {g:Nat} (h:¬(1000000000:Int)≤(g:Int)):g<1000000000:=by omega
theorem ltC {a b:Nat} (h:(a:Int)<(b:Int)):a<b:=by omega
theorem azU {a b:Nat} (h:¬(a:Int)<(b:Int)):b≤a:=by omega
theorem NF {a:Nat} (h:a*1000000000≤9223372036854775807):IntKind.i64.wrap ((a:Int)*1000000000)=((a*1000000000:Nat):Int):=wrapN _ (by omega) h
theorem OS {a b:Nat} (h:a+b≤9223372036854775807):IntKind.i64.wrap ((a:Int)+(b:Int))=((a+b:Nat):Int):=wrapN _ (by omega) h
theorem XG {a b:Nat} (h:a*b≤9223372036854775807):IntKind.i64.wrap ((a:Int)*(b:Int))=((a*b:Nat):Int):=wrapN _ (by simp) h
theorem x17 {a:Nat} (h:a<1000000000):a*1000000000≤9223372036854775807:=by omega
theorem x18 {a b:Nat} (h:a<1000000000) (hb:b<1000000000):a*1000000000+b≤1000000000000000000:=by omega
theorem Tg {iB vs us os:List Nat} {n u2 u1 u0 v1 v0 N i g left:Nat} (G:vR 1000000000 iB vs n u2 u1 u0 v1 v0) {ρ:dM} {Q:VQ} (hN:us.length=N) (hiN:i+(n+2)<N) (CS:N≤70368744177664) (hu0:us[i+n]? = some u0)
  (g13:ρ 13 = .ref 0 0 0 N N) (g14:ρ 14=gZ vs) (g15:ρ 15=VI ((n+2:Nat):Int)) (g17:ρ 17=VI i) (g19:ρ 19=VI g) (g20:ρ 20=VI left) (hh:u2*1000000000+u1=g*v1+left) (hq:val 1000000000 iB / val 1000000000 vs≤g) (hl:left<1000000000) (hgb:g≤1000000000000000000)
  (hQ:∀(bI:dM) (g':Nat),val 1000000000 iB / val 1000000000 vs≤g'→g'≤val 1000000000 iB / val 1000000000 vs+1→g'<1000000000→bI 19=VI g'→bI 12=ρ 12→bI 13=ρ 13→bI 14=ρ 14→bI 15=ρ 15→bI 16=ρ 16→bI 17=ρ 17→Q (.exit 2) bI (H2 us os)) :
  VW ⟨true,false⟩ 0 (.loop gA) Q ρ (H2 us os):=by
 have lv1:=G.V6
 have lv0:=G.adY
 have lu0:=G.ajV
 have qlt:=G.aiA
 have kY:=G.pos
 have FT:=G.L9
 refine aS (fun(t:Nat×Nat) bI H=>H=H2 us os∧u2*1000000000+u1=t.1*v1+t.2∧val 1000000000 iB / val 1000000000 vs≤t.1∧t.2<1000000000∧t.1≤1000000000000000000 ∧
  bI 13 = .ref 0 0 0 N N∧bI 14=gZ vs∧bI 15=VI ((n+2:Nat):Int)∧bI 17=VI i∧bI 19=VI t.1∧bI 20=VI t.2∧bI 12=ρ 12∧bI 16=ρ 16) (fun t=>1000000000-t.2) (g,left) ⟨rfl,hh,hq,hl,hgb,g13,g14,g15,g17,g19,g20,rfl,rfl⟩ ?_
 rintro⟨g,left⟩ OB H ⟨rfl,hh,hq,hl,hgb,Bh,Cx,Kk,Hu,k19,k20,HM,k16⟩
 simp only at hh hq hl hgb k19 k20
 have f1:bK 1 (gZ vs) (VI ((n+1:Nat):Int)) (H2 us os)=some (.cN (tV v1) 0):=aK (f:=tV) (t := .op) (size:=1) (k := .i64) G.f1 rfl
 have f0:bK 1 (gZ vs) (VI (n:Int)) (H2 us os)=some (.cN (tV v0) 0):=aK (f:=tV) (t := .op) (size:=1) (k := .i64) G.f0 rfl
 have wn2:IntKind.i64.wrap (((n+2:Nat):Int)-2)=(n:Int):=wrapN _ (by omega) (by omega)
 have wn1:IntKind.i64.wrap (((n+2:Nat):Int)-1)=((n+1:Nat):Int):=wrapN _ (by omega) (by omega)
 have wi:IntKind.i64.wrap ((i:Int)+((n+2:Nat):Int))=((i+(n+2):Nat):Int):=wrapN _ (by omega) (by omega)
 have wi2:IntKind.i64.wrap (((i+(n+2):Nat):Int)-2)=((i+n:Nat):Int):=wrapN _ (by omega) (by omega)
 have e1:bK 1 (.ref 0 0 0 N N) (VI ((i+n:Nat):Int)) (H2 us os)=some (.ptr 0 0 (i+n) 0):=by rw[bE TZ (by omega),Nat.zero_add]
 have e2:bT false 1 (.ptr 0 0 (i+n) 0) (H2 us os)=some (VI (u0:Int)):=Le TZ hu0
 have wl:IntKind.i64.wrap ((left:Int)+(v1:Int))=((left+v1:Nat):Int):=wrapN _ (by omega) (by omega)
 have down:val 1000000000 iB / val 1000000000 vs<g→∃g',g=g'+1∧IntKind.i64.wrap ((g:Int)-1)=(g':Int)∧u2*1000000000+u1=g'*v1+(left+v1)∧val 1000000000 iB / val 1000000000 vs≤g':=by
  intro h
  have hg1:1≤g:=Nat.lt_of_le_of_lt (Nat.zero_le _) h
  obtain⟨g',rfl⟩:∃g',g=g'+1:=⟨g-1,by omega⟩
  refine⟨g',rfl,wrapN _ (by omega) (by omega),?_,by omega⟩
  rw[hh,Nat.add_mul]
  omega
 have hmu:∀g':Nat,left+v1<1000000000→1000000000-(g',left+v1).2<1000000000-(g,left).2:=fun g' h=>by
  show 1000000000-(left+v1)<1000000000-left
  omega
 have hle:∀g':Nat,g=g'+1→g'≤1000000000000000000:=fun g' h=>by
  omega
 have awO:left*1000000000+u0≤9223372036854775807:=Nat.le_trans (x18 hl lu0) (by decide)
 have aAd:left*1000000000≤9223372036854775807:=x17 hl
 have ws:IntKind.i64.wrap ((left:Int)*1000000000)=((left*1000000000:Nat):Int):=NF aAd
 have wa:IntKind.i64.wrap (((left*1000000000:Nat):Int)+(u0:Int))=((left*1000000000+u0:Nat):Int):=OS awO
 obtain⟨s13,s14,s15,s17⟩:OB 13=ρ 13∧OB 14=ρ 14∧OB 15=ρ 15∧OB 17=ρ 17:=⟨by rw[Bh,g13],by rw[Cx,g14],by rw[Kk,g15],by rw[Hu,g17]⟩
 by_cases hA:(1000000000:Int)≤(g:Int)
 ·have hA':=leT hA
  obtain⟨g',hg',wg,Un,Nz⟩:=down (Nat.lt_of_lt_of_le qlt hA')
  by_cases hB:(1000000000:Int)≤((left+v1:Nat):Int)
  ·obtain⟨c1,c2⟩:=G.broken Un (leT hB)
   simp only[gA,Bh,Cx,Kk,Hu,k19,k20,hA,hB,f1,wn1,wg,wl,VX,Nat.reduceEqDiff,Nat.reduceAdd]
   exact hQ _ g' Nz (G.YK Un (Nat.le_of_lt c1) c2) c1 rfl HM s13 s14 s15 k16 s17
  ·simp only[gA,Bh,Cx,Kk,Hu,k19,k20,hA,hB,f1,wn1,wg,wl,VX,Nat.reduceEqDiff,Nat.reduceAdd]
   refine⟨(g',left+v1),hmu g' (aeR hB),Un,Nz,aeR hB,hle g' hg',?_⟩
   exact⟨rfl,rfl,HM,k16⟩
 ·have hA':=aeR hA
  have hgv:g*v0≤999999999*999999999:=Nat.mul_le_mul (Nat.le_of_lt_succ hA') (Nat.le_of_lt_succ lv0)
  have wm:IntKind.i64.wrap ((g:Int)*(v0:Int))=((g*v0:Nat):Int):=XG (Nat.le_trans hgv (by decide))
  by_cases hT:((left*1000000000+u0:Nat):Int)<((g*v0:Nat):Int)
  ·obtain⟨g',hg',wg,Un,Nz⟩:=down (G.too hh (ltC hT))
   by_cases hB:(1000000000:Int)≤((left+v1:Nat):Int)
   ·obtain⟨c1,c2⟩:=G.broken Un (leT hB)
    simp only[gA,Bh,Cx,Kk,Hu,k19,k20,hA,hB,hT,f1,f0,e1,e2,wn1,wn2,wi,wi2,ws,wa,wm,wg,wl,VX,Nat.reduceEqDiff,Nat.reduceAdd]
    exact hQ _ g' Nz (G.YK Un (Nat.le_of_lt c1) c2) c1 rfl HM s13 s14 s15 k16 s17
   ·simp only[gA,Bh,Cx,Kk,Hu,k19,k20,hA,hB,hT,f1,f0,e1,e2,wn1,wn2,wi,wi2,ws,wa,wm,wg,wl,VX,Nat.reduceEqDiff,Nat.reduceAdd]
    refine⟨(g',left+v1),hmu g' (aeR hB),Un,Nz,aeR hB,hle g' hg',?_⟩
    exact⟨rfl,rfl,HM,k16⟩
  ·simp only[gA,Bh,Cx,Kk,Hu,k19,k20,hA,hT,f0,e1,e2,wn2,wi,wi2,ws,wa,wm,VX,Nat.reduceEqDiff,Nat.reduceAdd]
   exact hQ _ g hq (G.YK hh (Nat.le_of_lt hA') (azU hT)) hA' k19 HM s13 s14 s15 k16 s17
theorem OR {Ed YX vs:List Nat} {N m n v1 v0 A s:Nat} {ρ:dM} {Q:VQ} (hN:Ed.length=N) (hm:m+(n+2)=N) (CS:N≤70368744177664) (I2:∀d∈Ed,d<1000000000) (FT:vs.length=n+2) (Gz:∀d∈vs,d<1000000000) (f1:vs[n+1]? = some v1) (f0:vs[n]? = some v0) (kY:1≤v1)
  (hA:val 1000000000 Ed=A) (BX:val 1000000000 (Ed.drop m)<val 1000000000 vs) (jL:YX.length=m) (lG:∀d∈YX,d<1000000000)
  (g12:ρ 12=VI s) (g13:ρ 13 = .ref 0 0 0 N N) (g14:ρ 14=gZ vs) (g15:ρ 15=VI ((n+2:Nat):Int)) (g16:ρ 16 = .ref 1 0 0 m m) (g17:ρ 17=VI ((m:Int)-1))
  (hQ:∀(bI:dM) (us os:List Nat),bI 12=VI s→bI 13 = .ref 0 0 0 N N→bI 16 = .ref 1 0 0 m m→us.length=N→(∀d∈us,d<1000000000)→os.length=m→(∀d∈os,d<1000000000)→val 1000000000 us+val 1000000000 vs*val 1000000000 os=A→val 1000000000 us<val 1000000000 vs→Q (.exit 0) bI (H2 us os)) :
  VW ⟨true,false⟩ 0 (.loop iL) Q ρ (H2 Ed YX):=by
 have hVb:=oF Gz
 rw[FT] at hVb
 refine aS (fun(t:Nat×List Nat×List Nat) bI H=>t.1≤m∧H=H2 t.2.1 t.2.2∧t.2.1.length=N∧(∀d∈t.2.1,d<1000000000)∧t.2.2.length=m∧(∀d∈t.2.2,d<1000000000)∧val 1000000000 (t.2.1.drop t.1)<val 1000000000 vs∧val 1000000000 t.2.1+1000000000^t.1*val 1000000000 vs*val 1000000000 (t.2.2.drop t.1)=A ∧
  bI 12=VI s∧bI 13 = .ref 0 0 0 N N∧bI 14=gZ vs∧bI 15=VI ((n+2:Nat):Int)∧bI 16 = .ref 1 0 0 m m∧bI 17=VI ((t.1:Int)-1)) (fun t=>t.1) (m,Ed,YX) ⟨Nat.le_refl _,rfl,hN,I2,jL,lG,BX,by rw[List.drop_of_length_le (by simp only;omega)];simpa[val] using hA,g12,g13,g14,g15,g16,g17⟩ ?_
 rintro⟨j,us,os⟩ OB H ⟨hj,rfl,Qz,I2,jL,lG,bF,hv,HM,Bh,Cx,Kk,k16,Hu⟩
 simp only at hj Qz I2 jL lG bF hv Hu
 by_cases hz:(0:Int)≤(j:Int)-1
 ·obtain⟨i,rfl⟩:∃i,j=i+1:=⟨j-1,by omega⟩
  have HD:((i+1:Nat):Int)-1=(i:Int):=by omega
  rw[HD] at Hu hz
  obtain⟨US,yQ,Qt,hsW,abX,aeF,rG⟩:=UO (n:=n+2) Qz (by omega) I2 hVb bF
  generalize Xj:(us.drop i).take (n+2+1)=iB at *
  have PB:∀d∈iB,d<1000000000:=fun d hd=>by rw[←Xj] at hd;exact I2 d (List.mem_of_mem_drop (List.mem_of_mem_take hd))
  obtain⟨u2,hu2⟩:∃u2,us[i+(n+2)]? = some u2:=⟨_,List.getElem?_eq_getElem (by omega)⟩
  obtain⟨u1,hu1⟩:∃u1,us[i+(n+1)]? = some u1:=⟨_,List.getElem?_eq_getElem (by omega)⟩
  obtain⟨u0,hu0⟩:∃u0,us[i+n]? = some u0:=⟨_,List.getElem?_eq_getElem (by omega)⟩
  have G:vR 1000000000 iB vs n u2 u1 u0 v1 v0:=⟨by decide,PB,Gz,Qt,FT,by rw[rG _ (by omega)];exact hu2,by rw[rG _ (by omega)];exact hu1,by rw[rG _ (by omega)];exact hu0,f1,f0,kY,hsW⟩
  have lu2:=G.aiT
  have lu1:=G.abK
  have lv1:=G.V6
  have qlt:=G.aiA
  have Iy:=G.Iy
  have w1:IntKind.i64.wrap ((i:Int)+((n+2:Nat):Int))=((i+(n+2):Nat):Int):=wrapN _ (by omega) (by omega)
  have w2:IntKind.i64.wrap (((i+(n+2):Nat):Int)-1)=((i+(n+1):Nat):Int):=wrapN _ (by omega) (by omega)
  have wn1:IntKind.i64.wrap (((n+2:Nat):Int)-1)=((n+1:Nat):Int):=wrapN _ (by omega) (by omega)
  have ev1:bK 1 (gZ vs) (VI ((n+1:Nat):Int)) (H2 us os)=some (.cN (tV v1) 0):=aK (f:=tV) (t := .op) (size:=1) (k := .i64) f1 rfl
  have e2:bK 1 (.ref 0 0 0 N N) (VI ((i+(n+2):Nat):Int)) (H2 us os)=some (.ptr 0 0 (i+(n+2)) 0):=by rw[bE TZ (by omega),Nat.zero_add]
  have e1:bK 1 (.ref 0 0 0 N N) (VI ((i+(n+1):Nat):Int)) (H2 us os)=some (.ptr 0 0 (i+(n+1)) 0):=by rw[bE TZ (by omega),Nat.zero_add]
  have l2:bT false 1 (.ptr 0 0 (i+(n+2)) 0) (H2 us os)=some (VI (u2:Int)):=Le TZ hu2
  have l1:bT false 1 (.ptr 0 0 (i+(n+1)) 0) (H2 us os)=some (VI (u1:Int)):=Le TZ hu1
  have azS:u2*1000000000+u1≤1000000000000000000:=x18 lu2 lu1
  have axA:u2*1000000000≤9223372036854775807:=x17 lu2
  have asQ:u2*1000000000+u1≤9223372036854775807:=Nat.le_trans azS (by decide)
  have ws2:IntKind.i64.wrap ((u2:Int)*1000000000)=((u2*1000000000:Nat):Int):=NF axA
  have wa:IntKind.i64.wrap (((u2*1000000000:Nat):Int)+(u1:Int))=((u2*1000000000+u1:Nat):Int):=OS asQ
  have q1:=Kr (u2*1000000000+u1) v1 asQ kY
  have q2:=KD (u2*1000000000+u1) v1 kY
  simp only[iL,HM,Bh,Cx,Kk,k16,Hu,hz,w1,w2,wn1,ev1,e1,e2,l1,l2,ws2,wa,q1,q2,VX,Nat.reduceEqDiff,Nat.reduceAdd]
  clear ws2 wa q1 q2 e1 e2 l1 l2 ev1 w1 w2 wn1
  have hh:=Nat.mod_add_div (u2*1000000000+u1) v1
  have hml:=Nat.mod_lt (u2*1000000000+u1) kY
  have hdl:(u2*1000000000+u1) / v1≤u2*1000000000+u1:=Nat.div_le_self _ _
  have Qy:val 1000000000 iB / val 1000000000 vs≤(u2*1000000000+u1) / v1:=by
   have t1:=(C2 (n:=n+1) (xs:=iB) PB (by omega) (by rw[rG _ (by omega)];exact hu2) (by rw[rG _ (by omega)];exact hu1)).2
   have t2:=(zV (n:=n+1) Gz FT f1).1
   rw[Nat.le_div_iff_mul_le kY]
   have t3:val 1000000000 iB / val 1000000000 vs*(v1*1000000000^(n+1))≤val 1000000000 iB / val 1000000000 vs*val 1000000000 vs:=Nat.mul_le_mul_left _ t2
   have t4:=Nat.div_mul_le_self (val 1000000000 iB) (val 1000000000 vs)
   have t5:val 1000000000 iB / val 1000000000 vs*v1*1000000000^(n+1)<(u2*1000000000+u1+1)*1000000000^(n+1):=by rw[Nat.mul_assoc];omega
   have:=Nat.lt_of_mul_lt_mul_right t5
   omega
  generalize hQ1:(u2*1000000000+u1) / v1=g0 at *
  generalize hQ2:(u2*1000000000+u1) % v1=l0 at *
  refine Tg (i:=i) G Qz (by omega) CS hu0 Bh Cx Kk Hu (by rfl) (by rfl) (by rw[Nat.mul_comm g0];omega) Qy (by omega) (by omega) ?_
  intro Tv g' hq Nz hgW r19 r12 r13 r14 r15 r16 r17
  have SK:Tv 12=VI s:=r12.trans HM
  have QL:Tv 13 = .ref 0 0 0 N N:=r13.trans Bh
  have Re:Tv 14=gZ vs:=r14.trans Cx
  have Rv:Tv 15=VI ((n+2:Nat):Int):=r15.trans Kk
  have afV:Tv 16 = .ref 1 0 0 m m:=r16.trans k16
  have aiS:Tv 17=VI i:=r17.trans Hu
  simp only[SK,QL,Re,Rv,afV,aiS,r19,VX,Nat.reduceEqDiff,Nat.reduceAdd]
  have sZ:g'*val 1000000000 vs≤val 1000000000 iB+val 1000000000 vs:=by
   have:=Nat.mul_le_mul_right (val 1000000000 vs) Nz
   rw[Nat.add_mul,Nat.one_mul] at this
   have:=Nat.div_mul_le_self (val 1000000000 iB) (val 1000000000 vs)
   omega
  obtain⟨low,anM⟩:∃low,low=iB.take (n+2):=⟨_,rfl⟩
  have hll:low.length=n+2:=by rw[anM,List.length_take];omega
  have Zg:∀d∈low,d<1000000000:=fun d hd=>PB d (by rw[anM] at hd;exact List.mem_of_mem_take hd)
  have hsg:iB=low++[u2]:=by
   have h1:iB[n+2]? = some u2:=by rw[rG _ (by omega)];exact hu2
   have h2:=List.take_append_drop (n+2) iB
   have h3:=(List.getElem?_eq_some_iff.1 h1)
   rw[List.drop_eq_getElem_cons h3.1,h3.2,List.drop_of_length_le (by omega),←anM] at h2
   exact h2.symm
  have Qw:val 1000000000 iB=val 1000000000 low+1000000000^(n+2)*u2:=by rw[hsg,sI,hll]
  have kC:∀(lw:List Nat) (t:Nat),(us.take i).map tV++lw.map tV++VI (t:Int)::(us.drop (i+(n+2+1))).map tV=(us.take i++(lw++[t])++us.drop (i+(n+2+1))).map tV:=fun lw t=>by simp
  have Cv:aI (H2 us os) 0 0=some ((us.take i).map tV++low.map tV++VI (u2:Int)::(us.drop (i+(n+2+1))).map tV,1,true):=by
   rw[kC,←hsg,←US]
   rfl
  refine gI rfl ((Ya (o:=i) (n:=n+2) Cv (Nat.zero_le _) (by simpa using yQ) hll FT (by omega) CS Zg Gz hgW lu2).mono ?_)
  rintro r H' ⟨AM,c,rfl,BV,YQ,hc,hr,hE⟩
  have aAR:val 1000000000 low<1000000000^(n+2):=by have:=oF Zg;rwa [hll] at this
  have awZ:val 1000000000 AM<1000000000^(n+2):=by have:=oF YQ;rwa [BV] at this
  have rows:∀(lw:List Nat) (t q:Nat),lw.length=n+2→(∀d∈lw,d<1000000000)→t<1000000000→q=val 1000000000 iB / val 1000000000 vs→val 1000000000 lw+1000000000^(n+2)*t=val 1000000000 iB % val 1000000000 vs →
    ((us.take i++(lw++[t])++us.drop (i+(n+2+1))).length=N∧(∀d∈us.take i++(lw++[t])++us.drop (i+(n+2+1)),d<1000000000)∧val 1000000000 ((us.take i++(lw++[t])++us.drop (i+(n+2+1))).drop i)<val 1000000000 vs∧val 1000000000 (us.take i++(lw++[t])++us.drop (i+(n+2+1)))+1000000000^i*val 1000000000 vs*val 1000000000 ((os.set i q).drop i)=A):=by
   intro lw t q hlw axW ht Ts hse
   have ajP:val 1000000000 (lw++[t])=val 1000000000 iB % val 1000000000 vs:=by rw[sI,hlw];exact hse
   have aAb:(lw++[t]).length=n+3:=by rw[List.length_append,hlw];rfl
   have aAm:∀d∈lw++[t],d<1000000000:=fun d hd=>by
    rcases List.mem_append.1 hd with h | h
    ·exact axW d h
    ·rw[List.mem_singleton.1 h];exact ht
   generalize lw++[t]=qM at *
   have agZ:=Nat.mod_lt (val 1000000000 iB) Iy
   have Ux:(us.take i++qM++us.drop (i+(n+2+1))).drop i=qM++us.drop (i+(n+2+1)):=by rw[List.append_assoc,List.drop_append,List.drop_of_length_le (by omega),yQ];simp
   have TJ:(us.take i++qM++us.drop (i+(n+2+1))).take i=us.take i:=by rw[List.append_assoc,List.take_append_of_le_length (by omega),List.take_of_length_le (by omega)]
   have Rj:val 1000000000 ((us.take i++qM++us.drop (i+(n+2+1))).drop i)=val 1000000000 qM:=by rw[Ux,yN,aeF,Nat.mul_zero,Nat.add_zero]
   refine⟨by rw[List.length_append,List.length_append,yQ,aAb,List.length_drop];omega,fun d hd => ?_,by rw[Rj,ajP];exact agZ,?_⟩
   ·rw[List.mem_append,List.mem_append] at hd
    rcases hd with(hd | hd) | hd
    ·exact I2 d (List.mem_of_mem_take hd)
    ·exact aAm d hd
    ·exact I2 d (List.mem_of_mem_drop hd)
   ·have h1:=Nat.div_add_mod (val 1000000000 iB) (val 1000000000 vs)
    rw[←Ts,←ajP,Nat.mul_comm] at h1
    have h2:=pB (b:=1000000000) us i
    have h3:=pB (b:=1000000000) (us.take i++qM++us.drop (i+(n+2+1))) i
    rw[TJ,yQ,Rj] at h3
    rw[yQ,abX] at h2
    rw[set_drop (by omega),rX,h3]
    rw[h2,Nat.pow_succ] at hv
    exact Mh h1.symm hv
  have e3:∀(E2:List Nat) (d:Nat),bK 1 (.ref 1 0 0 m m) (VI i) (H2 E2 os)=some (.ptr 1 0 i 0)∧bR 0 1 (.ptr 1 0 i 0) (VI (d:Int)) (H2 E2 os)=some (H2 E2 (os.set i d)):=fun E2 d=>by
   refine⟨by rw[bE atO (by omega),Nat.zero_add],?_⟩
   rw[show VI (d:Int)=tV d from rfl,fK (f:=tV) (e:=1) atO (by omega) (Nat.zero_le _) rfl rfl]
   rfl
  have wi:IntKind.i64.wrap ((i:Int)-1)=(i:Int)-1:=wrap64 (by omega) (by omega)
  have hdm:=Nat.div_add_mod (val 1000000000 iB) (val 1000000000 vs)
  have agZ:=Nat.mod_lt (val 1000000000 iB) Iy
  generalize hPP:1000000000^(n+2)=P at *
  by_cases oU:(u2:Int)-(c:Int)<0
  ·
   rw[decide_eq_true oU] at hr
   subst hr
   have hgt:val 1000000000 iB<g'*val 1000000000 vs:=by
    have h1:P*(u2+1)≤P*c:=Nat.mul_le_mul_left _ (by omega)
    rw[Nat.mul_add,Nat.mul_one] at h1
    omega
   have Ts:g'=val 1000000000 iB / val 1000000000 vs+1:=by
    rcases Nat.lt_or_ge (val 1000000000 iB / val 1000000000 vs) g' with h | h
    ·omega
    ·have h1:g'*val 1000000000 vs≤val 1000000000 iB / val 1000000000 vs*val 1000000000 vs:=Nat.mul_le_mul_right _ h
     have:=Nat.div_mul_le_self (val 1000000000 iB) (val 1000000000 vs)
     omega
   have hg1:1≤g':=by rw[Ts];exact Nat.le_add_left 1 _
   have wg:IntKind.i64.wrap ((g':Int)-1)=((g'-1:Nat):Int):=wrapN _ (by omega) (by omega)
   simp only[SK,QL,Re,Rv,afV,aiS,r19,wg,VX,Nat.reduceEqDiff,Nat.reduceAdd]
   have FQ:aI ((H2 us os).set 0 (.row 0 ((us.take i).map tV++AM.map tV++VI ((u2:Int)-(c:Int))::(us.drop (i+(n+2+1))).map tV) 1 true)) 0 0=some ((us.take i).map tV++AM.map tV++VI ((u2:Int)-(c:Int))::(us.drop (i+(n+2+1))).map tV,1,true):=rfl
   refine gI rfl ((Xo (o:=i) (n:=n+2) FQ (Nat.zero_le _) (by simpa using yQ) BV FT (by omega) CS YQ Gz (by omega) (by omega)).mono ?_)
   rintro r H' ⟨UC,c2,rfl,E4,hd2,hc2,hE2⟩
   rw[hPP] at hE2
   have amP:val 1000000000 UC<P:=by have:=oF hd2;rwa [E4,hPP] at this
   obtain⟨hy,hZ⟩:(u2:Int)-(c:Int)+(c2:Int)=0∧val 1000000000 UC=val 1000000000 iB % val 1000000000 vs:=by
    refine agW (P:=P) ?_ amP (by omega)
    have i1:(P:Int)*((u2:Int)-(c:Int)+(c2:Int))=(P:Int)*u2-(P:Int)*c+(P:Int)*c2:=by rw[Int.mul_add,Int.mul_sub]
    have i2:((P*u2:Nat):Int)=(P:Int)*u2:=by simp
    have i3:((P*c:Nat):Int)=(P:Int)*c:=by simp
    have i4:((P*c2:Nat):Int)=(P:Int)*c2:=by simp
    rw[i1,←i2,←i3,←i4]
    have i5:g'*val 1000000000 vs=val 1000000000 vs*(val 1000000000 iB / val 1000000000 vs)+val 1000000000 vs:=by rw[Ts,Nat.add_mul,Nat.one_mul,Nat.mul_comm (val 1000000000 vs)]
    omega
   have HE:((H2 us os).set 0 (.row 0 ((us.take i).map tV++AM.map tV++VI ((u2:Int)-(c:Int))::(us.drop (i+(n+2+1))).map tV) 1 true)).set 0 (.row 0 ((us.take i).map tV++UC.map tV++VI ((u2:Int)-(c:Int)+(c2:Int))::(us.drop (i+(n+2+1))).map tV) 1 true)=H2 (us.take i++(UC++[0])++us.drop (i+(n+2+1))) os:=by
    rw[hy]
    rw[show (0:Int)=((0:Nat):Int) from rfl,kC]
    rfl
   rw[HE]
   obtain⟨x1,x2⟩:=e3 (us.take i++(UC++[0])++us.drop (i+(n+2+1))) (g'-1)
   obtain⟨y1,y2,y3,y4⟩:=rows UC 0 (g'-1) E4 hd2 (by decide) (by rw[Ts,Nat.add_sub_cancel]) (by rw[Nat.mul_zero,Nat.add_zero];exact hZ)
   simp only[SK,QL,Re,Rv,afV,aiS,x1,x2,wi,VX,Nat.reduceEqDiff,Nat.reduceAdd]
   refine⟨(i,us.take i++(UC++[0])++us.drop (i+(n+2+1)),os.set i (g'-1)),by simp only;omega,by omega,rfl,y1,y2,by rw[List.length_set];exact jL,lU lG (by omega),y3,y4,?_⟩
   try (repeat' apply And.intro)<;>first | rfl | trivial
  ·rw[decide_eq_false oU] at hr
   subst hr
   obtain⟨t',ht'⟩:∃t':Nat,(u2:Int)-(c:Int)=(t':Int):=⟨u2-c,by omega⟩
   have hP1:P*u2=P*c+P*t':=by rw[←Nat.mul_add];congr 1;omega
   have EN:g'*val 1000000000 vs≤val 1000000000 iB:=by omega
   have Ts:g'=val 1000000000 iB / val 1000000000 vs:=by
    have:=(Nat.le_div_iff_mul_le Iy).2 EN
    omega
   have HE:(H2 us os).set 0 (.row 0 ((us.take i).map tV++AM.map tV++VI ((u2:Int)-(c:Int))::(us.drop (i+(n+2+1))).map tV) 1 true)=H2 (us.take i++(AM++[t'])++us.drop (i+(n+2+1))) os:=by
    rw[ht',kC]
    rfl
   rw[HE]
   obtain⟨x1,x2⟩:=e3 (us.take i++(AM++[t'])++us.drop (i+(n+2+1))) g'
   have hse:val 1000000000 AM+P*t'=val 1000000000 iB % val 1000000000 vs:=by
    rw[←Ts,Nat.mul_comm] at hdm
    omega
   obtain⟨y1,y2,y3,y4⟩:=rows AM t' g' BV YQ (by omega) Ts hse
   simp only[SK,QL,Re,Rv,afV,aiS,r19,x1,x2,wi,VX,Nat.reduceEqDiff,Nat.reduceAdd]
   refine⟨(i,us.take i++(AM++[t'])++us.drop (i+(n+2+1)),os.set i g'),by simp only;omega,by omega,rfl,y1,y2,by rw[List.length_set];exact jL,lU lG (by omega),y3,y4,?_⟩
   try (repeat' apply And.intro)<;>first | rfl | trivial
 ·have QA:j=0:=by omega
  subst QA
  rw[Nat.pow_zero,Nat.one_mul,List.drop_zero] at hv
  rw[List.drop_zero] at bF
  simp only[iL,HM,Bh,Cx,Kk,k16,Hu,hz,VX,Nat.reduceEqDiff,Nat.reduceAdd]
  exact hQ _ us os HM Bh k16 Qz I2 jL lG hv bF
end Go.PM
namespace Go.PM
def bl (n:Nat):Nat:=(aC 2 n).length
theorem NM (n:Nat):n<2^bl n:=gL (by decide) n
theorem Gb {n k:Nat} (h:n<2^k):bl n≤k:=lX (by decide) h
theorem jZ {m n:Nat} (h:m≤n):bl m≤bl n:=dY (by decide) h
theorem nL (m n:Nat):bl (m*n)≤bl m+bl n:=by
 refine Gb ?_
 rw[Nat.pow_add]
 exact Nat.mul_lt_mul'' (NM m) (NM n)
theorem Hj {n k:Nat} (h:bl n≤k):n<2^k:=Nat.lt_of_lt_of_le (NM n) (Nat.pow_le_pow_right (by decide) h)
theorem Ua {m n k:Nat} (hm:bl m≤k) (hn:bl n≤k):bl (m+n)≤k+1:=by
 refine Gb ?_
 have h1:=Hj hm
 have h2:=Hj hn
 rw[Nat.pow_succ]
 omega
theorem WX:bl 0=0:=by simp[bl,cB]
theorem Mc:bl 1=1:=by simp[bl,iW (b:=2) (by decide) (n:=1) (by decide),cB]
theorem adV {n:Nat} (h:n≠0):1≤bl n:=by
 have:=jZ (m:=1) (n:=n) (by omega)
 rwa [Mc] at this
theorem akJ (n:Nat):32*(aC 4294967296 n).length≤bl n+31:=by
 by_cases h:n=0
 ·subst h;rw[cB];simp
 ·have h1:=Kg (b:=4294967296) (by decide) h
  have h2:=NM n
  have e:(4294967296:Nat)=2^32:=by decide
  rw[e] at h1 ⊢
  rw[←Nat.pow_mul] at h1
  have h3:2^(32*((aC (2^32) n).length-1))<2^bl n:=by omega
  have h4:=(Nat.pow_lt_pow_iff_right (by decide)).1 h3
  omega
theorem aiU (n:Nat):29*(aC 1000000000 n).length≤bl n+28:=by
 by_cases h:n=0
 ·subst h;rw[cB];simp
 ·have h1:=Kg (b:=1000000000) (by decide) h
  have h2:=NM n
  have h5:(2^29)^((aC 1000000000 n).length-1)≤1000000000^((aC 1000000000 n).length-1):=Nat.pow_le_pow_left (by decide) _
  rw[←Nat.pow_mul] at h5
  have h3:2^(29*((aC 1000000000 n).length-1))<2^bl n:=by omega
  have h4:=(Nat.pow_lt_pow_iff_right (by decide)).1 h3
  omega
def aU (q:Rat):Nat:=max (bl q.num.natAbs) (bl q.den)
theorem rC {q:Rat}:bl q.num.natAbs≤aU q:=Nat.le_max_left _ _
theorem oQ {q:Rat}:bl q.den≤aU q:=Nat.le_max_right _ _
theorem Oh {q:Rat}:1≤aU q:=Nat.le_trans (adV q.den_nz) oQ
theorem Sp {q:Rat} {k:Nat} (h1:bl q.num.natAbs≤k) (h2:bl q.den≤k):aU q≤k:=Nat.max_le.2 ⟨h1,h2⟩
theorem He {n:Int} {d k:Nat} (h1:bl n.natAbs≤k) (h2:bl d≤k) (hk:1≤k):aU (mkRat n d)≤k:=by
 refine Sp ?_ ?_
 ·rw[Rat.num_mkRat]
  split
  ·rw[Int.natAbs_zero,WX];omega
  ·exact Nat.le_trans (jZ (Int.natAbs_ediv_le_natAbs _ _)) h1
 ·rw[Rat.den_mkRat]
  split
  ·rw[Mc];exact hk
  ·exact Nat.le_trans (jZ (Nat.div_le_self _ _)) h2
theorem IK (a b:Rat):aU (a+b)≤aU a+aU b+1:=by
 rw[Rat.add_def']
 have h1 := @rC a
 have h2 := @rC b
 have h3 := @oQ a
 have h4 := @oQ b
 have h5:=nL a.num.natAbs b.den
 have h6:=nL b.num.natAbs a.den
 have h7:=nL a.den b.den
 refine He ?_ (by omega) (by omega)
 have h8:(a.num*b.den+b.num*a.den).natAbs≤a.num.natAbs*b.den+b.num.natAbs*a.den:=by
  refine Nat.le_trans (Int.natAbs_add_le _ _) ?_
  rw[Int.natAbs_mul,Int.natAbs_mul,Int.natAbs_natCast,Int.natAbs_natCast]
  exact Nat.le_refl _
 exact Nat.le_trans (jZ h8) (Ua (by omega) (by omega))
theorem YB (a b:Rat):aU (a*b)≤aU a+aU b:=by
 rw[Rat.mul_def']
 have h1 := @rC a
 have h2 := @rC b
 have h3 := @oQ a
 have h4 := @oQ b
 have h5:=nL a.num.natAbs b.num.natAbs
 have h7:=nL a.den b.den
 have h8 := @Oh a
 refine He ?_ (by omega) (by omega)
 rw[Int.natAbs_mul]
 omega
theorem Ia (a:Rat):aU (-a)=aU a:=by simp[aU]
theorem XQ (a b:Rat):aU (a-b)≤aU a+aU b+1:=by
 rw[Rat.sub_eq_add_neg]
 have:=IK a (-b)
 rwa [Ia] at this
theorem N3 (a:Rat):aU a⁻¹≤aU a:=by
 have h1 := @rC a
 have h2 := @oQ a
 refine Sp ?_ ?_
 ·rw[Rat.num_inv,Int.natAbs_mul,Int.natAbs_natCast]
  refine Nat.le_trans (jZ ?_) h2
  have h3:a.num.sign.natAbs≤1:=by
   rcases Int.lt_trichotomy a.num 0 with h | h | h
   ·rw[Int.sign_eq_neg_one_of_neg h];decide
   ·rw[h];decide
   ·rw[Int.sign_eq_one_of_pos h];decide
  have:=Nat.mul_le_mul_right a.den h3
  omega
 ·rw[Rat.den_inv]
  split
  ·rw[Mc];exact Oh
  ·exact h1
theorem XN (a b:Rat):aU (a / b)≤aU a+aU b:=by
 rw[Rat.div_def]
 have:=YB a b⁻¹
 have:=N3 b
 omega
theorem Fp:aU 0=1:=by simp[aU,WX,Mc]
theorem Ih:aU 1=1:=by simp[aU,Mc]
def kE (neg:Bool) (t:Nat):Int:=if neg then -(t:Int) else t
theorem nQ (neg:Bool) (t:Nat):(kE neg t).natAbs=t:=by cases neg<;>simp[kE]
theorem Pb {neg:Bool} {t:Nat}:kE neg t<0↔neg=true∧t≠0:=by cases neg<;>simp[kE]<;>omega
theorem yL (neg:Bool):kE neg 0=0:=by cases neg<;>rfl
theorem FZ (z:Int):kE (decide (z<0)) z.natAbs=z:=by
 by_cases h:z<0<;>simp[kE,h]<;>omega
theorem ahF {neg:Bool} {t g:Nat}:(kE neg t) / (g:Int)=kE neg (t / g)∨¬g ∣ t:=by
 by_cases h:g ∣ t
 ·left
  obtain⟨k,rfl⟩:=h
  by_cases hg:g=0
  ·subst hg;simp[yL]
  ·rw[Nat.mul_div_cancel_left _ (by omega)]
   cases neg
   ·simp only[kE]
    simp only[Bool.false_eq_true,if_false]
    rw[Int.natCast_mul,Int.mul_ediv_cancel_left _ (by omega)]
   ·simp only[kE,if_true]
    rw[Int.natCast_mul,←Int.mul_neg,Int.mul_ediv_cancel_left _ (by omega)]
 ·exact .inr h
theorem E9 {neg:Bool} {t b:Nat} (hb:b≠0):(mkRat (kE neg t) b).num=kE neg (t / Nat.gcd t b):=by
 rw[Rat.num_mkRat,if_neg hb,nQ,Nat.gcd_comm]
 rcases ahF (neg:=neg) (t:=t) (g:=Nat.gcd t b) with h | h
 ·exact h
 ·exact absurd (Nat.gcd_dvd_left _ _) h
theorem Qm {neg:Bool} {t b:Nat} (hb:b≠0):(mkRat (kE neg t) b).den=b / Nat.gcd t b:=by
 rw[Rat.den_mkRat,if_neg hb,nQ,Nat.gcd_comm]
theorem Kp (q:Rat):mkRat (kE (decide (q.num<0)) q.num.natAbs) q.den=q:=by rw[FZ,Rat.mkRat_self]
end Go.PM
namespace Go.PM
theorem aiR (neg:Bool) (t d:Nat):kE neg (t*d)=kE neg t*(d:Int):=by cases neg<;>simp[kE,Int.neg_mul]
theorem DP (q:Rat) {d:Nat} (hd:d≠0):mkRat (kE (decide (q.num<0)) (q.num.natAbs*d)) (q.den*d)=q:=by
 rw[aiR,Rat.mkRat_mul_right hd,Kp]
theorem CR (X Y:Int) {B:Nat} (hB:B≠0):mkRat X B+mkRat Y B=mkRat (X+Y) B:=by
 rw[Rat.mkRat_add_mkRat _ _ hB hB,←Int.add_mul,Rat.mkRat_mul_right hB]
theorem Pv (n:Bool) (x y:Nat):kE n x+kE n y=kE n (x+y):=by cases n<;>simp[kE]<;>omega
theorem TG {m n:Bool} (h:m≠n) {x y:Nat} (hx:y≤x):kE m x+kE n y=kE m (x-y):=by
 cases m<;>cases n<;>simp_all [kE]<;>omega
theorem T7 {m n:Bool} (h:m≠n) {x y:Nat} (hx:x≤y):kE m x+kE n y=kE n (y-x):=by
 cases m<;>cases n<;>simp_all [kE]<;>omega
theorem PR (n:Int) {d:Nat} (hd:d≠0):(mkRat n d).num.natAbs=n.natAbs / Nat.gcd n.natAbs d:=by
 have:=E9 (neg:=decide (n<0)) (t:=n.natAbs) (b:=d) hd
 rw[FZ] at this
 rw[this,nQ]
theorem Kf (n:Int) {d:Nat} (hd:d≠0):(mkRat n d).den=d / Nat.gcd n.natAbs d:=by
 have:=Qm (neg:=decide (n<0)) (t:=n.natAbs) (b:=d) hd
 rwa [FZ] at this
theorem amM (n:Int) {d:Nat} (hd:d≠0):(mkRat n d).num<0↔n<0:=by
 have:=E9 (neg:=decide (n<0)) (t:=n.natAbs) (b:=d) hd
 rw[FZ] at this
 rw[this,Pb]
 have h:n<0→n.natAbs / Nat.gcd n.natAbs d≠0:=fun h=>by
  have:=Nat.div_pos (Nat.le_of_dvd (by omega) (Nat.gcd_dvd_left n.natAbs d)) (Nat.gcd_pos_of_pos_left d (show 0<n.natAbs by omega))
  omega
 constructor
 ·rintro⟨h1,_⟩;simpa using h1
 ·intro h1;exact⟨by simpa using h1,h h1⟩
theorem Bo (t:Nat) {d:Nat} (hd:d≠0):(mkRat (kE false t) d).num.natAbs ∣ t∧(mkRat (kE false t) d).den ∣ d:=by
 rw[PR _ hd,Kf _ hd,nQ]
 exact⟨Nat.div_dvd_of_dvd (Nat.gcd_dvd_left _ _),Nat.div_dvd_of_dvd (Nat.gcd_dvd_right _ _)⟩
theorem X2 (a b:Rat):(a*b).num.natAbs=(mkRat (kE false a.num.natAbs) b.den).num.natAbs*(mkRat (kE false b.num.natAbs) a.den).num.natAbs ∧
  (a*b).den=(mkRat (kE false a.num.natAbs) b.den).den*(mkRat (kE false b.num.natAbs) a.den).den:=by
 have ha:=a.den_nz
 have hb:=b.den_nz
 have Ef:a.den*b.den≠0:=Nat.mul_ne_zero ha hb
 obtain⟨u1,u2⟩:=Bo a.num.natAbs hb
 obtain⟨v1,v2⟩:=Bo b.num.natAbs ha
 have e:(mkRat (kE false a.num.natAbs) b.den)*(mkRat (kE false b.num.natAbs) a.den)=mkRat (kE false a.num.natAbs*kE false b.num.natAbs) (b.den*a.den):=Rat.mkRat_mul_mkRat _ _ _ _
 have en:((mkRat (kE false a.num.natAbs) b.den)*(mkRat (kE false b.num.natAbs) a.den)).num.natAbs=(a*b).num.natAbs:=by
  rw[e,Rat.mul_def',PR _ Ef,PR _ (Nat.mul_ne_zero hb ha),Int.natAbs_mul,Int.natAbs_mul,nQ,nQ,Nat.mul_comm b.den]
 have ed:((mkRat (kE false a.num.natAbs) b.den)*(mkRat (kE false b.num.natAbs) a.den)).den=(a*b).den:=by
  rw[e,Rat.mul_def',Kf _ Ef,Kf _ (Nat.mul_ne_zero hb ha),Int.natAbs_mul,Int.natAbs_mul,nQ,nQ,Nat.mul_comm b.den]
 rw[←en,←ed]
 generalize hu:mkRat (kE false a.num.natAbs) b.den=u at *
 generalize hv:mkRat (kE false b.num.natAbs) a.den=v at *
 have c1:Nat.Coprime u.num.natAbs u.den:=u.reduced
 have c2:Nat.Coprime v.num.natAbs v.den:=v.reduced
 have c3:Nat.Coprime u.num.natAbs v.den:=Nat.Coprime.coprime_dvd_left u1 (Nat.Coprime.coprime_dvd_right v2 a.reduced)
 have c4:Nat.Coprime v.num.natAbs u.den:=Nat.Coprime.coprime_dvd_left v1 (Nat.Coprime.coprime_dvd_right u2 b.reduced)
 have c:Nat.gcd (u.num*v.num).natAbs (u.den*v.den)=1:=by
  rw[Int.natAbs_mul]
  exact Nat.Coprime.mul_left (Nat.Coprime.mul_right c1 c3) (Nat.Coprime.mul_right c4 c2)
 rw[Rat.mul_def',PR _ (Nat.mul_ne_zero u.den_nz v.den_nz),Kf _ (Nat.mul_ne_zero u.den_nz v.den_nz),c,Nat.div_one,Nat.div_one,Int.natAbs_mul]
 exact⟨rfl,rfl⟩
theorem QC {a b:Rat} (ha:a.num≠0) (hb:b.num≠0):(a*b).num<0↔(decide (a.num<0) != decide (b.num<0))=true:=by
 rw[Rat.mul_def',amM _ (Nat.mul_ne_zero a.den_nz b.den_nz)]
 rcases Int.lt_or_gt_of_ne ha with h1 | h1<;>rcases Int.lt_or_gt_of_ne hb with h2 | h2
 ·have:=Int.mul_pos_of_neg_of_neg h1 h2
  rw[decide_eq_true h1,decide_eq_true h2]
  simp;omega
 ·have:=Int.mul_neg_of_neg_of_pos h1 h2
  rw[decide_eq_true h1,decide_eq_false (show ¬b.num<0 by omega)]
  simp[this]
 ·have:=Int.mul_neg_of_pos_of_neg h1 h2
  rw[decide_eq_false (show ¬a.num<0 by omega),decide_eq_true h2]
  simp[this]
 ·have:=Int.mul_pos h1 h2
  rw[decide_eq_false (show ¬a.num<0 by omega),decide_eq_false (show ¬b.num<0 by omega)]
  simp;omega
def kO (q:Rat):Int:=if q.num=0 then 0 else if q.num<0 then -1 else 1
def Tj (a b:Rat):Int:=if kO a=kO b then (if a.num<0 then -eX (a.num.natAbs*b.den) (b.num.natAbs*a.den) else eX (a.num.natAbs*b.den) (b.num.natAbs*a.den)) else kO a-kO b
theorem uE {m n:Nat}:eX m n<0↔m<n:=by
 unfold eX
 split
 ·omega
 ·split<;>omega
theorem WC {m n:Nat}:0<eX m n↔n<m:=by
 unfold eX
 split
 ·omega
 ·split<;>omega
theorem AT {m n:Nat}:eX m n=0↔m=n:=by
 unfold eX
 split
 ·omega
 ·split<;>omega
theorem oX {q:Rat} (h:q.num<0):kO q = -1:=by unfold kO;rw[if_neg (by omega),if_pos h]
theorem kV {q:Rat} (h:q.num=0):kO q=0:=by unfold kO;rw[if_pos h]
theorem oT {q:Rat} (h:0<q.num):kO q=1:=by unfold kO;rw[if_neg (by omega),if_neg (by omega)]
theorem agE {a b:Rat}:Tj a b<0↔a<b:=by
 rw[Rat.lt_iff]
 have hA:(0:Int)<a.den:=by have:=a.den_nz;omega
 have hB:(0:Int)<b.den:=by have:=b.den_nz;omega
 have eA:((a.num.natAbs*b.den:Nat):Int)=(a.num.natAbs:Int)*b.den:=by simp
 have eB:((b.num.natAbs*a.den:Nat):Int)=(b.num.natAbs:Int)*a.den:=by simp
 unfold Tj
 rcases Int.lt_trichotomy a.num 0 with h1 | h1 | h1<;>rcases Int.lt_trichotomy b.num 0 with h2 | h2 | h2
 ·rw[oX h1,oX h2,if_pos rfl,if_pos h1]
  have f1:(a.num.natAbs:Int) = -a.num:=by omega
  have f2:(b.num.natAbs:Int) = -b.num:=by omega
  rw[f1,Int.neg_mul] at eA
  rw[f2,Int.neg_mul] at eB
  have := @WC (a.num.natAbs*b.den) (b.num.natAbs*a.den)
  omega
 ·rw[oX h1,kV h2,if_neg (by decide),h2,Int.zero_mul]
  have:=Int.mul_neg_of_neg_of_pos h1 hB
  omega
 ·rw[oX h1,oT h2,if_neg (by decide)]
  have:=Int.mul_neg_of_neg_of_pos h1 hB
  have:=Int.mul_pos h2 hA
  omega
 ·rw[kV h1,oX h2,if_neg (by decide),h1,Int.zero_mul]
  have:=Int.mul_neg_of_neg_of_pos h2 hA
  omega
 ·rw[kV h1,kV h2,if_pos rfl,h1,h2];simp[eX]
 ·rw[kV h1,oT h2,if_neg (by decide),h1,Int.zero_mul]
  have:=Int.mul_pos h2 hA
  omega
 ·rw[oT h1,oX h2,if_neg (by decide)]
  have:=Int.mul_neg_of_neg_of_pos h2 hA
  have:=Int.mul_pos h1 hB
  omega
 ·rw[oT h1,kV h2,if_neg (by decide),h2,Int.zero_mul]
  have:=Int.mul_pos h1 hB
  omega
 ·rw[oT h1,oT h2,if_pos rfl,if_neg (by omega)]
  have f1:(a.num.natAbs:Int)=a.num:=by omega
  have f2:(b.num.natAbs:Int)=b.num:=by omega
  rw[f1] at eA
  rw[f2] at eB
  have := @uE (a.num.natAbs*b.den) (b.num.natAbs*a.den)
  omega
theorem ZP (m n:Nat):eX n m = -eX m n:=by
 rcases Nat.lt_trichotomy m n with h | h | h
 ·rw[eX,eX,if_neg (by omega),if_neg (by omega),if_pos h];rfl
 ·subst h;rw[eX,if_neg (by omega),if_pos rfl];rfl
 ·rw[eX,eX,if_pos h,if_neg (by omega),if_neg (by omega)]
theorem aaT (a b:Rat):Tj b a = -Tj a b:=by
 unfold Tj
 by_cases h:kO a=kO b
 ·have h2:b.num<0↔a.num<0:=by
   rcases Int.lt_trichotomy a.num 0 with h1 | h1 | h1<;>rcases Int.lt_trichotomy b.num 0 with h2 | h2 | h2
   ·simp[h1,h2]
   ·rw[oX h1,kV h2] at h;omega
   ·rw[oX h1,oT h2] at h;omega
   ·rw[kV h1,oX h2] at h;omega
   ·omega
   ·rw[kV h1,oT h2] at h;omega
   ·rw[oT h1,oX h2] at h;omega
   ·rw[oT h1,kV h2] at h;omega
   ·omega
  rw[if_pos h,if_pos h.symm,ZP]
  by_cases h3:a.num<0
  ·rw[if_pos h3,if_pos (h2.2 h3)]
  ·rw[if_neg h3,if_neg (mt h2.1 h3)]
 ·rw[if_neg h,if_neg (fun h'=>h h'.symm)];omega
theorem VU {a b:Rat}:0<Tj a b↔b<a:=by
 rw[←agE,aaT a b];omega
theorem BW {q:Rat}:kO q=0↔q=0:=by
 rw[←Rat.num_eq_zero]
 rcases Int.lt_trichotomy q.num 0 with h | h | h
 ·rw[oX h];omega
 ·rw[kV h];omega
 ·rw[oT h];omega
end Go.PM
namespace Go.PM
theorem OV {ds:List Nat} {H:aA}:cU 1 (gZ ds) H=some (ds.map tV):=by
 have:((ds.map tV).all fun x=>(aB x).length == 1&&(aB x).all bP)=true:=by
  rw[List.all_eq_true]
  intro x hx
  obtain⟨d,_,rfl⟩:=List.mem_map.1 hx
  rfl
 simp only[cU,gZ,aT,this,if_true]
theorem DT (n:Nat) {H:aA}:cU 1 (bY n) H=some ((aC 1000000000 n).map tV):=OV
theorem Ir {a n:Nat} (hn:(aC 1000000000 a).length=n+1):∃d,(aC 1000000000 a)[n]? = some d∧d≠0∧d<1000000000:=by
 obtain⟨d,hd⟩:∃d,(aC 1000000000 a)[n]? = some d:=⟨_,List.getElem?_eq_getElem (by omega)⟩
 refine⟨d,hd,fun h0 => ?_,fF (by decide) a d (List.mem_of_getElem? hd)⟩
 have:=N2 (b:=1000000000) (by decide) a
 rw[List.getLast?_eq_getElem?,hn,Nat.add_sub_cancel,hd,h0] at this
 exact this rfl
theorem Yv {a d:Nat} (h:aC 1000000000 a=[d]):a=d∧0<d∧d<1000000000:=by
 have h1:=cI (b:=1000000000) (by decide) a
 rw[h,val_one] at h1
 obtain⟨e,h2,h3,h4⟩:=Ir (a:=a) (n:=0) (by rw[h];rfl)
 rw[h] at h2
 cases h2
 exact⟨h1.symm,by omega,h4⟩
theorem anF {a:Nat} (h:(aC 1000000000 a).length≤2):a<1000000000000000000:=by
 have h1:=gL (b:=1000000000) (by decide) a
 have h2:1000000000^(aC 1000000000 a).length≤1000000000^2:=Nat.pow_le_pow_right (by decide) h
 omega
theorem Zr {H:aA} {u v:VV} (hu:aN u=true) (hv:aN v=true):fz depth H (.dT [u,v])=some (.dT [u,v]):=aF (by simp only[aN,aM,hu,hv,Bool.and_self])
theorem aqV {X N:Nat} (h:(aC 1000000000 X).length≤N):IZ 0 1 (.ref 0 0 0 N N) (bY X) [.row 0 ((List.replicate N 0).map tV) 1 true]=some (VI ((aC 1000000000 X).length:Int),[.row 0 ((aC 1000000000 X++List.replicate (N-(aC 1000000000 X).length) 0).map tV) 1 true]):=by
 have e:((aC 1000000000 X).map tV).take N=(aC 1000000000 X).map tV:=List.take_of_length_le (by simpa using h)
 simp only[IZ,bY,OV,bA,e,List.length_map,List.length_replicate,Nat.zero_add]
 rw[if_pos ⟨trivial,Nat.le_refl _,h⟩]
 simp only[cY,List.set_cons_zero,List.take_zero,List.nil_append,Nat.zero_add,List.length_map,List.map_append,List.map_replicate,List.drop_replicate]
theorem tY (a b:Nat) (hb:b≠0) (ha:(aC 1000000000 a).length<17592186044416) (uB:(aC 1000000000 b).length<17592186044416):TC 185 [bY a,bY b] (.dT [bY (a / b),bY (a % b)]):=by
 refine TC.walk ⟨true,false⟩ IL rfl (Nat.le_of_ble_eq_true rfl) (by simp[aM,cH]) (by simp[gJ,qB,mY]) ?_
 have s1:=Cb a (by omega)
 have s2:=Cb b (by omega)
 have fin:∀ {H:aA},fz depth H (.dT [bY (a / b),bY (a % b)])=some (.dT [bY (a / b),bY (a % b)]):=Zr (cH _) (cH _)
 by_cases QD:(aC 1000000000 a).length≤2∧(aC 1000000000 b).length≤2
 ·rw[if_pos QD.1] at s1
  rw[if_pos QD.2] at s2
  have la:=anF QD.1
  have q1:=Kr a b (by omega) (by omega)
  have q2:=KD a b (by omega)
  have hdl:a / b≤a:=Nat.div_le_self _ _
  have hml:a % b≤a:=Nat.mod_le _ _
  have n1:TC 178 [VI ((a / b:Nat):Int)] (bY (a / b)):=pZ ((a / b:Nat):Int) (Int.ofNat_le.2 (show a / b≤9223372036854775807 from Nat.le_trans hdl (by omega)))
  have n2:TC 178 [VI ((a % b:Nat):Int)] (bY (a % b)):=pZ ((a % b:Nat):Int) (Int.ofNat_le.2 (show a % b≤9223372036854775807 from Nat.le_trans hml (by omega)))
  simp only[fD,dP,s1,s2,q1,q2,n1,n2,VX,Nat.reduceEqDiff,Nat.reduceAdd]
  exact fin
 have c1:=uG a b (by omega) (by omega)
 obtain⟨x1,t1,Nh⟩:∃(x:Int) (t:Bool),(if (aC 1000000000 a).length≤2 then VV.dT [VI a,VB true] else .dT [VI 0,VB false]) = .dT [VI x,VB t]:=by split<;>exact⟨_,_,rfl⟩
 have hs2:∃(x:Int) (t:Bool),(if (aC 1000000000 b).length≤2 then VV.dT [VI b,VB true] else .dT [VI 0,VB false]) = .dT [VI x,VB t]∧(t1=true→t=false):=by
  by_cases h:(aC 1000000000 b).length≤2
  ·rw[if_pos h]
   refine⟨_,_,rfl,fun ht => ?_⟩
   rw[if_neg (fun h'=>QD ⟨h',h⟩)] at Nh
   injection Nh with Nh
   injection Nh with _ Nh
   injection Nh with Nh _
   injection Nh with Nh
   injection Nh with Nh
   subst ht
   cases Nh
  ·rw[if_neg h]
   exact⟨_,_,rfl,fun _=>rfl⟩
 obtain⟨x2,t2,hs2,ht⟩:=hs2
 rw[Nh] at s1
 rw[hs2] at s2
 by_cases Ef:eX a b<0
 ·have bF:a<b:=uE.1 Ef
  have e0:∀lr,jC lr [.int .i64 0] 0 [] []=some (.ref 0 0 0 0 0,[.row 0 [] 1 true]):=fun lr=>iE (H:=[]) rfl
  have e1:∀lr,jC lr [.int .i64 0] 0 [] [.row 0 [] 1 true]=some (.ref 1 0 0 0 0,[.row 0 [] 1 true,.row 0 [] 1 true]):=fun lr=>iE (H:=[.row 0 [] 1 true]) rfl
  rw[Nat.div_eq_of_lt bF,Nat.mod_eq_of_lt bF]
  have hz:fz (6+1) [.row 0 [] 1 true,.row 0 [] 1 true] (.ref 0 0 0 0 0)=some (bY 0):=by rw[HH];rfl
  by_cases ha0:a=0
  ·subst ha0
   have ap:eW 0 1 8 (.ref 1 0 0 0 0) ((aC 1000000000 0).map tV) [.row 0 [] 1 true,.row 0 [] 1 true]=some (.ref 1 0 0 0 0,[.row 0 [] 1 true,.row 0 [] 1 true]):=by
    rw[cB];rfl
   have Hs:fz (6+1) [.row 0 [] 1 true,.row 0 [] 1 true] (.ref 1 0 0 0 0)=some (bY 0):=by rw[HH];rfl
   cases t1 with
   |
    false =>
    simp only[fD,dP,s1,s2,c1,Ef,e0,e1,ap,DT,VX,Nat.reduceEqDiff,Nat.reduceAdd]
    exact bO (d:=6) hz Hs
   |
    true =>
    rw[ht rfl] at s2
    simp only[fD,dP,s1,s2,c1,Ef,e0,e1,ap,DT,VX,Nat.reduceEqDiff,Nat.reduceAdd]
    exact bO (d:=6) hz Hs
  ·have hln:(aC 1000000000 a).length≠0:=fun h=>ha0 ((lQ (b:=1000000000) (by decide)).1 (List.length_eq_zero_iff.1 h))
   have ap:eW 0 1 8 (.ref 1 0 0 0 0) ((aC 1000000000 a).map tV) [.row 0 [] 1 true,.row 0 [] 1 true]=some (.ref 1 1 0 (aC 1000000000 a).length (aC 1000000000 a).length,[.row 0 [] 1 true,.row 1 ((aC 1000000000 a).map tV) 1 true]):=by
    have hr:aI [.row 0 [] 1 true,.row 0 [] 1 true] 1 0=some ([],1,true):=rfl
    simp only[eW,hr,List.length_map,Nat.zero_add,List.length_nil,Nat.add_zero]
    rw[if_pos ⟨by decide,by decide⟩,if_pos ⟨trivial,Nat.zero_le _,Nat.le_refl _⟩,if_neg (by omega),if_pos (by omega)]
    simp
   have D9:fz (6+1) [.row 0 [] 1 true,.row 1 ((aC 1000000000 a).map tV) 1 true] (.ref 0 0 0 0 0)=some (bY 0):=by rw[HH];rfl
   have Hs:fz (6+1) [.row 0 [] 1 true,.row 1 ((aC 1000000000 a).map tV) 1 true] (.ref 1 1 0 (aC 1000000000 a).length (aC 1000000000 a).length)=some (bY a):=by
    have:aN (.ref 1 1 0 (aC 1000000000 a).length (aC 1000000000 a).length)=false:=rfl
    have hr:aI [.row 0 [] 1 true,.row 1 ((aC 1000000000 a).map tV) 1 true] 1 1=some ((aC 1000000000 a).map tV,1,true):=rfl
    unfold fz
    simp only[this,hr,Bool.false_eq_true,if_false]
    rw[if_pos ⟨by simp,Nat.le_refl _⟩,List.drop_zero,List.take_of_length_le (by simp),mapM_pure (n:=5) (gP fun _=>rfl)]
    rfl
   cases t1 with
   |
    false =>
    simp only[fD,dP,s1,s2,c1,Ef,e0,e1,ap,DT,VX,Nat.reduceEqDiff,Nat.reduceAdd]
    exact bO (d:=6) D9 Hs
   |
    true =>
    rw[ht rfl] at s2
    simp only[fD,dP,s1,s2,c1,Ef,e0,e1,ap,DT,VX,Nat.reduceEqDiff,Nat.reduceAdd]
    exact bO (d:=6) D9 Hs
 have EN:b≤a:=by have := @uE a b;omega
 have hbn:(aC 1000000000 b).length≠0:=fun h=>hb ((lQ (b:=1000000000) (by decide)).1 (List.length_eq_zero_iff.1 h))
 by_cases h1:(((aC 1000000000 b).length:Nat):Int)=1
 ·obtain⟨d,hd⟩:∃d,aC 1000000000 b=[d]:=List.length_eq_one_iff.1 (by omega)
  obtain⟨hbd,Dp,hdT⟩:=Yv hd
  have e1:bK 1 (bY b) (VI 0) []=some (.cN (tV d) 0):=by
   rw[bY,hd]
   exact aK (f:=tV) (t := .op) (H:=[]) (size:=1) (k := .i64) (xs:=[d]) (i:=0) rfl rfl
  have c2:=yJ a d Dp hdT (by omega)
  rw[←hbd] at c2
  have TV:a % b≤b:=Nat.le_of_lt (Nat.mod_lt _ (by omega))
  have n2:TC 178 [VI ((a % b:Nat):Int)] (bY (a % b)):=pZ ((a % b:Nat):Int) (Int.ofNat_le.2 (show a % b≤9223372036854775807 from Nat.le_trans TV (by omega)))
  have e2:tV d=tV b:=by rw[hbd]
  rw[e2] at e1
  cases t1 with
  |
   false =>
   simp only[fD,dP,s1,s2,c1,Ef,cM,h1,e1,c2,n2,VX,Nat.reduceEqDiff,Nat.reduceAdd]
   exact fin
  |
   true =>
   rw[ht rfl] at s2
   simp only[fD,dP,s1,s2,c1,Ef,cM,h1,e1,c2,n2,VX,Nat.reduceEqDiff,Nat.reduceAdd]
   exact fin
 obtain⟨n,hn⟩:∃n,(aC 1000000000 b).length=n+2:=⟨(aC 1000000000 b).length-2,by omega⟩
 obtain⟨t,htd,ht0,htT⟩:=Ir (a:=b) (n:=n+1) hn
 obtain⟨s,hs⟩:∃s,s=1000000000 / (t+1):=⟨_,rfl⟩
 have RZ:1≤s:=by rw[hs];exact(Nat.le_div_iff_mul_le (by omega)).2 (by omega)
 have hsT:s<1000000000:=by rw[hs];exact Nat.div_lt_self (by decide) (by omega)
 have E5:(t+1)*s≤1000000000:=by rw[hs];exact Nat.mul_div_le _ _
 have hla:=dY (b:=1000000000) (by decide) EN
 have w0:IntKind.i64.wrap (((n+2:Nat):Int)-1)=((n+1:Nat):Int):=wrapN _ (by omega) (by omega)
 have w1:IntKind.i64.wrap ((t:Int)+1)=((t+1:Nat):Int):=wrapN _ (by omega) (by omega)
 have q0:dI .quo (.int .i64 1000000000) (.int .i64 ((t+1:Nat):Int))=some (.int .i64 (s:Int)):=by rw[hs];exact Kr 1000000000 (t+1) (by decide) (by omega)
 have et:∀H,bK 1 (bY b) (VI ((n+1:Nat):Int)) H=some (.cN (tV t) 0):=fun H=>aK (f:=tV) (t := .op) (size:=1) (k := .i64) htd rfl
 have XD:¬(((n+2:Nat):Int)=1):=by omega
 obtain⟨N,hN⟩:∃N,N=(aC 1000000000 a).length+1:=⟨_,rfl⟩
 have wN:IntKind.i64.wrap (((aC 1000000000 a).length:Int)+1)=(N:Int):=wrapN _ (by omega) (by omega)
 have mkN:=PD N (by omega)
 have c3:=yA a s RZ hsT ha
 have c4:=yA b s RZ hsT uB
 have alW:b*s<1000000000^(n+2):=by
  have h2:=(zV (n:=n+1) (fF (b:=1000000000) (by decide) b) hn htd).2
  rw[cI (by decide)] at h2
  have h3:b*s<(t+1)*1000000000^(n+1)*s:=Nat.mul_lt_mul_of_pos_right h2 RZ
  have h4:(t+1)*1000000000^(n+1)*s=(t+1)*s*1000000000^(n+1):=by grind
  have h9:(t+1)*s*1000000000^(n+1)≤1000000000*1000000000^(n+1):=Nat.mul_le_mul_right _ E5
  have h10:1000000000*1000000000^(n+1)=1000000000^(n+2):=by rw[Nat.pow_succ 1000000000 (n+1)];exact Nat.mul_comm _ _
  rw[h4] at h3
  rw[h10] at h9
  exact Nat.lt_of_lt_of_le h3 h9
 have hVl:(aC 1000000000 (b*s)).length=n+2:=by
  have h2:=lX (b:=1000000000) (by decide) alW
  have h3:b≤b*s:=Nat.le_mul_of_pos_right b RZ
  have h4:=dY (b:=1000000000) (by decide) h3
  omega
 have hAl:(aC 1000000000 (a*s)).length≤N:=by
  have h2:=Pn (b:=1000000000) (by decide) a s
  have h3:(aC 1000000000 s).length≤1:=lX (by decide) (by rw[Nat.pow_one];exact hsT)
  omega
 have cp:=aqV hAl
 obtain⟨m,hm⟩:∃m,m+(n+2)=N:=⟨N-(n+2),by omega⟩
 have wm:IntKind.i64.wrap ((N:Int)-((n+2:Nat):Int))=(m:Int):=wrapN _ (by omega) (by omega)
 have wm1:IntKind.i64.wrap ((m:Int)-1)=(m:Int)-1:=wrap64 (by omega) (by omega)
 obtain⟨Ed,aiE⟩:∃Ed,Ed=aC 1000000000 (a*s)++List.replicate (N-(aC 1000000000 (a*s)).length) 0:=⟨_,rfl⟩
 rw[←aiE] at cp
 have mkm:Ay [.int .i64 0] 8 (VI (m:Int)) (VI (m:Int)) [.row 0 (Ed.map tV) 1 true]=some (.ref 1 0 0 m m,[.row 0 (Ed.map tV) 1 true]++[.row 0 ((List.replicate m 0).map tV) 1 true]):=tH (f:=tV) (x:=0) (H:=[.row 0 (Ed.map tV) 1 true]) rfl (by omega) (by omega)
 have lN:∀K,aI K 0 0=some (Ed.map tV,1,true)→oI (.ref 0 0 0 N N) K=some (VI (N:Int)):=fun K h=>fQ h
 have l1:=lN [.row 0 (Ed.map tV) 1 true] rfl
 have l2:=lN (H2 Ed (List.replicate m 0)) rfl
 have aoI:Ed.length=N:=by rw[aiE,List.length_append,List.length_replicate];omega
 have atA:∀d∈Ed,d<1000000000:=fun d hd=>by
  rw[aiE] at hd
  rcases List.mem_append.1 hd with h | h
  ·exact fF (by decide) _ d h
  ·rw[List.eq_of_mem_replicate h];decide
 have akP:val 1000000000 Ed=a*s:=by rw[aiE,yN,qQ,Nat.mul_zero,Nat.add_zero,cI (by decide)]
 generalize Qw:aC 1000000000 (b*s)=vs at *
 have Gz:∀d∈vs,d<1000000000:=by rw[←Qw];exact fF (by decide) _
 have Ns:val 1000000000 vs=b*s:=by rw[←Qw];exact cI (by decide) _
 have lV:∀H,oI (bY (b*s)) H=some (VI ((n+2:Nat):Int)):=fun H=>by rw[cM,Qw,hVl]
 obtain⟨v1,f1⟩:∃v1,vs[n+1]? = some v1:=⟨_,List.getElem?_eq_getElem (by omega)⟩
 obtain⟨v0,f0⟩:∃v0,vs[n]? = some v0:=⟨_,List.getElem?_eq_getElem (by omega)⟩
 have hv1:1≤v1:=by
  obtain⟨d,hd,Dp,_⟩:=Ir (a:=b*s) (n:=n+1) (by rw[Qw];exact hVl)
  rw[Qw,f1] at hd
  cases hd
  omega
 have BX:val 1000000000 (Ed.drop m)<val 1000000000 vs:=by
  have h2:=pB (b:=1000000000) Ed m
  rw[List.length_take,aoI,Nat.min_eq_left (by omega),akP] at h2
  have h3:a<b*1000000000^m:=by
   have y1:=gL (b:=1000000000) (by decide) a
   have y2:=Kg (b:=1000000000) (by decide) hb
   rw[hn] at y2
   have y3:1000000000^(n+2-1)*1000000000^m≤b*1000000000^m:=Nat.mul_le_mul_right _ y2
   rw[←Nat.pow_add,show n+2-1+m=(aC 1000000000 a).length by omega] at y3
   exact Nat.lt_of_lt_of_le y1 y3
  have h4:a*s<b*1000000000^m*s:=Nat.mul_lt_mul_of_pos_right h3 RZ
  have h5:b*1000000000^m*s=1000000000^m*(b*s):=by grind
  rw[Ns]
  have h6:1000000000^m*val 1000000000 (Ed.drop m)<1000000000^m*(b*s):=by
   rw[←h5]
   exact Nat.lt_of_le_of_lt (by rw[h2];exact Nat.le_add_left _ _) h4
  exact Nat.lt_of_mul_lt_mul_left h6
 have body:VW ⟨true,false⟩ 0 (.loop iL)=VW ⟨true,false⟩ 0 (.loop iL):=rfl
 have tail:∀(us os:List Nat),us.length=N→(∀d∈us,d<1000000000)→os.length=m→(∀d∈os,d<1000000000)→val 1000000000 us+val 1000000000 vs*val 1000000000 os=a*s→val 1000000000 us<val 1000000000 vs →
   (∀lo K,cS 184 [.ref 0 0 0 N N] lo (H2 us os) K=K (bY (a % b*s)) (dA (H2 us os) [0])) ∧
   (∀lo K,cS 184 [.ref 1 0 0 m m] lo (dA (H2 us os) [0]) K=K (bY (a / b)) (dA (dA (H2 us os) [0]) [1]))∧TC 202 [bY (a % b*s),VI (s:Int)] (.dT [bY (a % b),VI ((a % b*s % s:Nat):Int)]):=by
  intro us os Qz I2 jL lG hv bF
  rw[Ns] at hv bF
  have hq:val 1000000000 os=a / b:=by
   rw[←Nat.mul_div_mul_right a b RZ,←hv,Nat.add_mul_div_left _ _ (Nat.lt_of_le_of_lt (Nat.zero_le _) bF),Nat.div_eq_of_lt bF,Nat.zero_add]
  have hr:val 1000000000 us=a % b*s:=by
   rw[←Nat.mul_mod_mul_right,←hv,Nat.add_mul_mod_self_left,Nat.mod_eq_of_lt bF]
  refine⟨fun lo K => ?_,fun lo K => ?_,?_⟩
  ·have h:=sA us I2 (by omega)
   rw[hr] at h
   exact TC.ahO (f:=tV) h TZ Qz.symm (Nat.le_refl _) FA (fun _=>rfl) rfl rfl lo K
  ·have h:=sA os lG (by omega)
   rw[hq] at h
   have kC:aI (dA (H2 us os) [0]) 1 0=some (os.map tV,1,true):=rfl
   exact TC.ahO (f:=tV) h kC jL.symm (Nat.le_refl _) FA (fun _=>rfl) rfl rfl lo K
  ·have h:=yJ (a % b*s) s RZ hsT (by
    have h2:=dY (b:=1000000000) (by decide) (Nat.le_trans (Nat.le_of_lt bF) (show b*s≤b*s from Nat.le_refl _))
    rw[hr,Qw] at h2
    omega)
   rwa [Nat.mul_div_cancel _ RZ] at h
 clear body
 have nV:bY (b*s)=gZ vs:=by rw[bY,Qw]
 cases t1 with
 |
  false =>
  simp only[fD,dP,s1,s2,c1,Ef,cM,hn,XD,w0,w1,q0,et,wN,mkN,c3,c4,cp,lV,l1,l2,wm,wm1,mkm,List.cons_append,List.nil_append,VX,Nat.reduceEqDiff,Nat.reduceAdd]
  refine OR (Ed:=Ed) (YX:=List.replicate m 0) (vs:=vs) (N:=N) (m:=m) (n:=n) (A:=a*s) (s:=s) aoI hm (by omega) atA hVl Gz f1 f0 hv1 akP BX (by simp) (Ag (by decide) _) (by rfl) (by rfl) (by simp only[VX,Nat.reduceEqDiff,Nat.reduceAdd];exact nV) (by rfl) (by rfl) (by rfl) ?_
  intro wP us os r12 r13 r16 Qz I2 jL lG hv bF
  obtain⟨x1,x2,x3⟩:=tail us os Qz I2 jL lG hv bF
  simp only[r12,r13,r16,x1,x2,x3,VX,Nat.reduceEqDiff,Nat.reduceAdd]
  exact fin
 |
  true =>
  rw[ht rfl] at s2
  simp only[fD,dP,s1,s2,c1,Ef,cM,hn,XD,w0,w1,q0,et,wN,mkN,c3,c4,cp,lV,l1,l2,wm,wm1,mkm,List.cons_append,List.nil_append,VX,Nat.reduceEqDiff,Nat.reduceAdd]
  refine OR (Ed:=Ed) (YX:=List.replicate m 0) (vs:=vs) (N:=N) (m:=m) (n:=n) (A:=a*s) (s:=s) aoI hm (by omega) atA hVl Gz f1 f0 hv1 akP BX (by simp) (Ag (by decide) _) (by rfl) (by rfl) (by simp only[VX,Nat.reduceEqDiff,Nat.reduceAdd];exact nV) (by rfl) (by rfl) (by rfl) ?_
  intro wP us os r12 r13 r16 Qz I2 jL lG hv bF
  obtain⟨x1,x2,x3⟩:=tail us os Qz I2 jL lG hv bF
  simp only[r12,r13,r16,x1,x2,x3,VX,Nat.reduceEqDiff,Nat.reduceAdd]
  exact fin
end Go.PM
namespace Go.PM
theorem dJ (n:Nat) {H:aA}:oI (bN n) H=some (VI (aC 4294967296 n).length):=dW
theorem wC {n:Nat}:(0:Int)<((aC 4294967296 n).length:Int)↔n≠0:=by
 constructor
 ·intro h h0
  subst h0
  rw[cB] at h
  simp at h
 ·intro h
  have:=(lQ (b:=4294967296) (by decide) (n:=n))
  have h2:aC 4294967296 n≠[]:=fun hx=>h (this.1 hx)
  have:=List.length_pos_iff.2 h2
  omega
theorem QJ {n:Nat} (h:(aC 4294967296 n).length≤2):n<18446744073709551616:=by
 have h1:=gL (b:=4294967296) (by decide) n
 have h2:4294967296^(aC 4294967296 n).length≤4294967296^2:=Nat.pow_le_pow_right (by decide) h
 omega
theorem C9 (a b:Nat) (ha:(aC 4294967296 a).length≤17592186044416) (hb:(aC 4294967296 b).length≤17592186044416):TC 175 [bN a,bN b] (bN (Nat.gcd a b)):=by
 refine TC.walk ⟨true,false⟩ IB rfl (Nat.le_of_ble_eq_true rfl) (by simp[aM,bS]) (pW _) ?_
 simp only[Dt,A9,VX,Nat.reduceEqDiff,Nat.reduceAdd]
 refine aS (fun(t:Nat×Nat) ρ H=>H=[]∧Nat.gcd t.1 t.2=Nat.gcd a b∧(aC 4294967296 t.1).length≤17592186044416∧(aC 4294967296 t.2).length≤17592186044416∧ρ 0=bN t.1∧ρ 1=bN t.2) (fun t=>t.2) (a,b) ⟨rfl,rfl,ha,hb,rfl,rfl⟩ ?_
 rintro⟨x,y⟩ ρ H ⟨rfl,hg,hx,hy,g0,g1⟩
 simp only at hg hx hy g0 g1
 have c1:=A2 x hx
 have c2:=A2 y hy
 by_cases hy0:y=0
 ·subst hy0
  have hl:¬(0:Int)<((aC 4294967296 0).length:Int):=by rw[wC];omega
  rw[Nat.gcd_zero_right] at hg
  simp only[iO,g0,g1,dJ,hl,VX,Nat.reduceEqDiff,Nat.reduceAdd]
  rw[hg]
  exact aF (bS _)
 have hl:(0:Int)<((aC 4294967296 y).length:Int):=wC.2 hy0
 by_cases h1:(aC 4294967296 x).length≤2∧(aC 4294967296 y).length≤2
 ·rw[if_pos h1.1] at c1
  rw[if_pos h1.2] at c2
  simp only[iO,g0,g1,dJ,hl,c1,c2,VX,Nat.reduceEqDiff,Nat.reduceAdd]
  refine aS (fun(t:Nat×Nat) ρ H=>H=[]∧Nat.gcd t.1 t.2=Nat.gcd a b∧t.1<18446744073709551616∧t.2<18446744073709551616∧ρ 5=VK .u64 t.1∧ρ 7=VK .u64 t.2) (fun t=>t.2) (x,y) ⟨rfl,hg,QJ h1.1,QJ h1.2,rfl,rfl⟩ ?_
  rintro⟨u,v⟩ OB H ⟨rfl,hg2,hu,hv,k5,k7⟩
  simp only at hg2 hu hv k5 k7
  by_cases hv0:v=0
  ·subst hv0
   rw[Nat.gcd_zero_right] at hg2
   have hz:¬(0:Int)<((0:Nat):Int):=by omega
   have c3:=mR u hu
   simp only[sW,k5,k7,hz,c3,VX,Nat.reduceEqDiff,Nat.reduceAdd]
   rw[hg2]
   exact aF (bS _)
  ·have hz:(0:Int)<(v:Int):=by omega
   have r1:=Ph u v (by omega)
   simp only[sW,k5,k7,hz,r1,VX,Nat.reduceEqDiff,Nat.reduceAdd]
   refine⟨(v,u % v),?_,?_,hv,?_,rfl,rfl⟩
   ·exact Nat.mod_lt _ (by omega)
   ·simp only
    rw[←hg2,Nat.gcd_comm u v,Nat.gcd_rec v u,Nat.gcd_comm]
   ·simp only
    have:=Nat.mod_lt u (show 0<v by omega)
    omega
 ·have c3:=xW x y hy0 hx hy
  have next:∃s':Nat×Nat,s'.2<y∧Nat.gcd s'.1 s'.2=Nat.gcd a b∧(aC 4294967296 s'.1).length≤17592186044416∧(aC 4294967296 s'.2).length≤17592186044416∧bN y=bN s'.1∧bN (x % y)=bN s'.2:=by
   have hm:=Nat.mod_lt x (show 0<y by omega)
   refine⟨(y,x % y),hm,?_,hy,?_,rfl,rfl⟩
   ·simp only
    rw[←hg,Nat.gcd_comm x y,Nat.gcd_rec y x,Nat.gcd_comm]
   ·simp only
    have:=dY (b:=4294967296) (by decide) (Nat.le_of_lt hm)
    omega
  by_cases h2:(aC 4294967296 x).length≤2
  ·have h3:¬(aC 4294967296 y).length≤2:=fun h=>h1 ⟨h2,h⟩
   rw[if_pos h2] at c1
   rw[if_neg h3] at c2
   simp only[iO,g0,g1,dJ,hl,c1,c2,c3,VX,Nat.reduceEqDiff,Nat.reduceAdd]
   exact next
  ·rw[if_neg h2] at c1
   by_cases h3:(aC 4294967296 y).length≤2
   ·rw[if_pos h3] at c2
    simp only[iO,g0,g1,dJ,hl,c1,c2,c3,VX,Nat.reduceEqDiff,Nat.reduceAdd]
    exact next
   ·rw[if_neg h3] at c2
    simp only[iO,g0,g1,dJ,hl,c1,c2,c3,VX,Nat.reduceEqDiff,Nat.reduceAdd]
    exact next
end Go.PM
namespace Go.PM
open Go.Lib
theorem qI (a b:List UInt8) (h:a.length+b.length≤9223372036854775807):dI .add (.string ⟨a.toArray⟩) (.string ⟨b.toArray⟩)=some (.string ⟨(a++b).toArray⟩):=by
 have h1:(⟨a.toArray⟩:ByteArray).size=a.length:=by simp[ByteArray.size]
 have h2:(⟨b.toArray⟩:ByteArray).size=b.length:=by simp[ByteArray.size]
 have h3:¬(((⟨a.toArray⟩:ByteArray).size+(⟨b.toArray⟩:ByteArray).size:Nat):Int)>IntKind.i64.max:=by
  rw[h1,h2]
  show ¬_>(9223372036854775807:Int)
  omega
 simp only[dI,h3,if_false]
 congr 2
theorem bM (a:List UInt8):yU (.string ⟨a.toArray⟩)=some (.int .i64 (a.length:Int)):=by simp[yU,ByteArray.size]
theorem afR:∀a:List UInt8,(aB (bB a)).length=1:=fun _=>rfl
theorem Xw {xs:List (List UInt8)} {H:aA} {lo b g n:Nat} (hr:aI H b g=some (xs.map bB,1,true)) (hn:xs.length=n) (dK:lo≤b) (CS:n≤9223372036854775806) :
  gV 216 [.ref b g 0 n n] lo H fun r H'=>r = .dT []∧H'=H.set b (.row g (xs.reverse.map bB) 1 true):=by
 refine gV.walk ⟨true,false⟩ rE (Nat.le_of_ble_eq_true rfl) ?_
 have e0:oI (.ref b g 0 n n) H=some (VI n):=fQ hr
 have w0:IntKind.i64.wrap ((n:Int)-1)=(n:Int)-1:=wrap64 (by omega) (by omega)
 simp only[lE,kD,e0,w0,VX,Nat.reduceEqDiff,Nat.reduceAdd]
 refine aS (fun(t:Nat×List (List UInt8)) ρ K=>t.1≤n∧K=H.set b (.row g (t.2.map bB) 1 true)∧t.2.length=n∧(∀k,k<n→t.2[k]? = if k<t.1∨n≤k+t.1 then xs[n-1-k]? else xs[k]?)∧ρ 0 = .ref b g 0 n n∧ρ 2=VI t.1∧ρ 3=VI ((n:Int)-1-(t.1:Int))) (fun t=>n-t.1) (0,xs) ⟨Nat.zero_le _,(wA hr).symm,hn,fun k hk=>by rw[if_neg (by simp only;omega)],rfl,rfl,by show VI ((n:Int)-1)=VI ((n:Int)-1-((0:Nat):Int));rw[Int.natCast_zero,Int.sub_zero]⟩ ?_
 rintro⟨i,ys⟩ ρ K ⟨hi,rfl,hl,hy,g0,g2,g3⟩
 simp only at hi hl hy g2 g3
 have hr2:aI (H.set b (.row g (ys.map bB) 1 true)) b g=some (ys.map bB,1,true):=nE hr
 by_cases dB:(i:Int)<(n:Int)-1-(i:Int)
 ·have hj:(n:Int)-1-(i:Int)=((n-1-i:Nat):Int):=by omega
  obtain⟨x,hx⟩:∃x,ys[i]? = some x:=⟨_,List.getElem?_eq_getElem (by omega)⟩
  obtain⟨y,hyy⟩:∃y,ys[n-1-i]? = some y:=⟨_,List.getElem?_eq_getElem (by omega)⟩
  rw[hj] at g3 dB
  have a1:∀(zs:List (List UInt8)) (k:Nat),zs.length=n→k<n→bK 1 (.ref b g 0 n n) (VI (k:Int)) (H.set b (.row g (zs.map bB) 1 true))=some (.ptr b g k 0):=fun zs k h1 h2=>by rw[bE (nE hr) h2,Nat.zero_add]
  have l1:bT false 1 (.ptr b g (n-1-i) 0) (H.set b (.row g (ys.map bB) 1 true))=some (bB y):=oV hr2 hyy
  have l2:bT false 1 (.ptr b g i 0) (H.set b (.row g (ys.map bB) 1 true))=some (bB x):=oV hr2 hx
  have s1:bR lo 1 (.ptr b g i 0) (bB y) (H.set b (.row g (ys.map bB) 1 true))=some (H.set b (.row g ((ys.set i y).map bB) 1 true)):=by rw[fK (f:=bB) (e:=1) hr2 (by omega) dK rfl rfl,lZ]
  have s2:bR lo 1 (.ptr b g (n-1-i) 0) (bB x) (H.set b (.row g ((ys.set i y).map bB) 1 true))=some (H.set b (.row g (((ys.set i y).set (n-1-i) x).map bB) 1 true)):=by rw[fK (f:=bB) (e:=1) (nE hr) (by rw[List.length_set];omega) dK rfl rfl,lZ]
  have w1:IntKind.i64.wrap ((i:Int)+1)=((i+1:Nat):Int):=wrapN _ (by omega) (by omega)
  have w2:IntKind.i64.wrap (((n-1-i:Nat):Int)-1)=(n:Int)-1-((i+1:Nat):Int):=by rw[wrap64 (by omega) (by omega)];omega
  have b1:=a1 ys i hl (by omega)
  have b2:=a1 ys (n-1-i) hl (by omega)
  have b3:=a1 (ys.set i y) (n-1-i) (by rw[List.length_set];exact hl) (by omega)
  simp only[fI,g0,g2,g3,dB,b1,b2,b3,l1,l2,s1,s2,w1,w2,VX,Nat.reduceEqDiff,Nat.reduceAdd]
  refine⟨(i+1,(ys.set i y).set (n-1-i) x),by simp only;omega,by simp only;omega,rfl,by simp only[List.length_set];exact hl,fun k hk => ?_,by (repeat' apply And.intro)<;>first | rfl | trivial⟩
  simp only
  have hxx:=hy i (by omega)
  rw[if_neg (by omega),hx] at hxx
  have hyx:=hy (n-1-i) (by omega)
  rw[if_neg (by omega),hyy] at hyx
  rw[List.getElem?_set,List.getElem?_set,List.length_set]
  by_cases h1:n-1-i=k
  ·subst h1
   rw[if_pos rfl,if_pos (by omega),if_pos (by omega),show n-1-(n-1-i)=i by omega]
   exact hxx
  ·rw[if_neg h1]
   by_cases h2:i=k
   ·subst h2
    rw[if_pos rfl,if_pos (by omega),if_pos (by omega)]
    exact hyx
   ·rw[if_neg h2,hy k hk]
    by_cases h3:k<i∨n≤k+i
    ·rw[if_pos h3,if_pos (by omega)]
    ·rw[if_neg h3,if_neg (by omega)]
 ·have avP:ys=xs.reverse:=by
   apply List.ext_getElem?
   intro k
   rcases Nat.lt_or_ge k n with h | h
   ·rw[hy k h,List.getElem?_reverse (by omega),hn]
    split
    ·rfl
    ·rw[show n-1-k=k by omega]
   ·rw[List.getElem?_eq_none (by omega),List.getElem?_eq_none (by rw[List.length_reverse];omega)]
  subst avP
  simp only[fI,g0,g2,g3,dB,VX,Nat.reduceEqDiff,Nat.reduceAdd]
  try exact⟨rfl,rfl⟩
theorem Ym (n:Nat):(aC 1000000000 n).length≤2*(aC 4294967296 n).length:=by
 refine lX (by decide) ?_
 have h1:=gL (b:=4294967296) (by decide) n
 have h2:4294967296^(aC 4294967296 n).length≤(1000000000^2)^(aC 4294967296 n).length:=Nat.pow_le_pow_left (by decide) _
 rw[←Nat.pow_mul] at h2
 omega
theorem agP {n:Nat} (hn:n≠0):(decDigits n).length≤9*(aC 1000000000 n).length:=by
 have h1:=gL (b:=1000000000) (by decide) n
 have h3:(aC 1000000000 n)≠[]:=fun h=>hn ((lQ (by decide)).1 h)
 have h4:=List.length_pos_iff.2 h3
 generalize (aC 1000000000 n).length=L at *
 obtain⟨k,hk⟩:∃k,9*L=k+1:=⟨9*L-1,by omega⟩
 have h5:(1000000000:Nat)^L=10^(9*L):=by rw[show (1000000000:Nat)=10^9 by decide,←Nat.pow_mul]
 rw[h5,hk] at h1
 rw[hk]
 exact xA n k h1
def lM (q:Nat):List UInt8:=if q=0 then [] else decDigits q
theorem B3 (n:Nat) (hn:(aC 4294967296 n).length≤68719476736):TC 196 [bN n] (bB (decDigits n)):=by
 refine TC.walk ⟨true,false⟩ Gf rfl (Nat.le_of_ble_eq_true rfl) (by simp[aM,bS]) rfl ?_
 by_cases h0:n=0
 ·subst h0
  have hl:(((aC 4294967296 0).length:Nat):Int)=0:=by rw[cB];rfl
  simp only[vG,sF,dJ,hl,VX,Nat.reduceEqDiff,Nat.reduceAdd]
  rw[iJ (by decide)]
  exact aF rfl
 have hl:¬(((aC 4294967296 n).length:Nat):Int)=0:=by have:=wC.2 h0;omega
 have e1:∀lr,jC lr [.string ⟨#[]⟩] 0 [] []=some (.ref 0 0 0 0 0,[.row 0 (([]:List (List UInt8)).map bB) 1 true]):=fun lr=>iE (H:=[]) (lr:=lr) (z:=[.string ⟨#[]⟩]) rfl
 have hTn:=Ym n
 have hdl:=agP h0
 simp only[vG,sF,dJ,hl,e1,VX,Nat.reduceEqDiff,Nat.reduceAdd]
 refine aS (fun(t:Nat×List (List UInt8)) ρ H=>H=[.row t.2.length (t.2.map bB) 1 true]∧t.1≤n∧t.2.length+(aC 1000000000 t.1).length=(aC 1000000000 n).length∧decDigits n=lM t.1++t.2.reverse.flatten∧ρ 0=bN t.1∧ρ 3 = .ref 0 t.2.length 0 t.2.length t.2.length) (fun t=>t.1) (n,[]) ⟨rfl,Nat.le_refl _,by simp,by simp[lM,h0],rfl,rfl⟩ ?_
 rintro⟨q,ps⟩ ρ H ⟨rfl,hq,hlen,Xs,g0,g3⟩
 simp only at hq hlen Xs g0 g3
 by_cases Qy:q=0
 ·subst Qy
  have hz:¬(0:Int)<((aC 4294967296 0).length:Int):=by rw[wC];omega
  rw[lM,if_pos rfl,List.nil_append] at Xs
  have hr:aI [.row ps.length (ps.map bB) 1 true] 0 ps.length=some (ps.map bB,1,true):=bA
  simp only[mJ,g0,g3,dJ,hz,VX,Nat.reduceEqDiff,Nat.reduceAdd]
  refine gI rfl ((Xw hr rfl (Nat.le_refl _) (by omega)).mono ?_)
  rintro r H' ⟨rfl,rfl⟩
  have HE:([.row ps.length (ps.map bB) 1 true]:aA).set 0 (.row ps.length (ps.reverse.map bB) 1 true)=[.row ps.length (ps.reverse.map bB) 1 true]:=rfl
  have hr2:aI [.row ps.length (ps.reverse.map bB) 1 true] 0 ps.length=some (ps.reverse.map bB,1,true):=bA
  have hfl:ps.reverse.flatten.length≤140737488355328:=by rw[←Xs];omega
  have cj:=(aoC ps.reverse (by rw[List.length_reverse];omega) hfl).flat (H:=[.row ps.length (ps.reverse.map bB) 1 true]) (args:=[.ref 0 ps.length 0 ps.length ps.length,bB []]) rfl (by simp only[aM,lP (f:=bB) afR (fun _=>rfl),Bool.and_true];rfl) (fz2 (MU hr2 (by simp) (Nat.le_refl _) (gP fun _=>rfl)) (aF rfl)) rfl
  simp only[HE,g3,cj,VX,Nat.reduceEqDiff,Nat.reduceAdd]
  rw[←Xs]
  exact aF rfl
 ·have hz:(0:Int)<((aC 4294967296 q).length:Int):=wC.2 Qy
  have hql:=dY (b:=4294967296) (by decide) hq
  have c1:TC 197 [bN q,.sc (.int .u32 1000000000)] (.dT [bN (q / 1000000000),uV (q % 1000000000)]):=vQ q 1000000000 (by decide) (by decide) (by omega)
  have hm:=Nat.mod_lt q (show 0<1000000000 by decide)
  have c2:=akU (q % 1000000000) (by omega)
  have wm:IntKind.u64.wrap ((q % 1000000000:Nat):Int)=((q % 1000000000:Nat):Int):=dV _ (by omega)
  have hdq:=iW (b:=1000000000) (by decide) Qy
  have aCV:(aC 1000000000 q).length=(aC 1000000000 (q / 1000000000)).length+1:=by rw[hdq];rfl
  have XE:=xA (q % 1000000000) 8 hm
  have hqq:=Nat.mod_add_div q 1000000000
  have e2:∀x:List UInt8,jC false [.string ⟨#[]⟩] 1 [(0,bB x)] [.row ps.length (ps.map bB) 1 true]=some (.tree [bB x] (.cl 1),[.row ps.length (ps.map bB) 1 true]):=fun x=>gE (z:=[.string ⟨#[]⟩]) rfl rfl rfl
  have e3:∀x:List UInt8,cU 1 (.tree [bB x] (.cl 1)) [.row ps.length (ps.map bB) 1 true]=some [bB x]:=fun x=>dQ rfl rfl
  have e4:∀x:List UInt8,eW 0 1 16 (.ref 0 ps.length 0 ps.length ps.length) [bB x] [.row ps.length (ps.map bB) 1 true]=some (.ref 0 (ps.length+1) 0 (ps.length+1) (ps.length+1),[.row (ps.length+1) ((ps++[x]).map bB) 1 true]):=fun x=>by
   rw[iC (f:=bB) (x:=x) bA rfl (Nat.le_refl _) (by decide) (by decide) (by omega)]
   rfl
  have hle:q / 1000000000<q:=Nat.div_lt_self (by omega) (by decide)
  by_cases hqz:q / 1000000000=0
  ·have Tp:¬(0:Int)<((aC 4294967296 (q / 1000000000)).length:Int):=by rw[wC];omega
   simp only[mJ,g0,g3,dJ,hz,c1,c2,wm,Tp,e2,e3,e4,VX,Nat.reduceEqDiff,Nat.reduceAdd]
   refine⟨(q / 1000000000,ps++[decDigits (q % 1000000000)]),hle,by simp,by simp only;omega,by simp only[List.length_append,List.length_singleton];omega,?_,rfl,by simp⟩
   rw[Xs,lM,if_neg Qy,lM,if_pos hqz,List.reverse_append,List.nil_append,List.reverse_singleton,List.singleton_append,List.flatten_cons,show q % 1000000000=q by omega]
  ·have Tp:(0:Int)<((aC 4294967296 (q / 1000000000)).length:Int):=wC.2 hqz
   have ws:IntKind.i64.wrap ((9:Int)-((decDigits (q % 1000000000)).length:Int))=((9-(decDigits (q % 1000000000)).length:Nat):Int):=wrapN _ (by omega) (by omega)
   have c3:=Z7 [48] (9-(decDigits (q % 1000000000)).length) (by simp;omega) (by omega)
   have adU:repeatL [48] (9-(decDigits (q % 1000000000)).length)++decDigits (q % 1000000000)=Ct 9 (q % 1000000000):=by
    rw[anT 8 _ hm]
    congr 1
    have:=repeatL_replicate 48 1 (9-(decDigits (q % 1000000000)).length)
    rw[Nat.mul_one] at this
    exact this
   have c4:=qI (repeatL [48] (9-(decDigits (q % 1000000000)).length)) (decDigits (q % 1000000000)) (by rw[←List.length_append,adU,ahG];decide)
   rw[adU] at c4
   simp only[mJ,g0,g3,dJ,hz,c1,c2,wm,Tp,bM,ws,c3,c4,e2,e3,e4,VX,Nat.reduceEqDiff,Nat.reduceAdd]
   refine⟨(q / 1000000000,ps++[Ct 9 (q % 1000000000)]),hle,by simp,by simp only;omega,by simp only[List.length_append,List.length_singleton];omega,?_,rfl,by simp⟩
   rw[Xs,lM,if_neg Qy,lM,if_neg hqz,List.reverse_append,List.reverse_singleton,List.singleton_append,List.flatten_cons,←List.append_assoc,←Ix (by omega) hm]
   congr 2
   omega
end Go.PM