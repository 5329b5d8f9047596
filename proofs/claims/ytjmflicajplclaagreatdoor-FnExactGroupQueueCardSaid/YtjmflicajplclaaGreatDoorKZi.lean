/- Texts of a claim, in one: part 9. -/
import Derived.Test.YtjmflicajplclaaGreatDoorKZh
set_option linter.unusedSimpArgs false
set_option linter.unusedVariables false
namespace Go.PM
theorem Tj {hJ vs us ws os:List Nat} {n u2 u1 u0 v1 v0 N k g left:Nat} (G:vN 4294967296 hJ vs n u2 u1 u0 v1 v0) {ρ:dS} {Q:VQ} (hN:us.length=N) (hk2:2≤k) (hkN:k<N) (CD:N≤70368744177664) (hu0:us[k-2]? = some u0)
  (g9:ρ 9 = .ref 0 0 0 N N) (g11:ρ 11=VK .u64 v1) (g12:ρ 12=VK .u64 v0) (g15:ρ 15=VI k) (g17:ρ 17=VK .u64 g) (g18:ρ 18=VK .u64 left) (hh:u2*4294967296+u1=g*v1+left) (hq:val 4294967296 hJ / val 4294967296 vs≤g) (hl:left<4294967296) (hgb:g<18446744073709551616)
  (hQ:∀(bJ:dS) (g':Nat),val 4294967296 hJ / val 4294967296 vs≤g'→g'≤val 4294967296 hJ / val 4294967296 vs+1→g'<4294967296→bJ 17=VK .u64 g'→bJ 8=ρ 8→bJ 9=ρ 9→bJ 10=ρ 10→bJ 11=ρ 11→bJ 12=ρ 12→bJ 13=ρ 13→bJ 14=ρ 14→bJ 15=ρ 15→Q (.exit 2) bJ (H3 us ws os)) :
  VW ⟨true,false⟩ 0 (.loop gG) Q ρ (H3 us ws os):=by
 have lv1:=G.Wr
 have lv0:=G.Zu
 have lu0:=G.ahG
 have qlt:=G.adY
 have lC:=G.pos
 refine aT (fun(t:Nat×Nat) bJ H=>H=H3 us ws os∧u2*4294967296+u1=t.1*v1+t.2∧val 4294967296 hJ / val 4294967296 vs≤t.1∧t.2<4294967296∧t.1<18446744073709551616 ∧
  bJ 9 = .ref 0 0 0 N N∧bJ 11=VK .u64 v1∧bJ 12=VK .u64 v0∧bJ 15=VI k∧bJ 17=VK .u64 t.1∧bJ 18=VK .u64 t.2∧bJ 8=ρ 8∧bJ 10=ρ 10∧bJ 13=ρ 13∧bJ 14=ρ 14) (fun t=>4294967296-t.2) (g,left) ⟨rfl,hh,hq,hl,hgb,g9,g11,g12,g15,g17,g18,rfl,rfl,rfl,rfl⟩ ?_
 rintro⟨g,left⟩ NA H ⟨rfl,hh,hq,hl,hgb,k9,Wk,Hh,JV,Hk,YC,k8,Yx,A9,Cj⟩
 simp only at hh hq hl hgb Hk YC
 have e1:bK 1 (.ref 0 0 0 N N) (VI ((k-2:Nat):Int)) (H3 us ws os)=some (.ptr 0 0 (k-2) 0):=by rw[bD Cn (by omega),Nat.zero_add]
 have e2:cE false 1 (.ptr 0 0 (k-2) 0) (H3 us ws os)=some (uV u0):=iO Cn hu0
 have wk:IntKind.i64.wrap ((k:Int)-2)=((k-2:Nat):Int):=wrapN _ (by omega) (by omega)
 have wu:IntKind.u64.wrap (u0:Int)=(u0:Int):=dW _ (by omega)
 have ws:=DQ left .u64 hl
 have wa:IntKind.u64.wrap (((left*4294967296:Nat):Int)+(u0:Int))=((left*4294967296+u0:Nat):Int):=by rw[←Int.natCast_add];exact dW _ (by omega)
 have wl:IntKind.u64.wrap ((left:Int)+(v1:Int))=((left+v1:Nat):Int):=by rw[←Int.natCast_add];exact dW _ (by omega)
 have same:NA 9=ρ 9∧NA 11=ρ 11∧NA 12=ρ 12∧NA 15=ρ 15:=⟨by rw[k9,g9],by rw[Wk,g11],by rw[Hh,g12],by rw[JV,g15]⟩
 obtain⟨s9,s11,s12,s15⟩:=same
 have down:val 4294967296 hJ / val 4294967296 vs<g→∃g',g=g'+1∧IntKind.u64.wrap ((g:Int)-1)=(g':Int)∧u2*4294967296+u1=g'*v1+(left+v1)∧val 4294967296 hJ / val 4294967296 vs≤g':=by
  intro h
  have hg1:1≤g:=Nat.lt_of_le_of_lt (Nat.zero_le _) h
  obtain⟨g',rfl⟩:∃g',g=g'+1:=⟨g-1,by omega⟩
  refine⟨g',rfl,?_,?_,by omega⟩
  ·rw[show ((g'+1:Nat):Int)-1=(g':Int) by omega]
   exact dW _ (by omega)
  ·rw[hh,Nat.add_mul]
   omega
 by_cases hA:(4294967296:Int)≤(g:Int)
 ·obtain⟨g',hg',wg,Ta,MR⟩:=down (by omega)
  by_cases hB:(4294967296:Int)≤((left+v1:Nat):Int)
  ·obtain⟨c1,c2⟩:=G.broken Ta (by omega)
   simp only[gG,k9,Wk,Hh,JV,Hk,YC,hA,hB,wg,wl,VX,Nat.reduceEqDiff,Nat.reduceAdd]
   exact hQ _ g' MR (G.WV Ta (by omega) c2) c1 rfl k8 s9 Yx s11 s12 A9 Cj s15
  ·simp only[gG,k9,Wk,Hh,JV,Hk,YC,hA,hB,wg,wl,VX,Nat.reduceEqDiff,Nat.reduceAdd]
   exact⟨(g',left+v1),by simp only;omega,Ta,MR,by simp only;omega,by simp only;omega,by rfl,by rfl,k8,Yx,A9,Cj⟩
 ·have hgv:g*v0≤4294967295*4294967295:=Nat.mul_le_mul (by omega) (by omega)
  have wm:IntKind.u64.wrap ((g:Int)*(v0:Int))=((g*v0:Nat):Int):=by rw[←Int.natCast_mul];exact dW _ (by omega)
  by_cases hT:((left*4294967296+u0:Nat):Int)<((g*v0:Nat):Int)
  ·obtain⟨g',hg',wg,Ta,MR⟩:=down (G.too hh (by omega))
   by_cases hB:(4294967296:Int)≤((left+v1:Nat):Int)
   ·obtain⟨c1,c2⟩:=G.broken Ta (by omega)
    simp only[gG,k9,Wk,Hh,JV,Hk,YC,hA,hB,hT,e1,e2,wk,wu,ws,wa,wm,wg,wl,VX,Nat.reduceEqDiff,Nat.reduceAdd]
    exact hQ _ g' MR (G.WV Ta (by omega) c2) c1 rfl k8 s9 Yx s11 s12 A9 Cj s15
   ·simp only[gG,k9,Wk,Hh,JV,Hk,YC,hA,hB,hT,e1,e2,wk,wu,ws,wa,wm,wg,wl,VX,Nat.reduceEqDiff,Nat.reduceAdd]
    exact⟨(g',left+v1),by simp only;omega,Ta,MR,by simp only;omega,by simp only;omega,by rfl,by rfl,k8,Yx,A9,Cj⟩
  ·simp only[gG,k9,Wk,Hh,JV,Hk,YC,hA,hT,e1,e2,wk,wu,ws,wa,wm,VX,Nat.reduceEqDiff,Nat.reduceAdd]
   exact hQ _ g hq (G.WV hh (by omega) (by omega)) (by omega) Hk k8 s9 Yx s11 s12 A9 Cj s15
theorem LB {X S S' R V q Q P w:Nat} (hs:S=q*V+S') (h:X+P*S+P*w*V*Q=R):X+P*S'+P*V*(q+w*Q)=R:=by
 subst hs
 grind
theorem ZR {D7 ws Yr vs:List Nat} {N m n v1 v0 A s:Nat} {ρ:dS} {Q:VQ} (hN:D7.length=N) (hm:m+(n+2)=N) (CD:N≤70368744177664) (IX:∀d∈D7,d<4294967296) (hws:ws.take (n+2)=vs) (hwl:ws.length=n+3) (FE:vs.length=n+2) (Gs:∀d∈vs,d<4294967296) (f1:vs[n+1]? = some v1) (f0:vs[n]? = some v0) (lC:1≤v1)
  (hA:val 4294967296 D7=A) (B1:val 4294967296 (D7.drop m)<val 4294967296 vs) (jM:Yr.length=m) (lH:∀d∈Yr,d<4294967296)
  (g8:ρ 8=VI s) (g9:ρ 9 = .ref 0 0 0 N N) (g10:ρ 10 = .ref 1 0 0 (n+2) (n+3)) (g11:ρ 11=VK .u64 v1) (g12:ρ 12=VK .u64 v0) (g13:ρ 13 = .ref 2 0 0 m m) (g14:ρ 14=VI ((m:Int)-1))
  (hQ:∀(bJ:dS) (us os:List Nat),bJ 8=VI s→bJ 9 = .ref 0 0 0 N N→bJ 13 = .ref 2 0 0 m m→us.length=N→(∀d∈us,d<4294967296)→os.length=m→(∀d∈os,d<4294967296)→val 4294967296 us+val 4294967296 vs*val 4294967296 os=A→val 4294967296 us<val 4294967296 vs→Q (.exit 0) bJ (H3 us ws os)) :
  VW ⟨true,false⟩ 0 (.loop nQ) Q ρ (H3 D7 ws Yr):=by
 have hVb:=oF Gs
 rw[FE] at hVb
 refine aT (fun(t:Nat×List Nat×List Nat) bJ H=>t.1≤m∧H=H3 t.2.1 ws t.2.2∧t.2.1.length=N∧(∀d∈t.2.1,d<4294967296)∧t.2.2.length=m∧(∀d∈t.2.2,d<4294967296)∧val 4294967296 (t.2.1.drop t.1)<val 4294967296 vs∧val 4294967296 t.2.1+4294967296^t.1*val 4294967296 vs*val 4294967296 (t.2.2.drop t.1)=A ∧
  bJ 8=VI s∧bJ 9 = .ref 0 0 0 N N∧bJ 10 = .ref 1 0 0 (n+2) (n+3)∧bJ 11=VK .u64 v1∧bJ 12=VK .u64 v0∧bJ 13 = .ref 2 0 0 m m∧bJ 14=VI ((t.1:Int)-1)) (fun t=>t.1) (m,D7,Yr) ⟨Nat.le_refl _,rfl,hN,IX,jM,lH,B1,by rw[List.drop_of_length_le (by simp only;omega)];simpa[val] using hA,g8,g9,g10,g11,g12,g13,g14⟩ ?_
 rintro⟨j,us,os⟩ NA H ⟨hj,rfl,Qh,IX,jM,lH,bH,hv,k8,k9,Yx,Wk,Hh,A9,Cj⟩
 simp only at hj Qh IX jM lH bH hv Cj
 by_cases hz:(0:Int)≤(j:Int)-1
 ·obtain⟨i,rfl⟩:∃i,j=i+1:=⟨j-1,by omega⟩
  have Ht:((i+1:Nat):Int)-1=(i:Int):=by omega
  rw[Ht] at Cj hz
  obtain⟨Uj,yM,PJ,hsW,ZP,Z0,rK⟩:=X9 (n:=n+2) Qh (by omega) IX hVb bH
  generalize WZ:(us.drop i).take (n+2+1)=hJ at *
  have PG:∀d∈hJ,d<4294967296:=fun d hd=>by rw[←WZ] at hd;exact IX d (List.mem_of_mem_drop (List.mem_of_mem_take hd))
  obtain⟨u2,hu2⟩:∃u2,us[i+(n+2)]? = some u2:=⟨_,List.getElem?_eq_getElem (by omega)⟩
  obtain⟨u1,hu1⟩:∃u1,us[i+(n+1)]? = some u1:=⟨_,List.getElem?_eq_getElem (by omega)⟩
  obtain⟨u0,hu0⟩:∃u0,us[i+n]? = some u0:=⟨_,List.getElem?_eq_getElem (by omega)⟩
  have G:vN 4294967296 hJ vs n u2 u1 u0 v1 v0:=⟨by decide,PG,Gs,PJ,FE,by rw[rK _ (by omega)];exact hu2,by rw[rK _ (by omega)];exact hu1,by rw[rK _ (by omega)];exact hu0,f1,f0,lC,hsW⟩
  have lu2:=G.ahV
  have lu1:=G.aaY
  have lv1:=G.Wr
  have qlt:=G.adY
  have It:=G.It
  have akJ:oK (.ref 1 0 0 (n+2) (n+3)) (H3 us ws os)=some (VI ((n+2:Nat):Int)):=fL aqW
  have w1:IntKind.i64.wrap ((i:Int)+((n+2:Nat):Int))=((i+(n+2):Nat):Int):=by rw[←Int.natCast_add];exact wrapN _ rfl (by omega)
  have w2:IntKind.i64.wrap (((i+(n+2):Nat):Int)-1)=((i+(n+1):Nat):Int):=wrapN _ (by omega) (by omega)
  have e2:bK 1 (.ref 0 0 0 N N) (VI ((i+(n+2):Nat):Int)) (H3 us ws os)=some (.ptr 0 0 (i+(n+2)) 0):=by rw[bD Cn (by omega),Nat.zero_add]
  have e1:bK 1 (.ref 0 0 0 N N) (VI ((i+(n+1):Nat):Int)) (H3 us ws os)=some (.ptr 0 0 (i+(n+1)) 0):=by rw[bD Cn (by omega),Nat.zero_add]
  have l2:cE false 1 (.ptr 0 0 (i+(n+2)) 0) (H3 us ws os)=some (uV u2):=iO Cn hu2
  have l1:cE false 1 (.ptr 0 0 (i+(n+1)) 0) (H3 us ws os)=some (uV u1):=iO Cn hu1
  have wu2:IntKind.u64.wrap (u2:Int)=(u2:Int):=dW _ (by omega)
  have wu1:IntKind.u64.wrap (u1:Int)=(u1:Int):=dW _ (by omega)
  have ws2:=DQ u2 .u64 lu2
  have wa:IntKind.u64.wrap (((u2*4294967296:Nat):Int)+(u1:Int))=((u2*4294967296+u1:Nat):Int):=by rw[←Int.natCast_add];exact dW _ (by omega)
  have q1:=UT (u2*4294967296+u1) v1 (by omega) lC
  have q2:=P0 (u2*4294967296+u1) v1 lC
  simp only[nQ,k8,k9,Yx,Wk,Hh,A9,Cj,hz,akJ,w1,w2,e1,e2,l1,l2,wu1,wu2,ws2,wa,q1,q2,VX,Nat.reduceEqDiff,Nat.reduceAdd]
  have hh:=Nat.mod_add_div (u2*4294967296+u1) v1
  have hml:=Nat.mod_lt (u2*4294967296+u1) lC
  have hdl:(u2*4294967296+u1) / v1≤u2*4294967296+u1:=Nat.div_le_self _ _
  have Qe:val 4294967296 hJ / val 4294967296 vs≤(u2*4294967296+u1) / v1:=by
   have t1:=(CA (n:=n+1) (xs:=hJ) PG (by omega) (by rw[rK _ (by omega)];exact hu2) (by rw[rK _ (by omega)];exact hu1)).2
   have t2:=(zK (n:=n+1) Gs FE f1).1
   rw[Nat.le_div_iff_mul_le lC]
   have t3:val 4294967296 hJ / val 4294967296 vs*(v1*4294967296^(n+1))≤val 4294967296 hJ / val 4294967296 vs*val 4294967296 vs:=Nat.mul_le_mul_left _ t2
   have t4:=Nat.div_mul_le_self (val 4294967296 hJ) (val 4294967296 vs)
   have t5:val 4294967296 hJ / val 4294967296 vs*v1*4294967296^(n+1)<(u2*4294967296+u1+1)*4294967296^(n+1):=by rw[Nat.mul_assoc];omega
   have:=Nat.lt_of_mul_lt_mul_right t5
   omega
  refine Tj (k:=i+(n+2)) G Qh (by omega) (by omega) CD (by rw[show i+(n+2)-2=i+n by omega];exact hu0) k9 Wk Hh (by rfl) (by rfl) (by rfl) (by rw[Nat.mul_comm ((u2*4294967296+u1) / v1)];omega) Qe (by omega) (by omega) ?_
  intro Tu g' hq MR hgW r17 r8 r9 r10 r11 r12 r13 r14 r15
  have QE:Tu 15=VI ((i+(n+2):Nat):Int):=r15
  have r8':Tu 8=VI s:=r8.trans k8
  have r9':Tu 9 = .ref 0 0 0 N N:=r9.trans k9
  have amU:Tu 10 = .ref 1 0 0 (n+2) (n+3):=r10.trans Yx
  have amD:Tu 11=VK .u64 v1:=r11.trans Wk
  have Qj:Tu 12=VK .u64 v0:=r12.trans Hh
  have So:Tu 13 = .ref 2 0 0 m m:=r13.trans A9
  have QG:Tu 14=VI i:=r14.trans Cj
  have w3:IntKind.i64.wrap (((i+(n+2):Nat):Int)+1)=((i+(n+3):Nat):Int):=wrapN _ (by omega) (by omega)
  have abP:Fu 1 (.ref 0 0 0 N N) (some (VI i)) (some (VI ((i+(n+3):Nat):Int))) none (H3 us ws os)=some (.ref 0 0 i (n+3) (N-i)):=by
   rw[YR Cn (by omega) (by omega),Nat.zero_add,Nat.add_sub_cancel_left]
  simp only[r8',r9',amU,amD,Qj,So,QG,QE,r17,w3,abP,VX,Nat.reduceEqDiff,Nat.reduceAdd]
  have sZ:g'*val 4294967296 vs≤val 4294967296 hJ+val 4294967296 vs:=by
   have:=Nat.mul_le_mul_right (val 4294967296 vs) MR
   rw[Nat.add_mul,Nat.one_mul] at this
   have:=Nat.div_mul_le_self (val 4294967296 hJ) (val 4294967296 vs)
   omega
  refine gJ rfl ((TV (pre:=us.take i) (hJ:=hJ) (post:=us.drop (i+(n+2+1))) (L:=n+3) (o:=i) (by rw[←Uj];exact Cn) (aqW (us:=us) (ws:=ws) (os:=os)) (by decide) (Nat.zero_le _) yM PJ (by omega) hws (by omega) (by omega) PG Gs hgW sZ).mono ?_)
  rintro r H' ⟨rA,rfl,BL,Yh,hr⟩
  generalize afW:us.take i++rA++us.drop (i+(n+2+1))=Fj at *
  have Ie:(H3 us ws os).set 0 (.row 0 (Fj.map uV) 1 true)=H3 Fj ws os:=rfl
  rw[Ie]
  have ajF:Fj.length=N:=by rw[←afW,List.length_append,List.length_append,yM,BL,List.length_drop];omega
  have agZ:∀d∈Fj,d<4294967296:=fun d hd=>by
   rw[←afW,List.mem_append,List.mem_append] at hd
   rcases hd with(hd | hd) | hd
   ·exact IX d (List.mem_of_mem_take hd)
   ·exact Yh d hd
   ·exact IX d (List.mem_of_mem_drop hd)
  have Ux:Fj.drop i=rA++us.drop (i+(n+2+1)):=by rw[←afW,List.append_assoc,List.drop_append,List.drop_of_length_le (by omega),yM];simp
  have Te:Fj.take i=us.take i:=by rw[←afW,List.append_assoc,List.take_append_of_le_length (by omega),List.take_of_length_le (by omega)]
  have Qn:val 4294967296 (Fj.drop i)=val 4294967296 rA:=by rw[Ux,xO,Z0,Nat.mul_zero,Nat.add_zero]
  have digit:∀q:Nat,q=val 4294967296 hJ / val 4294967296 vs→val 4294967296 rA=val 4294967296 hJ % val 4294967296 vs →
    val 4294967296 (Fj.drop i)<val 4294967296 vs∧val 4294967296 Fj+4294967296^i*val 4294967296 vs*val 4294967296 ((os.set i q).drop i)=A:=by
   rintro q S3 hse
   have agV:=Nat.mod_lt (val 4294967296 hJ) It
   refine⟨by rw[Qn,hse];exact agV,?_⟩
   have h1:=Nat.div_add_mod (val 4294967296 hJ) (val 4294967296 vs)
   rw[←S3,←hse,Nat.mul_comm] at h1
   have h2:=pA (b:=4294967296) us i
   have h3:=pA (b:=4294967296) Fj i
   rw[Te,yM,Qn] at h3
   rw[yM,ZP] at h2
   rw[set_drop (by omega),sD,h3]
   rw[h2,Nat.pow_succ] at hv
   exact LB h1.symm hv
  have e3:∀d:Nat,bK 1 (.ref 2 0 0 m m) (VI i) (H3 Fj ws os)=some (.ptr 2 0 i 0)∧bQ 0 1 (.ptr 2 0 i 0) (uV d) (H3 Fj ws os)=some (H3 Fj ws (os.set i d)):=fun d=>by
   refine⟨by rw[bD agE (by omega),Nat.zero_add],?_⟩
   rw[fJ (f:=uV) (e:=1) agE (by omega) (Nat.zero_le _) rfl rfl]
   rfl
  have wi:IntKind.i64.wrap ((i:Int)-1)=(i:Int)-1:=wrap64 (by omega) (by omega)
  rcases hr with⟨rfl,hr⟩ | ⟨rfl,FB,hr2⟩
  ·have Eh:g'*val 4294967296 vs≤val 4294967296 hJ:=by omega
   have S3:g'=val 4294967296 hJ / val 4294967296 vs:=by
    have:=(Nat.le_div_iff_mul_le It).2 Eh
    omega
   have hse:val 4294967296 rA=val 4294967296 hJ % val 4294967296 vs:=by
    have h1:=Nat.div_add_mod (val 4294967296 hJ) (val 4294967296 vs)
    rw[←S3,Nat.mul_comm] at h1
    omega
   obtain⟨d1,d2⟩:=digit g' S3 hse
   simp only[r8',r9',amU,amD,Qj,So,QG,QE,r17,(e3 g').1,(e3 g').2,wi,wrap32,Nat.mod_eq_of_lt hgW,VX,Nat.reduceEqDiff,Nat.reduceAdd]
   exact⟨(i,Fj,os.set i g'),by simp only;omega,by omega,rfl,ajF,agZ,by rw[List.length_set];exact jM,lR lH hgW,d1,d2,by (repeat' apply And.intro)<;>first | rfl | trivial⟩
  ·have aaA:val 4294967296 hJ / val 4294967296 vs<g':=(Nat.div_lt_iff_lt_mul It).2 FB
   have hg1:1≤g':=Nat.lt_of_le_of_lt (Nat.zero_le _) aaA
   obtain⟨q,rfl⟩:∃q,g'=q+1:=⟨g'-1,by omega⟩
   have S3:q=val 4294967296 hJ / val 4294967296 vs:=by omega
   have hse:val 4294967296 rA=val 4294967296 hJ % val 4294967296 vs:=by
    have h1:=Nat.div_add_mod (val 4294967296 hJ) (val 4294967296 vs)
    rw[←S3,Nat.mul_comm] at h1
    rw[Nat.add_mul,Nat.one_mul] at hr2
    omega
   have wq:IntKind.u64.wrap (((q+1:Nat):Int)-1)=(q:Int):=by rw[show ((q+1:Nat):Int)-1=(q:Int) by omega];exact dW _ (by omega)
   obtain⟨d1,d2⟩:=digit q S3 hse
   simp only[r8',r9',amU,amD,Qj,So,QG,QE,r17,wq,(e3 q).1,(e3 q).2,wi,wrap32,Nat.mod_eq_of_lt (show q<4294967296 by omega),VX,Nat.reduceEqDiff,Nat.reduceAdd]
   exact⟨(i,Fj,os.set i q),by simp only;omega,by omega,rfl,ajF,agZ,by rw[List.length_set];exact jM,lR lH (by omega),d1,d2,by (repeat' apply And.intro)<;>first | rfl | trivial⟩
 ·have Um:j=0:=by omega
  subst Um
  rw[List.drop_zero] at bH
  rw[Nat.pow_zero,Nat.one_mul,List.drop_zero] at hv
  simp only[nQ,k8,k9,Yx,Wk,Hh,A9,Cj,hz,VX,Nat.reduceEqDiff,Nat.reduceAdd]
  exact hQ _ us os k8 k9 A9 Qh IX jM lH hv bH
end Go.PM
namespace Go.PM
theorem Kl {a n:Nat} (hn:(aC 4294967296 a).length=n+1):∃d,(aC 4294967296 a)[n]? = some d∧d≠0∧d<4294967296:=by
 obtain⟨d,hd⟩:∃d,(aC 4294967296 a)[n]? = some d:=⟨_,List.getElem?_eq_getElem (by omega)⟩
 refine⟨d,hd,fun h0 => ?_,fE (by decide) a d (List.mem_of_getElem? hd)⟩
 have:=OH (b:=4294967296) (by decide) a
 rw[List.getLast?_eq_getElem?,hn,Nat.add_sub_cancel,hd,h0] at this
 exact this rfl
theorem Sp {a d:Nat} (h:aC 4294967296 a=[d]):a=d∧0<d∧d<4294967296:=by
 have h1:=cJ (b:=4294967296) (by decide) a
 rw[h,val_one] at h1
 obtain⟨e,h2,h3,h4⟩:=Kl (a:=a) (n:=0) (by rw[h];rfl)
 rw[h] at h2
 cases h2
 exact⟨h1.symm,by omega,h4⟩
theorem yE (a b:Nat) (hb:b≠0) (ha:(aC 4294967296 a).length≤17592186044416) (uE:(aC 4294967296 b).length≤17592186044416):TC 183 [bN a,bN b] (.eX [bN (a / b),bN (a % b)]):=by
 refine TC.walk ⟨true,false⟩ HN rfl (Nat.le_of_ble_eq_true rfl) (by simp[aM,bR]) (by simp[iD,pY,qF]) ?_
 have c1:=jX a b ha uE
 by_cases FA:eW a b<0
 ·have bH:a<b:=by
   unfold eW at FA
   split at FA
   ·assumption
   ·split at FA<;>omega
  simp only[sK,oT,c1,FA,VX,Nat.reduceEqDiff,Nat.reduceAdd]
  rw[Nat.div_eq_of_lt bH,Nat.mod_eq_of_lt bH]
  exact bT (d:=6) wD (aJ (bR a))
 have Eh:b≤a:=by
  unfold eW at FA
  split at FA
  ·omega
  ·omega
 have hbn:(aC 4294967296 b).length≠0:=fun h=>hb ((lL (b:=4294967296) (by decide)).1 (List.length_eq_zero_iff.1 h))
 by_cases h1:(((aC 4294967296 b).length:Nat):Int)=1
 ·obtain⟨d,hd⟩:∃d,aC 4294967296 b=[d]:=by
   match hx:aC 4294967296 b with
   | []=>rw[hx] at hbn;exact absurd rfl hbn
   | [d]=>exact⟨d,rfl⟩
   | _::_::_=>rw[hx] at h1;simp at h1;omega
  obtain⟨rfl,Ds,hdW⟩:=Sp hd
  have c2:=vS a b Ds hdW ha
  have e0:oK (bN b) []=some (VI 1):=by rw[bN,Au,dV,hd];rfl
  have e1:bK 1 (bN b) (VI 0) []=some (.cU (uV b) 0):=by
   rw[bN,hd]
   exact aL (f:=uV) (t := .op) (H:=[]) (size:=1) (k := .i64) (xs:=[b]) (i:=0) rfl rfl
  have e2:=gD (H:=[]) (z:=[.int .u32 0]) (v:=uV (a % b)) rfl rfl rfl
  have e3:=YM (size:=1) (v:=Value.int .u32 ((b:Nat):Int))
  simp only[sK,oT,c1,FA,e0,e1,c2,e2,VX,Nat.reduceEqDiff,Nat.reduceAdd]
  refine Mn (ds:=[a % b]) (t := .cl 1) (fun d hd => ?_) (by show 1≤70368744177664;decide) (val_one _) fun t' ht => ?_
  ·rw[List.mem_singleton] at hd
   subst hd
   exact Nat.lt_of_lt_of_le (Nat.mod_lt _ Ds) (Nat.le_of_lt hdW)
  ·simp only[VX,Nat.reduceEqDiff,Nat.reduceAdd]
   exact bT (d:=6) (aJ (bR _)) (Zg (d:=5) ht)
 obtain⟨n,hn⟩:∃n,(aC 4294967296 b).length=n+2:=⟨(aC 4294967296 b).length-2,by omega⟩
 obtain⟨t,ht,ht0,htW⟩:=Kl (a:=b) (n:=n+1) hn
 obtain⟨s,hs,cl,Z4⟩:=S9 ht0 htW
 have hS:0<2^s:=Nat.pow_pos (by decide)
 have hSW:2^s*2^(32-s)=4294967296:=by rw[←Nat.pow_add,show s+(32-s)=32 by omega]
 have hla:=dX (b:=4294967296) (by decide) Eh
 have e0:oK (bN b) []=some (VI ((n+2:Nat):Int)):=by rw[bN,Au,dV,hn]
 have w0:IntKind.i64.wrap (((n+2:Nat):Int)-1)=((n+1:Nat):Int):=wrapN _ (by omega) (by omega)
 have XO:¬(((n+2:Nat):Int)=1):=by omega
 have e1:bK 1 (bN b) (VI ((n+1:Nat):Int)) []=some (.cU (uV t) 0):=aL (f:=uV) (t := .op) (H:=[]) (size:=1) (k := .i64) ht rfl
 simp only[sK,oT,c1,FA,e0,XO,w0,e1,cl,VX,Nat.reduceEqDiff,Nat.reduceAdd]
 have fa:[bN a,VI (s:Int)].mapM (fz depth ([]:aA))=some [bN a,VI (s:Int)]:=fz2 (aI (bR a)) (aI rfl)
 refine FC.call (yG a s hs ha) rfl fa ?_
 rintro r L ⟨Ik,rfl,rfl,hAl,hAd,hAv,hAt⟩
 simp only[VX,Nat.reduceEqDiff,Nat.reduceAdd]
 have fb:∀H:aA,[bN b,VI (s:Int)].mapM (fz depth H)=some [bN b,VI (s:Int)]:=fun H=>fz2 (aI (bR b)) (aI rfl)
 refine FC.call (yG b s hs uE) rfl (fb _) ?_
 rintro r L ⟨DX,rfl,rfl,hBl,hBd,hBv,hBt⟩
 rw[hn] at hBl
 simp only[hn,List.length_singleton,VX,Nat.reduceEqDiff,Nat.reduceAdd]
 have alZ:b*2^s<4294967296^(n+2):=by
  have h2:=(zK (n:=n+1) (fE (b:=4294967296) (by decide) b) hn ht).2
  rw[cJ (by decide)] at h2
  have h3:b*2^s<(t+1)*4294967296^(n+1)*2^s:=Nat.mul_lt_mul_of_pos_right h2 hS
  have h4:(t+1)*4294967296^(n+1)*2^s=(t+1)*2^s*4294967296^(n+1):=by grind
  have h5:(t+1)*2^s≤4294967296:=by
   have h6:t*2^s<2^(32-s)*2^s:=by rw[Nat.mul_comm (2^(32-s)),hSW];exact Z4
   have h7:=Nat.lt_of_mul_lt_mul_right h6
   have h8:(t+1)*2^s≤2^(32-s)*2^s:=Nat.mul_le_mul_right _ h7
   rwa [Nat.mul_comm (2^(32-s)),hSW] at h8
  have h9:(t+1)*2^s*4294967296^(n+1)≤4294967296*4294967296^(n+1):=Nat.mul_le_mul_right _ h5
  have h10:4294967296*4294967296^(n+1)=4294967296^(n+2):=by rw[Nat.pow_succ 4294967296 (n+1)];exact Nat.mul_comm _ _
  omega
 have hVl:(aC 4294967296 (b*2^s)).length=n+2:=by
  have h2:=mB (b:=4294967296) (by decide) alZ
  have h3:b≤b*2^s:=Nat.le_mul_of_pos_right b hS
  have h4:=dX (b:=4294967296) (by decide) h3
  omega
 refine rE (rows:=DX) (m:=b*2^s) (by rfl) (by omega) (by omega) (by omega) (fun d hd=>hBd d (List.mem_of_mem_take hd)) (by rw[List.take_of_length_le (by omega)];exact hBv) fun k hk he => ?_
 have hk2:k=n+2:=by
  have:=congrArg List.length he
  rw[hVl,List.length_take] at this
  omega
 subst hk2
 generalize Qd:aC 4294967296 (b*2^s)=vs at *
 have Gs:∀d∈vs,d<4294967296:=by rw[←Qd];exact fE (by decide) _
 have Ng:val 4294967296 vs=b*2^s:=by rw[←Qd];exact cJ (by decide) _
 obtain⟨v1,f1⟩:∃v1,vs[n+1]? = some v1:=⟨_,List.getElem?_eq_getElem (by omega)⟩
 obtain⟨v0,f0⟩:∃v0,vs[n]? = some v0:=⟨_,List.getElem?_eq_getElem (by omega)⟩
 have hv1:1≤v1:=by
  obtain⟨d,hd,Ds,_⟩:=Kl (a:=b*2^s) (n:=n+1) (by rw[Qd];exact hVl)
  rw[Qd,f1] at hd
  cases hd
  omega
 have b1:DX[n+1]? = some v1:=by rw[←f1,←he,List.getElem?_take_of_lt (by omega)]
 have b0:DX[n]? = some v0:=by rw[←f0,←he,List.getElem?_take_of_lt (by omega)]
 have lv1:=Gs v1 (List.mem_of_getElem? f1)
 have lv0:=Gs v0 (List.mem_of_getElem? f0)
 have x1:bK 1 (.ref 1 0 0 (n+2) (n+2+1)) (VI ((n+1:Nat):Int)) [.row 0 (Ik.map uV) 1 true,.row 0 (DX.map uV) 1 true]=some (.ptr 1 0 (n+1) 0):=by rw[bD (by rfl) (by omega),Nat.zero_add]
 have x0:bK 1 (.ref 1 0 0 (n+2) (n+2+1)) (VI ((n:Nat):Int)) [.row 0 (Ik.map uV) 1 true,.row 0 (DX.map uV) 1 true]=some (.ptr 1 0 n 0):=by rw[bD (by rfl) (by omega),Nat.zero_add]
 have y1:cE false 1 (.ptr 1 0 (n+1) 0) [.row 0 (Ik.map uV) 1 true,.row 0 (DX.map uV) 1 true]=some (uV v1):=iO (rows:=DX) (g:=0) (w:=true) (by rfl) b1
 have y0:cE false 1 (.ptr 1 0 n 0) [.row 0 (Ik.map uV) 1 true,.row 0 (DX.map uV) 1 true]=some (uV v0):=iO (rows:=DX) (g:=0) (w:=true) (by rfl) b0
 have z0:oK (.ref 1 0 0 (n+2) (n+2+1)) [.row 0 (Ik.map uV) 1 true,.row 0 (DX.map uV) 1 true]=some (VI ((n+2:Nat):Int)):=fL (r:=(DX.map uV,1,true)) (by rfl)
 have z1:oK (.ref 0 0 0 ((aC 4294967296 a).length+1) ((aC 4294967296 a).length+1)) [.row 0 (Ik.map uV) 1 true,.row 0 (DX.map uV) 1 true]=some (VI (((aC 4294967296 a).length+1:Nat):Int)):=fL (r:=(Ik.map uV,1,true)) (by rfl)
 have w2:IntKind.i64.wrap (((n+2:Nat):Int)-2)=((n:Nat):Int):=wrapN _ (by omega) (by omega)
 have wv1:IntKind.u64.wrap (v1:Int)=(v1:Int):=dW _ (by omega)
 have wv0:IntKind.u64.wrap (v0:Int)=(v0:Int):=dW _ (by omega)
 obtain⟨m,hm⟩:∃m,m+(n+2)=(aC 4294967296 a).length+1:=⟨(aC 4294967296 a).length+1-(n+2),by omega⟩
 have wm:IntKind.i64.wrap ((((aC 4294967296 a).length+1:Nat):Int)-((n+2:Nat):Int))=(m:Int):=wrapN _ (by omega) (by omega)
 have wm1:IntKind.i64.wrap ((m:Int)-1)=(m:Int)-1:=wrap64 (by omega) (by omega)
 have mk:=Vr m 0 (by omega) (H:=[.row 0 (Ik.map uV) 1 true,.row 0 (DX.map uV) 1 true])
 have z2:oK (.ref 2 0 0 m m) (H3 Ik DX (List.replicate m 0))=some (VI m):=fL (r:=((List.replicate m 0).map uV,1,true)) (by rfl)
 simp only[w0,x1,x0,y1,y0,z0,z1,w2,wv1,wv0,wm,mk,z2,wm1,List.length_cons,List.length_nil,VX,Nat.reduceEqDiff,Nat.reduceAdd]
 have B1:val 4294967296 (Ik.drop m)<val 4294967296 vs:=by
  obtain⟨d,hd⟩:∃d,Ik[(aC 4294967296 a).length]? = some d:=⟨_,List.getElem?_eq_getElem (by omega)⟩
  have h2:=(zK (b:=4294967296) (xs:=Ik.drop m) (n:=n+1) (t:=d) (fun x hx=>hAd x (List.mem_of_mem_drop hx)) (by rw[List.length_drop];omega) (by rw[List.getElem?_drop,show m+(n+1)=(aC 4294967296 a).length by omega];exact hd)).2
  have h3:=hAt d hd
  have h4:=(zK (n:=n+1) (fE (b:=4294967296) (by decide) b) hn ht).1
  rw[cJ (by decide)] at h4
  have h5:(d+1)*4294967296^(n+1)≤2^s*4294967296^(n+1):=Nat.mul_le_mul_right _ h3
  have h6:1*4294967296^(n+1)≤t*4294967296^(n+1):=Nat.mul_le_mul_right _ (by omega)
  have h7:1*4294967296^(n+1)*2^s≤b*2^s:=Nat.mul_le_mul_right _ (by omega)
  rw[Ng]
  rw[Nat.one_mul,Nat.mul_comm] at h7
  omega
 refine ZR (D7:=Ik) (ws:=DX) (Yr:=List.replicate m 0) (vs:=vs) (N:=(aC 4294967296 a).length+1) (m:=m) (n:=n) (A:=a*2^s) (s:=s) hAl hm (by omega) hAd he hBl hVl Gs f1 f0 hv1 hAv B1 (by simp) (Af (by decide) _) (by rfl) (by rfl) (by rfl) (by rfl) (by rfl) (by rfl) (by rfl) ?_
 intro wO us os r8 r9 r13 Qh IX jM lH hv bH
 rw[Ng] at hv bH
 have hq:val 4294967296 os=a / b:=by
  rw[←Nat.mul_div_mul_right a b hS,←hv,Nat.add_mul_div_left _ _ (by omega),Nat.div_eq_of_lt bH,Nat.zero_add]
 have hr:val 4294967296 us=a % b*2^s:=by
  rw[←Nat.mul_mod_mul_right,←hv,Nat.add_mul_mod_self_left,Nat.mod_eq_of_lt bH]
 simp only[r9,VX,Nat.reduceEqDiff,Nat.reduceAdd]
 refine rE (rows:=us) (m:=a % b*2^s) Cn (by omega) (Nat.le_refl _) (by omega) (fun d hd=>IX d (List.mem_of_mem_take hd)) (by rw[List.take_of_length_le (by omega)];exact hr) fun k hk he2 => ?_
 have z3:oK (.ref 0 0 0 k ((aC 4294967296 a).length+1)) (H3 us DX os)=some (VI k):=fL Cn
 simp only[z3,VX,Nat.reduceEqDiff,Nat.reduceAdd]
 refine WQ (us:=us) (k:=k) (N:=(aC 4294967296 a).length+1) (s:=s) (w0:=2^(32-s)) hs hSW Qh hk (by omega) IX r8 (by rfl) (by rfl) (by rfl) ?_
 intro NA Fj q9 q13 ajF agZ Yz
 have ayC:NA 13 = .ref 2 0 0 m m:=q13.trans r13
 have Cv:val 4294967296 (Fj.take k)=a % b:=by
  rw[Yz,he2,cJ (by decide),Nat.mul_div_cancel _ hS]
 simp only[q9,ayC,VX,Nat.reduceEqDiff,Nat.reduceAdd]
 refine rE (rows:=os) (m:=a / b) agE (by omega) (Nat.le_refl _) (by omega) (fun d hd=>lH d (List.mem_of_mem_take hd)) (by rw[List.take_of_length_le (by omega)];exact hq) fun k2 hk2 he3 => ?_
 simp only[q9,VX,Nat.reduceEqDiff,Nat.reduceAdd]
 refine rE (rows:=Fj) (m:=a % b) Cn (by omega) hk (by omega) (fun d hd=>agZ d (List.mem_of_mem_take hd)) Cv fun k3 hk3 he4 => ?_
 simp only[VX,Nat.reduceEqDiff,Nat.reduceAdd]
 exact bT (d:=6) (JZ (d:=5) agE (by omega) hk2 he3) (JZ (d:=5) Cn (by omega) (by omega) he4)
end Go.PM
namespace Go.PM
abbrev H2 (us os:List Nat):aA:=[.row 0 (us.map tV) 1 true,.row 0 (os.map tV) 1 true]
theorem Td {us os:List Nat}:aH (H2 us os) 0 0=some (us.map tV,1,true):=rfl
theorem aqR {us os:List Nat}:aH (H2 us os) 1 0=some (os.map tV,1,true):=rfl
theorem agU {P a Z:Nat} {y:Int} (h:(a:Int)+(P:Int)*y=(Z:Int)) (ha:a<P) (hZ:Z<P):y=0∧a=Z:=by
 have hy:y=0:=by
  rcases Int.lt_trichotomy y 0 with h1 | h1 | h1
  ·have:(P:Int)*y≤(P:Int)*(-1):=Int.mul_le_mul_of_nonneg_left (by omega) (by omega)
   omega
  ·exact h1
  ·have:(P:Int)*1≤(P:Int)*y:=Int.mul_le_mul_of_nonneg_left (by omega) (by omega)
   omega
 subst hy
 rw[Int.mul_zero] at h
 exact⟨rfl,by omega⟩
theorem Tn {us:List Nat} {i n N V:Nat} (hN:us.length=N) (dA:i+n<N) (hd:∀d∈us,d<1000000000) (hV:V<1000000000^n) (B1:val 1000000000 (us.drop (i+1))<V) :
  us=us.take i++(us.drop i).take (n+1)++us.drop (i+(n+1))∧(us.take i).length=i∧((us.drop i).take (n+1)).length=n+1∧val 1000000000 ((us.drop i).take (n+1))<1000000000*V∧val 1000000000 (us.drop i)=val 1000000000 ((us.drop i).take (n+1))∧val 1000000000 (us.drop (i+(n+1)))=0∧∀j,j<n+1→((us.drop i).take (n+1))[j]? = us[i+j]? := by
 obtain⟨x,hx⟩:∃x,us[i]? = some x:=⟨_,List.getElem?_eq_getElem (by omega)⟩
 have lx:=hd x (List.mem_of_getElem? hx)
 have h1:=rN (b:=1000000000) hx
 have h2:val 1000000000 (us.drop i)<1000000000*V:=by
  have:1000000000*(val 1000000000 (us.drop (i+1))+1)≤1000000000*V:=Nat.mul_le_mul_left _ B1
  omega
 have h3:=pA (b:=1000000000) (us.drop i) (n+1)
 have h4:((us.drop i).take (n+1)).length=n+1:=by rw[List.length_take,List.length_drop];omega
 rw[h4,List.drop_drop] at h3
 have h5:val 1000000000 (us.drop (i+(n+1)))=0:=by
  rcases Nat.eq_zero_or_pos (val 1000000000 (us.drop (i+(n+1)))) with h | h
  ·exact h
  ·have h6:1000000000^(n+1)*1≤1000000000^(n+1)*val 1000000000 (us.drop (i+(n+1))):=Nat.mul_le_mul_left _ h
   have h7:1000000000*V≤1000000000^(n+1):=by rw[Nat.pow_succ,Nat.mul_comm];exact Nat.mul_le_mul_right _ (by omega)
   omega
 rw[h5,Nat.mul_zero,Nat.add_zero] at h3
 refine⟨?_,by rw[List.length_take];omega,h4,by omega,h3,h5,fun j hj => ?_⟩
 ·rw[List.append_assoc,←List.drop_drop,List.take_append_drop,List.take_append_drop]
 ·rw[List.getElem?_take_of_lt hj,List.getElem?_drop]
theorem leT {g:Nat} (h:(1000000000:Int)≤(g:Int)):1000000000≤g:=by omega
theorem adF {g:Nat} (h:¬(1000000000:Int)≤(g:Int)):g<1000000000:=by omega
theorem ltC {a b:Nat} (h:(a:Int)<(b:Int)):a<b:=by omega
theorem avA {a b:Nat} (h:¬(a:Int)<(b:Int)):b≤a:=by omega
theorem Oe {a:Nat} (h:a*1000000000≤9223372036854775807):IntKind.i64.wrap ((a:Int)*1000000000)=((a*1000000000:Nat):Int):=wrapN _ (by omega) h
theorem NP {a b:Nat} (h:a+b≤9223372036854775807):IntKind.i64.wrap ((a:Int)+(b:Int))=((a+b:Nat):Int):=wrapN _ (by omega) h
theorem XW {a b:Nat} (h:a*b≤9223372036854775807):IntKind.i64.wrap ((a:Int)*(b:Int))=((a*b:Nat):Int):=wrapN _ (by simp) h
theorem x17 {a:Nat} (h:a<1000000000):a*1000000000≤9223372036854775807:=by omega
theorem x18 {a b:Nat} (h:a<1000000000) (hb:b<1000000000):a*1000000000+b≤1000000000000000000:=by omega
theorem SD {hJ vs us os:List Nat} {n u2 u1 u0 v1 v0 N i g left:Nat} (G:vN 1000000000 hJ vs n u2 u1 u0 v1 v0) {ρ:dS} {Q:VQ} (hN:us.length=N) (hiN:i+(n+2)<N) (CD:N≤70368744177664) (hu0:us[i+n]? = some u0)
  (g13:ρ 13 = .ref 0 0 0 N N) (g14:ρ 14=iA vs) (g15:ρ 15=VI ((n+2:Nat):Int)) (g17:ρ 17=VI i) (g19:ρ 19=VI g) (g20:ρ 20=VI left) (hh:u2*1000000000+u1=g*v1+left) (hq:val 1000000000 hJ / val 1000000000 vs≤g) (hl:left<1000000000) (hgb:g≤1000000000000000000)
  (hQ:∀(bJ:dS) (g':Nat),val 1000000000 hJ / val 1000000000 vs≤g'→g'≤val 1000000000 hJ / val 1000000000 vs+1→g'<1000000000→bJ 19=VI g'→bJ 12=ρ 12→bJ 13=ρ 13→bJ 14=ρ 14→bJ 15=ρ 15→bJ 16=ρ 16→bJ 17=ρ 17→Q (.exit 2) bJ (H2 us os)) :
  VW ⟨true,false⟩ 0 (.loop gB) Q ρ (H2 us os):=by
 have lv1:=G.Wr
 have lv0:=G.Zu
 have lu0:=G.ahG
 have qlt:=G.adY
 have lC:=G.pos
 have FE:=G.Mu
 refine aT (fun(t:Nat×Nat) bJ H=>H=H2 us os∧u2*1000000000+u1=t.1*v1+t.2∧val 1000000000 hJ / val 1000000000 vs≤t.1∧t.2<1000000000∧t.1≤1000000000000000000 ∧
  bJ 13 = .ref 0 0 0 N N∧bJ 14=iA vs∧bJ 15=VI ((n+2:Nat):Int)∧bJ 17=VI i∧bJ 19=VI t.1∧bJ 20=VI t.2∧bJ 12=ρ 12∧bJ 16=ρ 16) (fun t=>1000000000-t.2) (g,left) ⟨rfl,hh,hq,hl,hgb,g13,g14,g15,g17,g19,g20,rfl,rfl⟩ ?_
 rintro⟨g,left⟩ NA H ⟨rfl,hh,hq,hl,hgb,A9,Cj,JV,Hk,k19,k20,Hh,k16⟩
 simp only at hh hq hl hgb k19 k20
 have f1:bK 1 (iA vs) (VI ((n+1:Nat):Int)) (H2 us os)=some (.cU (tV v1) 0):=aL (f:=tV) (t := .op) (size:=1) (k := .i64) G.f1 rfl
 have f0:bK 1 (iA vs) (VI (n:Int)) (H2 us os)=some (.cU (tV v0) 0):=aL (f:=tV) (t := .op) (size:=1) (k := .i64) G.f0 rfl
 have wn2:IntKind.i64.wrap (((n+2:Nat):Int)-2)=(n:Int):=wrapN _ (by omega) (by omega)
 have wn1:IntKind.i64.wrap (((n+2:Nat):Int)-1)=((n+1:Nat):Int):=wrapN _ (by omega) (by omega)
 have wi:IntKind.i64.wrap ((i:Int)+((n+2:Nat):Int))=((i+(n+2):Nat):Int):=wrapN _ (by omega) (by omega)
 have wi2:IntKind.i64.wrap (((i+(n+2):Nat):Int)-2)=((i+n:Nat):Int):=wrapN _ (by omega) (by omega)
 have e1:bK 1 (.ref 0 0 0 N N) (VI ((i+n:Nat):Int)) (H2 us os)=some (.ptr 0 0 (i+n) 0):=by rw[bD Td (by omega),Nat.zero_add]
 have e2:cE false 1 (.ptr 0 0 (i+n) 0) (H2 us os)=some (VI (u0:Int)):=Lg Td hu0
 have wl:IntKind.i64.wrap ((left:Int)+(v1:Int))=((left+v1:Nat):Int):=wrapN _ (by omega) (by omega)
 have down:val 1000000000 hJ / val 1000000000 vs<g→∃g',g=g'+1∧IntKind.i64.wrap ((g:Int)-1)=(g':Int)∧u2*1000000000+u1=g'*v1+(left+v1)∧val 1000000000 hJ / val 1000000000 vs≤g':=by
  intro h
  have hg1:1≤g:=Nat.lt_of_le_of_lt (Nat.zero_le _) h
  obtain⟨g',rfl⟩:∃g',g=g'+1:=⟨g-1,by omega⟩
  refine⟨g',rfl,wrapN _ (by omega) (by omega),?_,by omega⟩
  rw[hh,Nat.add_mul]
  omega
 have hmu:∀g':Nat,left+v1<1000000000→1000000000-(g',left+v1).2<1000000000-(g,left).2:=fun g' h=>by
  show 1000000000-(left+v1)<1000000000-left
  omega
 have hle:∀g':Nat,g=g'+1→g'≤1000000000000000000:=fun g' h=>by
  omega
 have ayH:left*1000000000+u0≤9223372036854775807:=Nat.le_trans (x18 hl lu0) (by decide)
 have awA:left*1000000000≤9223372036854775807:=x17 hl
 have ws:IntKind.i64.wrap ((left:Int)*1000000000)=((left*1000000000:Nat):Int):=Oe awA
 have wa:IntKind.i64.wrap (((left*1000000000:Nat):Int)+(u0:Int))=((left*1000000000+u0:Nat):Int):=NP ayH
 obtain⟨s13,s14,s15,s17⟩:NA 13=ρ 13∧NA 14=ρ 14∧NA 15=ρ 15∧NA 17=ρ 17:=⟨by rw[A9,g13],by rw[Cj,g14],by rw[JV,g15],by rw[Hk,g17]⟩
 by_cases hA:(1000000000:Int)≤(g:Int)
 ·have hA':=leT hA
  obtain⟨g',hg',wg,Ta,MR⟩:=down (Nat.lt_of_lt_of_le qlt hA')
  by_cases hB:(1000000000:Int)≤((left+v1:Nat):Int)
  ·obtain⟨c1,c2⟩:=G.broken Ta (leT hB)
   simp only[gB,A9,Cj,JV,Hk,k19,k20,hA,hB,f1,wn1,wg,wl,VX,Nat.reduceEqDiff,Nat.reduceAdd]
   exact hQ _ g' MR (G.WV Ta (Nat.le_of_lt c1) c2) c1 rfl Hh s13 s14 s15 k16 s17
  ·simp only[gB,A9,Cj,JV,Hk,k19,k20,hA,hB,f1,wn1,wg,wl,VX,Nat.reduceEqDiff,Nat.reduceAdd]
   refine⟨(g',left+v1),hmu g' (adF hB),Ta,MR,adF hB,hle g' hg',?_⟩
   exact⟨rfl,rfl,Hh,k16⟩
 ·have hA':=adF hA
  have hgv:g*v0≤999999999*999999999:=Nat.mul_le_mul (Nat.le_of_lt_succ hA') (Nat.le_of_lt_succ lv0)
  have wm:IntKind.i64.wrap ((g:Int)*(v0:Int))=((g*v0:Nat):Int):=XW (Nat.le_trans hgv (by decide))
  by_cases hT:((left*1000000000+u0:Nat):Int)<((g*v0:Nat):Int)
  ·obtain⟨g',hg',wg,Ta,MR⟩:=down (G.too hh (ltC hT))
   by_cases hB:(1000000000:Int)≤((left+v1:Nat):Int)
   ·obtain⟨c1,c2⟩:=G.broken Ta (leT hB)
    simp only[gB,A9,Cj,JV,Hk,k19,k20,hA,hB,hT,f1,f0,e1,e2,wn1,wn2,wi,wi2,ws,wa,wm,wg,wl,VX,Nat.reduceEqDiff,Nat.reduceAdd]
    exact hQ _ g' MR (G.WV Ta (Nat.le_of_lt c1) c2) c1 rfl Hh s13 s14 s15 k16 s17
   ·simp only[gB,A9,Cj,JV,Hk,k19,k20,hA,hB,hT,f1,f0,e1,e2,wn1,wn2,wi,wi2,ws,wa,wm,wg,wl,VX,Nat.reduceEqDiff,Nat.reduceAdd]
    refine⟨(g',left+v1),hmu g' (adF hB),Ta,MR,adF hB,hle g' hg',?_⟩
    exact⟨rfl,rfl,Hh,k16⟩
  ·simp only[gB,A9,Cj,JV,Hk,k19,k20,hA,hT,f0,e1,e2,wn2,wi,wi2,ws,wa,wm,VX,Nat.reduceEqDiff,Nat.reduceAdd]
   exact hQ _ g hq (G.WV hh (Nat.le_of_lt hA') (avA hT)) hA' k19 Hh s13 s14 s15 k16 s17
theorem NT {D7 Yr vs:List Nat} {N m n v1 v0 A s:Nat} {ρ:dS} {Q:VQ} (hN:D7.length=N) (hm:m+(n+2)=N) (CD:N≤70368744177664) (IX:∀d∈D7,d<1000000000) (FE:vs.length=n+2) (Gs:∀d∈vs,d<1000000000) (f1:vs[n+1]? = some v1) (f0:vs[n]? = some v0) (lC:1≤v1)
  (hA:val 1000000000 D7=A) (B1:val 1000000000 (D7.drop m)<val 1000000000 vs) (jM:Yr.length=m) (lH:∀d∈Yr,d<1000000000)
  (g12:ρ 12=VI s) (g13:ρ 13 = .ref 0 0 0 N N) (g14:ρ 14=iA vs) (g15:ρ 15=VI ((n+2:Nat):Int)) (g16:ρ 16 = .ref 1 0 0 m m) (g17:ρ 17=VI ((m:Int)-1))
  (hQ:∀(bJ:dS) (us os:List Nat),bJ 12=VI s→bJ 13 = .ref 0 0 0 N N→bJ 16 = .ref 1 0 0 m m→us.length=N→(∀d∈us,d<1000000000)→os.length=m→(∀d∈os,d<1000000000)→val 1000000000 us+val 1000000000 vs*val 1000000000 os=A→val 1000000000 us<val 1000000000 vs→Q (.exit 0) bJ (H2 us os)) :
  VW ⟨true,false⟩ 0 (.loop iK) Q ρ (H2 D7 Yr):=by
 have hVb:=oF Gs
 rw[FE] at hVb
 refine aT (fun(t:Nat×List Nat×List Nat) bJ H=>t.1≤m∧H=H2 t.2.1 t.2.2∧t.2.1.length=N∧(∀d∈t.2.1,d<1000000000)∧t.2.2.length=m∧(∀d∈t.2.2,d<1000000000)∧val 1000000000 (t.2.1.drop t.1)<val 1000000000 vs∧val 1000000000 t.2.1+1000000000^t.1*val 1000000000 vs*val 1000000000 (t.2.2.drop t.1)=A ∧
  bJ 12=VI s∧bJ 13 = .ref 0 0 0 N N∧bJ 14=iA vs∧bJ 15=VI ((n+2:Nat):Int)∧bJ 16 = .ref 1 0 0 m m∧bJ 17=VI ((t.1:Int)-1)) (fun t=>t.1) (m,D7,Yr) ⟨Nat.le_refl _,rfl,hN,IX,jM,lH,B1,by rw[List.drop_of_length_le (by simp only;omega)];simpa[val] using hA,g12,g13,g14,g15,g16,g17⟩ ?_
 rintro⟨j,us,os⟩ NA H ⟨hj,rfl,Qh,IX,jM,lH,bH,hv,Hh,A9,Cj,JV,k16,Hk⟩
 simp only at hj Qh IX jM lH bH hv Hk
 by_cases hz:(0:Int)≤(j:Int)-1
 ·obtain⟨i,rfl⟩:∃i,j=i+1:=⟨j-1,by omega⟩
  have Ht:((i+1:Nat):Int)-1=(i:Int):=by omega
  rw[Ht] at Hk hz
  obtain⟨Uj,yM,PJ,hsW,ZP,Z0,rK⟩:=Tn (n:=n+2) Qh (by omega) IX hVb bH
  generalize WZ:(us.drop i).take (n+2+1)=hJ at *
  have PG:∀d∈hJ,d<1000000000:=fun d hd=>by rw[←WZ] at hd;exact IX d (List.mem_of_mem_drop (List.mem_of_mem_take hd))
  obtain⟨u2,hu2⟩:∃u2,us[i+(n+2)]? = some u2:=⟨_,List.getElem?_eq_getElem (by omega)⟩
  obtain⟨u1,hu1⟩:∃u1,us[i+(n+1)]? = some u1:=⟨_,List.getElem?_eq_getElem (by omega)⟩
  obtain⟨u0,hu0⟩:∃u0,us[i+n]? = some u0:=⟨_,List.getElem?_eq_getElem (by omega)⟩
  have G:vN 1000000000 hJ vs n u2 u1 u0 v1 v0:=⟨by decide,PG,Gs,PJ,FE,by rw[rK _ (by omega)];exact hu2,by rw[rK _ (by omega)];exact hu1,by rw[rK _ (by omega)];exact hu0,f1,f0,lC,hsW⟩
  have lu2:=G.ahV
  have lu1:=G.aaY
  have lv1:=G.Wr
  have qlt:=G.adY
  have It:=G.It
  have w1:IntKind.i64.wrap ((i:Int)+((n+2:Nat):Int))=((i+(n+2):Nat):Int):=wrapN _ (by omega) (by omega)
  have w2:IntKind.i64.wrap (((i+(n+2):Nat):Int)-1)=((i+(n+1):Nat):Int):=wrapN _ (by omega) (by omega)
  have wn1:IntKind.i64.wrap (((n+2:Nat):Int)-1)=((n+1:Nat):Int):=wrapN _ (by omega) (by omega)
  have ev1:bK 1 (iA vs) (VI ((n+1:Nat):Int)) (H2 us os)=some (.cU (tV v1) 0):=aL (f:=tV) (t := .op) (size:=1) (k := .i64) f1 rfl
  have e2:bK 1 (.ref 0 0 0 N N) (VI ((i+(n+2):Nat):Int)) (H2 us os)=some (.ptr 0 0 (i+(n+2)) 0):=by rw[bD Td (by omega),Nat.zero_add]
  have e1:bK 1 (.ref 0 0 0 N N) (VI ((i+(n+1):Nat):Int)) (H2 us os)=some (.ptr 0 0 (i+(n+1)) 0):=by rw[bD Td (by omega),Nat.zero_add]
  have l2:cE false 1 (.ptr 0 0 (i+(n+2)) 0) (H2 us os)=some (VI (u2:Int)):=Lg Td hu2
  have l1:cE false 1 (.ptr 0 0 (i+(n+1)) 0) (H2 us os)=some (VI (u1:Int)):=Lg Td hu1
  have avS:u2*1000000000+u1≤1000000000000000000:=x18 lu2 lu1
  have avF:u2*1000000000≤9223372036854775807:=x17 lu2
  have aqO:u2*1000000000+u1≤9223372036854775807:=Nat.le_trans avS (by decide)
  have ws2:IntKind.i64.wrap ((u2:Int)*1000000000)=((u2*1000000000:Nat):Int):=Oe avF
  have wa:IntKind.i64.wrap (((u2*1000000000:Nat):Int)+(u1:Int))=((u2*1000000000+u1:Nat):Int):=NP aqO
  have q1:=JQ (u2*1000000000+u1) v1 aqO lC
  have q2:=K3 (u2*1000000000+u1) v1 lC
  simp only[iK,Hh,A9,Cj,JV,k16,Hk,hz,w1,w2,wn1,ev1,e1,e2,l1,l2,ws2,wa,q1,q2,VX,Nat.reduceEqDiff,Nat.reduceAdd]
  clear ws2 wa q1 q2 e1 e2 l1 l2 ev1 w1 w2 wn1
  have hh:=Nat.mod_add_div (u2*1000000000+u1) v1
  have hml:=Nat.mod_lt (u2*1000000000+u1) lC
  have hdl:(u2*1000000000+u1) / v1≤u2*1000000000+u1:=Nat.div_le_self _ _
  have Qe:val 1000000000 hJ / val 1000000000 vs≤(u2*1000000000+u1) / v1:=by
   have t1:=(CA (n:=n+1) (xs:=hJ) PG (by omega) (by rw[rK _ (by omega)];exact hu2) (by rw[rK _ (by omega)];exact hu1)).2
   have t2:=(zK (n:=n+1) Gs FE f1).1
   rw[Nat.le_div_iff_mul_le lC]
   have t3:val 1000000000 hJ / val 1000000000 vs*(v1*1000000000^(n+1))≤val 1000000000 hJ / val 1000000000 vs*val 1000000000 vs:=Nat.mul_le_mul_left _ t2
   have t4:=Nat.div_mul_le_self (val 1000000000 hJ) (val 1000000000 vs)
   have t5:val 1000000000 hJ / val 1000000000 vs*v1*1000000000^(n+1)<(u2*1000000000+u1+1)*1000000000^(n+1):=by rw[Nat.mul_assoc];omega
   have:=Nat.lt_of_mul_lt_mul_right t5
   omega
  generalize hQ1:(u2*1000000000+u1) / v1=g0 at *
  generalize hQ2:(u2*1000000000+u1) % v1=l0 at *
  refine SD (i:=i) G Qh (by omega) CD hu0 A9 Cj JV Hk (by rfl) (by rfl) (by rw[Nat.mul_comm g0];omega) Qe (by omega) (by omega) ?_
  intro Tu g' hq MR hgW r19 r12 r13 r14 r15 r16 r17
  have Qj:Tu 12=VI s:=r12.trans Hh
  have So:Tu 13 = .ref 0 0 0 N N:=r13.trans A9
  have QG:Tu 14=iA vs:=r14.trans Cj
  have QE:Tu 15=VI ((n+2:Nat):Int):=r15.trans JV
  have aeD:Tu 16 = .ref 1 0 0 m m:=r16.trans k16
  have afV:Tu 17=VI i:=r17.trans Hk
  simp only[Qj,So,QG,QE,aeD,afV,r19,VX,Nat.reduceEqDiff,Nat.reduceAdd]
  have sZ:g'*val 1000000000 vs≤val 1000000000 hJ+val 1000000000 vs:=by
   have:=Nat.mul_le_mul_right (val 1000000000 vs) MR
   rw[Nat.add_mul,Nat.one_mul] at this
   have:=Nat.div_mul_le_self (val 1000000000 hJ) (val 1000000000 vs)
   omega
  obtain⟨low,akB⟩:∃low,low=hJ.take (n+2):=⟨_,rfl⟩
  have hll:low.length=n+2:=by rw[akB,List.length_take];omega
  have Zk:∀d∈low,d<1000000000:=fun d hd=>PG d (by rw[akB] at hd;exact List.mem_of_mem_take hd)
  have hsg:hJ=low++[u2]:=by
   have h1:hJ[n+2]? = some u2:=by rw[rK _ (by omega)];exact hu2
   have h2:=List.take_append_drop (n+2) hJ
   have h3:=(List.getElem?_eq_some_iff.1 h1)
   rw[List.drop_eq_getElem_cons h3.1,h3.2,List.drop_of_length_le (by omega),←akB] at h2
   exact h2.symm
  have Qd:val 1000000000 hJ=val 1000000000 low+1000000000^(n+2)*u2:=by rw[hsg,rY,hll]
  have kD:∀(lw:List Nat) (t:Nat),(us.take i).map tV++lw.map tV++VI (t:Int)::(us.drop (i+(n+2+1))).map tV=(us.take i++(lw++[t])++us.drop (i+(n+2+1))).map tV:=fun lw t=>by simp
  have uK:aH (H2 us os) 0 0=some ((us.take i).map tV++low.map tV++VI (u2:Int)::(us.drop (i+(n+2+1))).map tV,1,true):=by
   rw[kD,←hsg,←Uj]
   rfl
  refine gJ rfl ((WU (o:=i) (n:=n+2) uK (Nat.zero_le _) (by simpa using yM) hll FE (by omega) CD Zk Gs hgW lu2).mono ?_)
  rintro r H' ⟨As,c,rfl,BL,Yh,hc,hr,hE⟩
  have aAz:val 1000000000 low<1000000000^(n+2):=by have:=oF Zk;rwa [hll] at this
  have axD:val 1000000000 As<1000000000^(n+2):=by have:=oF Yh;rwa [BL] at this
  have rows:∀(lw:List Nat) (t q:Nat),lw.length=n+2→(∀d∈lw,d<1000000000)→t<1000000000→q=val 1000000000 hJ / val 1000000000 vs→val 1000000000 lw+1000000000^(n+2)*t=val 1000000000 hJ % val 1000000000 vs →
    ((us.take i++(lw++[t])++us.drop (i+(n+2+1))).length=N∧(∀d∈us.take i++(lw++[t])++us.drop (i+(n+2+1)),d<1000000000)∧val 1000000000 ((us.take i++(lw++[t])++us.drop (i+(n+2+1))).drop i)<val 1000000000 vs∧val 1000000000 (us.take i++(lw++[t])++us.drop (i+(n+2+1)))+1000000000^i*val 1000000000 vs*val 1000000000 ((os.set i q).drop i)=A):=by
   intro lw t q hlw atL ht S3 hse
   have aiT:val 1000000000 (lw++[t])=val 1000000000 hJ % val 1000000000 vs:=by rw[rY,hlw];exact hse
   have axE:(lw++[t]).length=n+3:=by rw[List.length_append,hlw];rfl
   have avV:∀d∈lw++[t],d<1000000000:=fun d hd=>by
    rcases List.mem_append.1 hd with h | h
    ·exact atL d h
    ·rw[List.mem_singleton.1 h];exact ht
   generalize lw++[t]=rA at *
   have agV:=Nat.mod_lt (val 1000000000 hJ) It
   have Ux:(us.take i++rA++us.drop (i+(n+2+1))).drop i=rA++us.drop (i+(n+2+1)):=by rw[List.append_assoc,List.drop_append,List.drop_of_length_le (by omega),yM];simp
   have Te:(us.take i++rA++us.drop (i+(n+2+1))).take i=us.take i:=by rw[List.append_assoc,List.take_append_of_le_length (by omega),List.take_of_length_le (by omega)]
   have Qn:val 1000000000 ((us.take i++rA++us.drop (i+(n+2+1))).drop i)=val 1000000000 rA:=by rw[Ux,xO,Z0,Nat.mul_zero,Nat.add_zero]
   refine⟨by rw[List.length_append,List.length_append,yM,axE,List.length_drop];omega,fun d hd => ?_,by rw[Qn,aiT];exact agV,?_⟩
   ·rw[List.mem_append,List.mem_append] at hd
    rcases hd with(hd | hd) | hd
    ·exact IX d (List.mem_of_mem_take hd)
    ·exact avV d hd
    ·exact IX d (List.mem_of_mem_drop hd)
   ·have h1:=Nat.div_add_mod (val 1000000000 hJ) (val 1000000000 vs)
    rw[←S3,←aiT,Nat.mul_comm] at h1
    have h2:=pA (b:=1000000000) us i
    have h3:=pA (b:=1000000000) (us.take i++rA++us.drop (i+(n+2+1))) i
    rw[Te,yM,Qn] at h3
    rw[yM,ZP] at h2
    rw[set_drop (by omega),sD,h3]
    rw[h2,Nat.pow_succ] at hv
    exact LB h1.symm hv
  have e3:∀(Fj:List Nat) (d:Nat),bK 1 (.ref 1 0 0 m m) (VI i) (H2 Fj os)=some (.ptr 1 0 i 0)∧bQ 0 1 (.ptr 1 0 i 0) (VI (d:Int)) (H2 Fj os)=some (H2 Fj (os.set i d)):=fun Fj d=>by
   refine⟨by rw[bD aqR (by omega),Nat.zero_add],?_⟩
   rw[show VI (d:Int)=tV d from rfl,fJ (f:=tV) (e:=1) aqR (by omega) (Nat.zero_le _) rfl rfl]
   rfl
  have wi:IntKind.i64.wrap ((i:Int)-1)=(i:Int)-1:=wrap64 (by omega) (by omega)
  have hdm:=Nat.div_add_mod (val 1000000000 hJ) (val 1000000000 vs)
  have agV:=Nat.mod_lt (val 1000000000 hJ) It
  generalize hPP:1000000000^(n+2)=P at *
  by_cases oV:(u2:Int)-(c:Int)<0
  ·
   rw[decide_eq_true oV] at hr
   subst hr
   have hgt:val 1000000000 hJ<g'*val 1000000000 vs:=by
    have h1:P*(u2+1)≤P*c:=Nat.mul_le_mul_left _ (by omega)
    rw[Nat.mul_add,Nat.mul_one] at h1
    omega
   have S3:g'=val 1000000000 hJ / val 1000000000 vs+1:=by
    rcases Nat.lt_or_ge (val 1000000000 hJ / val 1000000000 vs) g' with h | h
    ·omega
    ·have h1:g'*val 1000000000 vs≤val 1000000000 hJ / val 1000000000 vs*val 1000000000 vs:=Nat.mul_le_mul_right _ h
     have:=Nat.div_mul_le_self (val 1000000000 hJ) (val 1000000000 vs)
     omega
   have hg1:1≤g':=by rw[S3];exact Nat.le_add_left 1 _
   have wg:IntKind.i64.wrap ((g':Int)-1)=((g'-1:Nat):Int):=wrapN _ (by omega) (by omega)
   simp only[Qj,So,QG,QE,aeD,afV,r19,wg,VX,Nat.reduceEqDiff,Nat.reduceAdd]
   have FB:aH ((H2 us os).set 0 (.row 0 ((us.take i).map tV++As.map tV++VI ((u2:Int)-(c:Int))::(us.drop (i+(n+2+1))).map tV) 1 true)) 0 0=some ((us.take i).map tV++As.map tV++VI ((u2:Int)-(c:Int))::(us.drop (i+(n+2+1))).map tV,1,true):=rfl
   refine gJ rfl ((Yn (o:=i) (n:=n+2) FB (Nat.zero_le _) (by simpa using yM) BL FE (by omega) CD Yh Gs (by omega) (by omega)).mono ?_)
   rintro r H' ⟨Ut,c2,rfl,CJ,hd2,hc2,hE2⟩
   rw[hPP] at hE2
   have alA:val 1000000000 Ut<P:=by have:=oF hd2;rwa [CJ,hPP] at this
   obtain⟨hy,hZ⟩:(u2:Int)-(c:Int)+(c2:Int)=0∧val 1000000000 Ut=val 1000000000 hJ % val 1000000000 vs:=by
    refine agU (P:=P) ?_ alA (by omega)
    have i1:(P:Int)*((u2:Int)-(c:Int)+(c2:Int))=(P:Int)*u2-(P:Int)*c+(P:Int)*c2:=by rw[Int.mul_add,Int.mul_sub]
    have i2:((P*u2:Nat):Int)=(P:Int)*u2:=by simp
    have i3:((P*c:Nat):Int)=(P:Int)*c:=by simp
    have i4:((P*c2:Nat):Int)=(P:Int)*c2:=by simp
    rw[i1,←i2,←i3,←i4]
    have i5:g'*val 1000000000 vs=val 1000000000 vs*(val 1000000000 hJ / val 1000000000 vs)+val 1000000000 vs:=by rw[S3,Nat.add_mul,Nat.one_mul,Nat.mul_comm (val 1000000000 vs)]
    omega
   have Ie:((H2 us os).set 0 (.row 0 ((us.take i).map tV++As.map tV++VI ((u2:Int)-(c:Int))::(us.drop (i+(n+2+1))).map tV) 1 true)).set 0 (.row 0 ((us.take i).map tV++Ut.map tV++VI ((u2:Int)-(c:Int)+(c2:Int))::(us.drop (i+(n+2+1))).map tV) 1 true)=H2 (us.take i++(Ut++[0])++us.drop (i+(n+2+1))) os:=by
    rw[hy]
    rw[show (0:Int)=((0:Nat):Int) from rfl,kD]
    rfl
   rw[Ie]
   obtain⟨x1,x2⟩:=e3 (us.take i++(Ut++[0])++us.drop (i+(n+2+1))) (g'-1)
   obtain⟨y1,y2,y3,y4⟩:=rows Ut 0 (g'-1) CJ hd2 (by decide) (by rw[S3,Nat.add_sub_cancel]) (by rw[Nat.mul_zero,Nat.add_zero];exact hZ)
   simp only[Qj,So,QG,QE,aeD,afV,x1,x2,wi,VX,Nat.reduceEqDiff,Nat.reduceAdd]
   refine⟨(i,us.take i++(Ut++[0])++us.drop (i+(n+2+1)),os.set i (g'-1)),by simp only;omega,by omega,rfl,y1,y2,by rw[List.length_set];exact jM,lR lH (by omega),y3,y4,?_⟩
   try (repeat' apply And.intro)<;>first | rfl | trivial
  ·rw[decide_eq_false oV] at hr
   subst hr
   obtain⟨t',ht'⟩:∃t':Nat,(u2:Int)-(c:Int)=(t':Int):=⟨u2-c,by omega⟩
   have hP1:P*u2=P*c+P*t':=by rw[←Nat.mul_add];congr 1;omega
   have Eh:g'*val 1000000000 vs≤val 1000000000 hJ:=by omega
   have S3:g'=val 1000000000 hJ / val 1000000000 vs:=by
    have:=(Nat.le_div_iff_mul_le It).2 Eh
    omega
   have Ie:(H2 us os).set 0 (.row 0 ((us.take i).map tV++As.map tV++VI ((u2:Int)-(c:Int))::(us.drop (i+(n+2+1))).map tV) 1 true)=H2 (us.take i++(As++[t'])++us.drop (i+(n+2+1))) os:=by
    rw[ht',kD]
    rfl
   rw[Ie]
   obtain⟨x1,x2⟩:=e3 (us.take i++(As++[t'])++us.drop (i+(n+2+1))) g'
   have hse:val 1000000000 As+P*t'=val 1000000000 hJ % val 1000000000 vs:=by
    rw[←S3,Nat.mul_comm] at hdm
    omega
   obtain⟨y1,y2,y3,y4⟩:=rows As t' g' BL Yh (by omega) S3 hse
   simp only[Qj,So,QG,QE,aeD,afV,r19,x1,x2,wi,VX,Nat.reduceEqDiff,Nat.reduceAdd]
   refine⟨(i,us.take i++(As++[t'])++us.drop (i+(n+2+1)),os.set i g'),by simp only;omega,by omega,rfl,y1,y2,by rw[List.length_set];exact jM,lR lH (by omega),y3,y4,?_⟩
   try (repeat' apply And.intro)<;>first | rfl | trivial
 ·have Um:j=0:=by omega
  subst Um
  rw[Nat.pow_zero,Nat.one_mul,List.drop_zero] at hv
  rw[List.drop_zero] at bH
  simp only[iK,Hh,A9,Cj,JV,k16,Hk,hz,VX,Nat.reduceEqDiff,Nat.reduceAdd]
  exact hQ _ us os Hh A9 k16 Qh IX jM lH hv bH
end Go.PM
namespace Go.PM
def bl (n:Nat):Nat:=(aC 2 n).length
theorem Nn (n:Nat):n<2^bl n:=gL (by decide) n
theorem Gy {n k:Nat} (h:n<2^k):bl n≤k:=mB (by decide) h
theorem kB {m n:Nat} (h:m≤n):bl m≤bl n:=dX (by decide) h
theorem nM (m n:Nat):bl (m*n)≤bl m+bl n:=by
 refine Gy ?_
 rw[Nat.pow_add]
 exact Nat.mul_lt_mul'' (Nn m) (Nn n)
theorem F2 {n k:Nat} (h:bl n≤k):n<2^k:=Nat.lt_of_lt_of_le (Nn n) (Nat.pow_le_pow_right (by decide) h)
theorem Ug {m n k:Nat} (hm:bl m≤k) (hn:bl n≤k):bl (m+n)≤k+1:=by
 refine Gy ?_
 have h1:=F2 hm
 have h2:=F2 hn
 rw[Nat.pow_succ]
 omega
theorem VH:bl 0=0:=by simp[bl,cB]
theorem Lb:bl 1=1:=by simp[bl,jA (b:=2) (by decide) (n:=1) (by decide),cB]
theorem ZQ {n:Nat} (h:n≠0):1≤bl n:=by
 have:=kB (m:=1) (n:=n) (by omega)
 rwa [Lb] at this
theorem ahJ (n:Nat):32*(aC 4294967296 n).length≤bl n+31:=by
 by_cases h:n=0
 ·subst h;rw[cB];simp
 ·have h1:=J3 (b:=4294967296) (by decide) h
  have h2:=Nn n
  have e:(4294967296:Nat)=2^32:=by decide
  rw[e] at h1 ⊢
  rw[←Nat.pow_mul] at h1
  have h3:2^(32*((aC (2^32) n).length-1))<2^bl n:=by omega
  have h4:=(Nat.pow_lt_pow_iff_right (by decide)).1 h3
  omega
theorem aiD (n:Nat):29*(aC 1000000000 n).length≤bl n+28:=by
 by_cases h:n=0
 ·subst h;rw[cB];simp
 ·have h1:=J3 (b:=1000000000) (by decide) h
  have h2:=Nn n
  have h5:(2^29)^((aC 1000000000 n).length-1)≤1000000000^((aC 1000000000 n).length-1):=Nat.pow_le_pow_left (by decide) _
  rw[←Nat.pow_mul] at h5
  have h3:2^(29*((aC 1000000000 n).length-1))<2^bl n:=by omega
  have h4:=(Nat.pow_lt_pow_iff_right (by decide)).1 h3
  omega
def aZ (q:Rat):Nat:=max (bl q.num.natAbs) (bl q.den)
theorem rG {q:Rat}:bl q.num.natAbs≤aZ q:=Nat.le_max_left _ _
theorem pM {q:Rat}:bl q.den≤aZ q:=Nat.le_max_right _ _
theorem OI {q:Rat}:1≤aZ q:=Nat.le_trans (ZQ q.den_nz) pM
theorem SP {q:Rat} {k:Nat} (h1:bl q.num.natAbs≤k) (h2:bl q.den≤k):aZ q≤k:=Nat.max_le.2 ⟨h1,h2⟩
theorem Gd {n:Int} {d k:Nat} (h1:bl n.natAbs≤k) (h2:bl d≤k) (hk:1≤k):aZ (mkRat n d)≤k:=by
 refine SP ?_ ?_
 ·rw[Rat.num_mkRat]
  split
  ·rw[Int.natAbs_zero,VH];omega
  ·exact Nat.le_trans (kB (Int.natAbs_ediv_le_natAbs _ _)) h1
 ·rw[Rat.den_mkRat]
  split
  ·rw[Lb];exact hk
  ·exact Nat.le_trans (kB (Nat.div_le_self _ _)) h2
theorem Ib (a b:Rat):aZ (a+b)≤aZ a+aZ b+1:=by
 rw[Rat.add_def']
 have h1 := @rG a
 have h2 := @rG b
 have h3 := @pM a
 have h4 := @pM b
 have h5:=nM a.num.natAbs b.den
 have h6:=nM b.num.natAbs a.den
 have h7:=nM a.den b.den
 refine Gd ?_ (by omega) (by omega)
 have h8:(a.num*b.den+b.num*a.den).natAbs≤a.num.natAbs*b.den+b.num.natAbs*a.den:=by
  refine Nat.le_trans (Int.natAbs_add_le _ _) ?_
  rw[Int.natAbs_mul,Int.natAbs_mul,Int.natAbs_natCast,Int.natAbs_natCast]
  exact Nat.le_refl _
 exact Nat.le_trans (kB h8) (Ug (by omega) (by omega))
theorem WM (a b:Rat):aZ (a*b)≤aZ a+aZ b:=by
 rw[Rat.mul_def']
 have h1 := @rG a
 have h2 := @rG b
 have h3 := @pM a
 have h4 := @pM b
 have h5:=nM a.num.natAbs b.num.natAbs
 have h7:=nM a.den b.den
 have h8 := @OI a
 refine Gd ?_ (by omega) (by omega)
 rw[Int.natAbs_mul]
 omega
theorem Io (a:Rat):aZ (-a)=aZ a:=by simp[aZ]
theorem W1 (a b:Rat):aZ (a-b)≤aZ a+aZ b+1:=by
 rw[Rat.sub_eq_add_neg]
 have:=Ib a (-b)
 rwa [Io] at this
theorem NH (a:Rat):aZ a⁻¹≤aZ a:=by
 have h1 := @rG a
 have h2 := @pM a
 refine SP ?_ ?_
 ·rw[Rat.num_inv,Int.natAbs_mul,Int.natAbs_natCast]
  refine Nat.le_trans (kB ?_) h2
  have h3:a.num.sign.natAbs≤1:=by
   rcases Int.lt_trichotomy a.num 0 with h | h | h
   ·rw[Int.sign_eq_neg_one_of_neg h];decide
   ·rw[h];decide
   ·rw[Int.sign_eq_one_of_pos h];decide
  have:=Nat.mul_le_mul_right a.den h3
  omega
 ·rw[Rat.den_inv]
  split
  ·rw[Lb];exact OI
  ·exact h1
theorem Xu (a b:Rat):aZ (a / b)≤aZ a+aZ b:=by
 rw[Rat.div_def]
 have:=WM a b⁻¹
 have:=NH b
 omega
theorem Fh:aZ 0=1:=by simp[aZ,VH,Lb]
theorem HB:aZ 1=1:=by simp[aZ,Lb]
def kG (neg:Bool) (t:Nat):Int:=if neg then -(t:Int) else t
theorem nR (neg:Bool) (t:Nat):(kG neg t).natAbs=t:=by cases neg<;>simp[kG]
theorem OV {neg:Bool} {t:Nat}:kG neg t<0↔neg=true∧t≠0:=by cases neg<;>simp[kG]<;>omega
theorem xN (neg:Bool):kG neg 0=0:=by cases neg<;>rfl
theorem G5 (z:Int):kG (decide (z<0)) z.natAbs=z:=by
 by_cases h:z<0<;>simp[kG,h]<;>omega
theorem aeR {neg:Bool} {t g:Nat}:(kG neg t) / (g:Int)=kG neg (t / g)∨¬g ∣ t:=by
 by_cases h:g ∣ t
 ·left
  obtain⟨k,rfl⟩:=h
  by_cases hg:g=0
  ·subst hg;simp[xN]
  ·rw[Nat.mul_div_cancel_left _ (by omega)]
   cases neg
   ·simp only[kG]
    simp only[Bool.false_eq_true,if_false]
    rw[Int.natCast_mul,Int.mul_ediv_cancel_left _ (by omega)]
   ·simp only[kG,if_true]
    rw[Int.natCast_mul,←Int.mul_neg,Int.mul_ediv_cancel_left _ (by omega)]
 ·exact .inr h
theorem EO {neg:Bool} {t b:Nat} (hb:b≠0):(mkRat (kG neg t) b).num=kG neg (t / Nat.gcd t b):=by
 rw[Rat.num_mkRat,if_neg hb,nR,Nat.gcd_comm]
 rcases aeR (neg:=neg) (t:=t) (g:=Nat.gcd t b) with h | h
 ·exact h
 ·exact absurd (Nat.gcd_dvd_left _ _) h
theorem OS {neg:Bool} {t b:Nat} (hb:b≠0):(mkRat (kG neg t) b).den=b / Nat.gcd t b:=by
 rw[Rat.den_mkRat,if_neg hb,nR,Nat.gcd_comm]
theorem JX (q:Rat):mkRat (kG (decide (q.num<0)) q.num.natAbs) q.den=q:=by rw[G5,Rat.mkRat_self]
end Go.PM
namespace Go.PM
theorem afE (neg:Bool) (t d:Nat):kG neg (t*d)=kG neg t*(d:Int):=by cases neg<;>simp[kG,Int.neg_mul]
theorem DH (q:Rat) {d:Nat} (hd:d≠0):mkRat (kG (decide (q.num<0)) (q.num.natAbs*d)) (q.den*d)=q:=by
 rw[afE,Rat.mkRat_mul_right hd,JX]
theorem C1 (X Y:Int) {B:Nat} (hB:B≠0):mkRat X B+mkRat Y B=mkRat (X+Y) B:=by
 rw[Rat.mkRat_add_mkRat _ _ hB hB,←Int.add_mul,Rat.mkRat_mul_right hB]
theorem PV (n:Bool) (x y:Nat):kG n x+kG n y=kG n (x+y):=by cases n<;>simp[kG]<;>omega
theorem Uc {m n:Bool} (h:m≠n) {x y:Nat} (hx:y≤x):kG m x+kG n y=kG m (x-y):=by
 cases m<;>cases n<;>simp_all [kG]<;>omega
theorem UA {m n:Bool} (h:m≠n) {x y:Nat} (hx:x≤y):kG m x+kG n y=kG n (y-x):=by
 cases m<;>cases n<;>simp_all [kG]<;>omega
theorem Pf (n:Int) {d:Nat} (hd:d≠0):(mkRat n d).num.natAbs=n.natAbs / Nat.gcd n.natAbs d:=by
 have:=EO (neg:=decide (n<0)) (t:=n.natAbs) (b:=d) hd
 rw[G5] at this
 rw[this,nR]
theorem J2 (n:Int) {d:Nat} (hd:d≠0):(mkRat n d).den=d / Nat.gcd n.natAbs d:=by
 have:=OS (neg:=decide (n<0)) (t:=n.natAbs) (b:=d) hd
 rwa [G5] at this
theorem alK (n:Int) {d:Nat} (hd:d≠0):(mkRat n d).num<0↔n<0:=by
 have:=EO (neg:=decide (n<0)) (t:=n.natAbs) (b:=d) hd
 rw[G5] at this
 rw[this,OV]
 have h:n<0→n.natAbs / Nat.gcd n.natAbs d≠0:=fun h=>by
  have:=Nat.div_pos (Nat.le_of_dvd (by omega) (Nat.gcd_dvd_left n.natAbs d)) (Nat.gcd_pos_of_pos_left d (show 0<n.natAbs by omega))
  omega
 constructor
 ·rintro⟨h1,_⟩;simpa using h1
 ·intro h1;exact⟨by simpa using h1,h h1⟩
theorem Bn (t:Nat) {d:Nat} (hd:d≠0):(mkRat (kG false t) d).num.natAbs ∣ t∧(mkRat (kG false t) d).den ∣ d:=by
 rw[Pf _ hd,J2 _ hd,nR]
 exact⟨Nat.div_dvd_of_dvd (Nat.gcd_dvd_left _ _),Nat.div_dvd_of_dvd (Nat.gcd_dvd_right _ _)⟩
theorem WW (a b:Rat):(a*b).num.natAbs=(mkRat (kG false a.num.natAbs) b.den).num.natAbs*(mkRat (kG false b.num.natAbs) a.den).num.natAbs ∧
  (a*b).den=(mkRat (kG false a.num.natAbs) b.den).den*(mkRat (kG false b.num.natAbs) a.den).den:=by
 have ha:=a.den_nz
 have hb:=b.den_nz
 have FA:a.den*b.den≠0:=Nat.mul_ne_zero ha hb
 obtain⟨u1,u2⟩:=Bn a.num.natAbs hb
 obtain⟨v1,v2⟩:=Bn b.num.natAbs ha
 have e:(mkRat (kG false a.num.natAbs) b.den)*(mkRat (kG false b.num.natAbs) a.den)=mkRat (kG false a.num.natAbs*kG false b.num.natAbs) (b.den*a.den):=Rat.mkRat_mul_mkRat _ _ _ _
 have en:((mkRat (kG false a.num.natAbs) b.den)*(mkRat (kG false b.num.natAbs) a.den)).num.natAbs=(a*b).num.natAbs:=by
  rw[e,Rat.mul_def',Pf _ FA,Pf _ (Nat.mul_ne_zero hb ha),Int.natAbs_mul,Int.natAbs_mul,nR,nR,Nat.mul_comm b.den]
 have ed:((mkRat (kG false a.num.natAbs) b.den)*(mkRat (kG false b.num.natAbs) a.den)).den=(a*b).den:=by
  rw[e,Rat.mul_def',J2 _ FA,J2 _ (Nat.mul_ne_zero hb ha),Int.natAbs_mul,Int.natAbs_mul,nR,nR,Nat.mul_comm b.den]
 rw[←en,←ed]
 generalize hu:mkRat (kG false a.num.natAbs) b.den=u at *
 generalize hv:mkRat (kG false b.num.natAbs) a.den=v at *
 have c1:Nat.Coprime u.num.natAbs u.den:=u.reduced
 have c2:Nat.Coprime v.num.natAbs v.den:=v.reduced
 have c3:Nat.Coprime u.num.natAbs v.den:=Nat.Coprime.coprime_dvd_left u1 (Nat.Coprime.coprime_dvd_right v2 a.reduced)
 have c4:Nat.Coprime v.num.natAbs u.den:=Nat.Coprime.coprime_dvd_left v1 (Nat.Coprime.coprime_dvd_right u2 b.reduced)
 have c:Nat.gcd (u.num*v.num).natAbs (u.den*v.den)=1:=by
  rw[Int.natAbs_mul]
  exact Nat.Coprime.mul_left (Nat.Coprime.mul_right c1 c3) (Nat.Coprime.mul_right c4 c2)
 rw[Rat.mul_def',Pf _ (Nat.mul_ne_zero u.den_nz v.den_nz),J2 _ (Nat.mul_ne_zero u.den_nz v.den_nz),c,Nat.div_one,Nat.div_one,Int.natAbs_mul]
 exact⟨rfl,rfl⟩
theorem Re {a b:Rat} (ha:a.num≠0) (hb:b.num≠0):(a*b).num<0↔(decide (a.num<0) != decide (b.num<0))=true:=by
 rw[Rat.mul_def',alK _ (Nat.mul_ne_zero a.den_nz b.den_nz)]
 rcases Int.lt_or_gt_of_ne ha with h1 | h1<;>rcases Int.lt_or_gt_of_ne hb with h2 | h2
 ·have:=Int.mul_pos_of_neg_of_neg h1 h2
  rw[decide_eq_true h1,decide_eq_true h2]
  simp;omega
 ·have:=Int.mul_neg_of_neg_of_pos h1 h2
  rw[decide_eq_true h1,decide_eq_false (show ¬b.num<0 by omega)]
  simp[this]
 ·have:=Int.mul_neg_of_pos_of_neg h1 h2
  rw[decide_eq_false (show ¬a.num<0 by omega),decide_eq_true h2]
  simp[this]
 ·have:=Int.mul_pos h1 h2
  rw[decide_eq_false (show ¬a.num<0 by omega),decide_eq_false (show ¬b.num<0 by omega)]
  simp;omega
def kV (q:Rat):Int:=if q.num=0 then 0 else if q.num<0 then -1 else 1
def Sl (a b:Rat):Int:=if kV a=kV b then (if a.num<0 then -eW (a.num.natAbs*b.den) (b.num.natAbs*a.den) else eW (a.num.natAbs*b.den) (b.num.natAbs*a.den)) else kV a-kV b
theorem uF {m n:Nat}:eW m n<0↔m<n:=by
 unfold eW
 split
 ·omega
 ·split<;>omega
theorem Ve {m n:Nat}:0<eW m n↔n<m:=by
 unfold eW
 split
 ·omega
 ·split<;>omega
theorem AF {m n:Nat}:eW m n=0↔m=n:=by
 unfold eW
 split
 ·omega
 ·split<;>omega
theorem pF {q:Rat} (h:q.num<0):kV q = -1:=by unfold kV;rw[if_neg (by omega),if_pos h]
theorem kS {q:Rat} (h:q.num=0):kV q=0:=by unfold kV;rw[if_pos h]
theorem oZ {q:Rat} (h:0<q.num):kV q=1:=by unfold kV;rw[if_neg (by omega),if_neg (by omega)]
theorem adZ {a b:Rat}:Sl a b<0↔a<b:=by
 rw[Rat.lt_iff]
 have hA:(0:Int)<a.den:=by have:=a.den_nz;omega
 have hB:(0:Int)<b.den:=by have:=b.den_nz;omega
 have eA:((a.num.natAbs*b.den:Nat):Int)=(a.num.natAbs:Int)*b.den:=by simp
 have eB:((b.num.natAbs*a.den:Nat):Int)=(b.num.natAbs:Int)*a.den:=by simp
 unfold Sl
 rcases Int.lt_trichotomy a.num 0 with h1 | h1 | h1<;>rcases Int.lt_trichotomy b.num 0 with h2 | h2 | h2
 ·rw[pF h1,pF h2,if_pos rfl,if_pos h1]
  have f1:(a.num.natAbs:Int) = -a.num:=by omega
  have f2:(b.num.natAbs:Int) = -b.num:=by omega
  rw[f1,Int.neg_mul] at eA
  rw[f2,Int.neg_mul] at eB
  have := @Ve (a.num.natAbs*b.den) (b.num.natAbs*a.den)
  omega
 ·rw[pF h1,kS h2,if_neg (by decide),h2,Int.zero_mul]
  have:=Int.mul_neg_of_neg_of_pos h1 hB
  omega
 ·rw[pF h1,oZ h2,if_neg (by decide)]
  have:=Int.mul_neg_of_neg_of_pos h1 hB
  have:=Int.mul_pos h2 hA
  omega
 ·rw[kS h1,pF h2,if_neg (by decide),h1,Int.zero_mul]
  have:=Int.mul_neg_of_neg_of_pos h2 hA
  omega
 ·rw[kS h1,kS h2,if_pos rfl,h1,h2];simp[eW]
 ·rw[kS h1,oZ h2,if_neg (by decide),h1,Int.zero_mul]
  have:=Int.mul_pos h2 hA
  omega
 ·rw[oZ h1,pF h2,if_neg (by decide)]
  have:=Int.mul_neg_of_neg_of_pos h2 hA
  have:=Int.mul_pos h1 hB
  omega
 ·rw[oZ h1,kS h2,if_neg (by decide),h2,Int.zero_mul]
  have:=Int.mul_pos h1 hB
  omega
 ·rw[oZ h1,oZ h2,if_pos rfl,if_neg (by omega)]
  have f1:(a.num.natAbs:Int)=a.num:=by omega
  have f2:(b.num.natAbs:Int)=b.num:=by omega
  rw[f1] at eA
  rw[f2] at eB
  have := @uF (a.num.natAbs*b.den) (b.num.natAbs*a.den)
  omega
theorem Zq (m n:Nat):eW n m = -eW m n:=by
 rcases Nat.lt_trichotomy m n with h | h | h
 ·rw[eW,eW,if_neg (by omega),if_neg (by omega),if_pos h];rfl
 ·subst h;rw[eW,if_neg (by omega),if_pos rfl];rfl
 ·rw[eW,eW,if_pos h,if_neg (by omega),if_neg (by omega)]
theorem acY (a b:Rat):Sl b a = -Sl a b:=by
 unfold Sl
 by_cases h:kV a=kV b
 ·have h2:b.num<0↔a.num<0:=by
   rcases Int.lt_trichotomy a.num 0 with h1 | h1 | h1<;>rcases Int.lt_trichotomy b.num 0 with h2 | h2 | h2
   ·simp[h1,h2]
   ·rw[pF h1,kS h2] at h;omega
   ·rw[pF h1,oZ h2] at h;omega
   ·rw[kS h1,pF h2] at h;omega
   ·omega
   ·rw[kS h1,oZ h2] at h;omega
   ·rw[oZ h1,pF h2] at h;omega
   ·rw[oZ h1,kS h2] at h;omega
   ·omega
  rw[if_pos h,if_pos h.symm,Zq]
  by_cases h3:a.num<0
  ·rw[if_pos h3,if_pos (h2.2 h3)]
  ·rw[if_neg h3,if_neg (mt h2.1 h3)]
 ·rw[if_neg h,if_neg (fun h'=>h h'.symm)];omega
theorem VC {a b:Rat}:0<Sl a b↔b<a:=by
 rw[←adZ,acY a b];omega
theorem Bs {q:Rat}:kV q=0↔q=0:=by
 rw[←Rat.num_eq_zero]
 rcases Int.lt_trichotomy q.num 0 with h | h | h
 ·rw[pF h];omega
 ·rw[kS h];omega
 ·rw[oZ h];omega
end Go.PM
namespace Go.PM
theorem Ou {ds:List Nat} {H:aA}:cT 1 (iA ds) H=some (ds.map tV):=by
 have:((ds.map tV).all fun x=>(aB x).length == 1&&(aB x).all bP)=true:=by
  rw[List.all_eq_true]
  intro x hx
  obtain⟨d,_,rfl⟩:=List.mem_map.1 hx
  rfl
 simp only[cT,iA,bI,this,if_true]
theorem DE (n:Nat) {H:aA}:cT 1 (bY n) H=some ((aC 1000000000 n).map tV):=Ou
theorem Hw {a n:Nat} (hn:(aC 1000000000 a).length=n+1):∃d,(aC 1000000000 a)[n]? = some d∧d≠0∧d<1000000000:=by
 obtain⟨d,hd⟩:∃d,(aC 1000000000 a)[n]? = some d:=⟨_,List.getElem?_eq_getElem (by omega)⟩
 refine⟨d,hd,fun h0 => ?_,fE (by decide) a d (List.mem_of_getElem? hd)⟩
 have:=OH (b:=1000000000) (by decide) a
 rw[List.getLast?_eq_getElem?,hn,Nat.add_sub_cancel,hd,h0] at this
 exact this rfl
theorem Xe {a d:Nat} (h:aC 1000000000 a=[d]):a=d∧0<d∧d<1000000000:=by
 have h1:=cJ (b:=1000000000) (by decide) a
 rw[h,val_one] at h1
 obtain⟨e,h2,h3,h4⟩:=Hw (a:=a) (n:=0) (by rw[h];rfl)
 rw[h] at h2
 cases h2
 exact⟨h1.symm,by omega,h4⟩
theorem ajX {a:Nat} (h:(aC 1000000000 a).length≤2):a<1000000000000000000:=by
 have h1:=gL (b:=1000000000) (by decide) a
 have h2:1000000000^(aC 1000000000 a).length≤1000000000^2:=Nat.pow_le_pow_right (by decide) h
 omega
theorem acS {H:aA} {u v:VV} (hu:aP u=true) (hv:aP v=true):fz depth H (.eX [u,v])=some (.eX [u,v]):=aI (by simp only[aP,aM,hu,hv,Bool.and_self])
theorem aoH {X N:Nat} (h:(aC 1000000000 X).length≤N):ID 0 1 (.ref 0 0 0 N N) (bY X) [.row 0 ((List.replicate N 0).map tV) 1 true]=some (VI ((aC 1000000000 X).length:Int),[.row 0 ((aC 1000000000 X++List.replicate (N-(aC 1000000000 X).length) 0).map tV) 1 true]):=by
 have e:((aC 1000000000 X).map tV).take N=(aC 1000000000 X).map tV:=List.take_of_length_le (by simpa using h)
 simp only[ID,bY,Ou,aS,e,List.length_map,List.length_replicate,Nat.zero_add]
 rw[if_pos ⟨trivial,Nat.le_refl _,h⟩]
 simp only[cY,List.set_cons_zero,List.take_zero,List.nil_append,Nat.zero_add,List.length_map,List.map_append,List.map_replicate,List.drop_replicate]
theorem uA (a b:Nat) (hb:b≠0) (ha:(aC 1000000000 a).length<17592186044416) (uE:(aC 1000000000 b).length<17592186044416):TC 185 [bY a,bY b] (.eX [bY (a / b),bY (a % b)]):=by
 refine TC.walk ⟨true,false⟩ Hr rfl (Nat.le_of_ble_eq_true rfl) (by simp[aM,cI]) (by simp[iD,pY,nE]) ?_
 have s1:=Ce a (by omega)
 have s2:=Ce b (by omega)
 have fin:∀ {H:aA},fz depth H (.eX [bY (a / b),bY (a % b)])=some (.eX [bY (a / b),bY (a % b)]):=acS (cI _) (cI _)
 by_cases RZ:(aC 1000000000 a).length≤2∧(aC 1000000000 b).length≤2
 ·rw[if_pos RZ.1] at s1
  rw[if_pos RZ.2] at s2
  have la:=ajX RZ.1
  have q1:=JQ a b (by omega) (by omega)
  have q2:=K3 a b (by omega)
  have hdl:a / b≤a:=Nat.div_le_self _ _
  have hml:a % b≤a:=Nat.mod_le _ _
  have n1:TC 178 [VI ((a / b:Nat):Int)] (bY (a / b)):=qH ((a / b:Nat):Int) (Int.ofNat_le.2 (show a / b≤9223372036854775807 from Nat.le_trans hdl (by omega)))
  have n2:TC 178 [VI ((a % b:Nat):Int)] (bY (a % b)):=qH ((a % b:Nat):Int) (Int.ofNat_le.2 (show a % b≤9223372036854775807 from Nat.le_trans hml (by omega)))
  simp only[fD,dN,s1,s2,q1,q2,n1,n2,VX,Nat.reduceEqDiff,Nat.reduceAdd]
  exact fin
 have c1:=uH a b (by omega) (by omega)
 obtain⟨x1,t1,MV⟩:∃(x:Int) (t:Bool),(if (aC 1000000000 a).length≤2 then VV.eX [VI a,VB true] else .eX [VI 0,VB false]) = .eX [VI x,VB t]:=by split<;>exact⟨_,_,rfl⟩
 have hs2:∃(x:Int) (t:Bool),(if (aC 1000000000 b).length≤2 then VV.eX [VI b,VB true] else .eX [VI 0,VB false]) = .eX [VI x,VB t]∧(t1=true→t=false):=by
  by_cases h:(aC 1000000000 b).length≤2
  ·rw[if_pos h]
   refine⟨_,_,rfl,fun ht => ?_⟩
   rw[if_neg (fun h'=>RZ ⟨h',h⟩)] at MV
   injection MV with MV
   injection MV with _ MV
   injection MV with MV _
   injection MV with MV
   injection MV with MV
   subst ht
   cases MV
  ·rw[if_neg h]
   exact⟨_,_,rfl,fun _=>rfl⟩
 obtain⟨x2,t2,hs2,ht⟩:=hs2
 rw[MV] at s1
 rw[hs2] at s2
 by_cases FA:eW a b<0
 ·have bH:a<b:=uF.1 FA
  have e0:∀lr,jQ lr [.int .i64 0] 0 [] []=some (.ref 0 0 0 0 0,[.row 0 [] 1 true]):=fun lr=>iC (H:=[]) rfl
  have e1:∀lr,jQ lr [.int .i64 0] 0 [] [.row 0 [] 1 true]=some (.ref 1 0 0 0 0,[.row 0 [] 1 true,.row 0 [] 1 true]):=fun lr=>iC (H:=[.row 0 [] 1 true]) rfl
  rw[Nat.div_eq_of_lt bH,Nat.mod_eq_of_lt bH]
  have hz:fz (6+1) [.row 0 [] 1 true,.row 0 [] 1 true] (.ref 0 0 0 0 0)=some (bY 0):=by rw[He];rfl
  by_cases ha0:a=0
  ·subst ha0
   have ap:eJ 0 1 8 (.ref 1 0 0 0 0) ((aC 1000000000 0).map tV) [.row 0 [] 1 true,.row 0 [] 1 true]=some (.ref 1 0 0 0 0,[.row 0 [] 1 true,.row 0 [] 1 true]):=by
    rw[cB];rfl
   have Ir:fz (6+1) [.row 0 [] 1 true,.row 0 [] 1 true] (.ref 1 0 0 0 0)=some (bY 0):=by rw[He];rfl
   cases t1 with
   |
    false =>
    simp only[fD,dN,s1,s2,c1,FA,e0,e1,ap,DE,VX,Nat.reduceEqDiff,Nat.reduceAdd]
    exact bT (d:=6) hz Ir
   |
    true =>
    rw[ht rfl] at s2
    simp only[fD,dN,s1,s2,c1,FA,e0,e1,ap,DE,VX,Nat.reduceEqDiff,Nat.reduceAdd]
    exact bT (d:=6) hz Ir
  ·have hln:(aC 1000000000 a).length≠0:=fun h=>ha0 ((lL (b:=1000000000) (by decide)).1 (List.length_eq_zero_iff.1 h))
   have ap:eJ 0 1 8 (.ref 1 0 0 0 0) ((aC 1000000000 a).map tV) [.row 0 [] 1 true,.row 0 [] 1 true]=some (.ref 1 1 0 (aC 1000000000 a).length (aC 1000000000 a).length,[.row 0 [] 1 true,.row 1 ((aC 1000000000 a).map tV) 1 true]):=by
    have hr:aH [.row 0 [] 1 true,.row 0 [] 1 true] 1 0=some ([],1,true):=rfl
    simp only[eJ,hr,List.length_map,Nat.zero_add,List.length_nil,Nat.add_zero]
    rw[if_pos ⟨by decide,by decide⟩,if_pos ⟨trivial,Nat.zero_le _,Nat.le_refl _⟩,if_neg (by omega),if_pos (by omega)]
    simp
   have D8:fz (6+1) [.row 0 [] 1 true,.row 1 ((aC 1000000000 a).map tV) 1 true] (.ref 0 0 0 0 0)=some (bY 0):=by rw[He];rfl
   have Ir:fz (6+1) [.row 0 [] 1 true,.row 1 ((aC 1000000000 a).map tV) 1 true] (.ref 1 1 0 (aC 1000000000 a).length (aC 1000000000 a).length)=some (bY a):=by
    have:aP (.ref 1 1 0 (aC 1000000000 a).length (aC 1000000000 a).length)=false:=rfl
    have hr:aH [.row 0 [] 1 true,.row 1 ((aC 1000000000 a).map tV) 1 true] 1 1=some ((aC 1000000000 a).map tV,1,true):=rfl
    unfold fz
    simp only[this,hr,Bool.false_eq_true,if_false]
    rw[if_pos ⟨by simp,Nat.le_refl _⟩,List.drop_zero,List.take_of_length_le (by simp),mapM_pure (n:=5) (gN fun _=>rfl)]
    rfl
   cases t1 with
   |
    false =>
    simp only[fD,dN,s1,s2,c1,FA,e0,e1,ap,DE,VX,Nat.reduceEqDiff,Nat.reduceAdd]
    exact bT (d:=6) D8 Ir
   |
    true =>
    rw[ht rfl] at s2
    simp only[fD,dN,s1,s2,c1,FA,e0,e1,ap,DE,VX,Nat.reduceEqDiff,Nat.reduceAdd]
    exact bT (d:=6) D8 Ir
 have Eh:b≤a:=by have := @uF a b;omega
 have hbn:(aC 1000000000 b).length≠0:=fun h=>hb ((lL (b:=1000000000) (by decide)).1 (List.length_eq_zero_iff.1 h))
 by_cases h1:(((aC 1000000000 b).length:Nat):Int)=1
 ·obtain⟨d,hd⟩:∃d,aC 1000000000 b=[d]:=List.length_eq_one_iff.1 (by omega)
  obtain⟨hbd,Ds,hdT⟩:=Xe hd
  have e1:bK 1 (bY b) (VI 0) []=some (.cU (tV d) 0):=by
   rw[bY,hd]
   exact aL (f:=tV) (t := .op) (H:=[]) (size:=1) (k := .i64) (xs:=[d]) (i:=0) rfl rfl
  have c2:=yK a d Ds hdT (by omega)
  rw[←hbd] at c2
  have T2:a % b≤b:=Nat.le_of_lt (Nat.mod_lt _ (by omega))
  have n2:TC 178 [VI ((a % b:Nat):Int)] (bY (a % b)):=qH ((a % b:Nat):Int) (Int.ofNat_le.2 (show a % b≤9223372036854775807 from Nat.le_trans T2 (by omega)))
  have e2:tV d=tV b:=by rw[hbd]
  rw[e2] at e1
  cases t1 with
  |
   false =>
   simp only[fD,dN,s1,s2,c1,FA,cN,h1,e1,c2,n2,VX,Nat.reduceEqDiff,Nat.reduceAdd]
   exact fin
  |
   true =>
   rw[ht rfl] at s2
   simp only[fD,dN,s1,s2,c1,FA,cN,h1,e1,c2,n2,VX,Nat.reduceEqDiff,Nat.reduceAdd]
   exact fin
 obtain⟨n,hn⟩:∃n,(aC 1000000000 b).length=n+2:=⟨(aC 1000000000 b).length-2,by omega⟩
 obtain⟨t,htd,ht0,htT⟩:=Hw (a:=b) (n:=n+1) hn
 obtain⟨s,hs⟩:∃s,s=1000000000 / (t+1):=⟨_,rfl⟩
 have QJ:1≤s:=by rw[hs];exact(Nat.le_div_iff_mul_le (by omega)).2 (by omega)
 have hsT:s<1000000000:=by rw[hs];exact Nat.div_lt_self (by decide) (by omega)
 have E3:(t+1)*s≤1000000000:=by rw[hs];exact Nat.mul_div_le _ _
 have hla:=dX (b:=1000000000) (by decide) Eh
 have w0:IntKind.i64.wrap (((n+2:Nat):Int)-1)=((n+1:Nat):Int):=wrapN _ (by omega) (by omega)
 have w1:IntKind.i64.wrap ((t:Int)+1)=((t+1:Nat):Int):=wrapN _ (by omega) (by omega)
 have q0:dH .quo (.int .i64 1000000000) (.int .i64 ((t+1:Nat):Int))=some (.int .i64 (s:Int)):=by rw[hs];exact JQ 1000000000 (t+1) (by decide) (by omega)
 have et:∀H,bK 1 (bY b) (VI ((n+1:Nat):Int)) H=some (.cU (tV t) 0):=fun H=>aL (f:=tV) (t := .op) (size:=1) (k := .i64) htd rfl
 have XO:¬(((n+2:Nat):Int)=1):=by omega
 obtain⟨N,hN⟩:∃N,N=(aC 1000000000 a).length+1:=⟨_,rfl⟩
 have wN:IntKind.i64.wrap (((aC 1000000000 a).length:Int)+1)=(N:Int):=wrapN _ (by omega) (by omega)
 have mkN:=O9 N (by omega)
 have c3:=wZ a s QJ hsT ha
 have c4:=wZ b s QJ hsT uE
 have alZ:b*s<1000000000^(n+2):=by
  have h2:=(zK (n:=n+1) (fE (b:=1000000000) (by decide) b) hn htd).2
  rw[cJ (by decide)] at h2
  have h3:b*s<(t+1)*1000000000^(n+1)*s:=Nat.mul_lt_mul_of_pos_right h2 QJ
  have h4:(t+1)*1000000000^(n+1)*s=(t+1)*s*1000000000^(n+1):=by grind
  have h9:(t+1)*s*1000000000^(n+1)≤1000000000*1000000000^(n+1):=Nat.mul_le_mul_right _ E3
  have h10:1000000000*1000000000^(n+1)=1000000000^(n+2):=by rw[Nat.pow_succ 1000000000 (n+1)];exact Nat.mul_comm _ _
  rw[h4] at h3
  rw[h10] at h9
  exact Nat.lt_of_lt_of_le h3 h9
 have hVl:(aC 1000000000 (b*s)).length=n+2:=by
  have h2:=mB (b:=1000000000) (by decide) alZ
  have h3:b≤b*s:=Nat.le_mul_of_pos_right b QJ
  have h4:=dX (b:=1000000000) (by decide) h3
  omega
 have hAl:(aC 1000000000 (a*s)).length≤N:=by
  have h2:=PL (b:=1000000000) (by decide) a s
  have h3:(aC 1000000000 s).length≤1:=mB (by decide) (by rw[Nat.pow_one];exact hsT)
  omega
 have cp:=aoH hAl
 obtain⟨m,hm⟩:∃m,m+(n+2)=N:=⟨N-(n+2),by omega⟩
 have wm:IntKind.i64.wrap ((N:Int)-((n+2:Nat):Int))=(m:Int):=wrapN _ (by omega) (by omega)
 have wm1:IntKind.i64.wrap ((m:Int)-1)=(m:Int)-1:=wrap64 (by omega) (by omega)
 obtain⟨D7,agY⟩:∃D7,D7=aC 1000000000 (a*s)++List.replicate (N-(aC 1000000000 (a*s)).length) 0:=⟨_,rfl⟩
 rw[←agY] at cp
 have mkm:An [.int .i64 0] 8 (VI (m:Int)) (VI (m:Int)) [.row 0 (D7.map tV) 1 true]=some (.ref 1 0 0 m m,[.row 0 (D7.map tV) 1 true]++[.row 0 ((List.replicate m 0).map tV) 1 true]):=tZ (f:=tV) (x:=0) (H:=[.row 0 (D7.map tV) 1 true]) rfl (by omega) (by omega)
 have lN:∀K,aH K 0 0=some (D7.map tV,1,true)→oK (.ref 0 0 0 N N) K=some (VI (N:Int)):=fun K h=>fL h
 have l1:=lN [.row 0 (D7.map tV) 1 true] rfl
 have l2:=lN (H2 D7 (List.replicate m 0)) rfl
 have ajM:D7.length=N:=by rw[agY,List.length_append,List.length_replicate];omega
 have aqN:∀d∈D7,d<1000000000:=fun d hd=>by
  rw[agY] at hd
  rcases List.mem_append.1 hd with h | h
  ·exact fE (by decide) _ d h
  ·rw[List.eq_of_mem_replicate h];decide
 have amH:val 1000000000 D7=a*s:=by rw[agY,xO,qW,Nat.mul_zero,Nat.add_zero,cJ (by decide)]
 generalize Qd:aC 1000000000 (b*s)=vs at *
 have Gs:∀d∈vs,d<1000000000:=by rw[←Qd];exact fE (by decide) _
 have Ng:val 1000000000 vs=b*s:=by rw[←Qd];exact cJ (by decide) _
 have lV:∀H,oK (bY (b*s)) H=some (VI ((n+2:Nat):Int)):=fun H=>by rw[cN,Qd,hVl]
 obtain⟨v1,f1⟩:∃v1,vs[n+1]? = some v1:=⟨_,List.getElem?_eq_getElem (by omega)⟩
 obtain⟨v0,f0⟩:∃v0,vs[n]? = some v0:=⟨_,List.getElem?_eq_getElem (by omega)⟩
 have hv1:1≤v1:=by
  obtain⟨d,hd,Ds,_⟩:=Hw (a:=b*s) (n:=n+1) (by rw[Qd];exact hVl)
  rw[Qd,f1] at hd
  cases hd
  omega
 have B1:val 1000000000 (D7.drop m)<val 1000000000 vs:=by
  have h2:=pA (b:=1000000000) D7 m
  rw[List.length_take,ajM,Nat.min_eq_left (by omega),amH] at h2
  have h3:a<b*1000000000^m:=by
   have y1:=gL (b:=1000000000) (by decide) a
   have y2:=J3 (b:=1000000000) (by decide) hb
   rw[hn] at y2
   have y3:1000000000^(n+2-1)*1000000000^m≤b*1000000000^m:=Nat.mul_le_mul_right _ y2
   rw[←Nat.pow_add,show n+2-1+m=(aC 1000000000 a).length by omega] at y3
   exact Nat.lt_of_lt_of_le y1 y3
  have h4:a*s<b*1000000000^m*s:=Nat.mul_lt_mul_of_pos_right h3 QJ
  have h5:b*1000000000^m*s=1000000000^m*(b*s):=by grind
  rw[Ng]
  have h6:1000000000^m*val 1000000000 (D7.drop m)<1000000000^m*(b*s):=by
   rw[←h5]
   exact Nat.lt_of_le_of_lt (by rw[h2];exact Nat.le_add_left _ _) h4
  exact Nat.lt_of_mul_lt_mul_left h6
 have body:VW ⟨true,false⟩ 0 (.loop iK)=VW ⟨true,false⟩ 0 (.loop iK):=rfl
 have tail:∀(us os:List Nat),us.length=N→(∀d∈us,d<1000000000)→os.length=m→(∀d∈os,d<1000000000)→val 1000000000 us+val 1000000000 vs*val 1000000000 os=a*s→val 1000000000 us<val 1000000000 vs →
   (∀lo K,cQ 184 [.ref 0 0 0 N N] lo (H2 us os) K=K (bY (a % b*s)) (dB (H2 us os) [0])) ∧
   (∀lo K,cQ 184 [.ref 1 0 0 m m] lo (dB (H2 us os) [0]) K=K (bY (a / b)) (dB (dB (H2 us os) [0]) [1]))∧TC 202 [bY (a % b*s),VI (s:Int)] (.eX [bY (a % b),VI ((a % b*s % s:Nat):Int)]):=by
  intro us os Qh IX jM lH hv bH
  rw[Ng] at hv bH
  have hq:val 1000000000 os=a / b:=by
   rw[←Nat.mul_div_mul_right a b QJ,←hv,Nat.add_mul_div_left _ _ (Nat.lt_of_le_of_lt (Nat.zero_le _) bH),Nat.div_eq_of_lt bH,Nat.zero_add]
  have hr:val 1000000000 us=a % b*s:=by
   rw[←Nat.mul_mod_mul_right,←hv,Nat.add_mul_mod_self_left,Nat.mod_eq_of_lt bH]
  refine⟨fun lo K => ?_,fun lo K => ?_,?_⟩
  ·have h:=sR us IX (by omega)
   rw[hr] at h
   exact TC.aeX (f:=tV) h Td Qh.symm (Nat.le_refl _) Fe (fun _=>rfl) rfl rfl lo K
  ·have h:=sR os lH (by omega)
   rw[hq] at h
   have kD:aH (dB (H2 us os) [0]) 1 0=some (os.map tV,1,true):=rfl
   exact TC.aeX (f:=tV) h kD jM.symm (Nat.le_refl _) Fe (fun _=>rfl) rfl rfl lo K
  ·have h:=yK (a % b*s) s QJ hsT (by
    have h2:=dX (b:=1000000000) (by decide) (Nat.le_trans (Nat.le_of_lt bH) (show b*s≤b*s from Nat.le_refl _))
    rw[hr,Qd] at h2
    omega)
   rwa [Nat.mul_div_cancel _ QJ] at h
 clear body
 have nV:bY (b*s)=iA vs:=by rw[bY,Qd]
 cases t1 with
 |
  false =>
  simp only[fD,dN,s1,s2,c1,FA,cN,hn,XO,w0,w1,q0,et,wN,mkN,c3,c4,cp,lV,l1,l2,wm,wm1,mkm,List.cons_append,List.nil_append,VX,Nat.reduceEqDiff,Nat.reduceAdd]
  refine NT (D7:=D7) (Yr:=List.replicate m 0) (vs:=vs) (N:=N) (m:=m) (n:=n) (A:=a*s) (s:=s) ajM hm (by omega) aqN hVl Gs f1 f0 hv1 amH B1 (by simp) (Af (by decide) _) (by rfl) (by rfl) (by simp only[VX,Nat.reduceEqDiff,Nat.reduceAdd];exact nV) (by rfl) (by rfl) (by rfl) ?_
  intro wO us os r12 r13 r16 Qh IX jM lH hv bH
  obtain⟨x1,x2,x3⟩:=tail us os Qh IX jM lH hv bH
  simp only[r12,r13,r16,x1,x2,x3,VX,Nat.reduceEqDiff,Nat.reduceAdd]
  exact fin
 |
  true =>
  rw[ht rfl] at s2
  simp only[fD,dN,s1,s2,c1,FA,cN,hn,XO,w0,w1,q0,et,wN,mkN,c3,c4,cp,lV,l1,l2,wm,wm1,mkm,List.cons_append,List.nil_append,VX,Nat.reduceEqDiff,Nat.reduceAdd]
  refine NT (D7:=D7) (Yr:=List.replicate m 0) (vs:=vs) (N:=N) (m:=m) (n:=n) (A:=a*s) (s:=s) ajM hm (by omega) aqN hVl Gs f1 f0 hv1 amH B1 (by simp) (Af (by decide) _) (by rfl) (by rfl) (by simp only[VX,Nat.reduceEqDiff,Nat.reduceAdd];exact nV) (by rfl) (by rfl) (by rfl) ?_
  intro wO us os r12 r13 r16 Qh IX jM lH hv bH
  obtain⟨x1,x2,x3⟩:=tail us os Qh IX jM lH hv bH
  simp only[r12,r13,r16,x1,x2,x3,VX,Nat.reduceEqDiff,Nat.reduceAdd]
  exact fin
end Go.PM
namespace Go.PM
theorem dF (n:Nat) {H:aA}:oK (bN n) H=some (VI (aC 4294967296 n).length):=dV
theorem wG {n:Nat}:(0:Int)<((aC 4294967296 n).length:Int)↔n≠0:=by
 constructor
 ·intro h h0
  subst h0
  rw[cB] at h
  simp at h
 ·intro h
  have:=(lL (b:=4294967296) (by decide) (n:=n))
  have h2:aC 4294967296 n≠[]:=fun hx=>h (this.1 hx)
  have:=List.length_pos_iff.2 h2
  omega
theorem RX {n:Nat} (h:(aC 4294967296 n).length≤2):n<18446744073709551616:=by
 have h1:=gL (b:=4294967296) (by decide) n
 have h2:4294967296^(aC 4294967296 n).length≤4294967296^2:=Nat.pow_le_pow_right (by decide) h
 omega
theorem CH (a b:Nat) (ha:(aC 4294967296 a).length≤17592186044416) (hb:(aC 4294967296 b).length≤17592186044416):TC 175 [bN a,bN b] (bN (Nat.gcd a b)):=by
 refine TC.walk ⟨true,false⟩ HP rfl (Nat.le_of_ble_eq_true rfl) (by simp[aM,bR]) (qF _) ?_
 simp only[CE,AD,VX,Nat.reduceEqDiff,Nat.reduceAdd]
 refine aT (fun(t:Nat×Nat) ρ H=>H=[]∧Nat.gcd t.1 t.2=Nat.gcd a b∧(aC 4294967296 t.1).length≤17592186044416∧(aC 4294967296 t.2).length≤17592186044416∧ρ 0=bN t.1∧ρ 1=bN t.2) (fun t=>t.2) (a,b) ⟨rfl,rfl,ha,hb,rfl,rfl⟩ ?_
 rintro⟨x,y⟩ ρ H ⟨rfl,hg,hx,hy,g0,g1⟩
 simp only at hg hx hy g0 g1
 have c1:=Ar x hx
 have c2:=Ar y hy
 by_cases hy0:y=0
 ·subst hy0
  have hl:¬(0:Int)<((aC 4294967296 0).length:Int):=by rw[wG];omega
  rw[Nat.gcd_zero_right] at hg
  simp only[iI,g0,g1,dF,hl,VX,Nat.reduceEqDiff,Nat.reduceAdd]
  rw[hg]
  exact aI (bR _)
 have hl:(0:Int)<((aC 4294967296 y).length:Int):=wG.2 hy0
 by_cases h1:(aC 4294967296 x).length≤2∧(aC 4294967296 y).length≤2
 ·rw[if_pos h1.1] at c1
  rw[if_pos h1.2] at c2
  simp only[iI,g0,g1,dF,hl,c1,c2,VX,Nat.reduceEqDiff,Nat.reduceAdd]
  refine aT (fun(t:Nat×Nat) ρ H=>H=[]∧Nat.gcd t.1 t.2=Nat.gcd a b∧t.1<18446744073709551616∧t.2<18446744073709551616∧ρ 5=VK .u64 t.1∧ρ 7=VK .u64 t.2) (fun t=>t.2) (x,y) ⟨rfl,hg,RX h1.1,RX h1.2,rfl,rfl⟩ ?_
  rintro⟨u,v⟩ NA H ⟨rfl,hg2,hu,hv,k5,k7⟩
  simp only at hg2 hu hv k5 k7
  by_cases hv0:v=0
  ·subst hv0
   rw[Nat.gcd_zero_right] at hg2
   have hz:¬(0:Int)<((0:Nat):Int):=by omega
   have c3:=mV u hu
   simp only[sH,k5,k7,hz,c3,VX,Nat.reduceEqDiff,Nat.reduceAdd]
   rw[hg2]
   exact aI (bR _)
  ·have hz:(0:Int)<(v:Int):=by omega
   have r1:=P0 u v (by omega)
   simp only[sH,k5,k7,hz,r1,VX,Nat.reduceEqDiff,Nat.reduceAdd]
   refine⟨(v,u % v),?_,?_,hv,?_,rfl,rfl⟩
   ·exact Nat.mod_lt _ (by omega)
   ·simp only
    rw[←hg2,Nat.gcd_comm u v,Nat.gcd_rec v u,Nat.gcd_comm]
   ·simp only
    have:=Nat.mod_lt u (show 0<v by omega)
    omega
 ·have c3:=yE x y hy0 hx hy
  have next:∃s':Nat×Nat,s'.2<y∧Nat.gcd s'.1 s'.2=Nat.gcd a b∧(aC 4294967296 s'.1).length≤17592186044416∧(aC 4294967296 s'.2).length≤17592186044416∧bN y=bN s'.1∧bN (x % y)=bN s'.2:=by
   have hm:=Nat.mod_lt x (show 0<y by omega)
   refine⟨(y,x % y),hm,?_,hy,?_,rfl,rfl⟩
   ·simp only
    rw[←hg,Nat.gcd_comm x y,Nat.gcd_rec y x,Nat.gcd_comm]
   ·simp only
    have:=dX (b:=4294967296) (by decide) (Nat.le_of_lt hm)
    omega
  by_cases h2:(aC 4294967296 x).length≤2
  ·have h3:¬(aC 4294967296 y).length≤2:=fun h=>h1 ⟨h2,h⟩
   rw[if_pos h2] at c1
   rw[if_neg h3] at c2
   simp only[iI,g0,g1,dF,hl,c1,c2,c3,VX,Nat.reduceEqDiff,Nat.reduceAdd]
   exact next
  ·rw[if_neg h2] at c1
   by_cases h3:(aC 4294967296 y).length≤2
   ·rw[if_pos h3] at c2
    simp only[iI,g0,g1,dF,hl,c1,c2,c3,VX,Nat.reduceEqDiff,Nat.reduceAdd]
    exact next
   ·rw[if_neg h3] at c2
    simp only[iI,g0,g1,dF,hl,c1,c2,c3,VX,Nat.reduceEqDiff,Nat.reduceAdd]
    exact next
end Go.PM
namespace Go.PM
open Go.Lib
theorem qP (a b:List UInt8) (h:a.length+b.length≤9223372036854775807):dH .add (.string ⟨a.toArray⟩) (.string ⟨b.toArray⟩)=some (.string ⟨(a++b).toArray⟩):=by
 have h1:(⟨a.toArray⟩:ByteArray).size=a.length:=by simp[ByteArray.size]
 have h2:(⟨b.toArray⟩:ByteArray).size=b.length:=by simp[ByteArray.size]
 have h3:¬(((⟨a.toArray⟩:ByteArray).size+(⟨b.toArray⟩:ByteArray).size:Nat):Int)>IntKind.i64.max:=by
  rw[h1,h2]
  show ¬_>(9223372036854775807:Int)
  omega
 simp only[dH,h3,if_false]
 congr 2
theorem bM (a:List UInt8):zN (.string ⟨a.toArray⟩)=some (.int .i64 (a.length:Int)):=by simp[zN,ByteArray.size]
theorem agR:∀a:List UInt8,(aB (bB a)).length=1:=fun _=>rfl
theorem WC {xs:List (List UInt8)} {H:aA} {lo b g n:Nat} (hr:aH H b g=some (xs.map bB,1,true)) (hn:xs.length=n) (dL:lo≤b) (CD:n≤9223372036854775806) :
  gQ 216 [.ref b g 0 n n] lo H fun r H'=>r = .eX []∧H'=H.set b (.row g (xs.reverse.map bB) 1 true):=by
 refine gQ.walk ⟨true,false⟩ rJ (Nat.le_of_ble_eq_true rfl) ?_
 have e0:oK (.ref b g 0 n n) H=some (VI n):=fL hr
 have w0:IntKind.i64.wrap ((n:Int)-1)=(n:Int)-1:=wrap64 (by omega) (by omega)
 simp only[lG,kE,e0,w0,VX,Nat.reduceEqDiff,Nat.reduceAdd]
 refine aT (fun(t:Nat×List (List UInt8)) ρ K=>t.1≤n∧K=H.set b (.row g (t.2.map bB) 1 true)∧t.2.length=n∧(∀k,k<n→t.2[k]? = if k<t.1∨n≤k+t.1 then xs[n-1-k]? else xs[k]?)∧ρ 0 = .ref b g 0 n n∧ρ 2=VI t.1∧ρ 3=VI ((n:Int)-1-(t.1:Int))) (fun t=>n-t.1) (0,xs) ⟨Nat.zero_le _,(vX hr).symm,hn,fun k hk=>by rw[if_neg (by simp only;omega)],rfl,rfl,by show VI ((n:Int)-1)=VI ((n:Int)-1-((0:Nat):Int));rw[Int.natCast_zero,Int.sub_zero]⟩ ?_
 rintro⟨i,ys⟩ ρ K ⟨hi,rfl,hl,hy,g0,g2,g3⟩
 simp only at hi hl hy g2 g3
 have hr2:aH (H.set b (.row g (ys.map bB) 1 true)) b g=some (ys.map bB,1,true):=nK hr
 by_cases dA:(i:Int)<(n:Int)-1-(i:Int)
 ·have hj:(n:Int)-1-(i:Int)=((n-1-i:Nat):Int):=by omega
  obtain⟨x,hx⟩:∃x,ys[i]? = some x:=⟨_,List.getElem?_eq_getElem (by omega)⟩
  obtain⟨y,hyy⟩:∃y,ys[n-1-i]? = some y:=⟨_,List.getElem?_eq_getElem (by omega)⟩
  rw[hj] at g3 dA
  have a1:∀(zs:List (List UInt8)) (k:Nat),zs.length=n→k<n→bK 1 (.ref b g 0 n n) (VI (k:Int)) (H.set b (.row g (zs.map bB) 1 true))=some (.ptr b g k 0):=fun zs k h1 h2=>by rw[bD (nK hr) h2,Nat.zero_add]
  have l1:cE false 1 (.ptr b g (n-1-i) 0) (H.set b (.row g (ys.map bB) 1 true))=some (bB y):=pD hr2 hyy
  have l2:cE false 1 (.ptr b g i 0) (H.set b (.row g (ys.map bB) 1 true))=some (bB x):=pD hr2 hx
  have s1:bQ lo 1 (.ptr b g i 0) (bB y) (H.set b (.row g (ys.map bB) 1 true))=some (H.set b (.row g ((ys.set i y).map bB) 1 true)):=by rw[fJ (f:=bB) (e:=1) hr2 (by omega) dL rfl rfl,mA]
  have s2:bQ lo 1 (.ptr b g (n-1-i) 0) (bB x) (H.set b (.row g ((ys.set i y).map bB) 1 true))=some (H.set b (.row g (((ys.set i y).set (n-1-i) x).map bB) 1 true)):=by rw[fJ (f:=bB) (e:=1) (nK hr) (by rw[List.length_set];omega) dL rfl rfl,mA]
  have w1:IntKind.i64.wrap ((i:Int)+1)=((i+1:Nat):Int):=wrapN _ (by omega) (by omega)
  have w2:IntKind.i64.wrap (((n-1-i:Nat):Int)-1)=(n:Int)-1-((i+1:Nat):Int):=by rw[wrap64 (by omega) (by omega)];omega
  have b1:=a1 ys i hl (by omega)
  have b2:=a1 ys (n-1-i) hl (by omega)
  have b3:=a1 (ys.set i y) (n-1-i) (by rw[List.length_set];exact hl) (by omega)
  simp only[fI,g0,g2,g3,dA,b1,b2,b3,l1,l2,s1,s2,w1,w2,VX,Nat.reduceEqDiff,Nat.reduceAdd]
  refine⟨(i+1,(ys.set i y).set (n-1-i) x),by simp only;omega,by simp only;omega,rfl,by simp only[List.length_set];exact hl,fun k hk => ?_,by (repeat' apply And.intro)<;>first | rfl | trivial⟩
  simp only
  have hxx:=hy i (by omega)
  rw[if_neg (by omega),hx] at hxx
  have hyx:=hy (n-1-i) (by omega)
  rw[if_neg (by omega),hyy] at hyx
  rw[List.getElem?_set,List.getElem?_set,List.length_set]
  by_cases h1:n-1-i=k
  ·subst h1
   rw[if_pos rfl,if_pos (by omega),if_pos (by omega),show n-1-(n-1-i)=i by omega]
   exact hxx
  ·rw[if_neg h1]
   by_cases h2:i=k
   ·subst h2
    rw[if_pos rfl,if_pos (by omega),if_pos (by omega)]
    exact hyx
   ·rw[if_neg h2,hy k hk]
    by_cases h3:k<i∨n≤k+i
    ·rw[if_pos h3,if_pos (by omega)]
    ·rw[if_neg h3,if_neg (by omega)]
 ·have atT:ys=xs.reverse:=by
   apply List.ext_getElem?
   intro k
   rcases Nat.lt_or_ge k n with h | h
   ·rw[hy k h,List.getElem?_reverse (by omega),hn]
    split
    ·rfl
    ·rw[show n-1-k=k by omega]
   ·rw[List.getElem?_eq_none (by omega),List.getElem?_eq_none (by rw[List.length_reverse];omega)]
  subst atT
  simp only[fI,g0,g2,g3,dA,VX,Nat.reduceEqDiff,Nat.reduceAdd]
  try exact⟨rfl,rfl⟩
theorem Ye (n:Nat):(aC 1000000000 n).length≤2*(aC 4294967296 n).length:=by
 refine mB (by decide) ?_
 have h1:=gL (b:=4294967296) (by decide) n
 have h2:4294967296^(aC 4294967296 n).length≤(1000000000^2)^(aC 4294967296 n).length:=Nat.pow_le_pow_left (by decide) _
 rw[←Nat.pow_mul] at h2
 omega
theorem agS {n:Nat} (hn:n≠0):(decDigits n).length≤9*(aC 1000000000 n).length:=by
 have h1:=gL (b:=1000000000) (by decide) n
 have h3:(aC 1000000000 n)≠[]:=fun h=>hn ((lL (by decide)).1 h)
 have h4:=List.length_pos_iff.2 h3
 generalize (aC 1000000000 n).length=L at *
 obtain⟨k,hk⟩:∃k,9*L=k+1:=⟨9*L-1,by omega⟩
 have h5:(1000000000:Nat)^L=10^(9*L):=by rw[show (1000000000:Nat)=10^9 by decide,←Nat.pow_mul]
 rw[h5,hk] at h1
 rw[hk]
 exact yH n k h1
def lQ (q:Nat):List UInt8:=if q=0 then [] else decDigits q
theorem B5 (n:Nat) (hn:(aC 4294967296 n).length≤68719476736):TC 196 [bN n] (bB (decDigits n)):=by
 refine TC.walk ⟨true,false⟩ GO rfl (Nat.le_of_ble_eq_true rfl) (by simp[aM,bR]) rfl ?_
 by_cases h0:n=0
 ·subst h0
  have hl:(((aC 4294967296 0).length:Nat):Int)=0:=by rw[cB];rfl
  simp only[vD,sE,dF,hl,VX,Nat.reduceEqDiff,Nat.reduceAdd]
  rw[iL (by decide)]
  exact aI rfl
 have hl:¬(((aC 4294967296 n).length:Nat):Int)=0:=by have:=wG.2 h0;omega
 have e1:∀lr,jQ lr [.string ⟨#[]⟩] 0 [] []=some (.ref 0 0 0 0 0,[.row 0 (([]:List (List UInt8)).map bB) 1 true]):=fun lr=>iC (H:=[]) (lr:=lr) (z:=[.string ⟨#[]⟩]) rfl
 have hTn:=Ye n
 have hdl:=agS h0
 simp only[vD,sE,dF,hl,e1,VX,Nat.reduceEqDiff,Nat.reduceAdd]
 refine aT (fun(t:Nat×List (List UInt8)) ρ H=>H=[.row t.2.length (t.2.map bB) 1 true]∧t.1≤n∧t.2.length+(aC 1000000000 t.1).length=(aC 1000000000 n).length∧decDigits n=lQ t.1++t.2.reverse.flatten∧ρ 0=bN t.1∧ρ 3 = .ref 0 t.2.length 0 t.2.length t.2.length) (fun t=>t.1) (n,[]) ⟨rfl,Nat.le_refl _,by simp,by simp[lQ,h0],rfl,rfl⟩ ?_
 rintro⟨q,ps⟩ ρ H ⟨rfl,hq,hlen,XY,g0,g3⟩
 simp only at hq hlen XY g0 g3
 by_cases Qe:q=0
 ·subst Qe
  have hz:¬(0:Int)<((aC 4294967296 0).length:Int):=by rw[wG];omega
  rw[lQ,if_pos rfl,List.nil_append] at XY
  have hr:aH [.row ps.length (ps.map bB) 1 true] 0 ps.length=some (ps.map bB,1,true):=aS
  simp only[mJ,g0,g3,dF,hz,VX,Nat.reduceEqDiff,Nat.reduceAdd]
  refine gJ rfl ((WC hr rfl (Nat.le_refl _) (by omega)).mono ?_)
  rintro r H' ⟨rfl,rfl⟩
  have Ie:([.row ps.length (ps.map bB) 1 true]:aA).set 0 (.row ps.length (ps.reverse.map bB) 1 true)=[.row ps.length (ps.reverse.map bB) 1 true]:=rfl
  have hr2:aH [.row ps.length (ps.reverse.map bB) 1 true] 0 ps.length=some (ps.reverse.map bB,1,true):=aS
  have hfl:ps.reverse.flatten.length≤140737488355328:=by rw[←XY];omega
  have cj:=(akZ ps.reverse (by rw[List.length_reverse];omega) hfl).flat (H:=[.row ps.length (ps.reverse.map bB) 1 true]) (args:=[.ref 0 ps.length 0 ps.length ps.length,bB []]) rfl (by simp only[aM,nH (f:=bB) agR (fun _=>rfl),Bool.and_true];rfl) (fz2 (Kn hr2 (by simp) (Nat.le_refl _) (gN fun _=>rfl)) (aI rfl)) rfl
  simp only[Ie,g3,cj,VX,Nat.reduceEqDiff,Nat.reduceAdd]
  rw[←XY]
  exact aI rfl
 ·have hz:(0:Int)<((aC 4294967296 q).length:Int):=wG.2 Qe
  have hql:=dX (b:=4294967296) (by decide) hq
  have c1:TC 197 [bN q,.sc (.int .u32 1000000000)] (.eX [bN (q / 1000000000),uV (q % 1000000000)]):=vS q 1000000000 (by decide) (by decide) (by omega)
  have hm:=Nat.mod_lt q (show 0<1000000000 by decide)
  have c2:=akA (q % 1000000000) (by omega)
  have wm:IntKind.u64.wrap ((q % 1000000000:Nat):Int)=((q % 1000000000:Nat):Int):=dW _ (by omega)
  have hdq:=jA (b:=1000000000) (by decide) Qe
  have aCs:(aC 1000000000 q).length=(aC 1000000000 (q / 1000000000)).length+1:=by rw[hdq];rfl
  have Ya:=yH (q % 1000000000) 8 hm
  have hqq:=Nat.mod_add_div q 1000000000
  have e2:∀x:List UInt8,jQ false [.string ⟨#[]⟩] 1 [(0,bB x)] [.row ps.length (ps.map bB) 1 true]=some (.tree [bB x] (.cl 1),[.row ps.length (ps.map bB) 1 true]):=fun x=>gD (z:=[.string ⟨#[]⟩]) rfl rfl rfl
  have e3:∀x:List UInt8,cT 1 (.tree [bB x] (.cl 1)) [.row ps.length (ps.map bB) 1 true]=some [bB x]:=fun x=>dQ rfl rfl
  have e4:∀x:List UInt8,eJ 0 1 16 (.ref 0 ps.length 0 ps.length ps.length) [bB x] [.row ps.length (ps.map bB) 1 true]=some (.ref 0 (ps.length+1) 0 (ps.length+1) (ps.length+1),[.row (ps.length+1) ((ps++[x]).map bB) 1 true]):=fun x=>by
   rw[iG (f:=bB) (x:=x) aS rfl (Nat.le_refl _) (by decide) (by decide) (by omega)]
   rfl
  have hle:q / 1000000000<q:=Nat.div_lt_self (by omega) (by decide)
  by_cases hqz:q / 1000000000=0
  ·have SX:¬(0:Int)<((aC 4294967296 (q / 1000000000)).length:Int):=by rw[wG];omega
   simp only[mJ,g0,g3,dF,hz,c1,c2,wm,SX,e2,e3,e4,VX,Nat.reduceEqDiff,Nat.reduceAdd]
   refine⟨(q / 1000000000,ps++[decDigits (q % 1000000000)]),hle,by simp,by simp only;omega,by simp only[List.length_append,List.length_singleton];omega,?_,rfl,by simp⟩
   rw[XY,lQ,if_neg Qe,lQ,if_pos hqz,List.reverse_append,List.nil_append,List.reverse_singleton,List.singleton_append,List.flatten_cons,show q % 1000000000=q by omega]
  ·have SX:(0:Int)<((aC 4294967296 (q / 1000000000)).length:Int):=wG.2 hqz
   have ws:IntKind.i64.wrap ((9:Int)-((decDigits (q % 1000000000)).length:Int))=((9-(decDigits (q % 1000000000)).length:Nat):Int):=wrapN _ (by omega) (by omega)
   have c3:=YJ [48] (9-(decDigits (q % 1000000000)).length) (by simp;omega) (by omega)
   have acG:repeatL [48] (9-(decDigits (q % 1000000000)).length)++decDigits (q % 1000000000)=Cp 9 (q % 1000000000):=by
    rw[amI 8 _ hm]
    congr 1
    have:=repeatL_replicate 48 1 (9-(decDigits (q % 1000000000)).length)
    rw[Nat.mul_one] at this
    exact this
   have c4:=qP (repeatL [48] (9-(decDigits (q % 1000000000)).length)) (decDigits (q % 1000000000)) (by rw[←List.length_append,acG,aeH];decide)
   rw[acG] at c4
   simp only[mJ,g0,g3,dF,hz,c1,c2,wm,SX,bM,ws,c3,c4,e2,e3,e4,VX,Nat.reduceEqDiff,Nat.reduceAdd]
   refine⟨(q / 1000000000,ps++[Cp 9 (q % 1000000000)]),hle,by simp,by simp only;omega,by simp only[List.length_append,List.length_singleton];omega,?_,rfl,by simp⟩
   rw[XY,lQ,if_neg Qe,lQ,if_neg hqz,List.reverse_append,List.reverse_singleton,List.singleton_append,List.flatten_cons,←List.append_assoc,←Hz (by omega) hm]
   congr 2
   omega
end Go.PM