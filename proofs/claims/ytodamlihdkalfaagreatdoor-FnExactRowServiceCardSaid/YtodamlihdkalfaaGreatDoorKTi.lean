/- Texts of a claim, in one: part 9. -/
import Derived.Lib.Bytealg
import Derived.Lib.ParseIntB
import Derived.Test.YtodamlihdkalfaaGreatDoorKTh
set_option linter.unusedSimpArgs false
set_option linter.unusedVariables false
namespace Go.PM
abbrev H2 (us os:List Nat):aA:=[.row 0 (us.map tV) 1 true,.row 0 (os.map tV) 1 true]
theorem Rc {us os:List Nat}:aF (H2 us os) 0 0=some (us.map tV,1,true):=rfl
theorem alY {us os:List Nat}:aF (H2 us os) 1 0=some (os.map tV,1,true):=rfl
theorem aaA {P a Z:Nat} {y:Int} (h:(a:Int)+(P:Int)*y=(Z:Int)) (ha:a<P) (hZ:Z<P):y=0∧a=Z:=by
 have hy:y=0:=by
  rcases Int.lt_trichotomy y 0 with h1 | h1 | h1
  ·have:(P:Int)*y≤(P:Int)*(-1):=Int.mul_le_mul_of_nonneg_left (by omega) (by omega)
   omega
  ·exact h1
  ·have:(P:Int)*1≤(P:Int)*y:=Int.mul_le_mul_of_nonneg_left (by omega) (by omega)
   omega
 subst hy
 rw[Int.mul_zero] at h
 exact⟨rfl,by omega⟩
theorem Ry {us:List Nat} {i n N V:Nat} (hN:us.length=N) (dD:i+n<N) (hd:∀d∈us,d<1000000000) (hV:V<1000000000^n) (AS:val 1000000000 (us.drop (i+1))<V) :
  us=us.take i++(us.drop i).take (n+1)++us.drop (i+(n+1))∧(us.take i).length=i∧((us.drop i).take (n+1)).length=n+1∧val 1000000000 ((us.drop i).take (n+1))<1000000000*V∧val 1000000000 (us.drop i)=val 1000000000 ((us.drop i).take (n+1))∧val 1000000000 (us.drop (i+(n+1)))=0∧∀j,j<n+1→((us.drop i).take (n+1))[j]? = us[i+j]? := by
 obtain⟨x,hx⟩:∃x,us[i]? = some x:=⟨_,List.getElem?_eq_getElem (by omega)⟩
 have lx:=hd x (List.mem_of_getElem? hx)
 have h1:=qE (b:=1000000000) hx
 have h2:val 1000000000 (us.drop i)<1000000000*V:=by
  have:1000000000*(val 1000000000 (us.drop (i+1))+1)≤1000000000*V:=Nat.mul_le_mul_left _ AS
  omega
 have h3:=nL (b:=1000000000) (us.drop i) (n+1)
 have h4:((us.drop i).take (n+1)).length=n+1:=by rw[List.length_take,List.length_drop];omega
 rw[h4,List.drop_drop] at h3
 have h5:val 1000000000 (us.drop (i+(n+1)))=0:=by
  rcases Nat.eq_zero_or_pos (val 1000000000 (us.drop (i+(n+1)))) with h | h
  ·exact h
  ·have h6:1000000000^(n+1)*1≤1000000000^(n+1)*val 1000000000 (us.drop (i+(n+1))):=Nat.mul_le_mul_left _ h
   have h7:1000000000*V≤1000000000^(n+1):=by rw[Nat.pow_succ,Nat.mul_comm];exact Nat.mul_le_mul_right _ (by omega)
   omega
 rw[h5,Nat.mul_zero,Nat.add_zero] at h3
 refine⟨?_,by rw[List.length_take];omega,h4,by omega,h3,h5,fun j hj => ?_⟩
 ·rw[List.append_assoc,←List.drop_drop,List.take_append_drop,List.take_append_drop]
 ·rw[List.getElem?_take_of_lt hj,List.getElem?_drop]
theorem leT {g:Nat} (h:(1000000000:Int)≤(g:Int)):1000000000≤g:=by omega
theorem WG {g:Nat} (h:¬(1000000000:Int)≤(g:Int)):g<1000000000:=by omega
theorem ltC {a b:Nat} (h:(a:Int)<(b:Int)):a<b:=by omega
theorem apZ {a b:Nat} (h:¬(a:Int)<(b:Int)):b≤a:=by omega
theorem Ll {a:Nat} (h:a*1000000000≤9223372036854775807):IntKind.i64.wrap ((a:Int)*1000000000)=((a*1000000000:Nat):Int):=wrapN _ (by omega) h
theorem Lb {a b:Nat} (h:a+b≤9223372036854775807):IntKind.i64.wrap ((a:Int)+(b:Int))=((a+b:Nat):Int):=wrapN _ (by omega) h
theorem U0 {a b:Nat} (h:a*b≤9223372036854775807):IntKind.i64.wrap ((a:Int)*(b:Int))=((a*b:Nat):Int):=wrapN _ (by simp) h
theorem x17 {a:Nat} (h:a<1000000000):a*1000000000≤9223372036854775807:=by omega
theorem x18 {a b:Nat} (h:a<1000000000) (hb:b<1000000000):a*1000000000+b≤1000000000000000000:=by omega
theorem PU {gJ vs us os:List Nat} {n u2 u1 u0 v1 v0 N i g left:Nat} (G:tI 1000000000 gJ vs n u2 u1 u0 v1 v0) {ρ:dI} {Q:VQ} (hN:us.length=N) (hiN:i+(n+2)<N) (Ce:N≤70368744177664) (hu0:us[i+n]? = some u0)
  (g13:ρ 13 = .ref 0 0 0 N N) (g14:ρ 14=jD vs) (g15:ρ 15=VI ((n+2:Nat):Int)) (g17:ρ 17=VI i) (g19:ρ 19=VI g) (g20:ρ 20=VI left) (hh:u2*1000000000+u1=g*v1+left) (hq:val 1000000000 gJ / val 1000000000 vs≤g) (hl:left<1000000000) (hgb:g≤1000000000000000000)
  (hQ:∀(aS:dI) (g':Nat),val 1000000000 gJ / val 1000000000 vs≤g'→g'≤val 1000000000 gJ / val 1000000000 vs+1→g'<1000000000→aS 19=VI g'→aS 12=ρ 12→aS 13=ρ 13→aS 14=ρ 14→aS 15=ρ 15→aS 16=ρ 16→aS 17=ρ 17→Q (.exit 2) aS (H2 us os)) :
  VW ⟨true,false⟩ 0 (.loop fK) Q ρ (H2 us os):=by
 have lv1:=G.S5
 have lv0:=G.YB
 have lu0:=G.acY
 have qlt:=G.abA
 have jB:=G.pos
 have Dg:=G.IB
 refine aR (fun(t:Nat×Nat) aS H=>H=H2 us os∧u2*1000000000+u1=t.1*v1+t.2∧val 1000000000 gJ / val 1000000000 vs≤t.1∧t.2<1000000000∧t.1≤1000000000000000000 ∧
  aS 13 = .ref 0 0 0 N N∧aS 14=jD vs∧aS 15=VI ((n+2:Nat):Int)∧aS 17=VI i∧aS 19=VI t.1∧aS 20=VI t.2∧aS 12=ρ 12∧aS 16=ρ 16) (fun t=>1000000000-t.2) (g,left) ⟨rfl,hh,hq,hl,hgb,g13,g14,g15,g17,g19,g20,rfl,rfl⟩ ?_
 rintro⟨g,left⟩ Nd H ⟨rfl,hh,hq,hl,hgb,zZ,A6,Ij,Ic,Zj,k20,G2,Zi⟩
 simp only at hh hq hl hgb Zj k20
 have f1:bJ 1 (jD vs) (VI ((n+1:Nat):Int)) (H2 us os)=some (.dA (tV v1) 0):=aJ (f:=tV) (t := .op) (size:=1) (k := .i64) G.f1 rfl
 have f0:bJ 1 (jD vs) (VI (n:Int)) (H2 us os)=some (.dA (tV v0) 0):=aJ (f:=tV) (t := .op) (size:=1) (k := .i64) G.f0 rfl
 have wn2:IntKind.i64.wrap (((n+2:Nat):Int)-2)=(n:Int):=wrapN _ (by omega) (by omega)
 have wn1:IntKind.i64.wrap (((n+2:Nat):Int)-1)=((n+1:Nat):Int):=wrapN _ (by omega) (by omega)
 have wi:IntKind.i64.wrap ((i:Int)+((n+2:Nat):Int))=((i+(n+2):Nat):Int):=wrapN _ (by omega) (by omega)
 have wi2:IntKind.i64.wrap (((i+(n+2):Nat):Int)-2)=((i+n:Nat):Int):=wrapN _ (by omega) (by omega)
 have e1:bJ 1 (.ref 0 0 0 N N) (VI ((i+n:Nat):Int)) (H2 us os)=some (.ptr 0 0 (i+n) 0):=by rw[aP Rc (by omega),Nat.zero_add]
 have e2:cQ false 1 (.ptr 0 0 (i+n) 0) (H2 us os)=some (VI (u0:Int)):=Rz Rc hu0
 have wl:IntKind.i64.wrap ((left:Int)+(v1:Int))=((left+v1:Nat):Int):=wrapN _ (by omega) (by omega)
 have down:val 1000000000 gJ / val 1000000000 vs<g→∃g',g=g'+1∧IntKind.i64.wrap ((g:Int)-1)=(g':Int)∧u2*1000000000+u1=g'*v1+(left+v1)∧val 1000000000 gJ / val 1000000000 vs≤g':=by
  intro h
  have hg1:1≤g:=Nat.lt_of_le_of_lt (Nat.zero_le _) h
  obtain⟨g',rfl⟩:∃g',g=g'+1:=⟨g-1,by omega⟩
  refine⟨g',rfl,wrapN _ (by omega) (by omega),?_,by omega⟩
  rw[hh,Nat.add_mul]
  omega
 have hmu:∀g':Nat,left+v1<1000000000→1000000000-(g',left+v1).2<1000000000-(g,left).2:=fun g' h=>by
  show 1000000000-(left+v1)<1000000000-left
  omega
 have hle:∀g':Nat,g=g'+1→g'≤1000000000000000000:=fun g' h=>by
  omega
 have arT:left*1000000000+u0≤9223372036854775807:=Nat.le_trans (x18 hl lu0) (by decide)
 have asV:left*1000000000≤9223372036854775807:=x17 hl
 have ws:IntKind.i64.wrap ((left:Int)*1000000000)=((left*1000000000:Nat):Int):=Ll asV
 have wa:IntKind.i64.wrap (((left*1000000000:Nat):Int)+(u0:Int))=((left*1000000000+u0:Nat):Int):=Lb arT
 obtain⟨s13,s14,s15,s17⟩:Nd 13=ρ 13∧Nd 14=ρ 14∧Nd 15=ρ 15∧Nd 17=ρ 17:=⟨by rw[zZ,g13],by rw[A6,g14],by rw[Ij,g15],by rw[Ic,g17]⟩
 by_cases hA:(1000000000:Int)≤(g:Int)
 ·have hA':=leT hA
  obtain⟨g',P4,wg,QT,KF⟩:=down (Nat.lt_of_lt_of_le qlt hA')
  by_cases hB:(1000000000:Int)≤((left+v1:Nat):Int)
  ·obtain⟨c1,c2⟩:=G.broken QT (leT hB)
   simp only[fK,zZ,A6,Ij,Ic,Zj,k20,hA,hB,f1,wn1,wg,wl,VX,Nat.reduceEqDiff,Nat.reduceAdd]
   exact hQ _ g' KF (G.UE QT (Nat.le_of_lt c1) c2) c1 rfl G2 s13 s14 s15 Zi s17
  ·simp only[fK,zZ,A6,Ij,Ic,Zj,k20,hA,hB,f1,wn1,wg,wl,VX,Nat.reduceEqDiff,Nat.reduceAdd]
   refine⟨(g',left+v1),hmu g' (WG hB),QT,KF,WG hB,hle g' P4,?_⟩
   exact⟨rfl,rfl,G2,Zi⟩
 ·have hA':=WG hA
  have hgv:g*v0≤999999999*999999999:=Nat.mul_le_mul (Nat.le_of_lt_succ hA') (Nat.le_of_lt_succ lv0)
  have wm:IntKind.i64.wrap ((g:Int)*(v0:Int))=((g*v0:Nat):Int):=U0 (Nat.le_trans hgv (by decide))
  by_cases hT:((left*1000000000+u0:Nat):Int)<((g*v0:Nat):Int)
  ·obtain⟨g',P4,wg,QT,KF⟩:=down (G.too hh (ltC hT))
   by_cases hB:(1000000000:Int)≤((left+v1:Nat):Int)
   ·obtain⟨c1,c2⟩:=G.broken QT (leT hB)
    simp only[fK,zZ,A6,Ij,Ic,Zj,k20,hA,hB,hT,f1,f0,e1,e2,wn1,wn2,wi,wi2,ws,wa,wm,wg,wl,VX,Nat.reduceEqDiff,Nat.reduceAdd]
    exact hQ _ g' KF (G.UE QT (Nat.le_of_lt c1) c2) c1 rfl G2 s13 s14 s15 Zi s17
   ·simp only[fK,zZ,A6,Ij,Ic,Zj,k20,hA,hB,hT,f1,f0,e1,e2,wn1,wn2,wi,wi2,ws,wa,wm,wg,wl,VX,Nat.reduceEqDiff,Nat.reduceAdd]
    refine⟨(g',left+v1),hmu g' (WG hB),QT,KF,WG hB,hle g' P4,?_⟩
    exact⟨rfl,rfl,G2,Zi⟩
  ·simp only[fK,zZ,A6,Ij,Ic,Zj,k20,hA,hT,f0,e1,e2,wn2,wi,wi2,ws,wa,wm,VX,Nat.reduceEqDiff,Nat.reduceAdd]
   exact hQ _ g hq (G.UE hh (Nat.le_of_lt hA') (apZ hT)) hA' Zj G2 s13 s14 s15 Zi s17
theorem Mf {CT We vs:List Nat} {N m n v1 v0 A s:Nat} {ρ:dI} {Q:VQ} (hN:CT.length=N) (hm:m+(n+2)=N) (Ce:N≤70368744177664) (GM:∀d∈CT,d<1000000000) (Dg:vs.length=n+2) (Ev:∀d∈vs,d<1000000000) (f1:vs[n+1]? = some v1) (f0:vs[n]? = some v0) (jB:1≤v1)
  (hA:val 1000000000 CT=A) (AS:val 1000000000 (CT.drop m)<val 1000000000 vs) (jE:We.length=m) (mQ:∀d∈We,d<1000000000)
  (g12:ρ 12=VI s) (g13:ρ 13 = .ref 0 0 0 N N) (g14:ρ 14=jD vs) (g15:ρ 15=VI ((n+2:Nat):Int)) (g16:ρ 16 = .ref 1 0 0 m m) (g17:ρ 17=VI ((m:Int)-1))
  (hQ:∀(aS:dI) (us os:List Nat),aS 12=VI s→aS 13 = .ref 0 0 0 N N→aS 16 = .ref 1 0 0 m m→us.length=N→(∀d∈us,d<1000000000)→os.length=m→(∀d∈os,d<1000000000)→val 1000000000 us+val 1000000000 vs*val 1000000000 os=A→val 1000000000 us<val 1000000000 vs→Q (.exit 0) aS (H2 us os)) :
  VW ⟨true,false⟩ 0 (.loop gS) Q ρ (H2 CT We):=by
 have hVb:=oQ Ev
 rw[Dg] at hVb
 refine aR (fun(t:Nat×List Nat×List Nat) aS H=>t.1≤m∧H=H2 t.2.1 t.2.2∧t.2.1.length=N∧(∀d∈t.2.1,d<1000000000)∧t.2.2.length=m∧(∀d∈t.2.2,d<1000000000)∧val 1000000000 (t.2.1.drop t.1)<val 1000000000 vs∧val 1000000000 t.2.1+1000000000^t.1*val 1000000000 vs*val 1000000000 (t.2.2.drop t.1)=A ∧
  aS 12=VI s∧aS 13 = .ref 0 0 0 N N∧aS 14=jD vs∧aS 15=VI ((n+2:Nat):Int)∧aS 16 = .ref 1 0 0 m m∧aS 17=VI ((t.1:Int)-1)) (fun t=>t.1) (m,CT,We) ⟨Nat.le_refl _,rfl,hN,GM,jE,mQ,AS,by rw[List.drop_of_length_le (by simp only;omega)];simpa[val] using hA,g12,g13,g14,g15,g16,g17⟩ ?_
 rintro⟨j,us,os⟩ Nd H ⟨hj,rfl,NK,GM,jE,mQ,aU,hv,G2,zZ,A6,Ij,Zi,Ic⟩
 simp only at hj NK GM jE mQ aU hv Ic
 by_cases hz:(0:Int)≤(j:Int)-1
 ·obtain⟨i,rfl⟩:∃i,j=i+1:=⟨j-1,by omega⟩
  have NI:((i+1:Nat):Int)-1=(i:Int):=by omega
  rw[NI] at Ic hz
  obtain⟨RY,wS,Rm,hsW,Xt,XT,sK⟩:=Ry (n:=n+2) NK (by omega) GM hVb aU
  generalize U7:(us.drop i).take (n+2+1)=gJ at *
  have TR:∀d∈gJ,d<1000000000:=fun d hd=>by rw[←U7] at hd;exact GM d (List.mem_of_mem_drop (List.mem_of_mem_take hd))
  obtain⟨u2,hu2⟩:∃u2,us[i+(n+2)]? = some u2:=⟨_,List.getElem?_eq_getElem (by omega)⟩
  obtain⟨u1,Zr⟩:∃u1,us[i+(n+1)]? = some u1:=⟨_,List.getElem?_eq_getElem (by omega)⟩
  obtain⟨u0,hu0⟩:∃u0,us[i+n]? = some u0:=⟨_,List.getElem?_eq_getElem (by omega)⟩
  have G:tI 1000000000 gJ vs n u2 u1 u0 v1 v0:=⟨by decide,TR,Ev,Rm,Dg,by rw[sK _ (by omega)];exact hu2,by rw[sK _ (by omega)];exact Zr,by rw[sK _ (by omega)];exact hu0,f1,f0,jB,hsW⟩
  have lu2:=G.acU
  have lu1:=G.Ws
  have lv1:=G.S5
  have qlt:=G.abA
  have FA:=G.FA
  have w1:IntKind.i64.wrap ((i:Int)+((n+2:Nat):Int))=((i+(n+2):Nat):Int):=wrapN _ (by omega) (by omega)
  have w2:IntKind.i64.wrap (((i+(n+2):Nat):Int)-1)=((i+(n+1):Nat):Int):=wrapN _ (by omega) (by omega)
  have wn1:IntKind.i64.wrap (((n+2:Nat):Int)-1)=((n+1:Nat):Int):=wrapN _ (by omega) (by omega)
  have ev1:bJ 1 (jD vs) (VI ((n+1:Nat):Int)) (H2 us os)=some (.dA (tV v1) 0):=aJ (f:=tV) (t := .op) (size:=1) (k := .i64) f1 rfl
  have e2:bJ 1 (.ref 0 0 0 N N) (VI ((i+(n+2):Nat):Int)) (H2 us os)=some (.ptr 0 0 (i+(n+2)) 0):=by rw[aP Rc (by omega),Nat.zero_add]
  have e1:bJ 1 (.ref 0 0 0 N N) (VI ((i+(n+1):Nat):Int)) (H2 us os)=some (.ptr 0 0 (i+(n+1)) 0):=by rw[aP Rc (by omega),Nat.zero_add]
  have l2:cQ false 1 (.ptr 0 0 (i+(n+2)) 0) (H2 us os)=some (VI (u2:Int)):=Rz Rc hu2
  have l1:cQ false 1 (.ptr 0 0 (i+(n+1)) 0) (H2 us os)=some (VI (u1:Int)):=Rz Rc Zr
  have atP:u2*1000000000+u1≤1000000000000000000:=x18 lu2 lu1
  have arL:u2*1000000000≤9223372036854775807:=x17 lu2
  have amT:u2*1000000000+u1≤9223372036854775807:=Nat.le_trans atP (by decide)
  have ws2:IntKind.i64.wrap ((u2:Int)*1000000000)=((u2*1000000000:Nat):Int):=Ll arL
  have wa:IntKind.i64.wrap (((u2*1000000000:Nat):Int)+(u1:Int))=((u2*1000000000+u1:Nat):Int):=Lb amT
  have q1:=Ik (u2*1000000000+u1) v1 amT jB
  have q2:=It (u2*1000000000+u1) v1 jB
  simp only[gS,G2,zZ,A6,Ij,Zi,Ic,hz,w1,w2,wn1,ev1,e1,e2,l1,l2,ws2,wa,q1,q2,VX,Nat.reduceEqDiff,Nat.reduceAdd]
  clear ws2 wa q1 q2 e1 e2 l1 l2 ev1 w1 w2 wn1
  have hh:=Nat.mod_add_div (u2*1000000000+u1) v1
  have hml:=Nat.mod_lt (u2*1000000000+u1) jB
  have hdl:(u2*1000000000+u1) / v1≤u2*1000000000+u1:=Nat.div_le_self _ _
  have NP:val 1000000000 gJ / val 1000000000 vs≤(u2*1000000000+u1) / v1:=by
   have t1:=(B8 (n:=n+1) (xs:=gJ) TR (by omega) (by rw[sK _ (by omega)];exact hu2) (by rw[sK _ (by omega)];exact Zr)).2
   have t2:=(xD (n:=n+1) Ev Dg f1).1
   rw[Nat.le_div_iff_mul_le jB]
   have t3:val 1000000000 gJ / val 1000000000 vs*(v1*1000000000^(n+1))≤val 1000000000 gJ / val 1000000000 vs*val 1000000000 vs:=Nat.mul_le_mul_left _ t2
   have t4:=Nat.div_mul_le_self (val 1000000000 gJ) (val 1000000000 vs)
   have t5:val 1000000000 gJ / val 1000000000 vs*v1*1000000000^(n+1)<(u2*1000000000+u1+1)*1000000000^(n+1):=by rw[Nat.mul_assoc];omega
   have:=Nat.lt_of_mul_lt_mul_right t5
   omega
  generalize hQ1:(u2*1000000000+u1) / v1=g0 at *
  generalize hQ2:(u2*1000000000+u1) % v1=l0 at *
  refine PU (i:=i) G NK (by omega) Ce hu0 zZ A6 Ij Ic (by rfl) (by rfl) (by rw[Nat.mul_comm g0];omega) NP (by omega) (by omega) ?_
  intro QR g' hq KF hgW r19 r12 r13 r14 r15 r16 r17
  have Pc:QR 12=VI s:=r12.trans G2
  have OX:QR 13 = .ref 0 0 0 N N:=r13.trans zZ
  have OU:QR 14=jD vs:=r14.trans A6
  have Pm:QR 15=VI ((n+2:Nat):Int):=r15.trans Ij
  have aaJ:QR 16 = .ref 1 0 0 m m:=r16.trans Zi
  have ZY:QR 17=VI i:=r17.trans Ic
  simp only[Pc,OX,OU,Pm,aaJ,ZY,r19,VX,Nat.reduceEqDiff,Nat.reduceAdd]
  have oW:g'*val 1000000000 vs≤val 1000000000 gJ+val 1000000000 vs:=by
   have:=Nat.mul_le_mul_right (val 1000000000 vs) KF
   rw[Nat.add_mul,Nat.one_mul] at this
   have:=Nat.div_mul_le_self (val 1000000000 gJ) (val 1000000000 vs)
   omega
  obtain⟨low,ahH⟩:∃low,low=gJ.take (n+2):=⟨_,rfl⟩
  have hll:low.length=n+2:=by rw[ahH,List.length_take];omega
  have WY:∀d∈low,d<1000000000:=fun d hd=>TR d (by rw[ahH] at hd;exact List.mem_of_mem_take hd)
  have hsg:gJ=low++[u2]:=by
   have h1:gJ[n+2]? = some u2:=by rw[sK _ (by omega)];exact hu2
   have h2:=List.take_append_drop (n+2) gJ
   have h3:=(List.getElem?_eq_some_iff.1 h1)
   rw[List.drop_eq_getElem_cons h3.1,h3.2,List.drop_of_length_le (by omega),←ahH] at h2
   exact h2.symm
  have NL:val 1000000000 gJ=val 1000000000 low+1000000000^(n+2)*u2:=by rw[hsg,sJ,hll]
  have mU:∀(lw:List Nat) (t:Nat),(us.take i).map tV++lw.map tV++VI (t:Int)::(us.drop (i+(n+2+1))).map tV=(us.take i++(lw++[t])++us.drop (i+(n+2+1))).map tV:=fun lw t=>by simp
  have Bx:aF (H2 us os) 0 0=some ((us.take i).map tV++low.map tV++VI (u2:Int)::(us.drop (i+(n+2+1))).map tV,1,true):=by
   rw[mU,←hsg,←RY]
   rfl
  refine dL rfl ((UG (o:=i) (n:=n+2) Bx (Nat.zero_le _) (by simpa using wS) hll Dg (by omega) Ce WY Ev hgW lu2).mono ?_)
  rintro r H' ⟨yW,c,rfl,A7,Zg,hc,hr,hE⟩
  have awY:val 1000000000 low<1000000000^(n+2):=by have:=oQ WY;rwa [hll] at this
  have aqB:val 1000000000 yW<1000000000^(n+2):=by have:=oQ Zg;rwa [A7] at this
  have rows:∀(lw:List Nat) (t q:Nat),lw.length=n+2→(∀d∈lw,d<1000000000)→t<1000000000→q=val 1000000000 gJ / val 1000000000 vs→val 1000000000 lw+1000000000^(n+2)*t=val 1000000000 gJ % val 1000000000 vs →
    ((us.take i++(lw++[t])++us.drop (i+(n+2+1))).length=N∧(∀d∈us.take i++(lw++[t])++us.drop (i+(n+2+1)),d<1000000000)∧val 1000000000 ((us.take i++(lw++[t])++us.drop (i+(n+2+1))).drop i)<val 1000000000 vs∧val 1000000000 (us.take i++(lw++[t])++us.drop (i+(n+2+1)))+1000000000^i*val 1000000000 vs*val 1000000000 ((os.set i q).drop i)=A):=by
   intro lw t q hlw atI ht Qt Zk
   have acC:val 1000000000 (lw++[t])=val 1000000000 gJ % val 1000000000 vs:=by rw[sJ,hlw];exact Zk
   have arR:(lw++[t]).length=n+3:=by rw[List.length_append,hlw];rfl
   have atK:∀d∈lw++[t],d<1000000000:=fun d hd=>by
    rcases List.mem_append.1 hd with h | h
    ·exact atI d h
    ·rw[List.mem_singleton.1 h];exact ht
   generalize lw++[t]=oV at *
   have Z6:=Nat.mod_lt (val 1000000000 gJ) FA
   have R5:(us.take i++oV++us.drop (i+(n+2+1))).drop i=oV++us.drop (i+(n+2+1)):=by rw[List.append_assoc,List.drop_append,List.drop_of_length_le (by omega),wS];simp
   have QV:(us.take i++oV++us.drop (i+(n+2+1))).take i=us.take i:=by rw[List.append_assoc,List.take_append_of_le_length (by omega),List.take_of_length_le (by omega)]
   have PY:val 1000000000 ((us.take i++oV++us.drop (i+(n+2+1))).drop i)=val 1000000000 oV:=by rw[R5,vV,XT,Nat.mul_zero,Nat.add_zero]
   refine⟨by rw[List.length_append,List.length_append,wS,arR,List.length_drop];omega,fun d hd => ?_,by rw[PY,acC];exact Z6,?_⟩
   ·rw[List.mem_append,List.mem_append] at hd
    rcases hd with(hd | hd) | hd
    ·exact GM d (List.mem_of_mem_take hd)
    ·exact atK d hd
    ·exact GM d (List.mem_of_mem_drop hd)
   ·have h1:=Nat.div_add_mod (val 1000000000 gJ) (val 1000000000 vs)
    rw[←Qt,←acC,Nat.mul_comm] at h1
    have h2:=nL (b:=1000000000) us i
    have h3:=nL (b:=1000000000) (us.take i++oV++us.drop (i+(n+2+1))) i
    rw[QV,wS,PY] at h3
    rw[wS,Xt] at h2
    rw[set_drop (by omega),pV,h3]
    rw[h2,Nat.pow_succ] at hv
    exact IY h1.symm hv
  have e3:∀(DM:List Nat) (d:Nat),bJ 1 (.ref 1 0 0 m m) (VI i) (H2 DM os)=some (.ptr 1 0 i 0)∧bX 0 1 (.ptr 1 0 i 0) (VI (d:Int)) (H2 DM os)=some (H2 DM (os.set i d)):=fun DM d=>by
   refine⟨by rw[aP alY (by omega),Nat.zero_add],?_⟩
   rw[show VI (d:Int)=tV d from rfl,dF (f:=tV) (e:=1) alY (by omega) (Nat.zero_le _) rfl rfl]
   rfl
  have wi:IntKind.i64.wrap ((i:Int)-1)=(i:Int)-1:=wrap64 (by omega) (by omega)
  have hdm:=Nat.div_add_mod (val 1000000000 gJ) (val 1000000000 vs)
  have Z6:=Nat.mod_lt (val 1000000000 gJ) FA
  generalize hPP:1000000000^(n+2)=P at *
  by_cases pY:(u2:Int)-(c:Int)<0
  ·
   rw[decide_eq_true pY] at hr
   subst hr
   have hgt:val 1000000000 gJ<g'*val 1000000000 vs:=by
    have h1:P*(u2+1)≤P*c:=Nat.mul_le_mul_left _ (by omega)
    rw[Nat.mul_add,Nat.mul_one] at h1
    omega
   have Qt:g'=val 1000000000 gJ / val 1000000000 vs+1:=by
    rcases Nat.lt_or_ge (val 1000000000 gJ / val 1000000000 vs) g' with h | h
    ·omega
    ·have h1:g'*val 1000000000 vs≤val 1000000000 gJ / val 1000000000 vs*val 1000000000 vs:=Nat.mul_le_mul_right _ h
     have:=Nat.div_mul_le_self (val 1000000000 gJ) (val 1000000000 vs)
     omega
   have hg1:1≤g':=by rw[Qt];exact Nat.le_add_left 1 _
   have wg:IntKind.i64.wrap ((g':Int)-1)=((g'-1:Nat):Int):=wrapN _ (by omega) (by omega)
   simp only[Pc,OX,OU,Pm,aaJ,ZY,r19,wg,VX,Nat.reduceEqDiff,Nat.reduceAdd]
   have Wc:aF ((H2 us os).set 0 (.row 0 ((us.take i).map tV++yW.map tV++VI ((u2:Int)-(c:Int))::(us.drop (i+(n+2+1))).map tV) 1 true)) 0 0=some ((us.take i).map tV++yW.map tV++VI ((u2:Int)-(c:Int))::(us.drop (i+(n+2+1))).map tV,1,true):=rfl
   refine dL rfl ((T5 (o:=i) (n:=n+2) Wc (Nat.zero_le _) (by simpa using wS) A7 Dg (by omega) Ce Zg Ev (by omega) (by omega)).mono ?_)
   rintro r H' ⟨QU,c2,rfl,EL,hd2,Qv,hE2⟩
   rw[hPP] at hE2
   have aeD:val 1000000000 QU<P:=by have:=oQ hd2;rwa [EL,hPP] at this
   obtain⟨hy,hZ⟩:(u2:Int)-(c:Int)+(c2:Int)=0∧val 1000000000 QU=val 1000000000 gJ % val 1000000000 vs:=by
    refine aaA (P:=P) ?_ aeD (by omega)
    have i1:(P:Int)*((u2:Int)-(c:Int)+(c2:Int))=(P:Int)*u2-(P:Int)*c+(P:Int)*c2:=by rw[Int.mul_add,Int.mul_sub]
    have i2:((P*u2:Nat):Int)=(P:Int)*u2:=by simp
    have i3:((P*c:Nat):Int)=(P:Int)*c:=by simp
    have i4:((P*c2:Nat):Int)=(P:Int)*c2:=by simp
    rw[i1,←i2,←i3,←i4]
    have i5:g'*val 1000000000 vs=val 1000000000 vs*(val 1000000000 gJ / val 1000000000 vs)+val 1000000000 vs:=by rw[Qt,Nat.add_mul,Nat.one_mul,Nat.mul_comm (val 1000000000 vs)]
    omega
   have FT:((H2 us os).set 0 (.row 0 ((us.take i).map tV++yW.map tV++VI ((u2:Int)-(c:Int))::(us.drop (i+(n+2+1))).map tV) 1 true)).set 0 (.row 0 ((us.take i).map tV++QU.map tV++VI ((u2:Int)-(c:Int)+(c2:Int))::(us.drop (i+(n+2+1))).map tV) 1 true)=H2 (us.take i++(QU++[0])++us.drop (i+(n+2+1))) os:=by
    rw[hy]
    rw[show (0:Int)=((0:Nat):Int) from rfl,mU]
    rfl
   rw[FT]
   obtain⟨x1,x2⟩:=e3 (us.take i++(QU++[0])++us.drop (i+(n+2+1))) (g'-1)
   obtain⟨y1,y2,y3,y4⟩:=rows QU 0 (g'-1) EL hd2 (by decide) (by rw[Qt,Nat.add_sub_cancel]) (by rw[Nat.mul_zero,Nat.add_zero];exact hZ)
   simp only[Pc,OX,OU,Pm,aaJ,ZY,x1,x2,wi,VX,Nat.reduceEqDiff,Nat.reduceAdd]
   refine⟨(i,us.take i++(QU++[0])++us.drop (i+(n+2+1)),os.set i (g'-1)),by simp only;omega,by omega,rfl,y1,y2,by rw[List.length_set];exact jE,mJ mQ (by omega),y3,y4,?_⟩
   try (repeat' apply And.intro)<;>first | rfl | trivial
  ·rw[decide_eq_false pY] at hr
   subst hr
   obtain⟨t',ZI⟩:∃t':Nat,(u2:Int)-(c:Int)=(t':Int):=⟨u2-c,by omega⟩
   have hP1:P*u2=P*c+P*t':=by rw[←Nat.mul_add];congr 1;omega
   have Cb:g'*val 1000000000 vs≤val 1000000000 gJ:=by omega
   have Qt:g'=val 1000000000 gJ / val 1000000000 vs:=by
    have:=(Nat.le_div_iff_mul_le FA).2 Cb
    omega
   have FT:(H2 us os).set 0 (.row 0 ((us.take i).map tV++yW.map tV++VI ((u2:Int)-(c:Int))::(us.drop (i+(n+2+1))).map tV) 1 true)=H2 (us.take i++(yW++[t'])++us.drop (i+(n+2+1))) os:=by
    rw[ZI,mU]
    rfl
   rw[FT]
   obtain⟨x1,x2⟩:=e3 (us.take i++(yW++[t'])++us.drop (i+(n+2+1))) g'
   have Zk:val 1000000000 yW+P*t'=val 1000000000 gJ % val 1000000000 vs:=by
    rw[←Qt,Nat.mul_comm] at hdm
    omega
   obtain⟨y1,y2,y3,y4⟩:=rows yW t' g' A7 Zg (by omega) Qt Zk
   simp only[Pc,OX,OU,Pm,aaJ,ZY,r19,x1,x2,wi,VX,Nat.reduceEqDiff,Nat.reduceAdd]
   refine⟨(i,us.take i++(yW++[t'])++us.drop (i+(n+2+1)),os.set i g'),by simp only;omega,by omega,rfl,y1,y2,by rw[List.length_set];exact jE,mJ mQ (by omega),y3,y4,?_⟩
   try (repeat' apply And.intro)<;>first | rfl | trivial
 ·have R9:j=0:=by omega
  subst R9
  rw[Nat.pow_zero,Nat.one_mul,List.drop_zero] at hv
  rw[List.drop_zero] at aU
  simp only[gS,G2,zZ,A6,Ij,Zi,Ic,hz,VX,Nat.reduceEqDiff,Nat.reduceAdd]
  exact hQ _ us os G2 zZ Zi NK GM jE mQ hv aU
end Go.PM
namespace Go.PM
def bl (n:Nat):Nat:=(aC 2 n).length
theorem Pd (n:Nat):n<2^bl n:=iK (by decide) n
theorem Hc {n k:Nat} (h:n<2^k):bl n≤k:=mT (by decide) h
theorem Cg {m n:Nat} (h:m≤n):bl m≤bl n:=fG (by decide) h
theorem aeE (m n:Nat):bl (m*n)≤bl m+bl n:=by
 refine Hc ?_
 rw[Nat.pow_add]
 exact Nat.mul_lt_mul'' (Pd m) (Pd n)
theorem Tg:bl 0=0:=by simp[bl,bS]
theorem Ny:bl 1=1:=by simp[bl,iE (b:=2) (by decide) (n:=1) (by decide),bS]
theorem ahP {n:Nat} (h:n≠0):1≤bl n:=by
 have:=Cg (m:=1) (n:=n) (by omega)
 rwa [Ny] at this
theorem acW (n:Nat):32*(aC 4294967296 n).length≤bl n+31:=by
 by_cases h:n=0
 ·subst h;rw[bS];simp
 ·have h1:=Ia (b:=4294967296) (by decide) h
  have h2:=Pd n
  have e:(4294967296:Nat)=2^32:=by decide
  rw[e] at h1 ⊢
  rw[←Nat.pow_mul] at h1
  have h3:2^(32*((aC (2^32) n).length-1))<2^bl n:=by omega
  have h4:=(Nat.pow_lt_pow_iff_right (by decide)).1 h3
  omega
theorem abY (n:Nat):29*(aC 1000000000 n).length≤bl n+28:=by
 by_cases h:n=0
 ·subst h;rw[bS];simp
 ·have h1:=Ia (b:=1000000000) (by decide) h
  have h2:=Pd n
  have h5:(2^29)^((aC 1000000000 n).length-1)≤1000000000^((aC 1000000000 n).length-1):=Nat.pow_le_pow_left (by decide) _
  rw[←Nat.pow_mul] at h5
  have h3:2^(29*((aC 1000000000 n).length-1))<2^bl n:=by omega
  have h4:=(Nat.pow_lt_pow_iff_right (by decide)).1 h3
  omega
def fS (q:Rat):Nat:=max (bl q.num.natAbs) (bl q.den)
theorem Vt {q:Rat}:bl q.num.natAbs≤fS q:=Nat.le_max_left _ _
theorem Un {q:Rat}:bl q.den≤fS q:=Nat.le_max_right _ _
theorem WC {q:Rat} {k:Nat} (h1:bl q.num.natAbs≤k) (h2:bl q.den≤k):fS q≤k:=Nat.max_le.2 ⟨h1,h2⟩
theorem PN {n:Int} {d k:Nat} (h1:bl n.natAbs≤k) (h2:bl d≤k) (hk:1≤k):fS (mkRat n d)≤k:=by
 refine WC ?_ ?_
 ·rw[Rat.num_mkRat]
  split
  ·rw[Int.natAbs_zero,Tg];omega
  ·exact Nat.le_trans (Cg (Int.natAbs_ediv_le_natAbs _ _)) h1
 ·rw[Rat.den_mkRat]
  split
  ·rw[Ny];exact hk
  ·exact Nat.le_trans (Cg (Nat.div_le_self _ _)) h2
theorem DG:fS 0=1:=by simp[fS,Tg,Ny]
theorem K6:fS 1=1:=by simp[fS,Ny]
def Gh (neg:Bool) (t:Nat):Int:=if neg then -(t:Int) else t
theorem CB (neg:Bool) (t:Nat):(Gh neg t).natAbs=t:=by cases neg<;>simp[Gh]
theorem WH (neg:Bool):Gh neg 0=0:=by cases neg<;>rfl
theorem Zv {neg:Bool} {t g:Nat}:(Gh neg t) / (g:Int)=Gh neg (t / g)∨¬g ∣ t:=by
 by_cases h:g ∣ t
 ·left
  obtain⟨k,rfl⟩:=h
  by_cases hg:g=0
  ·subst hg;simp[WH]
  ·rw[Nat.mul_div_cancel_left _ (by omega)]
   cases neg
   ·simp only[Gh]
    simp only[Bool.false_eq_true,if_false]
    rw[Int.natCast_mul,Int.mul_ediv_cancel_left _ (by omega)]
   ·simp only[Gh,if_true]
    rw[Int.natCast_mul,←Int.mul_neg,Int.mul_ediv_cancel_left _ (by omega)]
 ·exact .inr h
theorem afJ {neg:Bool} {t b:Nat} (hb:b≠0):(mkRat (Gh neg t) b).num=Gh neg (t / Nat.gcd t b):=by
 rw[Rat.num_mkRat,if_neg hb,CB,Nat.gcd_comm]
 rcases Zv (neg:=neg) (t:=t) (g:=Nat.gcd t b) with h | h
 ·exact h
 ·exact absurd (Nat.gcd_dvd_left _ _) h
theorem agG {neg:Bool} {t b:Nat} (hb:b≠0):(mkRat (Gh neg t) b).den=b / Nat.gcd t b:=by
 rw[Rat.den_mkRat,if_neg hb,CB,Nat.gcd_comm]
end Go.PM
namespace Go.PM
def C6 (q:Rat):Int:=if q.num=0 then 0 else if q.num<0 then -1 else 1
theorem S8 {m n:Nat}:lF m n<0↔m<n:=by
 unfold lF
 split
 ·omega
 ·split<;>omega
theorem L6 {m n:Nat}:lF m n=0↔m=n:=by
 unfold lF
 split
 ·omega
 ·split<;>omega
theorem ZZ {q:Rat} (h:q.num<0):C6 q = -1:=by unfold C6;rw[if_neg (by omega),if_pos h]
theorem ZR {q:Rat} (h:q.num=0):C6 q=0:=by unfold C6;rw[if_pos h]
theorem Z1 {q:Rat} (h:0<q.num):C6 q=1:=by unfold C6;rw[if_neg (by omega),if_neg (by omega)]
end Go.PM
namespace Go.PM
theorem LR {ds:List Nat} {H:aA}:cN 1 (jD ds) H=some (ds.map tV):=by
 have:((ds.map tV).all fun x=>(aB x).length == 1&&(aB x).all aZ)=true:=by
  rw[List.all_eq_true]
  intro x hx
  obtain⟨d,_,rfl⟩:=List.mem_map.1 hx
  rfl
 simp only[cN,jD,bH,this,if_true]
theorem Co (n:Nat) {H:aA}:cN 1 (cK n) H=some ((aC 1000000000 n).map tV):=LR
theorem Gg {a n:Nat} (hn:(aC 1000000000 a).length=n+1):∃d,(aC 1000000000 a)[n]? = some d∧d≠0∧d<1000000000:=by
 obtain⟨d,hd⟩:∃d,(aC 1000000000 a)[n]? = some d:=⟨_,List.getElem?_eq_getElem (by omega)⟩
 refine⟨d,hd,fun h0 => ?_,gL (by decide) a d (List.mem_of_getElem? hd)⟩
 have:=L4 (b:=1000000000) (by decide) a
 rw[List.getLast?_eq_getElem?,hn,Nat.add_sub_cancel,hd,h0] at this
 exact this rfl
theorem U5 {a d:Nat} (h:aC 1000000000 a=[d]):a=d∧0<d∧d<1000000000:=by
 have h1:=cO (b:=1000000000) (by decide) a
 rw[h,val_one] at h1
 obtain⟨e,h2,h3,h4⟩:=Gg (a:=a) (n:=0) (by rw[h];rfl)
 rw[h] at h2
 cases h2
 exact⟨h1.symm,by omega,h4⟩
theorem afB {a:Nat} (h:(aC 1000000000 a).length≤2):a<1000000000000000000:=by
 have h1:=iK (b:=1000000000) (by decide) a
 have h2:1000000000^(aC 1000000000 a).length≤1000000000^2:=Nat.pow_le_pow_right (by decide) h
 omega
theorem Xj {H:aA} {u v:VV} (hu:aN u=true) (hv:aN v=true):fz depth H (.dS [u,v])=some (.dS [u,v]):=aI (by simp only[aN,aM,hu,hv,Bool.and_self])
theorem alW {X N:Nat} (h:(aC 1000000000 X).length≤N):GU 0 1 (.ref 0 0 0 N N) (cK X) [.row 0 ((List.replicate N 0).map tV) 1 true]=some (VI ((aC 1000000000 X).length:Int),[.row 0 ((aC 1000000000 X++List.replicate (N-(aC 1000000000 X).length) 0).map tV) 1 true]):=by
 have e:((aC 1000000000 X).map tV).take N=(aC 1000000000 X).map tV:=List.take_of_length_le (by simpa using h)
 simp only[GU,cK,LR,aV,e,List.length_map,List.length_replicate,Nat.zero_add]
 rw[if_pos ⟨trivial,Nat.le_refl _,h⟩]
 simp only[cP,List.set_cons_zero,List.take_zero,List.nil_append,Nat.zero_add,List.length_map,List.map_append,List.map_replicate,List.drop_replicate]
theorem F1 (a b:Nat) (hb:b≠0) (ha:(aC 1000000000 a).length<17592186044416) (wQ:(aC 1000000000 b).length<17592186044416):TC 214 [cK a,cK b] (.dS [cK (a / b),cK (a % b)]):=by
 refine TC.walk ⟨true,false⟩ FH rfl (Nat.le_of_ble_eq_true rfl) (by simp[aM,cT]) (by simp[gA,oS,qM]) ?_
 have s1:=A3 a (by omega)
 have s2:=A3 b (by omega)
 have fin:∀ {H:aA},fz depth H (.dS [cK (a / b),cK (a % b)])=some (.dS [cK (a / b),cK (a % b)]):=Xj (cT _) (cT _)
 by_cases NH:(aC 1000000000 a).length≤2∧(aC 1000000000 b).length≤2
 ·rw[if_pos NH.1] at s1
  rw[if_pos NH.2] at s2
  have la:=afB NH.1
  have q1:=Ik a b (by omega) (by omega)
  have q2:=It a b (by omega)
  have hdl:a / b≤a:=Nat.div_le_self _ _
  have hml:a % b≤a:=Nat.mod_le _ _
  have n1:TC 161 [VI ((a / b:Nat):Int)] (cK (a / b)):=oD ((a / b:Nat):Int) (Int.ofNat_le.2 (show a / b≤9223372036854775807 from Nat.le_trans hdl (by omega)))
  have n2:TC 161 [VI ((a % b:Nat):Int)] (cK (a % b)):=oD ((a % b:Nat):Int) (Int.ofNat_le.2 (show a % b≤9223372036854775807 from Nat.le_trans hml (by omega)))
  simp only[eU,dM,s1,s2,q1,q2,n1,n2,VX,Nat.reduceEqDiff,Nat.reduceAdd]
  exact fin
 have c1:=Dq a b (by omega) (by omega)
 obtain⟨x1,t1,Ky⟩:∃(x:Int) (t:Bool),(if (aC 1000000000 a).length≤2 then VV.dS [VI a,VB true] else .dS [VI 0,VB false]) = .dS [VI x,VB t]:=by split<;>exact⟨_,_,rfl⟩
 have hs2:∃(x:Int) (t:Bool),(if (aC 1000000000 b).length≤2 then VV.dS [VI b,VB true] else .dS [VI 0,VB false]) = .dS [VI x,VB t]∧(t1=true→t=false):=by
  by_cases h:(aC 1000000000 b).length≤2
  ·rw[if_pos h]
   refine⟨_,_,rfl,fun ht => ?_⟩
   rw[if_neg (fun h'=>NH ⟨h',h⟩)] at Ky
   injection Ky with Ky
   injection Ky with _ Ky
   injection Ky with Ky _
   injection Ky with Ky
   injection Ky with Ky
   subst ht
   cases Ky
  ·rw[if_neg h]
   exact⟨_,_,rfl,fun _=>rfl⟩
 obtain⟨x2,t2,hs2,ht⟩:=hs2
 rw[Ky] at s1
 rw[hs2] at s2
 by_cases Io:lF a b<0
 ·have aU:a<b:=S8.1 Io
  have e0:∀lr,jX lr [.int .i64 0] 0 [] []=some (.ref 0 0 0 0 0,[.row 0 [] 1 true]):=fun lr=>iS (H:=[]) rfl
  have e1:∀lr,jX lr [.int .i64 0] 0 [] [.row 0 [] 1 true]=some (.ref 1 0 0 0 0,[.row 0 [] 1 true,.row 0 [] 1 true]):=fun lr=>iS (H:=[.row 0 [] 1 true]) rfl
  rw[Nat.div_eq_of_lt aU,Nat.mod_eq_of_lt aU]
  have hz:fz (6+1) [.row 0 [] 1 true,.row 0 [] 1 true] (.ref 0 0 0 0 0)=some (cK 0):=by rw[FR];rfl
  by_cases ha0:a=0
  ·subst ha0
   have ap:eK 0 1 8 (.ref 1 0 0 0 0) ((aC 1000000000 0).map tV) [.row 0 [] 1 true,.row 0 [] 1 true]=some (.ref 1 0 0 0 0,[.row 0 [] 1 true,.row 0 [] 1 true]):=by
    rw[bS];rfl
   have Ga:fz (6+1) [.row 0 [] 1 true,.row 0 [] 1 true] (.ref 1 0 0 0 0)=some (cK 0):=by rw[FR];rfl
   cases t1 with
   |
    false =>
    simp only[eU,dM,s1,s2,c1,Io,e0,e1,ap,Co,VX,Nat.reduceEqDiff,Nat.reduceAdd]
    exact bK (d:=6) hz Ga
   |
    true =>
    rw[ht rfl] at s2
    simp only[eU,dM,s1,s2,c1,Io,e0,e1,ap,Co,VX,Nat.reduceEqDiff,Nat.reduceAdd]
    exact bK (d:=6) hz Ga
  ·have hln:(aC 1000000000 a).length≠0:=fun h=>ha0 ((kD (b:=1000000000) (by decide)).1 (List.length_eq_zero_iff.1 h))
   have ap:eK 0 1 8 (.ref 1 0 0 0 0) ((aC 1000000000 a).map tV) [.row 0 [] 1 true,.row 0 [] 1 true]=some (.ref 1 1 0 (aC 1000000000 a).length (aC 1000000000 a).length,[.row 0 [] 1 true,.row 1 ((aC 1000000000 a).map tV) 1 true]):=by
    have hr:aF [.row 0 [] 1 true,.row 0 [] 1 true] 1 0=some ([],1,true):=rfl
    simp only[eK,hr,List.length_map,Nat.zero_add,List.length_nil,Nat.add_zero]
    rw[if_pos ⟨by decide,by decide⟩,if_pos ⟨trivial,Nat.zero_le _,Nat.le_refl _⟩,if_neg (by omega),if_pos (by omega)]
    simp
   have DX:fz (6+1) [.row 0 [] 1 true,.row 1 ((aC 1000000000 a).map tV) 1 true] (.ref 0 0 0 0 0)=some (cK 0):=by rw[FR];rfl
   have Ga:fz (6+1) [.row 0 [] 1 true,.row 1 ((aC 1000000000 a).map tV) 1 true] (.ref 1 1 0 (aC 1000000000 a).length (aC 1000000000 a).length)=some (cK a):=by
    have:aN (.ref 1 1 0 (aC 1000000000 a).length (aC 1000000000 a).length)=false:=rfl
    have hr:aF [.row 0 [] 1 true,.row 1 ((aC 1000000000 a).map tV) 1 true] 1 1=some ((aC 1000000000 a).map tV,1,true):=rfl
    unfold fz
    simp only[this,hr,Bool.false_eq_true,if_false]
    rw[if_pos ⟨by simp,Nat.le_refl _⟩,List.drop_zero,List.take_of_length_le (by simp),mapM_pure (n:=5) (eH fun _=>rfl)]
    rfl
   cases t1 with
   |
    false =>
    simp only[eU,dM,s1,s2,c1,Io,e0,e1,ap,Co,VX,Nat.reduceEqDiff,Nat.reduceAdd]
    exact bK (d:=6) DX Ga
   |
    true =>
    rw[ht rfl] at s2
    simp only[eU,dM,s1,s2,c1,Io,e0,e1,ap,Co,VX,Nat.reduceEqDiff,Nat.reduceAdd]
    exact bK (d:=6) DX Ga
 have Cb:b≤a:=by have := @S8 a b;omega
 have hbn:(aC 1000000000 b).length≠0:=fun h=>hb ((kD (b:=1000000000) (by decide)).1 (List.length_eq_zero_iff.1 h))
 by_cases h1:(((aC 1000000000 b).length:Nat):Int)=1
 ·obtain⟨d,hd⟩:∃d,aC 1000000000 b=[d]:=List.length_eq_one_iff.1 (by omega)
  obtain⟨Zt,BQ,hdT⟩:=U5 hd
  have e1:bJ 1 (cK b) (VI 0) []=some (.dA (tV d) 0):=by
   rw[cK,hd]
   exact aJ (f:=tV) (t := .op) (H:=[]) (size:=1) (k := .i64) (xs:=[d]) (i:=0) rfl rfl
  have c2:=wP a d BQ hdT (by omega)
  rw[←Zt] at c2
  have QI:a % b≤b:=Nat.le_of_lt (Nat.mod_lt _ (by omega))
  have n2:TC 161 [VI ((a % b:Nat):Int)] (cK (a % b)):=oD ((a % b:Nat):Int) (Int.ofNat_le.2 (show a % b≤9223372036854775807 from Nat.le_trans QI (by omega)))
  have e2:tV d=tV b:=by rw[Zt]
  rw[e2] at e1
  cases t1 with
  |
   false =>
   simp only[eU,dM,s1,s2,c1,Io,eT,h1,e1,c2,n2,VX,Nat.reduceEqDiff,Nat.reduceAdd]
   exact fin
  |
   true =>
   rw[ht rfl] at s2
   simp only[eU,dM,s1,s2,c1,Io,eT,h1,e1,c2,n2,VX,Nat.reduceEqDiff,Nat.reduceAdd]
   exact fin
 obtain⟨n,hn⟩:∃n,(aC 1000000000 b).length=n+2:=⟨(aC 1000000000 b).length-2,by omega⟩
 obtain⟨t,htd,ht0,htT⟩:=Gg (a:=b) (n:=n+1) hn
 obtain⟨s,hs⟩:∃s,s=1000000000 / (t+1):=⟨_,rfl⟩
 have Qq:1≤s:=by rw[hs];exact(Nat.le_div_iff_mul_le (by omega)).2 (by omega)
 have hsT:s<1000000000:=by rw[hs];exact Nat.div_lt_self (by decide) (by omega)
 have Gq:(t+1)*s≤1000000000:=by rw[hs];exact Nat.mul_div_le _ _
 have hla:=fG (b:=1000000000) (by decide) Cb
 have w0:IntKind.i64.wrap (((n+2:Nat):Int)-1)=((n+1:Nat):Int):=wrapN _ (by omega) (by omega)
 have w1:IntKind.i64.wrap ((t:Int)+1)=((t+1:Nat):Int):=wrapN _ (by omega) (by omega)
 have q0:cV .quo (.int .i64 1000000000) (.int .i64 ((t+1:Nat):Int))=some (.int .i64 (s:Int)):=by rw[hs];exact Ik 1000000000 (t+1) (by decide) (by omega)
 have et:∀H,bJ 1 (cK b) (VI ((n+1:Nat):Int)) H=some (.dA (tV t) 0):=fun H=>aJ (f:=tV) (t := .op) (size:=1) (k := .i64) htd rfl
 have UO:¬(((n+2:Nat):Int)=1):=by omega
 obtain⟨N,hN⟩:∃N,N=(aC 1000000000 a).length+1:=⟨_,rfl⟩
 have wN:IntKind.i64.wrap (((aC 1000000000 a).length:Int)+1)=(N:Int):=wrapN _ (by omega) (by omega)
 have mkN:=TX N (by omega)
 have c3:=vW a s Qq hsT ha
 have c4:=vW b s Qq hsT wQ
 have aeB:b*s<1000000000^(n+2):=by
  have h2:=(xD (n:=n+1) (gL (b:=1000000000) (by decide) b) hn htd).2
  rw[cO (by decide)] at h2
  have h3:b*s<(t+1)*1000000000^(n+1)*s:=Nat.mul_lt_mul_of_pos_right h2 Qq
  have h4:(t+1)*1000000000^(n+1)*s=(t+1)*s*1000000000^(n+1):=by grind
  have h9:(t+1)*s*1000000000^(n+1)≤1000000000*1000000000^(n+1):=Nat.mul_le_mul_right _ Gq
  have h10:1000000000*1000000000^(n+1)=1000000000^(n+2):=by rw[Nat.pow_succ 1000000000 (n+1)];exact Nat.mul_comm _ _
  rw[h4] at h3
  rw[h10] at h9
  exact Nat.lt_of_lt_of_le h3 h9
 have hVl:(aC 1000000000 (b*s)).length=n+2:=by
  have h2:=mT (b:=1000000000) (by decide) aeB
  have h3:b≤b*s:=Nat.le_mul_of_pos_right b Qq
  have h4:=fG (b:=1000000000) (by decide) h3
  omega
 have hAl:(aC 1000000000 (a*s)).length≤N:=by
  have h2:=Np (b:=1000000000) (by decide) a s
  have h3:(aC 1000000000 s).length≤1:=mT (by decide) (by rw[Nat.pow_one];exact hsT)
  omega
 have cp:=alW hAl
 obtain⟨m,hm⟩:∃m,m+(n+2)=N:=⟨N-(n+2),by omega⟩
 have wm:IntKind.i64.wrap ((N:Int)-((n+2:Nat):Int))=(m:Int):=wrapN _ (by omega) (by omega)
 have wm1:IntKind.i64.wrap ((m:Int)-1)=(m:Int)-1:=wrap64 (by omega) (by omega)
 obtain⟨CT,aaB⟩:∃CT,CT=aC 1000000000 (a*s)++List.replicate (N-(aC 1000000000 (a*s)).length) 0:=⟨_,rfl⟩
 rw[←aaB] at cp
 have mkm:yY [.int .i64 0] 8 (VI (m:Int)) (VI (m:Int)) [.row 0 (CT.map tV) 1 true]=some (.ref 1 0 0 m m,[.row 0 (CT.map tV) 1 true]++[.row 0 ((List.replicate m 0).map tV) 1 true]):=pG (f:=tV) (x:=0) (H:=[.row 0 (CT.map tV) 1 true]) rfl (by omega) (by omega)
 have lN:∀K,aF K 0 0=some (CT.map tV,1,true)→nR (.ref 0 0 0 N N) K=some (VI (N:Int)):=fun K h=>dR h
 have l1:=lN [.row 0 (CT.map tV) 1 true] rfl
 have l2:=lN (H2 CT (List.replicate m 0)) rfl
 have aeN:CT.length=N:=by rw[aaB,List.length_append,List.length_replicate];omega
 have aiQ:∀d∈CT,d<1000000000:=fun d hd=>by
  rw[aaB] at hd
  rcases List.mem_append.1 hd with h | h
  ·exact gL (by decide) _ d h
  ·rw[List.eq_of_mem_replicate h];decide
 have adP:val 1000000000 CT=a*s:=by rw[aaB,vV,uQ,Nat.mul_zero,Nat.add_zero,cO (by decide)]
 generalize NL:aC 1000000000 (b*s)=vs at *
 have Ev:∀d∈vs,d<1000000000:=by rw[←NL];exact gL (by decide) _
 have Q0:val 1000000000 vs=b*s:=by rw[←NL];exact cO (by decide) _
 have lV:∀H,nR (cK (b*s)) H=some (VI ((n+2:Nat):Int)):=fun H=>by rw[eT,NL,hVl]
 obtain⟨v1,f1⟩:∃v1,vs[n+1]? = some v1:=⟨_,List.getElem?_eq_getElem (by omega)⟩
 obtain⟨v0,f0⟩:∃v0,vs[n]? = some v0:=⟨_,List.getElem?_eq_getElem (by omega)⟩
 have hv1:1≤v1:=by
  obtain⟨d,hd,BQ,_⟩:=Gg (a:=b*s) (n:=n+1) (by rw[NL];exact hVl)
  rw[NL,f1] at hd
  cases hd
  omega
 have AS:val 1000000000 (CT.drop m)<val 1000000000 vs:=by
  have h2:=nL (b:=1000000000) CT m
  rw[List.length_take,aeN,Nat.min_eq_left (by omega),adP] at h2
  have h3:a<b*1000000000^m:=by
   have y1:=iK (b:=1000000000) (by decide) a
   have y2:=Ia (b:=1000000000) (by decide) hb
   rw[hn] at y2
   have y3:1000000000^(n+2-1)*1000000000^m≤b*1000000000^m:=Nat.mul_le_mul_right _ y2
   rw[←Nat.pow_add,show n+2-1+m=(aC 1000000000 a).length by omega] at y3
   exact Nat.lt_of_lt_of_le y1 y3
  have h4:a*s<b*1000000000^m*s:=Nat.mul_lt_mul_of_pos_right h3 Qq
  have h5:b*1000000000^m*s=1000000000^m*(b*s):=by grind
  rw[Q0]
  have h6:1000000000^m*val 1000000000 (CT.drop m)<1000000000^m*(b*s):=by
   rw[←h5]
   exact Nat.lt_of_le_of_lt (by rw[h2];exact Nat.le_add_left _ _) h4
  exact Nat.lt_of_mul_lt_mul_left h6
 have body:VW ⟨true,false⟩ 0 (.loop gS)=VW ⟨true,false⟩ 0 (.loop gS):=rfl
 have tail:∀(us os:List Nat),us.length=N→(∀d∈us,d<1000000000)→os.length=m→(∀d∈os,d<1000000000)→val 1000000000 us+val 1000000000 vs*val 1000000000 os=a*s→val 1000000000 us<val 1000000000 vs →
   (∀lo K,cM 211 [.ref 0 0 0 N N] lo (H2 us os) K=K (cK (a % b*s)) (cS (H2 us os) [0])) ∧
   (∀lo K,cM 211 [.ref 1 0 0 m m] lo (cS (H2 us os) [0]) K=K (cK (a / b)) (cS (cS (H2 us os) [0]) [1]))∧TC 237 [cK (a % b*s),VI (s:Int)] (.dS [cK (a % b),VI ((a % b*s % s:Nat):Int)]):=by
  intro us os NK GM jE mQ hv aU
  rw[Q0] at hv aU
  have hq:val 1000000000 os=a / b:=by
   rw[←Nat.mul_div_mul_right a b Qq,←hv,Nat.add_mul_div_left _ _ (Nat.lt_of_le_of_lt (Nat.zero_le _) aU),Nat.div_eq_of_lt aU,Nat.zero_add]
  have hr:val 1000000000 us=a % b*s:=by
   rw[←Nat.mul_mod_mul_right,←hv,Nat.add_mul_mod_self_left,Nat.mod_eq_of_lt aU]
  refine⟨fun lo K => ?_,fun lo K => ?_,?_⟩
  ·have h:=pR us GM (by omega)
   rw[hr] at h
   exact TC.abQ (f:=tV) h Rc NK.symm (Nat.le_refl _) D4 (fun _=>rfl) rfl rfl lo K
  ·have h:=pR os mQ (by omega)
   rw[hq] at h
   have mU:aF (cS (H2 us os) [0]) 1 0=some (os.map tV,1,true):=rfl
   exact TC.abQ (f:=tV) h mU jE.symm (Nat.le_refl _) D4 (fun _=>rfl) rfl rfl lo K
  ·have h:=wP (a % b*s) s Qq hsT (by
    have h2:=fG (b:=1000000000) (by decide) (Nat.le_trans (Nat.le_of_lt aU) (show b*s≤b*s from Nat.le_refl _))
    rw[hr,NL] at h2
    omega)
   rwa [Nat.mul_div_cancel _ Qq] at h
 clear body
 have nV:cK (b*s)=jD vs:=by rw[cK,NL]
 cases t1 with
 |
  false =>
  simp only[eU,dM,s1,s2,c1,Io,eT,hn,UO,w0,w1,q0,et,wN,mkN,c3,c4,cp,lV,l1,l2,wm,wm1,mkm,List.cons_append,List.nil_append,VX,Nat.reduceEqDiff,Nat.reduceAdd]
  refine Mf (CT:=CT) (We:=List.replicate m 0) (vs:=vs) (N:=N) (m:=m) (n:=n) (A:=a*s) (s:=s) aeN hm (by omega) aiQ hVl Ev f1 f0 hv1 adP AS (by simp) (Bh (by decide) _) (by rfl) (by rfl) (by simp only[VX,Nat.reduceEqDiff,Nat.reduceAdd];exact nV) (by rfl) (by rfl) (by rfl) ?_
  intro uA us os r12 r13 r16 NK GM jE mQ hv aU
  obtain⟨x1,x2,x3⟩:=tail us os NK GM jE mQ hv aU
  simp only[r12,r13,r16,x1,x2,x3,VX,Nat.reduceEqDiff,Nat.reduceAdd]
  exact fin
 |
  true =>
  rw[ht rfl] at s2
  simp only[eU,dM,s1,s2,c1,Io,eT,hn,UO,w0,w1,q0,et,wN,mkN,c3,c4,cp,lV,l1,l2,wm,wm1,mkm,List.cons_append,List.nil_append,VX,Nat.reduceEqDiff,Nat.reduceAdd]
  refine Mf (CT:=CT) (We:=List.replicate m 0) (vs:=vs) (N:=N) (m:=m) (n:=n) (A:=a*s) (s:=s) aeN hm (by omega) aiQ hVl Ev f1 f0 hv1 adP AS (by simp) (Bh (by decide) _) (by rfl) (by rfl) (by simp only[VX,Nat.reduceEqDiff,Nat.reduceAdd];exact nV) (by rfl) (by rfl) (by rfl) ?_
  intro uA us os r12 r13 r16 NK GM jE mQ hv aU
  obtain⟨x1,x2,x3⟩:=tail us os NK GM jE mQ hv aU
  simp only[r12,r13,r16,x1,x2,x3,VX,Nat.reduceEqDiff,Nat.reduceAdd]
  exact fin
end Go.PM
namespace Go.PM
theorem fQ (n:Nat) {H:aA}:nR (bY n) H=some (VI (aC 4294967296 n).length):=fI
theorem xF {n:Nat}:(0:Int)<((aC 4294967296 n).length:Int)↔n≠0:=by
 constructor
 ·intro h h0
  subst h0
  rw[bS] at h
  simp at h
 ·intro h
  have:=(kD (b:=4294967296) (by decide) (n:=n))
  have h2:aC 4294967296 n≠[]:=fun hx=>h (this.1 hx)
  have:=List.length_pos_iff.2 h2
  omega
theorem NW {n:Nat} (h:(aC 4294967296 n).length≤2):n<18446744073709551616:=by
 have h1:=iK (b:=4294967296) (by decide) n
 have h2:4294967296^(aC 4294967296 n).length≤4294967296^2:=Nat.pow_le_pow_right (by decide) h
 omega
theorem IV (a b:Nat) (ha:(aC 4294967296 a).length≤17592186044416) (hb:(aC 4294967296 b).length≤17592186044416):TC 171 [bY a,bY b] (bY (Nat.gcd a b)):=by
 refine TC.walk ⟨true,false⟩ Ge rfl (Nat.le_of_ble_eq_true rfl) (by simp[aM,bQ]) (qF _) ?_
 simp only[BM,yR,VX,Nat.reduceEqDiff,Nat.reduceAdd]
 refine aR (fun(t:Nat×Nat) ρ H=>H=[]∧Nat.gcd t.1 t.2=Nat.gcd a b∧(aC 4294967296 t.1).length≤17592186044416∧(aC 4294967296 t.2).length≤17592186044416∧ρ 0=bY t.1∧ρ 1=bY t.2) (fun t=>t.2) (a,b) ⟨rfl,rfl,ha,hb,rfl,rfl⟩ ?_
 rintro⟨x,y⟩ ρ H ⟨rfl,hg,hx,hy,g0,g1⟩
 simp only at hg hx hy g0 g1
 have c1:=yO x hx
 have c2:=yO y hy
 by_cases ZD:y=0
 ·subst ZD
  have hl:¬(0:Int)<((aC 4294967296 0).length:Int):=by rw[xF];omega
  rw[Nat.gcd_zero_right] at hg
  simp only[gQ,g0,g1,fQ,hl,VX,Nat.reduceEqDiff,Nat.reduceAdd]
  rw[hg]
  exact aI (bQ _)
 have hl:(0:Int)<((aC 4294967296 y).length:Int):=xF.2 ZD
 by_cases h1:(aC 4294967296 x).length≤2∧(aC 4294967296 y).length≤2
 ·rw[if_pos h1.1] at c1
  rw[if_pos h1.2] at c2
  simp only[gQ,g0,g1,fQ,hl,c1,c2,VX,Nat.reduceEqDiff,Nat.reduceAdd]
  refine aR (fun(t:Nat×Nat) ρ H=>H=[]∧Nat.gcd t.1 t.2=Nat.gcd a b∧t.1<18446744073709551616∧t.2<18446744073709551616∧ρ 5=VK .u64 t.1∧ρ 7=VK .u64 t.2) (fun t=>t.2) (x,y) ⟨rfl,hg,NW h1.1,NW h1.2,rfl,rfl⟩ ?_
  rintro⟨u,v⟩ Nd H ⟨rfl,hg2,hu,hv,k5,k7⟩
  simp only at hg2 hu hv k5 k7
  by_cases hv0:v=0
  ·subst hv0
   rw[Nat.gcd_zero_right] at hg2
   have hz:¬(0:Int)<((0:Nat):Int):=by omega
   have c3:=mX u hu
   simp only[qV,k5,k7,hz,c3,VX,Nat.reduceEqDiff,Nat.reduceAdd]
   rw[hg2]
   exact aI (bQ _)
  ·have hz:(0:Int)<(v:Int):=by omega
   have r1:=MD u v (by omega)
   simp only[qV,k5,k7,hz,r1,VX,Nat.reduceEqDiff,Nat.reduceAdd]
   refine⟨(v,u % v),?_,?_,hv,?_,rfl,rfl⟩
   ·exact Nat.mod_lt _ (by omega)
   ·simp only
    rw[←hg2,Nat.gcd_comm u v,Nat.gcd_rec v u,Nat.gcd_comm]
   ·simp only
    have:=Nat.mod_lt u (show 0<v by omega)
    omega
 ·have c3:=J2 x y ZD hx hy
  have next:∃s':Nat×Nat,s'.2<y∧Nat.gcd s'.1 s'.2=Nat.gcd a b∧(aC 4294967296 s'.1).length≤17592186044416∧(aC 4294967296 s'.2).length≤17592186044416∧bY y=bY s'.1∧bY (x % y)=bY s'.2:=by
   have hm:=Nat.mod_lt x (show 0<y by omega)
   refine⟨(y,x % y),hm,?_,hy,?_,rfl,rfl⟩
   ·simp only
    rw[←hg,Nat.gcd_comm x y,Nat.gcd_rec y x,Nat.gcd_comm]
   ·simp only
    have:=fG (b:=4294967296) (by decide) (Nat.le_of_lt hm)
    omega
  by_cases h2:(aC 4294967296 x).length≤2
  ·have h3:¬(aC 4294967296 y).length≤2:=fun h=>h1 ⟨h2,h⟩
   rw[if_pos h2] at c1
   rw[if_neg h3] at c2
   simp only[gQ,g0,g1,fQ,hl,c1,c2,c3,VX,Nat.reduceEqDiff,Nat.reduceAdd]
   exact next
  ·rw[if_neg h2] at c1
   by_cases h3:(aC 4294967296 y).length≤2
   ·rw[if_pos h3] at c2
    simp only[gQ,g0,g1,fQ,hl,c1,c2,c3,VX,Nat.reduceEqDiff,Nat.reduceAdd]
    exact next
   ·rw[if_neg h3] at c2
    simp only[gQ,g0,g1,fQ,hl,c1,c2,c3,VX,Nat.reduceEqDiff,Nat.reduceAdd]
    exact next
end Go.PM
namespace Go.PM
open Go.Lib
theorem oN (a b:List UInt8) (h:a.length+b.length≤9223372036854775807):cV .add (.string ⟨a.toArray⟩) (.string ⟨b.toArray⟩)=some (.string ⟨(a++b).toArray⟩):=by
 have h1:(⟨a.toArray⟩:ByteArray).size=a.length:=by simp[ByteArray.size]
 have h2:(⟨b.toArray⟩:ByteArray).size=b.length:=by simp[ByteArray.size]
 have h3:¬(((⟨a.toArray⟩:ByteArray).size+(⟨b.toArray⟩:ByteArray).size:Nat):Int)>IntKind.i64.max:=by
  rw[h1,h2]
  show ¬_>(9223372036854775807:Int)
  omega
 simp only[cV,h3,if_false]
 congr 2
theorem bC (a:List UInt8):yK (.string ⟨a.toArray⟩)=some (.int .i64 (a.length:Int)):=by simp[yK,ByteArray.size]
theorem aaC:∀a:List UInt8,(aB (aQ a)).length=1:=fun _=>rfl
theorem VM {xs:List (List UInt8)} {H:aA} {lo b g n:Nat} (hr:aF H b g=some (xs.map aQ,1,true)) (hn:xs.length=n) (eI:lo≤b) (Ce:n≤9223372036854775806) :
  iY 185 [.ref b g 0 n n] lo H fun r H'=>r = .dS []∧H'=H.set b (.row g (xs.reverse.map aQ) 1 true):=by
 refine iY.walk ⟨true,false⟩ pN (Nat.le_of_ble_eq_true rfl) ?_
 have e0:nR (.ref b g 0 n n) H=some (VI n):=dR hr
 have w0:IntKind.i64.wrap ((n:Int)-1)=(n:Int)-1:=wrap64 (by omega) (by omega)
 simp only[jU,jC,e0,w0,VX,Nat.reduceEqDiff,Nat.reduceAdd]
 refine aR (fun(t:Nat×List (List UInt8)) ρ K=>t.1≤n∧K=H.set b (.row g (t.2.map aQ) 1 true)∧t.2.length=n∧(∀k,k<n→t.2[k]? = if k<t.1∨n≤k+t.1 then xs[n-1-k]? else xs[k]?)∧ρ 0 = .ref b g 0 n n∧ρ 2=VI t.1∧ρ 3=VI ((n:Int)-1-(t.1:Int))) (fun t=>n-t.1) (0,xs) ⟨Nat.zero_le _,(tX hr).symm,hn,fun k hk=>by rw[if_neg (by simp only;omega)],rfl,rfl,by show VI ((n:Int)-1)=VI ((n:Int)-1-((0:Nat):Int));rw[Int.natCast_zero,Int.sub_zero]⟩ ?_
 rintro⟨i,ys⟩ ρ K ⟨hi,rfl,hl,hy,g0,g2,g3⟩
 simp only at hi hl hy g2 g3
 have hr2:aF (H.set b (.row g (ys.map aQ) 1 true)) b g=some (ys.map aQ,1,true):=lI hr
 by_cases dD:(i:Int)<(n:Int)-1-(i:Int)
 ·have hj:(n:Int)-1-(i:Int)=((n-1-i:Nat):Int):=by omega
  obtain⟨x,hx⟩:∃x,ys[i]? = some x:=⟨_,List.getElem?_eq_getElem (by omega)⟩
  obtain⟨y,hyy⟩:∃y,ys[n-1-i]? = some y:=⟨_,List.getElem?_eq_getElem (by omega)⟩
  rw[hj] at g3 dD
  have a1:∀(zs:List (List UInt8)) (k:Nat),zs.length=n→k<n→bJ 1 (.ref b g 0 n n) (VI (k:Int)) (H.set b (.row g (zs.map aQ) 1 true))=some (.ptr b g k 0):=fun zs k h1 h2=>by rw[aP (lI hr) h2,Nat.zero_add]
  have l1:cQ false 1 (.ptr b g (n-1-i) 0) (H.set b (.row g (ys.map aQ) 1 true))=some (aQ y):=pI hr2 hyy
  have l2:cQ false 1 (.ptr b g i 0) (H.set b (.row g (ys.map aQ) 1 true))=some (aQ x):=pI hr2 hx
  have s1:bX lo 1 (.ptr b g i 0) (aQ y) (H.set b (.row g (ys.map aQ) 1 true))=some (H.set b (.row g ((ys.set i y).map aQ) 1 true)):=by rw[dF (f:=aQ) (e:=1) hr2 (by omega) eI rfl rfl,kQ]
  have s2:bX lo 1 (.ptr b g (n-1-i) 0) (aQ x) (H.set b (.row g ((ys.set i y).map aQ) 1 true))=some (H.set b (.row g (((ys.set i y).set (n-1-i) x).map aQ) 1 true)):=by rw[dF (f:=aQ) (e:=1) (lI hr) (by rw[List.length_set];omega) eI rfl rfl,kQ]
  have w1:IntKind.i64.wrap ((i:Int)+1)=((i+1:Nat):Int):=wrapN _ (by omega) (by omega)
  have w2:IntKind.i64.wrap (((n-1-i:Nat):Int)-1)=(n:Int)-1-((i+1:Nat):Int):=by rw[wrap64 (by omega) (by omega)];omega
  have b1:=a1 ys i hl (by omega)
  have b2:=a1 ys (n-1-i) hl (by omega)
  have b3:=a1 (ys.set i y) (n-1-i) (by rw[List.length_set];exact hl) (by omega)
  simp only[eW,g0,g2,g3,dD,b1,b2,b3,l1,l2,s1,s2,w1,w2,VX,Nat.reduceEqDiff,Nat.reduceAdd]
  refine⟨(i+1,(ys.set i y).set (n-1-i) x),by simp only;omega,by simp only;omega,rfl,by simp only[List.length_set];exact hl,fun k hk => ?_,by (repeat' apply And.intro)<;>first | rfl | trivial⟩
  simp only
  have hxx:=hy i (by omega)
  rw[if_neg (by omega),hx] at hxx
  have hyx:=hy (n-1-i) (by omega)
  rw[if_neg (by omega),hyy] at hyx
  rw[List.getElem?_set,List.getElem?_set,List.length_set]
  by_cases h1:n-1-i=k
  ·subst h1
   rw[if_pos rfl,if_pos (by omega),if_pos (by omega),show n-1-(n-1-i)=i by omega]
   exact hxx
  ·rw[if_neg h1]
   by_cases h2:i=k
   ·subst h2
    rw[if_pos rfl,if_pos (by omega),if_pos (by omega)]
    exact hyx
   ·rw[if_neg h2,hy k hk]
    by_cases h3:k<i∨n≤k+i
    ·rw[if_pos h3,if_pos (by omega)]
    ·rw[if_neg h3,if_neg (by omega)]
 ·have apV:ys=xs.reverse:=by
   apply List.ext_getElem?
   intro k
   rcases Nat.lt_or_ge k n with h | h
   ·rw[hy k h,List.getElem?_reverse (by omega),hn]
    split
    ·rfl
    ·rw[show n-1-k=k by omega]
   ·rw[List.getElem?_eq_none (by omega),List.getElem?_eq_none (by rw[List.length_reverse];omega)]
  subst apV
  simp only[eW,g0,g2,g3,dD,VX,Nat.reduceEqDiff,Nat.reduceAdd]
  try exact⟨rfl,rfl⟩
theorem VN (n:Nat):(aC 1000000000 n).length≤2*(aC 4294967296 n).length:=by
 refine mT (by decide) ?_
 have h1:=iK (b:=4294967296) (by decide) n
 have h2:4294967296^(aC 4294967296 n).length≤(1000000000^2)^(aC 4294967296 n).length:=Nat.pow_le_pow_left (by decide) _
 rw[←Nat.pow_mul] at h2
 omega
theorem ZU {n:Nat} (hn:n≠0):(decDigits n).length≤9*(aC 1000000000 n).length:=by
 have h1:=iK (b:=1000000000) (by decide) n
 have h3:(aC 1000000000 n)≠[]:=fun h=>hn ((kD (by decide)).1 h)
 have h4:=List.length_pos_iff.2 h3
 generalize (aC 1000000000 n).length=L at *
 obtain⟨k,hk⟩:∃k,9*L=k+1:=⟨9*L-1,by omega⟩
 have h5:(1000000000:Nat)^L=10^(9*L):=by rw[show (1000000000:Nat)=10^9 by decide,←Nat.pow_mul]
 rw[h5,hk] at h1
 rw[hk]
 exact vC n k h1
def kK (q:Nat):List UInt8:=if q=0 then [] else decDigits q
theorem A1 (n:Nat) (hn:(aC 4294967296 n).length≤68719476736):TC 102 [bY n] (aQ (decDigits n)):=by
 refine TC.walk ⟨true,false⟩ Fs rfl (Nat.le_of_ble_eq_true rfl) (by simp[aM,bQ]) rfl ?_
 by_cases h0:n=0
 ·subst h0
  have hl:(((aC 4294967296 0).length:Nat):Int)=0:=by rw[bS];rfl
  simp only[tE,qU,fQ,hl,VX,Nat.reduceEqDiff,Nat.reduceAdd]
  rw[gV (by decide)]
  exact aI rfl
 have hl:¬(((aC 4294967296 n).length:Nat):Int)=0:=by have:=xF.2 h0;omega
 have e1:∀lr,jX lr [.string ⟨#[]⟩] 0 [] []=some (.ref 0 0 0 0 0,[.row 0 (([]:List (List UInt8)).map aQ) 1 true]):=fun lr=>iS (H:=[]) (lr:=lr) (z:=[.string ⟨#[]⟩]) rfl
 have hTn:=VN n
 have hdl:=ZU h0
 simp only[tE,qU,fQ,hl,e1,VX,Nat.reduceEqDiff,Nat.reduceAdd]
 refine aR (fun(t:Nat×List (List UInt8)) ρ H=>H=[.row t.2.length (t.2.map aQ) 1 true]∧t.1≤n∧t.2.length+(aC 1000000000 t.1).length=(aC 1000000000 n).length∧decDigits n=kK t.1++t.2.reverse.flatten∧ρ 0=bY t.1∧ρ 3 = .ref 0 t.2.length 0 t.2.length t.2.length) (fun t=>t.1) (n,[]) ⟨rfl,Nat.le_refl _,by simp,by simp[kK,h0],rfl,rfl⟩ ?_
 rintro⟨q,ps⟩ ρ H ⟨rfl,hq,hlen,UW,g0,g3⟩
 simp only at hq hlen UW g0 g3
 by_cases NP:q=0
 ·subst NP
  have hz:¬(0:Int)<((aC 4294967296 0).length:Int):=by rw[xF];omega
  rw[kK,if_pos rfl,List.nil_append] at UW
  have hr:aF [.row ps.length (ps.map aQ) 1 true] 0 ps.length=some (ps.map aQ,1,true):=aV
  simp only[kR,g0,g3,fQ,hz,VX,Nat.reduceEqDiff,Nat.reduceAdd]
  refine dL rfl ((VM hr rfl (Nat.le_refl _) (by omega)).mono ?_)
  rintro r H' ⟨rfl,rfl⟩
  have FT:([.row ps.length (ps.map aQ) 1 true]:aA).set 0 (.row ps.length (ps.reverse.map aQ) 1 true)=[.row ps.length (ps.reverse.map aQ) 1 true]:=rfl
  have hr2:aF [.row ps.length (ps.reverse.map aQ) 1 true] 0 ps.length=some (ps.reverse.map aQ,1,true):=aV
  have hfl:ps.reverse.flatten.length≤140737488355328:=by rw[←UW];omega
  have cj:=(afL ps.reverse (by rw[List.length_reverse];omega) hfl).flat (H:=[.row ps.length (ps.reverse.map aQ) 1 true]) (args:=[.ref 0 ps.length 0 ps.length ps.length,aQ []]) rfl (by simp only[aM,jH (f:=aQ) aaC (fun _=>rfl),Bool.and_true];rfl) (fz2 (DL hr2 (by simp) (Nat.le_refl _) (eH fun _=>rfl)) (aI rfl)) rfl
  simp only[FT,g3,cj,VX,Nat.reduceEqDiff,Nat.reduceAdd]
  rw[←UW]
  exact aI rfl
 ·have hz:(0:Int)<((aC 4294967296 q).length:Int):=xF.2 NP
  have hql:=fG (b:=4294967296) (by decide) hq
  have c1:TC 183 [bY q,.sc (.int .u32 1000000000)] (.dS [bY (q / 1000000000),uV (q % 1000000000)]):=tK q 1000000000 (by decide) (by decide) (by omega)
  have hm:=Nat.mod_lt q (show 0<1000000000 by decide)
  have c2:=agQ (q % 1000000000) (by omega)
  have wm:IntKind.u64.wrap ((q % 1000000000:Nat):Int)=((q % 1000000000:Nat):Int):=dQ _ (by omega)
  have hdq:=iE (b:=1000000000) (by decide) NP
  have azW:(aC 1000000000 q).length=(aC 1000000000 (q / 1000000000)).length+1:=by rw[hdq];rfl
  have Ub:=vC (q % 1000000000) 8 hm
  have hqq:=Nat.mod_add_div q 1000000000
  have e2:∀x:List UInt8,jX false [.string ⟨#[]⟩] 1 [(0,aQ x)] [.row ps.length (ps.map aQ) 1 true]=some (.tree [aQ x] (.cl 1),[.row ps.length (ps.map aQ) 1 true]):=fun x=>fY (z:=[.string ⟨#[]⟩]) rfl rfl rfl
  have e3:∀x:List UInt8,cN 1 (.tree [aQ x] (.cl 1)) [.row ps.length (ps.map aQ) 1 true]=some [aQ x]:=fun x=>eO rfl rfl
  have e4:∀x:List UInt8,eK 0 1 16 (.ref 0 ps.length 0 ps.length ps.length) [aQ x] [.row ps.length (ps.map aQ) 1 true]=some (.ref 0 (ps.length+1) 0 (ps.length+1) (ps.length+1),[.row (ps.length+1) ((ps++[x]).map aQ) 1 true]):=fun x=>by
   rw[iI (f:=aQ) (x:=x) aV rfl (Nat.le_refl _) (by decide) (by decide) (by omega)]
   rfl
  have hle:q / 1000000000<q:=Nat.div_lt_self (by omega) (by decide)
  by_cases hqz:q / 1000000000=0
  ·have Qx:¬(0:Int)<((aC 4294967296 (q / 1000000000)).length:Int):=by rw[xF];omega
   simp only[kR,g0,g3,fQ,hz,c1,c2,wm,Qx,e2,e3,e4,VX,Nat.reduceEqDiff,Nat.reduceAdd]
   refine⟨(q / 1000000000,ps++[decDigits (q % 1000000000)]),hle,by simp,by simp only;omega,by simp only[List.length_append,List.length_singleton];omega,?_,rfl,by simp⟩
   rw[UW,kK,if_neg NP,kK,if_pos hqz,List.reverse_append,List.nil_append,List.reverse_singleton,List.singleton_append,List.flatten_cons,show q % 1000000000=q by omega]
  ·have Qx:(0:Int)<((aC 4294967296 (q / 1000000000)).length:Int):=xF.2 hqz
   have ws:IntKind.i64.wrap ((9:Int)-((decDigits (q % 1000000000)).length:Int))=((9-(decDigits (q % 1000000000)).length:Nat):Int):=wrapN _ (by omega) (by omega)
   have c3:=Xi [48] (9-(decDigits (q % 1000000000)).length) (by simp;omega) (by omega)
   have WZ:repeatL [48] (9-(decDigits (q % 1000000000)).length)++decDigits (q % 1000000000)=Be 9 (q % 1000000000):=by
    rw[aeI 8 _ hm]
    congr 1
    have:=repeatL_replicate 48 1 (9-(decDigits (q % 1000000000)).length)
    rw[Nat.mul_one] at this
    exact this
   have c4:=oN (repeatL [48] (9-(decDigits (q % 1000000000)).length)) (decDigits (q % 1000000000)) (by rw[←List.length_append,WZ,ZV];decide)
   rw[WZ] at c4
   simp only[kR,g0,g3,fQ,hz,c1,c2,wm,Qx,bC,ws,c3,c4,e2,e3,e4,VX,Nat.reduceEqDiff,Nat.reduceAdd]
   refine⟨(q / 1000000000,ps++[Be 9 (q % 1000000000)]),hle,by simp,by simp only;omega,by simp only[List.length_append,List.length_singleton];omega,?_,rfl,by simp⟩
   rw[UW,kK,if_neg NP,kK,if_neg hqz,List.reverse_append,List.reverse_singleton,List.singleton_append,List.flatten_cons,←List.append_assoc,←Gj (by omega) hm]
   congr 2
   omega
end Go.PM
namespace Go.PM
open Go.Lib
def bD (q:Rat):VV := .agg [VB (decide (q.num<0)),bY q.num.natAbs,bY q.den]
theorem lH (q:Rat):aN (bD q)=true:=by simp[bD,aN,aM,bQ,jW]
theorem Ew (q:Rat):gA (bD q)=true:=by simp[bD,gA,oS,qF,jW]
theorem SY {q:Rat} {neg:Bool} {t b:Nat} (h0:q.num<0↔neg=true) (h1:q.num.natAbs=t) (h2:q.den=b):bD q = .agg [VB neg,bY t,bY b]:=by
 subst h1 h2
 unfold bD
 congr 4
 cases neg<;>simp_all
theorem cW (n:Nat):aZ (bY n)=true:=rfl
theorem cY (n:Nat):isAny (bY n)=false:=rfl
theorem cH (n:Nat):aB (bY n)=[bY n]:=rfl
theorem uG (q:Rat):isAny (bD q)=false:=rfl
theorem aO (q:Rat):aB (bD q)=[VB (decide (q.num<0)),bY q.num.natAbs,bY q.den]:=rfl
theorem vI (q:Rat):dP true 3 (bD q) 0=some (bD q):=rfl
theorem Fp (q:Rat):dP false 1 (bD q) 0=some (VB (decide (q.num<0))):=rfl
theorem EU (q:Rat):dP false 1 (bD q) 1=some (bY q.num.natAbs):=rfl
theorem Tk (q:Rat):dP false 1 (bD q) 2=some (bY q.den):=rfl
theorem pP {d:Nat} {H:aA} {u u' v v' w w':VV} (h1:fz (d+1) H u=some u') (h2:fz (d+1) H v=some v') (h3:fz (d+1) H w=some w'):fz (d+2) H (.agg [u,v,w])=some (.agg [u',v',w']):=by
 have e:fz (d+2) H (.agg [u,v,w])=if aN (.agg [u,v,w])=true then some (.agg [u,v,w]) else ([u,v,w].mapM (fz (d+1) H)).map .agg:=rfl
 rw[e]
 by_cases hp:aN (.agg [u,v,w])=true
 ·rw[if_pos hp]
  simp only[aN,aM,Bool.and_eq_true,and_true] at hp
  rw[aH hp.1] at h1
  rw[aH hp.2.1] at h2
  rw[aH hp.2.2] at h3
  cases h1
  cases h2
  cases h3
  rfl
 ·rw[if_neg hp,List.mapM_cons,h1,List.mapM_cons,h2,List.mapM_cons,h3]
  rfl
theorem acI {d:Nat} {H:aA} {v:Value} (h:jW v=true):fz (d+1) H (.sc v)=some (.sc v):=aH h
theorem Wf {H:aA} {neg:Bool} {t b:Nat}:fz depth H (.agg [VB neg,bY t,bY b])=some (.agg [VB neg,bY t,bY b]):=aI (by simp[aN,aM,bQ,jW])
theorem alQ {n:Nat} (h:bl n≤2199023255552):(aC 4294967296 n).length≤68719476736:=by
 have:=acW n
 omega
theorem C3 {n:Nat} (h:bl n≤4398046511104):(aC 4294967296 n).length≤17592186044416:=by
 have:=acW n
 omega
theorem Vi {n:Int} (h0 : -9223372036854775808≤n) (h:n<0):IntKind.u64.wrap (0-IntKind.u64.wrap n)=(n.natAbs:Int):=by
 rw[wrap_u64,wrap_u64]
 omega
theorem Gf (n:Int) (h0 : -9223372036854775808≤n) (h1:n≤9223372036854775807):TC 107 [VI n] (VK .u64 (n.natAbs:Int)):=by
 refine TC.walk ⟨true,false⟩ FW rfl (Nat.le_of_ble_eq_true rfl) rfl rfl ?_
 by_cases h:n<0
 ·simp only[wH,rS,h,Vi h0 h,VX,Nat.reduceEqDiff,Nat.reduceAdd]
  exact aI rfl
 ·have w:IntKind.u64.wrap n=(n.natAbs:Int):=by rw[wrap_u64];omega
  simp only[wH,rS,h,w,VX,Nat.reduceEqDiff,Nat.reduceAdd]
  exact aI rfl
theorem Yu (n:Int):bD (n:Rat) = .agg [VB (decide (n<0)),bY n.natAbs,bY 1]:=SY (by simp) (by simp) (by simp)
theorem Ac (n:Int) (h0 : -9223372036854775808≤n) (h1:n≤9223372036854775807):TC 97 [VI n] (bD (n:Rat)):=by
 refine TC.walk ⟨true,false⟩ Mx rfl (Nat.le_of_ble_eq_true rfl) rfl (Ew _) ?_
 have c1:=Gf n h0 h1
 have c2:=mX n.natAbs (by omega)
 have c3:TC 101 [.sc (.int .u64 1)] (bY 1):=mX 1 (by decide)
 rw[Yu]
 simp only[Jw,Fc,c1,c2,c3,cW,cY,cH,qT,Nat.reduceLeDiff,Nat.reduceLT,Nat.reduceSub,VX,Nat.reduceEqDiff,Nat.reduceAdd]
 exact Wf
theorem Tu {q:Rat}:(((aC 4294967296 q.num.natAbs).length:Nat):Int)=0↔q.num=0:=by
 have:=xF (n:=q.num.natAbs)
 omega
theorem HJ (q:Rat):TC 104 [bD q] (VI (C6 q)):=by
 refine TC.walk ⟨true,false⟩ EK rfl (Nat.le_of_ble_eq_true rfl) (by simp[aM,lH]) rfl ?_
 unfold C6
 by_cases h0:q.num=0
 ·have hl:=Tu.2 h0
  rw[if_pos h0]
  simp only[oI,lX,fQ,hl,aO,Fp,EU,cW,cY,cH,qT,Nat.reduceLeDiff,Nat.reduceLT,Nat.reduceSub,VX,Nat.reduceEqDiff,Nat.reduceAdd]
  exact aI rfl
 ·have hl:¬(((aC 4294967296 q.num.natAbs).length:Nat):Int)=0:=fun h=>h0 (Tu.1 h)
  rw[if_neg h0]
  by_cases h1:q.num<0
  ·simp only[oI,lX,fQ,hl,h1,aO,Fp,EU,cW,cY,cH,qT,Nat.reduceLeDiff,Nat.reduceLT,Nat.reduceSub,VX,Nat.reduceEqDiff,Nat.reduceAdd]
   exact aI rfl
  ·simp only[oI,lX,fQ,hl,h1,aO,Fp,EU,cW,cY,cH,qT,Nat.reduceLeDiff,Nat.reduceLT,Nat.reduceSub,VX,Nat.reduceEqDiff,Nat.reduceAdd]
   exact aI rfl
end Go.PM
namespace Go.PM
open Go.Lib
theorem Rp {q:Rat} {k:Nat} (h:fS q≤k):bl q.num.natAbs≤k:=Nat.le_trans Vt h
theorem Rb {q:Rat} {k:Nat} (h:fS q≤k):bl q.den≤k:=Nat.le_trans Un h
end Go.PM
namespace Go.PM
theorem Fq {n:Nat}:(0:Int)<((aC 1000000000 n).length:Int)↔n≠0:=by
 constructor
 ·intro h h0
  subst h0
  rw[bS] at h
  simp at h
 ·intro h
  have:=(kD (b:=1000000000) (by decide) (n:=n))
  have h2:aC 1000000000 n≠[]:=fun hx=>h (this.1 hx)
  have:=List.length_pos_iff.2 h2
  omega
theorem Vr {n:Nat} (h:bl n≤4398046511104):(aC 1000000000 n).length<17592186044416:=by
 have:=abY n
 omega
theorem Kn (a b:Nat) (ha:(aC 1000000000 a).length<17592186044416) (hb:(aC 1000000000 b).length<17592186044416):TC 213 [cK a,cK b] (cK (Nat.gcd a b)):=by
 refine TC.walk ⟨true,false⟩ Kx rfl (Nat.le_of_ble_eq_true rfl) (by simp[aM,cT]) (qM _) ?_
 simp only[GZ,Du,VX,Nat.reduceEqDiff,Nat.reduceAdd]
 refine aR (fun(t:Nat×Nat) ρ H=>H=[]∧Nat.gcd t.1 t.2=Nat.gcd a b∧(aC 1000000000 t.1).length<17592186044416∧(aC 1000000000 t.2).length<17592186044416∧ρ 0=cK t.1∧ρ 1=cK t.2) (fun t=>t.2) (a,b) ⟨rfl,rfl,ha,hb,rfl,rfl⟩ ?_
 rintro⟨x,y⟩ ρ H ⟨rfl,hg,hx,hy,g0,g1⟩
 simp only at hg hx hy g0 g1
 by_cases ZD:y=0
 ·subst ZD
  have hl:¬(0:Int)<((aC 1000000000 0).length:Int):=by rw[Fq];omega
  rw[Nat.gcd_zero_right] at hg
  simp only[uW,g0,g1,eT,hl,VX,Nat.reduceEqDiff,Nat.reduceAdd]
  rw[hg]
  exact aI (cT _)
 ·have hl:(0:Int)<((aC 1000000000 y).length:Int):=Fq.2 ZD
  have c3:=F1 x y ZD hx hy
  have hm:=Nat.mod_lt x (show 0<y by omega)
  simp only[uW,g0,g1,eT,hl,c3,VX,Nat.reduceEqDiff,Nat.reduceAdd]
  refine⟨(y,x % y),hm,?_,hy,?_,rfl,rfl⟩
  ·simp only
   rw[←hg,Nat.gcd_comm x y,Nat.gcd_rec y x,Nat.gcd_comm]
  ·simp only
   have:=fG (b:=1000000000) (by decide) (Nat.le_of_lt hm)
   omega
def bU (q:Rat):VV := .agg [VB (decide (q.num<0)),cK q.num.natAbs,cK q.den]
theorem uF (q:Rat):aN (bU q)=true:=by simp[bU,aN,aM,cT,jW]
theorem Iv (q:Rat):gA (bU q)=true:=by simp[bU,gA,oS,qM,jW]
theorem S4 {q:Rat} {neg:Bool} {t b:Nat} (h0:q.num<0↔neg=true) (h1:q.num.natAbs=t) (h2:q.den=b):bU q = .agg [VB neg,cK t,cK b]:=by
 subst h1 h2
 unfold bU
 congr 4
 cases neg<;>simp_all
theorem bF (n:Nat):aZ (cK n)=true:=rfl
theorem cI (n:Nat):isAny (cK n)=false:=rfl
theorem bT (n:Nat):aB (cK n)=[cK n]:=rfl
theorem vB (q:Rat):isAny (bU q)=false:=rfl
theorem fU (q:Rat):aB (bU q)=[VB (decide (q.num<0)),cK q.num.natAbs,cK q.den]:=rfl
theorem oF (q:Rat):dP true 3 (bU q) 0=some (bU q):=rfl
theorem vS (q:Rat):dP false 1 (bU q) 0=some (VB (decide (q.num<0))):=rfl
theorem zP (q:Rat):dP false 1 (bU q) 1=some (cK q.num.natAbs):=rfl
theorem zB (q:Rat):dP false 1 (bU q) 2=some (cK q.den):=rfl
theorem Td {H:aA} (q:Rat):fz depth H (bU q)=some (bU q):=aI (uF q)
theorem WR (n:Int):bU (n:Rat) = .agg [VB (decide (n<0)),cK n.natAbs,cK 1]:=S4 (by simp) (by simp) (by simp)
theorem ME {n lo:Nat} {H:aA} {K:VV→aA→Prop} (h:(aC 1000000000 n).length≤17592186044416):cM 178 [cK n,.tree [VI 1] (.cl 1)] lo H K=K (VI (lF n 1)) H:=by
 have c:=Dq n 1 h (by rw[BF (by decide) (by decide) (by decide)];simp)
 have e:cK 1 = .tree [VI 1] .op:=by rw[cK,BF (by decide) (by decide) (by decide)];rfl
 rw[e] at c
 exact TC.args c rfl (by simp only[aM,cT];rfl) (fz2 (aI (cT n)) (acL rfl)) (by simp only[List.flatMap_cons,List.flatMap_nil,DY (cT n),XD (es:=[VI 1]) rfl,List.append_nil]) lo K
theorem fW {d:Int} {H:aA}:jX false [.int .i64 0] 1 [(0,VI d)] H=some (.tree [VI d] (.cl 1),H):=Fb
theorem eZ {e:Nat} {es:List VV}:aZ (.tree es (.cl e))=true:=rfl
theorem dO {k:TK} {es:List VV}:aB (.tree es k)=[.tree es k]:=rfl
theorem fA {k:TK} {es:List VV}:isAny (.tree es k)=false:=rfl
theorem Nn {d:Nat} {H:aA}:fz (d+2) H (.tree [VI 1] (.cl 1))=some (cK 1):=by
 rw[Zd]
 unfold fz
 have:aN (.tree [VI 1] (.cl 1))=false:=by simp[aN]
 simp only[this,Bool.false_eq_true,if_false]
 rfl
theorem Dt (n:Int) (h0 : -9223372036854775808<n) (h1:n≤9223372036854775807):TC 166 [VI n] (bU (n:Rat)):=by
 refine TC.walk ⟨true,false⟩ Kq rfl (Nat.le_of_ble_eq_true rfl) rfl (Iv _) ?_
 rw[WR]
 by_cases h:n<0
 ·have w:IntKind.i64.wrap (0-n)=(n.natAbs:Int):=wrapN _ (by omega) (by omega)
  have c1:TC 161 [VI (n.natAbs:Int)] (cK n.natAbs):=oD (n.natAbs:Int) (by omega)
  rw[decide_eq_true h]
  simp only[BP,xU,h,w,c1,fW,bF,cI,bT,eZ,dO,fA,qT,Nat.reduceLeDiff,Nat.reduceLT,Nat.reduceSub,VX,Nat.reduceEqDiff,Nat.reduceAdd]
  exact pP (d:=6) (acI rfl) (aH (cT _)) (Nn (d:=5))
 ·have c1:TC 161 [VI n] (cK n.natAbs):=by
   have:=oD n h1
   rwa [show n.toNat=n.natAbs by omega] at this
  rw[decide_eq_false h]
  simp only[BP,xU,h,c1,fW,bF,cI,bT,eZ,dO,fA,qT,Nat.reduceLeDiff,Nat.reduceLT,Nat.reduceSub,VX,Nat.reduceEqDiff,Nat.reduceAdd]
  exact pP (d:=6) (acI rfl) (aH (cT _)) (Nn (d:=5))
theorem KD:TC 124 [] (bU 1):=by
 refine TC.walk ⟨true,false⟩ Kw rfl (Nat.le_of_ble_eq_true rfl) rfl (Iv _) ?_
 have c1:TC 166 [VI 1] (bU 1):=Dt 1 (by decide) (by decide)
 simp only[GY,C2,c1,fU,oF,vB,bF,qT,Nat.reduceLeDiff,Nat.reduceLT,Nat.reduceSub,VX,Nat.reduceEqDiff,Nat.reduceAdd]
 exact Td _
theorem BE:TC 136 [] (bU 0):=by
 refine TC.walk ⟨true,false⟩ Jk rfl (Nat.le_of_ble_eq_true rfl) rfl (Iv _) ?_
 have c1:TC 166 [VI 0] (bU 0):=Dt 0 (by decide) (by decide)
 simp only[EC,BG,c1,fU,oF,vB,bF,qT,Nat.reduceLeDiff,Nat.reduceLT,Nat.reduceSub,VX,Nat.reduceEqDiff,Nat.reduceAdd]
 exact Td _
theorem Jz (q:Rat):TC 141 [bU q] (VB (decide (q=0))):=by
 refine TC.walk ⟨true,false⟩ I4 rfl (Nat.le_of_ble_eq_true rfl) (by simp[aM,uF]) rfl ?_
 by_cases h0:q=0
 ·have hl:(((aC 1000000000 q.num.natAbs).length:Nat):Int)=0:=by rw[h0];simp[bS]
  simp only[Ay,wK,eT,hl,fU,vS,zP,zB,bF,cI,bT,qT,Nat.reduceLeDiff,Nat.reduceLT,Nat.reduceSub,VX,Nat.reduceEqDiff,Nat.reduceAdd]
  rw[decide_eq_true h0]
  exact aI rfl
 ·have hn:q.num≠0:=fun h=>h0 (Rat.num_eq_zero.1 h)
  have hl:¬(((aC 1000000000 q.num.natAbs).length:Nat):Int)=0:=by have := @Fq q.num.natAbs;omega
  simp only[Ay,wK,eT,hl,fU,vS,zP,zB,bF,cI,bT,qT,Nat.reduceLeDiff,Nat.reduceLT,Nat.reduceSub,VX,Nat.reduceEqDiff,Nat.reduceAdd]
  rw[decide_eq_false h0]
  exact aI rfl
theorem Ku (q:Rat):TC 232 [bU q] (VB (decide (q.num<0))):=by
 refine TC.walk ⟨true,false⟩ KH rfl (Nat.le_of_ble_eq_true rfl) (by simp[aM,uF]) rfl ?_
 simp only[GV,Dc,fU,vS,bF,qT,Nat.reduceLeDiff,Nat.reduceLT,Nat.reduceSub,VX,Nat.reduceEqDiff,Nat.reduceAdd]
 exact aI rfl
end Go.PM
namespace Go.PM
open Go.Lib
theorem abN {m n:Nat} (h:decDigits m=decDigits n):m=n:=by
 have key:∀k m n:Nat,m<10^(k+1)→decDigits m=decDigits n→m=n:=by
  intro k
  induction k with
  |
   zero =>
   intro m n hm h
   rw[gV (by omega)] at h
   by_cases hn:n<10
   ·rw[gV hn] at h
    have h1:=List.singleton_inj.1 h
    unfold d10 at h1
    have:=congrArg UInt8.toNat h1
    simp at this
    omega
   ·rw[wY hn] at h
    have:=congrArg List.length h
    have h2:=List.length_pos_iff.2 (MX (n / 10))
    simp only[List.length_append,List.length_cons,List.length_nil] at this
    omega
  |
   succ k ih =>
   intro m n hm h
   by_cases h1:m<10
   ·rw[gV h1] at h
    by_cases hn:n<10
    ·rw[gV hn] at h
     have h1:=List.singleton_inj.1 h
     unfold d10 at h1
     have:=congrArg UInt8.toNat h1
     simp at this
     omega
    ·rw[wY hn] at h
     have:=congrArg List.length h
     have h2:=List.length_pos_iff.2 (MX (n / 10))
     simp only[List.length_append,List.length_cons,List.length_nil] at this
     omega
   ·rw[wY h1] at h
    by_cases hn:n<10
    ·rw[gV hn] at h
     have:=congrArg List.length h
     have h2:=List.length_pos_iff.2 (MX (m / 10))
     simp only[List.length_append,List.length_cons,List.length_nil] at this
     omega
    ·rw[wY hn] at h
     obtain⟨h2,h3⟩:=List.append_inj' h rfl
     have h4:=ih (m / 10) (n / 10) (by rw[Nat.pow_succ] at hm;omega) h2
     have h5:=List.singleton_inj.1 h3
     unfold d10 at h5
     have:=congrArg UInt8.toNat h5
     simp at this
     omega
 exact key m m n (Nat.lt_trans (Nat.lt_pow_self (by decide)) (Nat.pow_lt_pow_right (by decide) (Nat.lt_succ_self m))) h
def C7 (q:Rat):List UInt8:=(if q.num<0 then [45] else [])++decDigits q.num.natAbs++(if q.den=1 then [] else 47::decDigits q.den)
def tM (q:Rat):Bool:=decide ((decDigits q.num.natAbs).length≤200)&&decide ((decDigits q.den).length≤200)
theorem yT (n:Nat):(decDigits n).length≤bl n+1:=by
 by_cases h:n=0
 ·subst h;rw[gV (by decide)];simp
 ·have h1:=ahP h
  obtain⟨k,hk⟩:∃k,bl n=k+1:=⟨bl n-1,by omega⟩
  have h2:=Pd n
  rw[hk] at h2 ⊢
  have h3:2^(k+1)≤10^(k+1):=Nat.pow_le_pow_left (by decide) _
  have:=vC n k (by omega)
  omega
end Go.PM
namespace Go.PM
open Go.Lib
theorem MV (a b:List UInt8):cV .neq (.string ⟨a.toArray⟩) (.string ⟨b.toArray⟩)=some (.bool (!decide (a=b))):=by
 have h:∀l:List UInt8,(ByteArray.toList ⟨l.toArray⟩)=l:=fun l=>by rw[ByteArray.toList_eq]
 show some (Value.bool (!(ByteArray.toList ⟨a.toArray⟩ == ByteArray.toList ⟨b.toArray⟩)))=_
 rw[h,h]
 congr 3
 cases h2:a == b
 ·rw[decide_eq_false (by simpa using h2)]
 ·rw[decide_eq_true (by simpa using h2)]
theorem TV (a b:List UInt8):cV .eql (.string ⟨a.toArray⟩) (.string ⟨b.toArray⟩)=some (.bool (decide (a=b))):=by
 have h:∀l:List UInt8,(ByteArray.toList ⟨l.toArray⟩)=l:=fun l=>by rw[ByteArray.toList_eq]
 show some (Value.bool (ByteArray.toList ⟨a.toArray⟩ == ByteArray.toList ⟨b.toArray⟩))=_
 rw[h,h]
 congr 2
 cases h2:a == b
 ·rw[decide_eq_false (by simpa using h2)]
 ·rw[decide_eq_true (by simpa using h2)]
theorem Ke {n:Nat}:(decDigits n=[49])↔n=1:=by
 have e:decDigits 1=[49]:=by rw[gV (by decide)];rfl
 rw[←e]
 exact⟨abN,fun h=>by rw[h]⟩
theorem HU (q:Rat) (hk:fS q≤1099511627776):TC 172 [bD q] (.dS [aQ (C7 q),VB (tM q)]):=by
 refine TC.walk ⟨true,false⟩ Ft rfl (Nat.le_of_ble_eq_true rfl) (by simp[aM,lH]) rfl ?_
 have la:=Rp hk
 have lb:=Rb hk
 have t1:=A1 q.num.natAbs (alQ (by omega))
 have t2:=A1 q.den (alQ (by omega))
 have d1:=yT q.num.natAbs
 have d2:=yT q.den
 have a1:cV .add (.string ⟨#[45]⟩) (.string ⟨(decDigits q.num.natAbs).toArray⟩)=some (.string ⟨(45::decDigits q.num.natAbs).toArray⟩):=oN [45] _ (by simp only[List.length_cons,List.length_nil];omega)
 have a2:cV .add (.string ⟨#[47]⟩) (.string ⟨(decDigits q.den).toArray⟩)=some (.string ⟨(47::decDigits q.den).toArray⟩):=oN [47] (decDigits q.den) (by simp only[List.length_cons,List.length_nil];omega)
 have a3:=oN (45::decDigits q.num.natAbs) (47::decDigits q.den) (by simp only[List.length_cons];omega)
 have a4:=oN (decDigits q.num.natAbs) (47::decDigits q.den) (by simp only[List.length_cons];omega)
 have ne:cV .neq (.string ⟨(decDigits q.den).toArray⟩) (.string ⟨#[49]⟩)=_:=MV (decDigits q.den) [49]
 have hf:tM q=(decide (((decDigits q.num.natAbs).length:Int)≤200)&&decide (((decDigits q.den).length:Int)≤200)):=by
  unfold tM
  congr 1<;>exact decide_eq_decide.2 (by omega)
 rw[hf]
 have hs:C7 q=(if q.num<0 then (45::decDigits q.num.natAbs) else decDigits q.num.natAbs)++(if q.den=1 then [] else 47::decDigits q.den):=by
  unfold C7
  by_cases hn:q.num<0
  ·rw[if_pos hn,if_pos hn];rfl
  ·rw[if_neg hn,if_neg hn];rfl
 rw[hs]
 by_cases hd:q.den=1
 ·rw[decide_eq_true (Ke.2 hd)] at ne
  rw[if_pos hd,List.append_nil]
  by_cases hn:q.num<0<;>by_cases hl:((decDigits q.num.natAbs).length:Int)≤200
  all_goals
   simp only[sW,qI,t1,t2,a1,a2,a3,a4,ne,hn,hl,bC,aO,vI,Fp,EU,Tk,uG,cW,cY,cH,qT,Nat.reduceLeDiff,Nat.reduceLT,Nat.reduceSub,VX,Nat.reduceEqDiff,Nat.reduceAdd]
   exact aI rfl
 ·rw[decide_eq_false (mt Ke.1 hd)] at ne
  rw[if_neg hd]
  by_cases hn:q.num<0<;>by_cases hl:((decDigits q.num.natAbs).length:Int)≤200
  all_goals
   simp only[sW,qI,t1,t2,a1,a2,a3,a4,ne,hn,hl,bC,aO,vI,Fp,EU,Tk,uG,cW,cY,cH,qT,Nat.reduceLeDiff,Nat.reduceLT,Nat.reduceSub,VX,Nat.reduceEqDiff,Nat.reduceAdd]
   exact aI rfl
def OI (q:Rat):VV:=if tM q=true then .dS [aQ (C7 q),VB true] else .dS [aQ [],VB false]
theorem VA (q:Rat):gA (OI q)=true:=by unfold OI;split<;>rfl
end Go.PM
namespace Go.PM
open Go.Lib
abbrev bV (b:UInt8):VV := .sc (.int .u8 (b.toNat:Int))
theorem IQ:∀bs:List UInt8,Gi (bs.map bV)=some bs
 | []=>rfl
 |
  b::bs=>by
  rw[List.map_cons]
  show (Gi (bs.map bV)).map (UInt8.ofNat ((b.toNat:Int)).toNat :: ·)=_
  rw[IQ bs]
  simp
structure D2 (v:VV) (H:aA) (bs:List UInt8):Prop where
 len:nR v H=some (VI bs.length)
 src:cN 1 v H=some (bs.map bV)
 nsc:∀x,v ≠ .sc x
theorem D2.str {v:VV} {H:aA} {bs:List UInt8} (h:D2 v H bs) {fl:Fl} {lo:Nat} {x:Operand} {ρ:dI} (hx:dW ρ x=v):vop fl lo (.b2s x) ρ H=some (aQ bs,H):=by
 have h1:=h.nsc
 have h2:=h.src
 unfold vop
 dsimp only
 rw[hx]
 cases v with
 | sc x=>exact absurd rfl (h1 x)
 | _=>simp only[h2,IQ,Option.map_some]
theorem UR {bs:List UInt8} {k:TK} {H:aA}:cN 1 (.tree (bs.map bV) k) H=some (bs.map bV):=by
 have:((bs.map bV).all fun x=>(aB x).length == 1&&(aB x).all aZ)=true:=by
  rw[List.all_eq_true]
  intro x hx
  obtain⟨d,_,rfl⟩:=List.mem_map.1 hx
  rfl
 simp only[cN,this,if_true]
theorem D2.tree {bs:List UInt8} {k:TK} {H:aA}:D2 (.tree (bs.map bV) k) H bs:=⟨fI,UR,fun x=>by simp⟩
theorem D2.row {bs:List UInt8} {H:aA} {b g:Nat} {w:Bool} (h:aF H b g=some (bs.map bV,1,w)):D2 (.ref b g 0 bs.length bs.length) H bs:=by
 refine⟨dR h,?_,fun x=>by simp⟩
 have nF:(((bs.map bV).drop 0).take bs.length).all (fun x=>(aB x).all aZ)=true:=by
  rw[List.all_eq_true]
  intro x hx
  obtain⟨d,_,rfl⟩:=List.mem_map.1 (List.mem_of_mem_drop (List.mem_of_mem_take hx))
  rfl
 simp only[cN,h]
 rw[if_pos ⟨trivial,by simp,nF⟩,List.drop_zero,List.take_of_length_le (by simp)]
theorem D2.cons {v:VV} {H:aA} {bs:List UInt8} (h:D2 v H bs) (x:UInt8) (hl:bs.length≤1000000) (lo:Nat):∃v' H',eK lo 1 1 (.tree [bV x] (.cl 1)) (bs.map bV) H=some (v',H')∧D2 v' H' (x::bs):=by
 by_cases hb:bs=[]
 ·subst hb
  exact⟨_,_,rfl,D2.tree (bs:=[x])⟩
 ·have eV:bs.length≠0:=fun h=>hb (List.length_eq_zero_iff.1 h)
  refine⟨.ref H.length 0 0 (x::bs).length (x::bs).length,H++[.row 0 ((x::bs).map bV) 1 true],?_,D2.row (N0 rfl)⟩
  simp only[eK,List.length_map]
  rw[if_pos ⟨by decide,by decide⟩,if_pos trivial,if_neg eV,if_pos (by simp;omega)]
  simp[Nat.add_comm]
theorem OV (r:Int):cV .rem (.int .i64 r) (.int .i64 10)=some (.int .i64 (r.tmod 10)):=rfl
theorem acQ (r:Int) (h0 : -9223372036854775808≤r) (h1:r≤9223372036854775807):cV .quo (.int .i64 r) (.int .i64 10)=some (.int .i64 (r.tdiv 10)):=by
 show some (Value.int .i64 (IntKind.i64.wrap (r.tdiv 10)))=_
 have h2:(r.tdiv 10).natAbs=r.natAbs / 10:=by rw[Int.natAbs_tdiv];rfl
 rw[wrap64 (by omega) (by omega)]
theorem Lq {d:Nat} (h:d<10):(d10 d).toNat=48+d:=by
 unfold d10
 simp
 omega
theorem Gy {n r:Nat} {bs:List UInt8} (h:decDigits n=decDigits r++bs):decDigits n=kK (r / 10)++d10 (r % 10)::bs:=by
 rw[h]
 by_cases hr:r<10
 ·rw[gV hr,kK,if_pos (by omega),Nat.mod_eq_of_lt hr];rfl
 ·rw[wY hr,kK,if_neg (by omega),List.append_assoc];rfl
theorem KI (n:Int) (h0 : -9223372036854775808≤n) (h1:n≤9223372036854775807):TC 235 [VI n] (aQ ((if n<0 then [45] else [])++decDigits n.natAbs)):=by
 refine TC.walk ⟨true,false⟩ KE rfl (Nat.le_of_ble_eq_true rfl) rfl rfl ?_
 have e0:∀lr,jX lr [.int .u8 0] 0 [] []=some (.ref 0 0 0 0 0,[.row 0 (([]:List UInt8).map bV) 1 true]):=fun lr=>iS (H:=[]) rfl
 have e1:∀(x:UInt8) (H:aA),jX false [.int .u8 0] 1 [(0,bV x)] H=some (.tree [bV x] (.cl 1),H):=fun x H=>fY rfl rfl rfl
 have hdl:=vC n.natAbs 19 (by omega)
 simp only[Gz,Dd,e0,VX,Nat.reduceEqDiff,Nat.reduceAdd]
 refine aR (fun(s:Int×List UInt8) ρ H => -9223372036854775808≤s.1∧s.1≤9223372036854775807∧(s.2=[]→s.1=n)∧(s.2≠[]→decDigits n.natAbs=kK s.1.natAbs++s.2)∧D2 (ρ 3) H s.2∧ρ 0=VI n∧ρ 4=VI s.1) (fun s=>s.1.natAbs+(if s.2=[] then 1 else 0)) (n,[]) ⟨h0,h1,fun _=>rfl,fun h=>absurd rfl h,by simp only[VX,Nat.reduceEqDiff,Nat.reduceAdd];exact D2.row (bs:=[]) aV,rfl,rfl⟩ ?_
 rintro⟨r,bs⟩ ρ H ⟨Bx,Wc,hn,hd,ho,g0,g4⟩
 simp only at Bx Wc hn hd ho g4
 generalize ZG:ρ 3=v3 at ho
 have hlen:=ho.len
 have zO:=ho.src
 by_cases Pl:bs≠[]∧r=0
 ·obtain⟨hb,hr⟩:=Pl
  subst hr
  have hl:¬(bs.length:Int)=0:=by have:=List.length_pos_iff.2 hb;omega
  have YQ:=hd hb
  simp only[kK,Int.natAbs_zero,if_true,List.nil_append] at YQ
  by_cases pY:n<0
  ·obtain⟨v',H',ap,ho'⟩:=ho.cons 45 (by rw[←YQ];omega) 0
   have TI:jX false [.int .u8 0] 1 [(0,.sc (.int .u8 45))] H=some (.tree [bV 45] (.cl 1),H):=e1 45 H
   have bs2:=fun aS (h:dW aS (.tmp 34)=v')=>ho'.str (fl:=⟨true,false⟩) (lo:=0) h
   simp only[iW,g0,g4,ZG,hlen,hl,VX,Nat.reduceEqDiff,Nat.reduceAdd]
   simp only[g0,pY,ZG,TI,zO,ap,Nl,VX,Nat.reduceEqDiff,Nat.reduceAdd]
   rw[bs2 _ (by rfl)]
   simp only[VX,Nat.reduceEqDiff,Nat.reduceAdd]
   rw[YQ]
   exact aI rfl
  ·have bs2:=fun aS (h:dW aS (.tmp 34)=v3)=>ho.str (fl:=⟨true,false⟩) (lo:=0) h
   simp only[iW,g0,g4,ZG,hlen,hl,VX,Nat.reduceEqDiff,Nat.reduceAdd]
   simp only[g0,pY,ZG,Nl,VX,Nat.reduceEqDiff,Nat.reduceAdd]
   rw[bs2 _ (by simp only[VX,Nat.reduceEqDiff,Nat.reduceAdd];try exact ZG)]
   simp only[VX,Nat.reduceEqDiff,Nat.reduceAdd]
   rw[YQ]
   exact aI rfl
 ·have hm:r.tmod 10=if r<0 then -((r.natAbs % 10:Nat):Int) else ((r.natAbs % 10:Nat):Int):=by
   have:=Int.tmod_eq_emod_of_nonneg (a:=r) (b:=10)
   by_cases h:r<0
   ·rw[if_pos h]
    have h2:=Int.neg_tmod (-r) 10
    rw[Int.neg_neg] at h2
    rw[h2,Int.tmod_eq_emod_of_nonneg (by omega)]
    omega
   ·rw[if_neg h,this (by omega)]
    omega
  have hq:(r.tdiv 10).natAbs=r.natAbs / 10:=by rw[Int.natAbs_tdiv];rfl
  have hmd:=Nat.mod_lt r.natAbs (show 0<10 by decide)
  have q1:=acQ r Bx Wc
  have wQ:bs.length≤19:=by
   by_cases hb:bs=[]
   ·subst hb;simp
   ·have h2:=hd hb
    have h3:=congrArg List.length h2
    rw[List.length_append] at h3
    have h4:r≠0:=fun h=>Pl ⟨hb,h⟩
    have h5:=List.length_pos_iff.2 (MX r.natAbs)
    rw[kK,if_neg (by omega)] at h3
    omega
  obtain⟨v',H',ap,ho'⟩:=ho.cons (d10 (r.natAbs % 10)) (by omega) 0
  have w2:IntKind.i64.wrap (48+((r.natAbs % 10:Nat):Int))=((48+r.natAbs % 10:Nat):Int):=wrapN _ (by omega) (by omega)
  have w3:IntKind.u8.wrap ((48+r.natAbs % 10:Nat):Int)=((48+r.natAbs % 10:Nat):Int):=by
   simp[IntKind.wrap,IntKind.bits,IntKind.signed]
   omega
  have hx:VV.sc (.int .u8 ((48+r.natAbs % 10:Nat):Int))=bV (d10 (r.natAbs % 10)):=by rw[bV,Lq hmd]
  have TI:=e1 (d10 (r.natAbs % 10)) H
  rw[←hx] at TI ap
  have next:∃s':Int×List UInt8,s'.1.natAbs+(if s'.2=[] then 1 else 0)<r.natAbs+(if bs=[] then 1 else 0) ∧ -9223372036854775808≤s'.1∧s'.1≤9223372036854775807∧(s'.2=[]→s'.1=n)∧(s'.2≠[]→decDigits n.natAbs=kK s'.1.natAbs++s'.2)∧D2 v' H' s'.2∧r.tdiv 10=s'.1:=by
   refine⟨(r.tdiv 10,d10 (r.natAbs % 10)::bs),?_,by simp only;omega,by simp only;omega,fun h=>(by simp at h),fun _ => ?_,ho',rfl⟩
   ·simp only[hq,List.cons_ne_nil,if_false]
    by_cases hb:bs=[]
    ·rw[if_pos hb];omega
    ·have h4:r≠0:=fun h=>Pl ⟨hb,h⟩
     rw[if_neg hb];omega
   ·simp only[hq]
    by_cases hb:bs=[]
    ·subst hb
     refine Gy ?_
     rw[hn rfl,List.append_nil]
    ·have h4:r≠0:=fun h=>Pl ⟨hb,h⟩
     have h2:=hd hb
     rw[kK,if_neg (by omega)] at h2
     exact Gy h2
  by_cases hrn:r.tmod 10<0
  ·have w1:IntKind.i64.wrap (0-r.tmod 10)=((r.natAbs % 10:Nat):Int):=by
    have:r.tmod 10 = -((r.natAbs % 10:Nat):Int):=by
     by_cases h:r<0
     ·rw[if_pos h] at hm;exact hm
     ·rw[if_neg h] at hm;omega
    rw[this]
    exact wrapN _ (by omega) (by omega)
   by_cases hb:bs=[]
   ·have hl:(bs.length:Int)=0:=by rw[hb];rfl
    simp only[iW,g0,g4,ZG,hlen,hl,OV,q1,hrn,w1,w2,w3,TI,zO,ap,VX,Nat.reduceEqDiff,Nat.reduceAdd]
    obtain⟨s',n1,n2,n3,n4,n5,n6,n7⟩:=next
    exact⟨s',n1,n2,n3,n4,n5,n6,by rw[n7]⟩
   ·have hl:¬(bs.length:Int)=0:=by have:=List.length_pos_iff.2 hb;omega
    have hr:¬r=0:=fun h=>Pl ⟨hb,h⟩
    simp only[iW,g0,g4,ZG,hlen,hl,hr,OV,q1,hrn,w1,w2,w3,TI,zO,ap,VX,Nat.reduceEqDiff,Nat.reduceAdd]
    obtain⟨s',n1,n2,n3,n4,n5,n6,n7⟩:=next
    exact⟨s',n1,n2,n3,n4,n5,n6,by rw[n7]⟩
  ·have hmm:r.tmod 10=((r.natAbs % 10:Nat):Int):=by
    rw[hm] at hrn ⊢
    split
    ·rename_i h;rw[if_pos h] at hrn;omega
    ·rfl
   have akL:¬((r.natAbs % 10:Nat):Int)<0:=by omega
   by_cases hb:bs=[]
   ·have hl:(bs.length:Int)=0:=by rw[hb];rfl
    simp only[iW,g0,g4,ZG,hlen,hl,OV,hmm,q1,akL,w2,w3,TI,zO,ap,VX,Nat.reduceEqDiff,Nat.reduceAdd]
    obtain⟨s',n1,n2,n3,n4,n5,n6,n7⟩:=next
    exact⟨s',n1,n2,n3,n4,n5,n6,by rw[n7]⟩
   ·have hl:¬(bs.length:Int)=0:=by have:=List.length_pos_iff.2 hb;omega
    have hr:¬r=0:=fun h=>Pl ⟨hb,h⟩
    simp only[iW,g0,g4,ZG,hlen,hl,hr,OV,hmm,q1,akL,w2,w3,TI,zO,ap,VX,Nat.reduceEqDiff,Nat.reduceAdd]
    obtain⟨s',n1,n2,n3,n4,n5,n6,n7⟩:=next
    exact⟨s',n1,n2,n3,n4,n5,n6,by rw[n7]⟩
end Go.PM
namespace Go.PM
abbrev chV (c:List (List ByteArray)):VV := .agg [tD c]
def Bj (n:Nat) (H:aA) (bare:Bool) (c:List (List ByteArray)) (r:VV):Prop:=∃c0,r = .agg [c0]∧uL n H bare c c0
theorem Bj.bO {n:Nat} {H H':aA} {bare:Bool} {s:List (List ByteArray)} {c:VV} (h:Bj n H bare s c) (hk:∀b g x,n<b→aF H b g=some x→aF H' b g=some x):Bj n H' bare s c:=by
 obtain⟨c0,rfl,h0⟩:=h
 exact⟨c0,rfl,h0.bO hk⟩
theorem Bj.pre {n:Nat} {H H':aA} {bare:Bool} {s:List (List ByteArray)} {c:VV} (h:Bj n H bare s c) (hh:H <+: H'):Bj n H' bare s c:=h.bO fun _ _ _ _=>bL hh
theorem Bj.fz {n:Nat} {H:aA} {bare:Bool} {s:List (List ByteArray)} {c:VV} (h:Bj n H bare s c):PM.fz depth H c=some (chV s):=by
 obtain⟨c0,rfl,h0⟩:=h
 have f0:=h0.fz (d:=4)
 have e:PM.fz (7+1) H (.agg [c0])=if aN (.agg [c0])=true then some (.agg [c0]) else ([c0].mapM (PM.fz 7 H)).map .agg:=rfl
 show PM.fz (7+1) H (.agg [c0])=_
 rw[e]
 by_cases hp:aN (.agg [c0])=true
 ·rw[if_pos hp]
  have hu:aN c0=true:=by simpa[aN,aM] using hp
  rw[aH hu] at f0
  cases f0
  rfl
 ·rw[if_neg hp,List.mapM_cons,f0]
  rfl
end Go.PM
namespace Go.PM
open Go.Lib
def gN (c:UInt8):Bool:=decide (48≤c.toNat)&&decide (c.toNat≤57)
def dv (c:UInt8):Nat:=c.toNat-48
def Ja (a:Nat) (l:List UInt8):Nat:=l.foldl (fun a c=>a*10+dv c) a
def bN (l:List UInt8):Nat:=Ja 0 l
theorem TN (l:List UInt8):∀a,Ja a l=a*10^l.length+bN l:=by
 induction l with
 | nil=>intro a;simp[Ja,bN]
 |
  cons c l ih =>
  intro a
  have h1:Ja a (c::l)=Ja (a*10+dv c) l:=rfl
  have h2:bN (c::l)=Ja (0*10+dv c) l:=rfl
  rw[h1,h2,ih,ih (0*10+dv c),List.length_cons,Nat.pow_succ]
  grind
theorem J4 (a b:List UInt8):bN (a++b)=bN a*10^b.length+bN b:=by
 have:bN (a++b)=Ja (bN a) b:=by unfold bN Ja;rw[List.foldl_append]
 rw[this,TN]
theorem JW:bN []=0:=rfl
theorem VD (a:List UInt8) (c:UInt8):bN (a++[c])=bN a*10+dv c:=by
 rw[J4]
 simp[bN,Ja]
theorem adF {c:UInt8} (h:gN c=true):dv c<10:=by
 simp only[gN,Bool.and_eq_true,decide_eq_true_eq] at h
 unfold dv
 omega
theorem Eb:∀ {l:List UInt8},l.all gN=true→bN l<10^l.length:=by
 intro l
 induction l with
 | nil=>intro _;decide
 |
  cons c l ih =>
  intro h
  rw[List.all_cons,Bool.and_eq_true] at h
  have h1:=adF h.1
  have h2:=ih h.2
  have h3:bN (c::l)=Ja (0*10+dv c) l:=rfl
  rw[h3,TN,List.length_cons,Nat.pow_succ]
  have h4:(0*10+dv c)*10^l.length≤9*10^l.length:=Nat.mul_le_mul_right _ (by omega)
  omega
theorem aeR {M:Nat} (hM:1000000000000000000≤M):∀(l:List UInt8) (k acc:Nat),l.all gN=true→acc<10^k→k+l.length≤18→parseUintM M acc l = .ok (Ja acc l):=by
 intro l
 induction l with
 | nil=>intro k acc _ _ _;rfl
 |
  cons c l ih =>
  intro k acc h hk hl
  rw[List.all_cons,Bool.and_eq_true] at h
  have h1:=adF h.1
  have h0:=h.1
  simp only[gN,Bool.and_eq_true,decide_eq_true_eq] at h0
  rw[List.length_cons] at hl
  have h18:acc<10^17:=Nat.lt_of_lt_of_le hk (Nat.pow_le_pow_right (by decide) (by omega))
  have e17:(10:Nat)^17=100000000000000000:=by decide
  rw[e17] at h18
  have hd:c.toNat-48=dv c:=rfl
  rw[parseUintM,if_pos h0,if_neg (by omega),hd,if_neg (by omega),ih (k+1) _ h.2 (by rw[Nat.pow_succ];omega) (by omega)]
  rfl
theorem agV {l:List UInt8} (h:l.all gN=true) (h0:l≠[]) (hl:l.length≤18):parseUintB 64 l = .ok (bN l):=by
 unfold parseUintB
 rw[if_neg h0]
 exact aeR (by decide) l 0 0 h (by decide) (by omega)
def gI (l:List UInt8):Bool:=l.all gN&&decide (1≤l.length)&&decide (l.length≤200)&&(decide (l.length=1) || !decide (l.getD 0 0=48))
theorem iM {l:List UInt8}:gI l=true↔l.all gN=true∧1≤l.length∧l.length≤200∧(l.length=1∨l.getD 0 0≠48):=by
 unfold gI
 simp only[Bool.and_eq_true,Bool.or_eq_true,Bool.not_eq_true',decide_eq_true_eq,decide_eq_false_iff_not,ne_eq,and_assoc]
theorem vP {l:List UInt8} (h:gI l=true):bl (bN l)≤665:=by
 obtain⟨h1,h2,h3,_⟩:=iM.1 h
 refine Hc (Nat.lt_of_lt_of_le (Eb h1) ?_)
 exact Nat.le_trans (Nat.pow_le_pow_right (by decide) h3) (by decide +kernel)
def kL (c:UInt8):List UInt8→List UInt8×Option (List UInt8)
 | []=>([],none)
 | x::r=>if x=c then ([],some r) else (x::(kL c r).1,(kL c r).2)
theorem yU {c:UInt8}:∀ {l:List UInt8},(kL c l).2=none→indexByte l c = -1∧(kL c l).1=l∧c∉l:=by
 intro l
 induction l with
 | nil=>intro _;exact⟨rfl,rfl,by simp⟩
 |
  cons x l ih =>
  intro h
  unfold kL at h ⊢
  by_cases hx:x=c
  ·rw[if_pos hx] at h
   cases h
  ·rw[if_neg hx] at h ⊢
   obtain⟨h1,h2,h3⟩:=ih h
   refine⟨?_,by rw[h2],?_⟩
   ·rw[indexByte,if_neg (by simpa using hx),h1]
    rfl
   ·rw[List.mem_cons,not_or]
    exact⟨fun h=>hx h.symm,h3⟩
theorem Gl {c:UInt8}:∀ {l r:List UInt8},(kL c l).2=some r→indexByte l c=((kL c l).1.length:Int)∧l=(kL c l).1++c::r∧c∉(kL c l).1:=by
 intro l
 induction l with
 | nil=>intro r h;cases h
 |
  cons x l ih =>
  intro r h
  unfold kL at h ⊢
  by_cases hx:x=c
  ·rw[if_pos hx] at h ⊢
   cases h
   subst hx
   refine⟨?_,rfl,by simp⟩
   rw[indexByte,if_pos (by simp)]
   rfl
  ·rw[if_neg hx] at h ⊢
   obtain⟨h1,h2,h3⟩:=ih h
   refine⟨?_,?_,?_⟩
   ·rw[indexByte,if_neg (by simpa using hx),h1,if_neg]
    ·simp
    ·simp
   ·conv=>lhs;rw[h2]
    rfl
   ·rw[List.mem_cons,not_or]
    exact⟨fun h=>hx h.symm,h3⟩
def mF (neg:Bool) (d:List UInt8) (s:Option (List UInt8)):Option Rat :=
 if gI d=false∨(neg=true∧bN d=0) then none else
 match s with
 | none=>some (mkRat (Gh neg (bN d)) 1)
 | some t=>if gI t=true∧1<bN t∧Nat.gcd (bN d) (bN t)=1 then some (mkRat (Gh neg (bN d)) (bN t)) else none
def isNeg (l:List UInt8):Bool:=decide (1≤l.length)&&decide (l.getD 0 0=45)
def vQ (l:List UInt8):Option Rat:=mF (isNeg l) ((kL 47 (if isNeg l then l.drop 1 else l)).1) ((kL 47 (if isNeg l then l.drop 1 else l)).2)
theorem QM {neg:Bool} {d:List UInt8} {s:Option (List UInt8)} {q:Rat} (h:mF neg d s=some q):gI d=true∧¬(neg=true∧bN d=0)∧((s=none∧q=mkRat (Gh neg (bN d)) 1)∨∃t,s=some t∧gI t=true∧1<bN t∧Nat.gcd (bN d) (bN t)=1∧q=mkRat (Gh neg (bN d)) (bN t)):=by
 unfold mF at h
 split at h
 ·cases h
 ·rename_i hc
  rw[not_or] at hc
  refine⟨by simpa using hc.1,hc.2,?_⟩
  split at h
  ·exact .inl ⟨rfl,(Option.some.inj h).symm⟩
  ·rename_i t
   split at h
   ·rename_i ht
    exact .inr ⟨t,rfl,ht.1,ht.2.1,ht.2.2,(Option.some.inj h).symm⟩
   ·cases h
theorem OY {neg:Bool} {d:List UInt8} {s:Option (List UInt8)} {q:Rat} (h:mF neg d s=some q):fS q≤665:=by
 obtain⟨h1,_,h3⟩:=QM h
 have hb:=vP h1
 rcases h3 with⟨_,rfl⟩ | ⟨t,_,h4,h5,_,rfl⟩
 ·exact PN (by rw[CB];exact hb) (Hc (by decide +kernel)) (by decide)
 ·exact PN (by rw[CB];exact hb) (vP h4) (by omega)
theorem RB {l:List UInt8} {q:Rat} (h:vQ l=some q):fS q≤665:=OY h
theorem Hv {neg:Bool} {t b:Nat} (hb:b≠0) (hg:Nat.gcd t b=1):(mkRat (Gh neg t) b).num=Gh neg t∧(mkRat (Gh neg t) b).den=b:=by
 rw[afJ hb,agG hb,hg,Nat.div_one,Nat.div_one]
 exact⟨rfl,rfl⟩
theorem DF {c:UInt8} {l:List UInt8}:isNeg (c::l)=decide (c=45):=by simp[isNeg]
theorem YD {l:List UInt8} (h:l.all gN=true):(47:UInt8)∉l:=by
 intro hm
 have:=List.all_eq_true.1 h _ hm
 exact absurd this (by decide)
end Go.PM