/- Texts of a claim, in one: part 11. -/
import Derived.KernelRfl
import Derived.Test.YtjmflicajplclaaGreatDoorKEj
open And renaming intro → aMU
open Bool renaming false_eq_true → aLQ
open Int renaming lt_trichotomy → aN3,mul_le_mul_of_nonneg_left → aOi,natCast_mul → aNx,ofNat_le → aOm,sign_eq_neg_one_of_neg → aN6,sign_eq_one_of_pos → aN7,tmod_eq_emod_of_nonneg → aOe
open List renaming all_eq_true → aLs,append_assoc → aM0,append_nil → aMm,cons_append → aME,drop_of_length_le → aM7,drop_succ_cons → aMZ,drop_zero → aMq,findIdx?_eq_none_iff → aOp,findIdx?_eq_some_iff_getElem → aOq,getElem?_eq_getElem → aLl,getElem?_eq_some_iff → aLd,getElem?_of_mem → aNa,length_append → aLp,length_cons → aLo,length_eq_zero_iff → aOn,length_map → aMV,length_nil → aMR,length_pos_iff → aNM,length_replicate → aM3,length_take → aMN,mapM_cons → aMB,mem_append → aMa,mem_map → aMP,mem_of_getElem? → aL8,mem_of_mem_drop → aMc,mem_of_mem_take → aMb,nil_append → aMw,prefix_append → aM9,replicate → aL4,set_cons_zero → aMS,take_append_drop → aMn,take_of_length_le → aL7,take_succ_cons → aL1,take_zero → aOl
open Nat renaming add_zero → aNq,div_mul_le_self → aOk,gcd → aNN,le_div_iff_mul_le → aNI,le_of_ble_eq_true → aM2,le_of_lt → aLV,le_refl → aLe,le_trans → aLf,lt_of_le_of_lt → aOj,lt_of_lt_of_le → aLg,mod_eq_of_lt → aMI,mod_lt → aLG,mul_comm → aMG,mul_le_mul_left → aNd,mul_le_mul_right → aLF,mul_lt_mul_of_pos_right → aND,mul_ne_zero → aNW,mul_zero → aNv,pow_succ → aMF,zero_add → aMM,zero_le → aLI,zero_lt_one → aOo
open Option renaming map_some → aMz
open Rat renaming num_eq_zero → aN5
set_option linter.unusedSimpArgs false
set_option linter.unusedVariables false
namespace Go.PM
abbrev H2 (us os:List Nat):aA:=[.row 0 (us.map tV) 1 true,.row 0 (os.map tV) 1 true]
theorem Yr {us os:List Nat}:aJ (H2 us os) 0 0=some (us.map tV,1,true):=rfl
theorem aBO {us os:List Nat}:aJ (H2 us os) 1 0=some (os.map tV,1,true):=rfl
theorem asE {P a Z:Nat} {y:Int} (h:(a:Int)+(P:Int)*y=(Z:Int)) (ha:a<P) (hZ:Z<P):y=0∧a=Z:=by
 have hy:y=0:=by
  rcases aN3 y 0 with h1 | h1 | h1
  ·have:(P:Int)*y≤(P:Int)*(-1):=aOi (by omega) (by omega)
   omega
  ·exact h1
  ·have:(P:Int)*1≤(P:Int)*y:=aOi (by omega) (by omega)
   omega
 subst hy
 rw[Int.mul_zero] at h
 exact⟨rfl,by omega⟩
theorem Xz {us:List Nat} {i n N V:Nat} (hN:us.length=N) (bX:i+n<N) (hd:∀d∈us,d<1000000000) (hV:V<1000000000^n) (EE:val 1000000000 (us.drop (i+1))<V) :
  us=us.take i++(us.drop i).take (n+1)++us.drop (i+(n+1))∧(us.take i).length=i∧((us.drop i).take (n+1)).length=n+1∧val 1000000000 ((us.drop i).take (n+1))<1000000000*V∧val 1000000000 (us.drop i)=val 1000000000 ((us.drop i).take (n+1))∧val 1000000000 (us.drop (i+(n+1)))=0∧∀j,j<n+1→((us.drop i).take (n+1))[j]? = us[i+j]? := by
 obtain⟨x,hx⟩:∃x,us[i]? = some x:=⟨_,aLl (by omega)⟩
 have lx:=hd x (aL8 hx)
 have h1:=wQ (b:=1000000000) hx
 have h2:val 1000000000 (us.drop i)<1000000000*V:=by
  have:1000000000*(val 1000000000 (us.drop (i+1))+1)≤1000000000*V:=aNd _ EE
  omega
 have h3:=sN (b:=1000000000) (us.drop i) (n+1)
 have h4:((us.drop i).take (n+1)).length=n+1:=by rw[aMN,List.length_drop];omega
 rw[h4,List.drop_drop] at h3
 have h5:val 1000000000 (us.drop (i+(n+1)))=0:=by
  rcases Nat.eq_zero_or_pos (val 1000000000 (us.drop (i+(n+1)))) with h | h
  ·exact h
  ·have h6:1000000000^(n+1)*1≤1000000000^(n+1)*val 1000000000 (us.drop (i+(n+1))):=aNd _ h
   have h7:1000000000*V≤1000000000^(n+1):=by rw[aMF,aMG];exact aLF _ (by omega)
   omega
 rw[h5,aNv,aNq] at h3
 refine⟨?_,by rw[aMN];omega,h4,by omega,h3,h5,fun j hj => ?_⟩
 ·rw[aM0,←List.drop_drop,aMn,aMn]
 ·rw[List.getElem?_take_of_lt hj,List.getElem?_drop]
theorem leT {g:Nat} (h:(1000000000:Int)≤(g:Int)):1000000000≤g:=by omega
theorem ahQ {g:Nat} (h:¬(1000000000:Int)≤(g:Int)):g<1000000000:=by omega
theorem ltC {a b:Nat} (h:(a:Int)<(b:Int)):a<b:=by omega
theorem aD0 {a b:Nat} (h:¬(a:Int)<(b:Int)):b≤a:=by omega
theorem R1 {a:Nat} (h:a*1000000000≤9223372036854775807):IntKind.i64.wrap ((a:Int)*1000000000)=((a*1000000000:Nat):Int):=wrapN _ (by omega) h
theorem RJ {a b:Nat} (h:a+b≤9223372036854775807):IntKind.i64.wrap ((a:Int)+(b:Int))=((a+b:Nat):Int):=wrapN _ (by omega) h
theorem adF {a b:Nat} (h:a*b≤9223372036854775807):IntKind.i64.wrap ((a:Int)*(b:Int))=((a*b:Nat):Int):=wrapN _ (by simp) h
theorem x17 {a:Nat} (h:a<1000000000):a*1000000000≤9223372036854775807:=by omega
theorem x18 {a b:Nat} (h:a<1000000000) (hb:b<1000000000):a*1000000000+b≤1000000000000000000:=by omega
theorem Wp {jI vs us os:List Nat} {n u2 u1 u0 v1 v0 N i g left:Nat} (G:Ar 1000000000 jI vs n u2 u1 u0 v1 v0) {ρ:cV} {Q:VQ} (hN:us.length=N) (hiN:i+(n+2)<N) (E5:N≤70368744177664) (hu0:us[i+n]? = some u0)
  (g13:ρ 13 = .ref 0 0 0 N N) (g14:ρ 14=jG vs) (g15:ρ 15=VI ((n+2:Nat):Int)) (g17:ρ 17=VI i) (g19:ρ 19=VI g) (g20:ρ 20=VI left) (hh:u2*1000000000+u1=g*v1+left) (hq:val 1000000000 jI / val 1000000000 vs≤g) (hl:left<1000000000) (hgb:g≤1000000000000000000)
  (hQ:∀(aP:cV) (g':Nat),val 1000000000 jI / val 1000000000 vs≤g'→g'≤val 1000000000 jI / val 1000000000 vs+1→g'<1000000000→aP 19=VI g'→aP 12=ρ 12→aP 13=ρ 13→aP 14=ρ 14→aP 15=ρ 15→aP 16=ρ 16→aP 17=ρ 17→Q (.exit 2) aP (H2 us os)) :
  VW ⟨true,false⟩ 0 (.loop iG) Q ρ (H2 us os):=by
 have lv1:=G.Zf
 have lv0:=G.ahW
 have lu0:=G.avI
 have qlt:=G.aqG
 have lQ:=G.pos
 have HG:=G.N2
 refine aN (fun(t:Nat×Nat) aP H=>H=H2 us os∧u2*1000000000+u1=t.1*v1+t.2∧val 1000000000 jI / val 1000000000 vs≤t.1∧t.2<1000000000∧t.1≤1000000000000000000 ∧
  aP 13 = .ref 0 0 0 N N∧aP 14=jG vs∧aP 15=VI ((n+2:Nat):Int)∧aP 17=VI i∧aP 19=VI t.1∧aP 20=VI t.2∧aP 12=ρ 12∧aP 16=ρ 16) (fun t=>1000000000-t.2) (g,left) ⟨rfl,hh,hq,hl,hgb,g13,g14,g15,g17,g19,g20,rfl,rfl⟩ ?_
 rintro⟨g,left⟩ tU H ⟨rfl,hh,hq,hl,hgb,B6,CZ,Nr,Iu,k19,k20,K9,k16⟩
 simp only at hh hq hl hgb k19 k20
 have f1:bI 1 (jG vs) (VI ((n+1:Nat):Int)) (H2 us os)=some (.cS (tV v1) 0):=aF (f:=tV) (t := .op) (size:=1) (k := .i64) G.f1 rfl
 have f0:bI 1 (jG vs) (VI (n:Int)) (H2 us os)=some (.cS (tV v0) 0):=aF (f:=tV) (t := .op) (size:=1) (k := .i64) G.f0 rfl
 have wn2:IntKind.i64.wrap (((n+2:Nat):Int)-2)=(n:Int):=wrapN _ (by omega) (by omega)
 have wn1:IntKind.i64.wrap (((n+2:Nat):Int)-1)=((n+1:Nat):Int):=wrapN _ (by omega) (by omega)
 have wi:IntKind.i64.wrap ((i:Int)+((n+2:Nat):Int))=((i+(n+2):Nat):Int):=wrapN _ (by omega) (by omega)
 have wi2:IntKind.i64.wrap (((i+(n+2):Nat):Int)-2)=((i+n:Nat):Int):=wrapN _ (by omega) (by omega)
 have e1:bI 1 (.ref 0 0 0 N N) (VI ((i+n:Nat):Int)) (H2 us os)=some (.ptr 0 0 (i+n) 0):=by rw[bC Yr (by omega),aMM]
 have e2:bG false 1 (.ptr 0 0 (i+n) 0) (H2 us os)=some (VI (u0:Int)):=Ox Yr hu0
 have wl:IntKind.i64.wrap ((left:Int)+(v1:Int))=((left+v1:Nat):Int):=wrapN _ (by omega) (by omega)
 have down:val 1000000000 jI / val 1000000000 vs<g→∃g',g=g'+1∧IntKind.i64.wrap ((g:Int)-1)=(g':Int)∧u2*1000000000+u1=g'*v1+(left+v1)∧val 1000000000 jI / val 1000000000 vs≤g':=by
  intro h
  have Xm:1≤g:=aOj (aLI _) h
  obtain⟨g',rfl⟩:∃g',g=g'+1:=⟨g-1,by omega⟩
  refine⟨g',rfl,wrapN _ (by omega) (by omega),?_,by omega⟩
  rw[hh,Nat.add_mul]
  omega
 have hmu:∀g':Nat,left+v1<1000000000→1000000000-(g',left+v1).2<1000000000-(g,left).2:=fun g' h=>by
  show 1000000000-(left+v1)<1000000000-left
  omega
 have hle:∀g':Nat,g=g'+1→g'≤1000000000000000000:=fun g' h=>by
  omega
 have aFa:left*1000000000+u0≤9223372036854775807:=aLf (x18 hl lu0) (by decide)
 have aEX:left*1000000000≤9223372036854775807:=x17 hl
 have ws:IntKind.i64.wrap ((left:Int)*1000000000)=((left*1000000000:Nat):Int):=R1 aEX
 have wa:IntKind.i64.wrap (((left*1000000000:Nat):Int)+(u0:Int))=((left*1000000000+u0:Nat):Int):=RJ aFa
 obtain⟨s13,s14,s15,s17⟩:tU 13=ρ 13∧tU 14=ρ 14∧tU 15=ρ 15∧tU 17=ρ 17:=⟨by rw[B6,g13],by rw[CZ,g14],by rw[Nr,g15],by rw[Iu,g17]⟩
 by_cases hA:(1000000000:Int)≤(g:Int)
 ·have hA':=leT hA
  obtain⟨g',hg',wg,Xx,Pn⟩:=down (aLg qlt hA')
  by_cases hB:(1000000000:Int)≤((left+v1:Nat):Int)
  ·obtain⟨c1,c2⟩:=G.broken Xx (leT hB)
   simp only[iG,B6,CZ,Nr,Iu,k19,k20,hA,hB,f1,wn1,wg,wl,VX,Nat.reduceEqDiff,Nat.reduceAdd]
   exact hQ _ g' Pn (G.aeZ Xx (aLV c1) c2) c1 rfl K9 s13 s14 s15 k16 s17
  ·simp only[iG,B6,CZ,Nr,Iu,k19,k20,hA,hB,f1,wn1,wg,wl,VX,Nat.reduceEqDiff,Nat.reduceAdd]
   refine⟨(g',left+v1),hmu g' (ahQ hB),Xx,Pn,ahQ hB,hle g' hg',?_⟩
   exact⟨rfl,rfl,K9,k16⟩
 ·have hA':=ahQ hA
  have hgv:g*v0≤999999999*999999999:=Nat.mul_le_mul (Nat.le_of_lt_succ hA') (Nat.le_of_lt_succ lv0)
  have wm:IntKind.i64.wrap ((g:Int)*(v0:Int))=((g*v0:Nat):Int):=adF (aLf hgv (by decide))
  by_cases hT:((left*1000000000+u0:Nat):Int)<((g*v0:Nat):Int)
  ·obtain⟨g',hg',wg,Xx,Pn⟩:=down (G.too hh (ltC hT))
   by_cases hB:(1000000000:Int)≤((left+v1:Nat):Int)
   ·obtain⟨c1,c2⟩:=G.broken Xx (leT hB)
    simp only[iG,B6,CZ,Nr,Iu,k19,k20,hA,hB,hT,f1,f0,e1,e2,wn1,wn2,wi,wi2,ws,wa,wm,wg,wl,VX,Nat.reduceEqDiff,Nat.reduceAdd]
    exact hQ _ g' Pn (G.aeZ Xx (aLV c1) c2) c1 rfl K9 s13 s14 s15 k16 s17
   ·simp only[iG,B6,CZ,Nr,Iu,k19,k20,hA,hB,hT,f1,f0,e1,e2,wn1,wn2,wi,wi2,ws,wa,wm,wg,wl,VX,Nat.reduceEqDiff,Nat.reduceAdd]
    refine⟨(g',left+v1),hmu g' (ahQ hB),Xx,Pn,ahQ hB,hle g' hg',?_⟩
    exact⟨rfl,rfl,K9,k16⟩
  ·simp only[iG,B6,CZ,Nr,Iu,k19,k20,hA,hT,f0,e1,e2,wn2,wi,wi2,ws,wa,wm,VX,Nat.reduceEqDiff,Nat.reduceAdd]
   exact hQ _ g hq (G.aeZ hh (aLV hA') (aD0 hT)) hA' k19 K9 s13 s14 s15 k16 s17
theorem Rn {Hg os0 vs:List Nat} {N m n v1 v0 A s:Nat} {ρ:cV} {Q:VQ} (hN:Hg.length=N) (hm:m+(n+2)=N) (E5:N≤70368744177664) (Mh:∀d∈Hg,d<1000000000) (HG:vs.length=n+2) (Kl:∀d∈vs,d<1000000000) (f1:vs[n+1]? = some v1) (f0:vs[n]? = some v0) (lQ:1≤v1)
  (hA:val 1000000000 Hg=A) (EE:val 1000000000 (Hg.drop m)<val 1000000000 vs) (hJ:os0.length=m) (nF:∀d∈os0,d<1000000000)
  (g12:ρ 12=VI s) (g13:ρ 13 = .ref 0 0 0 N N) (g14:ρ 14=jG vs) (g15:ρ 15=VI ((n+2:Nat):Int)) (g16:ρ 16 = .ref 1 0 0 m m) (g17:ρ 17=VI ((m:Int)-1))
  (hQ:∀(aP:cV) (us os:List Nat),aP 12=VI s→aP 13 = .ref 0 0 0 N N→aP 16 = .ref 1 0 0 m m→us.length=N→(∀d∈us,d<1000000000)→os.length=m→(∀d∈os,d<1000000000)→val 1000000000 us+val 1000000000 vs*val 1000000000 os=A→val 1000000000 us<val 1000000000 vs→Q (.exit 0) aP (H2 us os)) :
  VW ⟨true,false⟩ 0 (.loop jU) Q ρ (H2 Hg os0):=by
 have hVb:=rM Kl
 rw[HG] at hVb
 refine aN (fun(t:Nat×List Nat×List Nat) aP H=>t.1≤m∧H=H2 t.2.1 t.2.2∧t.2.1.length=N∧(∀d∈t.2.1,d<1000000000)∧t.2.2.length=m∧(∀d∈t.2.2,d<1000000000)∧val 1000000000 (t.2.1.drop t.1)<val 1000000000 vs∧val 1000000000 t.2.1+1000000000^t.1*val 1000000000 vs*val 1000000000 (t.2.2.drop t.1)=A ∧
  aP 12=VI s∧aP 13 = .ref 0 0 0 N N∧aP 14=jG vs∧aP 15=VI ((n+2:Nat):Int)∧aP 16 = .ref 1 0 0 m m∧aP 17=VI ((t.1:Int)-1)) (fun t=>t.1) (m,Hg,os0) ⟨aLe _,rfl,hN,Mh,hJ,nF,EE,by rw[aM7 (by simp only;omega)];simpa[val] using hA,g12,g13,g14,g15,g16,g17⟩ ?_
 rintro⟨j,us,os⟩ tU H ⟨hj,rfl,TX,Mh,hJ,nF,bH,hv,K9,B6,CZ,Nr,k16,Iu⟩
 simp only at hj TX Mh hJ nF bH hv Iu
 by_cases hz:(0:Int)≤(j:Int)-1
 ·obtain⟨i,rfl⟩:∃i,j=i+1:=⟨j-1,by omega⟩
  have Ea:((i+1:Nat):Int)-1=(i:Int):=by omega
  rw[Ea] at Iu hz
  obtain⟨YG,CW,Sl,hsW,aiG,aoR,vM⟩:=Xz (n:=n+2) TX (by omega) Mh hVb bH
  generalize acS:(us.drop i).take (n+2+1)=jI at *
  have TM:∀d∈jI,d<1000000000:=fun d hd=>by rw[←acS] at hd;exact Mh d (aMc (aMb hd))
  obtain⟨u2,hu2⟩:∃u2,us[i+(n+2)]? = some u2:=⟨_,aLl (by omega)⟩
  obtain⟨u1,hu1⟩:∃u1,us[i+(n+1)]? = some u1:=⟨_,aLl (by omega)⟩
  obtain⟨u0,hu0⟩:∃u0,us[i+n]? = some u0:=⟨_,aLl (by omega)⟩
  have G:Ar 1000000000 jI vs n u2 u1 u0 v1 v0:=⟨by decide,TM,Kl,Sl,HG,by rw[vM _ (by omega)];exact hu2,by rw[vM _ (by omega)];exact hu1,by rw[vM _ (by omega)];exact hu0,f1,f0,lQ,hsW⟩
  have lu2:=G.avU
  have lu1:=G.aiY
  have lv1:=G.Zf
  have qlt:=G.aqG
  have LD:=G.LD
  have w1:IntKind.i64.wrap ((i:Int)+((n+2:Nat):Int))=((i+(n+2):Nat):Int):=wrapN _ (by omega) (by omega)
  have w2:IntKind.i64.wrap (((i+(n+2):Nat):Int)-1)=((i+(n+1):Nat):Int):=wrapN _ (by omega) (by omega)
  have wn1:IntKind.i64.wrap (((n+2:Nat):Int)-1)=((n+1:Nat):Int):=wrapN _ (by omega) (by omega)
  have ev1:bI 1 (jG vs) (VI ((n+1:Nat):Int)) (H2 us os)=some (.cS (tV v1) 0):=aF (f:=tV) (t := .op) (size:=1) (k := .i64) f1 rfl
  have e2:bI 1 (.ref 0 0 0 N N) (VI ((i+(n+2):Nat):Int)) (H2 us os)=some (.ptr 0 0 (i+(n+2)) 0):=by rw[bC Yr (by omega),aMM]
  have e1:bI 1 (.ref 0 0 0 N N) (VI ((i+(n+1):Nat):Int)) (H2 us os)=some (.ptr 0 0 (i+(n+1)) 0):=by rw[bC Yr (by omega),aMM]
  have l2:bG false 1 (.ptr 0 0 (i+(n+2)) 0) (H2 us os)=some (VI (u2:Int)):=Ox Yr hu2
  have l1:bG false 1 (.ptr 0 0 (i+(n+1)) 0) (H2 us os)=some (VI (u1:Int)):=Ox Yr hu1
  have aFJ:u2*1000000000+u1≤1000000000000000000:=x18 lu2 lu1
  have aFx:u2*1000000000≤9223372036854775807:=x17 lu2
  have aBT:u2*1000000000+u1≤9223372036854775807:=aLf aFJ (by decide)
  have ws2:IntKind.i64.wrap ((u2:Int)*1000000000)=((u2*1000000000:Nat):Int):=R1 aFx
  have wa:IntKind.i64.wrap (((u2*1000000000:Nat):Int)+(u1:Int))=((u2*1000000000+u1:Nat):Int):=RJ aBT
  have q1:=Jx (u2*1000000000+u1) v1 aBT lQ
  have q2:=Jz (u2*1000000000+u1) v1 lQ
  simp only[jU,K9,B6,CZ,Nr,k16,Iu,hz,w1,w2,wn1,ev1,e1,e2,l1,l2,ws2,wa,q1,q2,VX,Nat.reduceEqDiff,Nat.reduceAdd]
  clear ws2 wa q1 q2 e1 e2 l1 l2 ev1 w1 w2 wn1
  have hh:=Nat.mod_add_div (u2*1000000000+u1) v1
  have hml:=aLG (u2*1000000000+u1) lQ
  have hdl:(u2*1000000000+u1) / v1≤u2*1000000000+u1:=Nat.div_le_self _ _
  have TW:val 1000000000 jI / val 1000000000 vs≤(u2*1000000000+u1) / v1:=by
   have t1:=(Fv (n:=n+1) (xs:=jI) TM (by omega) (by rw[vM _ (by omega)];exact hu2) (by rw[vM _ (by omega)];exact hu1)).2
   have t2:=(Ce (n:=n+1) Kl HG f1).1
   rw[aNI lQ]
   have t3:val 1000000000 jI / val 1000000000 vs*(v1*1000000000^(n+1))≤val 1000000000 jI / val 1000000000 vs*val 1000000000 vs:=aNd _ t2
   have t4:=aOk (val 1000000000 jI) (val 1000000000 vs)
   have t5:val 1000000000 jI / val 1000000000 vs*v1*1000000000^(n+1)<(u2*1000000000+u1+1)*1000000000^(n+1):=by rw[Nat.mul_assoc];omega
   have:=Nat.lt_of_mul_lt_mul_right t5
   omega
  generalize hQ1:(u2*1000000000+u1) / v1=g0 at *
  generalize hQ2:(u2*1000000000+u1) % v1=l0 at *
  refine Wp (i:=i) G TX (by omega) E5 hu0 B6 CZ Nr Iu (by rfl) (by rfl) (by rw[aMG g0];omega) TW (by omega) (by omega) ?_
  intro wJ g' hq Pn hgW r19 r12 r13 r14 r15 r16 r17
  have Wc:wJ 12=VI s:=r12.trans K9
  have Vf:wJ 13 = .ref 0 0 0 N N:=r13.trans B6
  have Ua:wJ 14=jG vs:=r14.trans CZ
  have WV:wJ 15=VI ((n+2:Nat):Int):=r15.trans Nr
  have arF:wJ 16 = .ref 1 0 0 m m:=r16.trans k16
  have auI:wJ 17=VI i:=r17.trans Iu
  simp only[Wc,Vf,Ua,WV,arF,auI,r19,VX,Nat.reduceEqDiff,Nat.reduceAdd]
  have Bn:g'*val 1000000000 vs≤val 1000000000 jI+val 1000000000 vs:=by
   have:=aLF (val 1000000000 vs) Pn
   rw[Nat.add_mul,Nat.one_mul] at this
   have:=aOk (val 1000000000 jI) (val 1000000000 vs)
   omega
  obtain⟨low,ayY⟩:∃low,low=jI.take (n+2):=⟨_,rfl⟩
  have hll:low.length=n+2:=by rw[ayY,aMN];omega
  have hld:∀d∈low,d<1000000000:=fun d hd=>TM d (by rw[ayY] at hd;exact aMb hd)
  have hsg:jI=low++[u2]:=by
   have h1:jI[n+2]? = some u2:=by rw[vM _ (by omega)];exact hu2
   have h2:=aMn (n+2) jI
   have h3:=(aLd.1 h1)
   rw[List.drop_eq_getElem_cons h3.1,h3.2,aM7 (by omega),←ayY] at h2
   exact h2.symm
  have TT:val 1000000000 jI=val 1000000000 low+1000000000^(n+2)*u2:=by rw[hsg,wF,hll]
  have mA:∀(lw:List Nat) (t:Nat),(us.take i).map tV++lw.map tV++VI (t:Int)::(us.drop (i+(n+2+1))).map tV=(us.take i++(lw++[t])++us.drop (i+(n+2+1))).map tV:=fun lw t=>by simp
  have Ko:aJ (H2 us os) 0 0=some ((us.take i).map tV++low.map tV++VI (u2:Int)::(us.drop (i+(n+2+1))).map tV,1,true):=by
   rw[mA,←hsg,←YG]
   rfl
  refine iN rfl ((acV (o:=i) (n:=n+2) Ko (aLI _) (by simpa using CW) hll HG (by omega) E5 hld Kl hgW lu2).mono ?_)
  rintro r H' ⟨DD,c,rfl,FA,hd',hc,hr,hE⟩
  have aGj:val 1000000000 low<1000000000^(n+2):=by have:=rM hld;rwa [hll] at this
  have aET:val 1000000000 DD<1000000000^(n+2):=by have:=rM hd';rwa [FA] at this
  have rows:∀(lw:List Nat) (t q:Nat),lw.length=n+2→(∀d∈lw,d<1000000000)→t<1000000000→q=val 1000000000 jI / val 1000000000 vs→val 1000000000 lw+1000000000^(n+2)*t=val 1000000000 jI % val 1000000000 vs →
    ((us.take i++(lw++[t])++us.drop (i+(n+2+1))).length=N∧(∀d∈us.take i++(lw++[t])++us.drop (i+(n+2+1)),d<1000000000)∧val 1000000000 ((us.take i++(lw++[t])++us.drop (i+(n+2+1))).drop i)<val 1000000000 vs∧val 1000000000 (us.take i++(lw++[t])++us.drop (i+(n+2+1)))+1000000000^i*val 1000000000 vs*val 1000000000 ((os.set i q).drop i)=A):=by
   intro lw t q hlw aFu ht Xh hse
   have auN:val 1000000000 (lw++[t])=val 1000000000 jI % val 1000000000 vs:=by rw[wF,hlw];exact hse
   have aEL:(lw++[t]).length=n+3:=by rw[aLp,hlw];rfl
   have aFf:∀d∈lw++[t],d<1000000000:=fun d hd=>by
    rcases aMa.1 hd with h | h
    ·exact aFu d h
    ·rw[List.mem_singleton.1 h];exact ht
   generalize lw++[t]=vG at *
   have aqB:=aLG (val 1000000000 jI) LD
   have YH:(us.take i++vG++us.drop (i+(n+2+1))).drop i=vG++us.drop (i+(n+2+1)):=by rw[aM0,List.drop_append,aM7 (by omega),CW];simp
   have Yp:(us.take i++vG++us.drop (i+(n+2+1))).take i=us.take i:=by rw[aM0,List.take_append_of_le_length (by omega),aL7 (by omega)]
   have VJ:val 1000000000 ((us.take i++vG++us.drop (i+(n+2+1))).drop i)=val 1000000000 vG:=by rw[YH,A5,aoR,aNv,aNq]
   refine⟨by rw[aLp,aLp,CW,aEL,List.length_drop];omega,fun d hd => ?_,by rw[VJ,auN];exact aqB,?_⟩
   ·rw[aMa,aMa] at hd
    rcases hd with(hd | hd) | hd
    ·exact Mh d (aMb hd)
    ·exact aFf d hd
    ·exact Mh d (aMc hd)
   ·have h1:=Nat.div_add_mod (val 1000000000 jI) (val 1000000000 vs)
    rw[←Xh,←auN,aMG] at h1
    have h2:=sN (b:=1000000000) us i
    have h3:=sN (b:=1000000000) (us.take i++vG++us.drop (i+(n+2+1))) i
    rw[Yp,CW,VJ] at h3
    rw[CW,aiG] at h2
    rw[set_drop (by omega),wY,h3]
    rw[h2,aMF] at hv
    exact N6 h1.symm hv
  have e3:∀(HX:List Nat) (d:Nat),bI 1 (.ref 1 0 0 m m) (VI i) (H2 HX os)=some (.ptr 1 0 i 0)∧bM 0 1 (.ptr 1 0 i 0) (VI (d:Int)) (H2 HX os)=some (H2 HX (os.set i d)):=fun HX d=>by
   refine⟨by rw[bC aBO (by omega),aMM],?_⟩
   rw[show VI (d:Int)=tV d from rfl,eG (f:=tV) (e:=1) aBO (by omega) (aLI _) rfl rfl]
   rfl
  have wi:IntKind.i64.wrap ((i:Int)-1)=(i:Int)-1:=wrap64 (by omega) (by omega)
  have hdm:=Nat.div_add_mod (val 1000000000 jI) (val 1000000000 vs)
  have aqB:=aLG (val 1000000000 jI) LD
  generalize hPP:1000000000^(n+2)=P at *
  by_cases mG:(u2:Int)-(c:Int)<0
  ·
   rw[decide_eq_true mG] at hr
   subst hr
   have hgt:val 1000000000 jI<g'*val 1000000000 vs:=by
    have h1:P*(u2+1)≤P*c:=aNd _ (by omega)
    rw[Nat.mul_add,Nat.mul_one] at h1
    omega
   have Xh:g'=val 1000000000 jI / val 1000000000 vs+1:=by
    rcases Nat.lt_or_ge (val 1000000000 jI / val 1000000000 vs) g' with h | h
    ·omega
    ·have h1:g'*val 1000000000 vs≤val 1000000000 jI / val 1000000000 vs*val 1000000000 vs:=aLF _ h
     have:=aOk (val 1000000000 jI) (val 1000000000 vs)
     omega
   have Xm:1≤g':=by rw[Xh];exact Nat.le_add_left 1 _
   have wg:IntKind.i64.wrap ((g':Int)-1)=((g'-1:Nat):Int):=wrapN _ (by omega) (by omega)
   simp only[Wc,Vf,Ua,WV,arF,auI,r19,wg,VX,Nat.reduceEqDiff,Nat.reduceAdd]
   have Ns:aJ ((H2 us os).set 0 (.row 0 ((us.take i).map tV++DD.map tV++VI ((u2:Int)-(c:Int))::(us.drop (i+(n+2+1))).map tV) 1 true)) 0 0=some ((us.take i).map tV++DD.map tV++VI ((u2:Int)-(c:Int))::(us.drop (i+(n+2+1))).map tV,1,true):=rfl
   refine iN rfl ((agC (o:=i) (n:=n+2) Ns (aLI _) (by simpa using CW) FA HG (by omega) E5 hd' Kl (by omega) (by omega)).mono ?_)
   rintro r H' ⟨Xu,c2,rfl,Kn,hd2,hc2,hE2⟩
   rw[hPP] at hE2
   have axZ:val 1000000000 Xu<P:=by have:=rM hd2;rwa [Kn,hPP] at this
   obtain⟨hy,hZ⟩:(u2:Int)-(c:Int)+(c2:Int)=0∧val 1000000000 Xu=val 1000000000 jI % val 1000000000 vs:=by
    refine asE (P:=P) ?_ axZ (by omega)
    have i1:(P:Int)*((u2:Int)-(c:Int)+(c2:Int))=(P:Int)*u2-(P:Int)*c+(P:Int)*c2:=by rw[Int.mul_add,Int.mul_sub]
    have i2:((P*u2:Nat):Int)=(P:Int)*u2:=by simp
    have i3:((P*c:Nat):Int)=(P:Int)*c:=by simp
    have i4:((P*c2:Nat):Int)=(P:Int)*c2:=by simp
    rw[i1,←i2,←i3,←i4]
    have i5:g'*val 1000000000 vs=val 1000000000 vs*(val 1000000000 jI / val 1000000000 vs)+val 1000000000 vs:=by rw[Xh,Nat.add_mul,Nat.one_mul,aMG (val 1000000000 vs)]
    omega
   have KW:((H2 us os).set 0 (.row 0 ((us.take i).map tV++DD.map tV++VI ((u2:Int)-(c:Int))::(us.drop (i+(n+2+1))).map tV) 1 true)).set 0 (.row 0 ((us.take i).map tV++Xu.map tV++VI ((u2:Int)-(c:Int)+(c2:Int))::(us.drop (i+(n+2+1))).map tV) 1 true)=H2 (us.take i++(Xu++[0])++us.drop (i+(n+2+1))) os:=by
    rw[hy]
    rw[show (0:Int)=((0:Nat):Int) from rfl,mA]
    rfl
   rw[KW]
   obtain⟨x1,x2⟩:=e3 (us.take i++(Xu++[0])++us.drop (i+(n+2+1))) (g'-1)
   obtain⟨y1,y2,y3,y4⟩:=rows Xu 0 (g'-1) Kn hd2 (by decide) (by rw[Xh,Nat.add_sub_cancel]) (by rw[aNv,aNq];exact hZ)
   simp only[Wc,Vf,Ua,WV,arF,auI,x1,x2,wi,VX,Nat.reduceEqDiff,Nat.reduceAdd]
   refine⟨(i,us.take i++(Xu++[0])++us.drop (i+(n+2+1)),os.set i (g'-1)),by simp only;omega,by omega,rfl,y1,y2,by rw[List.length_set];exact hJ,oD nF (by omega),y3,y4,?_⟩
   try (repeat' apply aMU)<;>first | rfl | trivial
  ·rw[decide_eq_false mG] at hr
   subst hr
   obtain⟨t',ht'⟩:∃t':Nat,(u2:Int)-(c:Int)=(t':Int):=⟨u2-c,by omega⟩
   have hP1:P*u2=P*c+P*t':=by rw[←Nat.mul_add];congr 1;omega
   have G0:g'*val 1000000000 vs≤val 1000000000 jI:=by omega
   have Xh:g'=val 1000000000 jI / val 1000000000 vs:=by
    have:=(aNI LD).2 G0
    omega
   have KW:(H2 us os).set 0 (.row 0 ((us.take i).map tV++DD.map tV++VI ((u2:Int)-(c:Int))::(us.drop (i+(n+2+1))).map tV) 1 true)=H2 (us.take i++(DD++[t'])++us.drop (i+(n+2+1))) os:=by
    rw[ht',mA]
    rfl
   rw[KW]
   obtain⟨x1,x2⟩:=e3 (us.take i++(DD++[t'])++us.drop (i+(n+2+1))) g'
   have hse:val 1000000000 DD+P*t'=val 1000000000 jI % val 1000000000 vs:=by
    rw[←Xh,aMG] at hdm
    omega
   obtain⟨y1,y2,y3,y4⟩:=rows DD t' g' FA hd' (by omega) Xh hse
   simp only[Wc,Vf,Ua,WV,arF,auI,r19,x1,x2,wi,VX,Nat.reduceEqDiff,Nat.reduceAdd]
   refine⟨(i,us.take i++(DD++[t'])++us.drop (i+(n+2+1)),os.set i g'),by simp only;omega,by omega,rfl,y1,y2,by rw[List.length_set];exact hJ,oD nF (by omega),y3,y4,?_⟩
   try (repeat' apply aMU)<;>first | rfl | trivial
 ·have YS:j=0:=by omega
  subst YS
  rw[Nat.pow_zero,Nat.one_mul,aMq] at hv
  rw[aMq] at bH
  simp only[jU,K9,B6,CZ,Nr,k16,Iu,hz,VX,Nat.reduceEqDiff,Nat.reduceAdd]
  exact hQ _ us os K9 B6 k16 TX Mh hJ nF hv bH
end Go.PM
namespace Go.PM
theorem Rq {ds:List Nat} {H:aA}:dG 1 (jG ds) H=some (ds.map tV):=by
 have:((ds.map tV).all fun x=>(aB x).length == 1&&(aB x).all bP)=true:=by
  rw[aLs]
  intro x hx
  obtain⟨d,_,rfl⟩:=aMP.1 hx
  rfl
 simp only[dG,jG,aC,this,if_true]
theorem GO (n:Nat) {H:aA}:dG 1 (bW n) H=some ((aD 1000000000 n).map tV):=Rq
theorem Ll {a n:Nat} (hn:(aD 1000000000 a).length=n+1):∃d,(aD 1000000000 a)[n]? = some d∧d≠0∧d<1000000000:=by
 obtain⟨d,hd⟩:∃d,(aD 1000000000 a)[n]? = some d:=⟨_,aLl (by omega)⟩
 refine⟨d,hd,fun h0 => ?_,gF (by decide) a d (aL8 hd)⟩
 have:=Sa (b:=1000000000) (by decide) a
 rw[List.getLast?_eq_getElem?,hn,Nat.add_sub_cancel,hd,h0] at this
 exact this rfl
theorem aeF {a d:Nat} (h:aD 1000000000 a=[d]):a=d∧0<d∧d<1000000000:=by
 have h1:=cH (b:=1000000000) (by decide) a
 rw[h,val_one] at h1
 obtain⟨e,h2,h3,h4⟩:=Ll (a:=a) (n:=0) (by rw[h];rfl)
 rw[h] at h2
 cases h2
 exact⟨h1.symm,by omega,h4⟩
theorem ayJ {a:Nat} (h:(aD 1000000000 a).length≤2):a<1000000000000000000:=by
 have h1:=iP (b:=1000000000) (by decide) a
 have h2:1000000000^(aD 1000000000 a).length≤1000000000^2:=Nat.pow_le_pow_right (by decide) h
 omega
theorem ajA {H:aA} {u v:VV} (hu:aY u=true) (hv:aY v=true):fz depth H (.eH [u,v])=some (.eH [u,v]):=aK (by simp only[aY,aO,hu,hv,Bool.and_self])
theorem aBF {X N:Nat} (h:(aD 1000000000 X).length≤N):Ml 0 1 (.ref 0 0 0 N N) (bW X) [.row 0 ((aL4 N 0).map tV) 1 true]=some (VI ((aD 1000000000 X).length:Int),[.row 0 ((aD 1000000000 X++aL4 (N-(aD 1000000000 X).length) 0).map tV) 1 true]):=by
 have e:((aD 1000000000 X).map tV).take N=(aD 1000000000 X).map tV:=aL7 (by simpa using h)
 simp only[Ml,bW,Rq,aQ,e,aMV,aM3,aMM]
 rw[if_pos ⟨trivial,aLe _,h⟩]
 simp only[dD,aMS,aOl,aMw,aMM,aMV,List.map_append,List.map_replicate,List.drop_replicate]
theorem yE (a b:Nat) (hb:b≠0) (ha:(aD 1000000000 a).length<17592186044416) (yW:(aD 1000000000 b).length<17592186044416):TC 185 [bW a,bW b] (.eH [bW (a / b),bW (a % b)]):=by
 refine TC.walk ⟨true,false⟩ Lt rfl (aM2 rfl) (by simp[aO,cG]) (by simp[gV,rE,pZ]) ?_
 have s1:=ES a (by omega)
 have s2:=ES b (by omega)
 have fin:∀ {H:aA},fz depth H (.eH [bW (a / b),bW (a % b)])=some (.eH [bW (a / b),bW (a % b)]):=ajA (cG _) (cG _)
 by_cases Zz:(aD 1000000000 a).length≤2∧(aD 1000000000 b).length≤2
 ·rw[if_pos Zz.1] at s1
  rw[if_pos Zz.2] at s2
  have la:=ayJ Zz.1
  have q1:=Jx a b (by omega) (by omega)
  have q2:=Jz a b (by omega)
  have hdl:a / b≤a:=Nat.div_le_self _ _
  have hml:a % b≤a:=Nat.mod_le _ _
  have n1:TC 178 [VI ((a / b:Nat):Int)] (bW (a / b)):=uE ((a / b:Nat):Int) (aOm.2 (show a / b≤9223372036854775807 from aLf hdl (by omega)))
  have n2:TC 178 [VI ((a % b:Nat):Int)] (bW (a % b)):=uE ((a % b:Nat):Int) (aOm.2 (show a % b≤9223372036854775807 from aLf hml (by omega)))
  simp only[fT,dX,s1,s2,q1,q2,n1,n2,VX,Nat.reduceEqDiff,Nat.reduceAdd]
  exact fin
 have c1:=yU a b (by omega) (by omega)
 obtain⟨x1,t1,NG⟩:∃(x:Int) (t:Bool),(if (aD 1000000000 a).length≤2 then VV.eH [VI a,VB true] else .eH [VI 0,VB false]) = .eH [VI x,VB t]:=by split<;>exact⟨_,_,rfl⟩
 have hs2:∃(x:Int) (t:Bool),(if (aD 1000000000 b).length≤2 then VV.eH [VI b,VB true] else .eH [VI 0,VB false]) = .eH [VI x,VB t]∧(t1=true→t=false):=by
  by_cases h:(aD 1000000000 b).length≤2
  ·rw[if_pos h]
   refine⟨_,_,rfl,fun ht => ?_⟩
   rw[if_neg (fun h'=>Zz ⟨h',h⟩)] at NG
   injection NG with NG
   injection NG with _ NG
   injection NG with NG _
   injection NG with NG
   injection NG with NG
   subst ht
   cases NG
  ·rw[if_neg h]
   exact⟨_,_,rfl,fun _=>rfl⟩
 obtain⟨x2,t2,hs2,ht⟩:=hs2
 rw[NG] at s1
 rw[hs2] at s2
 by_cases IV:gA a b<0
 ·have bH:a<b:=AL.1 IV
  have e0:∀lr,nT lr [.int .i64 0] 0 [] []=some (.ref 0 0 0 0 0,[.row 0 [] 1 true]):=fun lr=>mQ (H:=[]) rfl
  have e1:∀lr,nT lr [.int .i64 0] 0 [] [.row 0 [] 1 true]=some (.ref 1 0 0 0 0,[.row 0 [] 1 true,.row 0 [] 1 true]):=fun lr=>mQ (H:=[.row 0 [] 1 true]) rfl
  rw[Nat.div_eq_of_lt bH,aMI bH]
  have hz:fz (6+1) [.row 0 [] 1 true,.row 0 [] 1 true] (.ref 0 0 0 0 0)=some (bW 0):=by rw[KB];rfl
  by_cases ha0:a=0
  ·subst ha0
   have ap:dK 0 1 8 (.ref 1 0 0 0 0) ((aD 1000000000 0).map tV) [.row 0 [] 1 true,.row 0 [] 1 true]=some (.ref 1 0 0 0 0,[.row 0 [] 1 true,.row 0 [] 1 true]):=by
    rw[cC];rfl
   have K0:fz (6+1) [.row 0 [] 1 true,.row 0 [] 1 true] (.ref 1 0 0 0 0)=some (bW 0):=by rw[KB];rfl
   cases t1 with
   |
    false =>
    simp only[fT,dX,s1,s2,c1,IV,e0,e1,ap,GO,VX,Nat.reduceEqDiff,Nat.reduceAdd]
    exact bN (d:=6) hz K0
   |
    true =>
    rw[ht rfl] at s2
    simp only[fT,dX,s1,s2,c1,IV,e0,e1,ap,GO,VX,Nat.reduceEqDiff,Nat.reduceAdd]
    exact bN (d:=6) hz K0
  ·have hln:(aD 1000000000 a).length≠0:=fun h=>ha0 ((nQ (b:=1000000000) (by decide)).1 (aOn.1 h))
   have ap:dK 0 1 8 (.ref 1 0 0 0 0) ((aD 1000000000 a).map tV) [.row 0 [] 1 true,.row 0 [] 1 true]=some (.ref 1 1 0 (aD 1000000000 a).length (aD 1000000000 a).length,[.row 0 [] 1 true,.row 1 ((aD 1000000000 a).map tV) 1 true]):=by
    have hr:aJ [.row 0 [] 1 true,.row 0 [] 1 true] 1 0=some ([],1,true):=rfl
    simp only[dK,hr,aMV,aMM,aMR,aNq]
    rw[if_pos ⟨by decide,by decide⟩,if_pos ⟨trivial,aLI _,aLe _⟩,if_neg (by omega),if_pos (by omega)]
    simp
   have Cz:fz (6+1) [.row 0 [] 1 true,.row 1 ((aD 1000000000 a).map tV) 1 true] (.ref 0 0 0 0 0)=some (bW 0):=by rw[KB];rfl
   have K0:fz (6+1) [.row 0 [] 1 true,.row 1 ((aD 1000000000 a).map tV) 1 true] (.ref 1 1 0 (aD 1000000000 a).length (aD 1000000000 a).length)=some (bW a):=by
    have:aY (.ref 1 1 0 (aD 1000000000 a).length (aD 1000000000 a).length)=false:=rfl
    have hr:aJ [.row 0 [] 1 true,.row 1 ((aD 1000000000 a).map tV) 1 true] 1 1=some ((aD 1000000000 a).map tV,1,true):=rfl
    unfold fz
    simp only[this,hr,aLQ,if_false]
    rw[if_pos ⟨by simp,aLe _⟩,aMq,aL7 (by simp),mapM_pure (n:=5) (fO fun _=>rfl)]
    rfl
   cases t1 with
   |
    false =>
    simp only[fT,dX,s1,s2,c1,IV,e0,e1,ap,GO,VX,Nat.reduceEqDiff,Nat.reduceAdd]
    exact bN (d:=6) Cz K0
   |
    true =>
    rw[ht rfl] at s2
    simp only[fT,dX,s1,s2,c1,IV,e0,e1,ap,GO,VX,Nat.reduceEqDiff,Nat.reduceAdd]
    exact bN (d:=6) Cz K0
 have G0:b≤a:=by have := @AL a b;omega
 have hbn:(aD 1000000000 b).length≠0:=fun h=>hb ((nQ (b:=1000000000) (by decide)).1 (aOn.1 h))
 by_cases h1:(((aD 1000000000 b).length:Nat):Int)=1
 ·obtain⟨d,hd⟩:∃d,aD 1000000000 b=[d]:=List.length_eq_one_iff.1 (by omega)
  obtain⟨hbd,FO,hdT⟩:=aeF hd
  have e1:bI 1 (bW b) (VI 0) []=some (.cS (tV d) 0):=by
   rw[bW,hd]
   exact aF (f:=tV) (t := .op) (H:=[]) (size:=1) (k := .i64) (xs:=[d]) (i:=0) rfl rfl
  have c2:=BQ a d FO hdT (by omega)
  rw[←hbd] at c2
  have YM:a % b≤b:=aLV (aLG _ (by omega))
  have n2:TC 178 [VI ((a % b:Nat):Int)] (bW (a % b)):=uE ((a % b:Nat):Int) (aOm.2 (show a % b≤9223372036854775807 from aLf YM (by omega)))
  have e2:tV d=tV b:=by rw[hbd]
  rw[e2] at e1
  cases t1 with
  |
   false =>
   simp only[fT,dX,s1,s2,c1,IV,cJ,h1,e1,c2,n2,VX,Nat.reduceEqDiff,Nat.reduceAdd]
   exact fin
  |
   true =>
   rw[ht rfl] at s2
   simp only[fT,dX,s1,s2,c1,IV,cJ,h1,e1,c2,n2,VX,Nat.reduceEqDiff,Nat.reduceAdd]
   exact fin
 obtain⟨n,hn⟩:∃n,(aD 1000000000 b).length=n+2:=⟨(aD 1000000000 b).length-2,by omega⟩
 obtain⟨t,htd,ht0,htT⟩:=Ll (a:=b) (n:=n+1) hn
 obtain⟨s,hs⟩:∃s,s=1000000000 / (t+1):=⟨_,rfl⟩
 have Uk:1≤s:=by rw[hs];exact(aNI (by omega)).2 (by omega)
 have hsT:s<1000000000:=by rw[hs];exact Nat.div_lt_self (by decide) (by omega)
 have xI:(t+1)*s≤1000000000:=by rw[hs];exact Nat.mul_div_le _ _
 have hla:=eW (b:=1000000000) (by decide) G0
 have w0:IntKind.i64.wrap (((n+2:Nat):Int)-1)=((n+1:Nat):Int):=wrapN _ (by omega) (by omega)
 have w1:IntKind.i64.wrap ((t:Int)+1)=((t+1:Nat):Int):=wrapN _ (by omega) (by omega)
 have q0:dO .quo (.int .i64 1000000000) (.int .i64 ((t+1:Nat):Int))=some (.int .i64 (s:Int)):=by rw[hs];exact Jx 1000000000 (t+1) (by decide) (by omega)
 have et:∀H,bI 1 (bW b) (VI ((n+1:Nat):Int)) H=some (.cS (tV t) 0):=fun H=>aF (f:=tV) (t := .op) (size:=1) (k := .i64) htd rfl
 have h1':¬(((n+2:Nat):Int)=1):=by omega
 obtain⟨N,hN⟩:∃N,N=(aD 1000000000 a).length+1:=⟨_,rfl⟩
 have wN:IntKind.i64.wrap (((aD 1000000000 a).length:Int)+1)=(N:Int):=wrapN _ (by omega) (by omega)
 have mkN:=SE N (by omega)
 have c3:=BP a s Uk hsT ha
 have c4:=BP b s Uk hsT yW
 have axS:b*s<1000000000^(n+2):=by
  have h2:=(Ce (n:=n+1) (gF (b:=1000000000) (by decide) b) hn htd).2
  rw[cH (by decide)] at h2
  have h3:b*s<(t+1)*1000000000^(n+1)*s:=aND h2 Uk
  have h4:(t+1)*1000000000^(n+1)*s=(t+1)*s*1000000000^(n+1):=by grind
  have h9:(t+1)*s*1000000000^(n+1)≤1000000000*1000000000^(n+1):=aLF _ xI
  have h10:1000000000*1000000000^(n+1)=1000000000^(n+2):=by rw[aMF 1000000000 (n+1)];exact aMG _ _
  rw[h4] at h3
  rw[h10] at h9
  exact aLg h3 h9
 have hVl:(aD 1000000000 (b*s)).length=n+2:=by
  have h2:=oK (b:=1000000000) (by decide) axS
  have h3:b≤b*s:=Nat.le_mul_of_pos_right b Uk
  have h4:=eW (b:=1000000000) (by decide) h3
  omega
 have hAl:(aD 1000000000 (a*s)).length≤N:=by
  have h2:=Sk (b:=1000000000) (by decide) a s
  have h3:(aD 1000000000 s).length≤1:=oK (by decide) (by rw[Nat.pow_one];exact hsT)
  omega
 have cp:=aBF hAl
 obtain⟨m,hm⟩:∃m,m+(n+2)=N:=⟨N-(n+2),by omega⟩
 have wm:IntKind.i64.wrap ((N:Int)-((n+2:Nat):Int))=(m:Int):=wrapN _ (by omega) (by omega)
 have wm1:IntKind.i64.wrap ((m:Int)-1)=(m:Int)-1:=wrap64 (by omega) (by omega)
 obtain⟨Hg,aqS⟩:∃Hg,Hg=aD 1000000000 (a*s)++aL4 (N-(aD 1000000000 (a*s)).length) 0:=⟨_,rfl⟩
 rw[←aqS] at cp
 have mkm:BR [.int .i64 0] 8 (VI (m:Int)) (VI (m:Int)) [.row 0 (Hg.map tV) 1 true]=some (.ref 1 0 0 m m,[.row 0 (Hg.map tV) 1 true]++[.row 0 ((aL4 m 0).map tV) 1 true]):=nX (f:=tV) (x:=0) (H:=[.row 0 (Hg.map tV) 1 true]) rfl (by omega) (by omega)
 have lN:∀K,aJ K 0 0=some (Hg.map tV,1,true)→pV (.ref 0 0 0 N N) K=some (VI (N:Int)):=fun K h=>eI h
 have l1:=lN [.row 0 (Hg.map tV) 1 true] rfl
 have l2:=lN (H2 Hg (aL4 m 0)) rfl
 have ayT:Hg.length=N:=by rw[aqS,aLp,aM3];omega
 have aBb:∀d∈Hg,d<1000000000:=fun d hd=>by
  rw[aqS] at hd
  rcases aMa.1 hd with h | h
  ·exact gF (by decide) _ d h
  ·rw[List.eq_of_mem_replicate h];decide
 have azJ:val 1000000000 Hg=a*s:=by rw[aqS,A5,vI,aNv,aNq,cH (by decide)]
 generalize TT:aD 1000000000 (b*s)=vs at *
 have Kl:∀d∈vs,d<1000000000:=by rw[←TT];exact gF (by decide) _
 have Qh:val 1000000000 vs=b*s:=by rw[←TT];exact cH (by decide) _
 have lV:∀H,pV (bW (b*s)) H=some (VI ((n+2:Nat):Int)):=fun H=>by rw[cJ,TT,hVl]
 obtain⟨v1,f1⟩:∃v1,vs[n+1]? = some v1:=⟨_,aLl (by omega)⟩
 obtain⟨v0,f0⟩:∃v0,vs[n]? = some v0:=⟨_,aLl (by omega)⟩
 have hv1:1≤v1:=by
  obtain⟨d,hd,FO,_⟩:=Ll (a:=b*s) (n:=n+1) (by rw[TT];exact hVl)
  rw[TT,f1] at hd
  cases hd
  omega
 have EE:val 1000000000 (Hg.drop m)<val 1000000000 vs:=by
  have h2:=sN (b:=1000000000) Hg m
  rw[aMN,ayT,Nat.min_eq_left (by omega),azJ] at h2
  have h3:a<b*1000000000^m:=by
   have y1:=iP (b:=1000000000) (by decide) a
   have y2:=Ny (b:=1000000000) (by decide) hb
   rw[hn] at y2
   have y3:1000000000^(n+2-1)*1000000000^m≤b*1000000000^m:=aLF _ y2
   rw[←Nat.pow_add,show n+2-1+m=(aD 1000000000 a).length by omega] at y3
   exact aLg y1 y3
  have h4:a*s<b*1000000000^m*s:=aND h3 Uk
  have h5:b*1000000000^m*s=1000000000^m*(b*s):=by grind
  rw[Qh]
  have h6:1000000000^m*val 1000000000 (Hg.drop m)<1000000000^m*(b*s):=by
   rw[←h5]
   exact aOj (by rw[h2];exact Nat.le_add_left _ _) h4
  exact Nat.lt_of_mul_lt_mul_left h6
 have body:VW ⟨true,false⟩ 0 (.loop jU)=VW ⟨true,false⟩ 0 (.loop jU):=rfl
 have tail:∀(us os:List Nat),us.length=N→(∀d∈us,d<1000000000)→os.length=m→(∀d∈os,d<1000000000)→val 1000000000 us+val 1000000000 vs*val 1000000000 os=a*s→val 1000000000 us<val 1000000000 vs →
   (∀lo K,dP 184 [.ref 0 0 0 N N] lo (H2 us os) K=K (bW (a % b*s)) (dB (H2 us os) [0])) ∧
   (∀lo K,dP 184 [.ref 1 0 0 m m] lo (dB (H2 us os) [0]) K=K (bW (a / b)) (dB (dB (H2 us os) [0]) [1]))∧TC 202 [bW (a % b*s),VI (s:Int)] (.eH [bW (a % b),VI ((a % b*s % s:Nat):Int)]):=by
  intro us os TX Mh hJ nF hv bH
  rw[Qh] at hv bH
  have hq:val 1000000000 os=a / b:=by
   rw[←Nat.mul_div_mul_right a b Uk,←hv,Nat.add_mul_div_left _ _ (aOj (aLI _) bH),Nat.div_eq_of_lt bH,aMM]
  have hr:val 1000000000 us=a % b*s:=by
   rw[←Nat.mul_mod_mul_right,←hv,Nat.add_mul_mod_self_left,aMI bH]
  refine⟨fun lo K => ?_,fun lo K => ?_,?_⟩
  ·have h:=wG us Mh (by omega)
   rw[hr] at h
   exact TC.asM (f:=tV) h Yr TX.symm (aLe _) IJ (fun _=>rfl) rfl rfl lo K
  ·have h:=wG os nF (by omega)
   rw[hq] at h
   have mA:aJ (dB (H2 us os) [0]) 1 0=some (os.map tV,1,true):=rfl
   exact TC.asM (f:=tV) h mA hJ.symm (aLe _) IJ (fun _=>rfl) rfl rfl lo K
  ·have h:=BQ (a % b*s) s Uk hsT (by
    have h2:=eW (b:=1000000000) (by decide) (aLf (aLV bH) (show b*s≤b*s from aLe _))
    rw[hr,TT] at h2
    omega)
   rwa [Nat.mul_div_cancel _ Uk] at h
 clear body
 have nV:bW (b*s)=jG vs:=by rw[bW,TT]
 cases t1 with
 |
  false =>
  simp only[fT,dX,s1,s2,c1,IV,cJ,hn,h1',w0,w1,q0,et,wN,mkN,c3,c4,cp,lV,l1,l2,wm,wm1,mkm,aME,aMw,VX,Nat.reduceEqDiff,Nat.reduceAdd]
  refine Rn (Hg:=Hg) (os0:=aL4 m 0) (vs:=vs) (N:=N) (m:=m) (n:=n) (A:=a*s) (s:=s) ayT hm (by omega) aBb hVl Kl f1 f0 hv1 azJ EE (by simp) (Cx (by decide) _) (by rfl) (by rfl) (by simp only[VX,Nat.reduceEqDiff,Nat.reduceAdd];exact nV) (by rfl) (by rfl) (by rfl) ?_
  intro AN us os r12 r13 r16 TX Mh hJ nF hv bH
  obtain⟨x1,x2,x3⟩:=tail us os TX Mh hJ nF hv bH
  simp only[r12,r13,r16,x1,x2,x3,VX,Nat.reduceEqDiff,Nat.reduceAdd]
  exact fin
 |
  true =>
  rw[ht rfl] at s2
  simp only[fT,dX,s1,s2,c1,IV,cJ,hn,h1',w0,w1,q0,et,wN,mkN,c3,c4,cp,lV,l1,l2,wm,wm1,mkm,aME,aMw,VX,Nat.reduceEqDiff,Nat.reduceAdd]
  refine Rn (Hg:=Hg) (os0:=aL4 m 0) (vs:=vs) (N:=N) (m:=m) (n:=n) (A:=a*s) (s:=s) ayT hm (by omega) aBb hVl Kl f1 f0 hv1 azJ EE (by simp) (Cx (by decide) _) (by rfl) (by rfl) (by simp only[VX,Nat.reduceEqDiff,Nat.reduceAdd];exact nV) (by rfl) (by rfl) (by rfl) ?_
  intro AN us os r12 r13 r16 TX Mh hJ nF hv bH
  obtain⟨x1,x2,x3⟩:=tail us os TX Mh hJ nF hv bH
  simp only[r12,r13,r16,x1,x2,x3,VX,Nat.reduceEqDiff,Nat.reduceAdd]
  exact fin
end Go.PM
namespace Go.PM
theorem uI {n:Nat}:(0:Int)<((aD 1000000000 n).length:Int)↔n≠0:=by
 constructor
 ·intro h h0
  subst h0
  rw[cC] at h
  simp at h
 ·intro h
  have:=(nQ (b:=1000000000) (by decide) (n:=n))
  have h2:aD 1000000000 n≠[]:=fun hx=>h (this.1 hx)
  have:=aNM.2 h2
  omega
theorem oX {n:Nat} (h:bl n≤4398046511104):(aD 1000000000 n).length<17592186044416:=by
 have:=auP n
 omega
theorem HR (a b:Nat) (ha:(aD 1000000000 a).length<17592186044416) (hb:(aD 1000000000 b).length<17592186044416):TC 170 [bW a,bW b] (bW (aNN a b)):=by
 refine TC.walk ⟨true,false⟩ Qw rfl (aM2 rfl) (by simp[aO,cG]) (pZ _) ?_
 simp only[Mw,Hp,VX,Nat.reduceEqDiff,Nat.reduceAdd]
 refine aN (fun(t:Nat×Nat) ρ H=>H=[]∧aNN t.1 t.2=aNN a b∧(aD 1000000000 t.1).length<17592186044416∧(aD 1000000000 t.2).length<17592186044416∧ρ 0=bW t.1∧ρ 1=bW t.2) (fun t=>t.2) (a,b) ⟨rfl,rfl,ha,hb,rfl,rfl⟩ ?_
 rintro⟨x,y⟩ ρ H ⟨rfl,hg,hx,hy,g0,g1⟩
 simp only at hg hx hy g0 g1
 by_cases hy0:y=0
 ·subst hy0
  have hl:¬(0:Int)<((aD 1000000000 0).length:Int):=by rw[uI];omega
  rw[Nat.gcd_zero_right] at hg
  simp only[BG,g0,g1,cJ,hl,VX,Nat.reduceEqDiff,Nat.reduceAdd]
  rw[hg]
  exact aK (cG _)
 ·have hl:(0:Int)<((aD 1000000000 y).length:Int):=uI.2 hy0
  have c3:=yE x y hy0 hx hy
  have hm:=aLG x (show 0<y by omega)
  simp only[BG,g0,g1,cJ,hl,c3,VX,Nat.reduceEqDiff,Nat.reduceAdd]
  refine⟨(y,x % y),hm,?_,hy,?_,rfl,rfl⟩
  ·simp only
   rw[←hg,Nat.gcd_comm x y,Nat.gcd_rec y x,Nat.gcd_comm]
  ·simp only
   have:=eW (b:=1000000000) (by decide) (aLV hm)
   omega
def aS (q:Rat):VV := .agg [VB (decide (q.num<0)),bW q.num.natAbs,bW q.den]
theorem qC (q:Rat):aY (aS q)=true:=by simp[aS,aY,aO,cG,qM]
theorem wW (q:Rat):gV (aS q)=true:=by simp[aS,gV,rE,pZ,qM]
theorem NL {q:Rat} {neg:Bool} {t b:Nat} (h0:q.num<0↔neg=true) (h1:q.num.natAbs=t) (h2:q.den=b):aS q = .agg [VB neg,bW t,bW b]:=by
 subst h1 h2
 unfold aS
 congr 4
 cases neg<;>simp_all
theorem aR (n:Nat):bP (bW n)=true:=rfl
theorem bD (n:Nat):isAny (bW n)=false:=rfl
theorem aX (n:Nat):aB (bW n)=[bW n]:=rfl
theorem gL (q:Rat):isAny (aS q)=false:=rfl
theorem bR (q:Rat):aB (aS q)=[VB (decide (q.num<0)),bW q.num.natAbs,bW q.den]:=rfl
theorem cF (q:Rat):dJ true 3 (aS q) 0=some (aS q):=rfl
theorem iJ (q:Rat):dJ false 1 (aS q) 0=some (VB (decide (q.num<0))):=rfl
theorem jQ (q:Rat):dJ false 1 (aS q) 1=some (bW q.num.natAbs):=rfl
theorem jM (q:Rat):dJ false 1 (aS q) 2=some (bW q.den):=rfl
theorem sQ {H:aA} {neg:Bool} {t b:Nat}:fz depth H (.agg [VB neg,bW t,bW b])=some (.agg [VB neg,bW t,bW b]):=aK (by simp[aY,aO,cG,qM])
theorem B3 {H:aA} (q:Rat):fz depth H (aS q)=some (aS q):=aK (qC q)
theorem aoY (n:Int):aS (n:Rat) = .agg [VB (decide (n<0)),bW n.natAbs,bW 1]:=NL (by simp) (by simp) (by simp)
theorem Nq {n lo:Nat} {H:aA} {K:VV→aA→Prop} (h:(aD 1000000000 n).length≤17592186044416):dP 155 [bW n,.tree [VI 1] (.cl 1)] lo H K=K (VI (gA n 1)) H:=by
 have c:=yU n 1 h (by rw[Fy (by decide) (by decide) (by decide)];simp)
 have e:bW 1 = .tree [VI 1] .op:=by rw[bW,Fy (by decide) (by decide) (by decide)];rfl
 rw[e] at c
 exact TC.args c rfl (by simp only[aO,cG];rfl) (fz2 (aK (cG n)) (avW rfl)) (by simp only[List.flatMap_cons,List.flatMap_nil,Eh (cG n),amI (es:=[VI 1]) rfl,aMm]) lo K
theorem eU {d:Int} {H:aA}:nT false [.int .i64 0] 1 [(0,VI d)] H=some (.tree [VI d] (.cl 1),H):=xB
theorem gP {e:Nat} {es:List VV}:bP (.tree es (.cl e))=true:=rfl
theorem eQ {k:TK} {es:List VV}:aB (.tree es k)=[.tree es k]:=rfl
theorem gO {k:TK} {es:List VV}:isAny (.tree es k)=false:=rfl
theorem Sz {d:Nat} {H:aA}:fz (d+2) H (.tree [VI 1] (.cl 1))=some (bW 1):=by
 rw[akI]
 unfold fz
 have:aY (.tree [VI 1] (.cl 1))=false:=by simp[aY]
 simp only[this,aLQ,if_false]
 rfl
theorem rG (neg:Bool) (t b:Nat) (hb:b≠0) (ht:bl t≤4398046511104) (yW:bl b≤4398046511104):TC 153 [VB neg,bW t,bW b] (aS (mkRat (mF neg t) b)):=by
 refine TC.walk ⟨true,false⟩ Pv rfl (aM2 rfl) (by simp[aO,cG,aY,qM]) (wW _) ?_
 have hg0:aNN t b≠0:=Nat.gcd_ne_zero_right hb
 have hgl:bl (aNN t b)≤4398046511104:=aLf (lY (Nat.gcd_le_right t (by omega))) yW
 have c1:=HR t b (oX ht) (oX yW)
 have c2:=yE t _ hg0 (oX ht) (oX hgl)
 have c3:=yE b _ hg0 (oX yW) (oX hgl)
 have c4:∀lo H K,_:=fun lo H K=>Nq (n:=aNN t b) (lo:=lo) (H:=H) (K:=K) (aLV (oX hgl))
 have XM:aS (mkRat (mF neg t) b) = .agg [VB (neg&&decide (t / aNN t b≠0)),bW (t / aNN t b),bW (b / aNN t b)]:=by
  refine NL ?_ (by rw[HY hb,qX]) (SV hb)
  rw[HY hb,Te,Bool.and_eq_true,decide_eq_true_eq]
 rw[XM]
 by_cases h1:gA (aNN t b) 1=0
 ·have Xm:=AP.1 h1
  have e1:t / aNN t b=t:=by rw[Xm,Nat.div_one]
  have e2:b / aNN t b=b:=by rw[Xm,Nat.div_one]
  rw[e1,e2]
  cases neg with
  |
   false =>
   simp only[pO,lP,c1,c4,h1,eU,aR,bD,aX,gC,Nat.reduceLeDiff,Nat.reduceLT,Nat.reduceSub,VX,Nat.reduceEqDiff,Nat.reduceAdd]
   exact sQ
  |
   true =>
   by_cases h0:t=0
   ·have hl:¬(0:Int)<((aD 1000000000 t).length:Int):=by rw[uI];omega
    simp only[pO,lP,c1,c4,h1,hl,cJ,eU,aR,bD,aX,gC,Nat.reduceLeDiff,Nat.reduceLT,Nat.reduceSub,VX,Nat.reduceEqDiff,Nat.reduceAdd]
    rw[h0]
    exact sQ
   ·have hl:(0:Int)<((aD 1000000000 t).length:Int):=uI.2 h0
    simp only[pO,lP,c1,c4,h1,hl,cJ,eU,aR,bD,aX,gC,Nat.reduceLeDiff,Nat.reduceLT,Nat.reduceSub,VX,Nat.reduceEqDiff,Nat.reduceAdd]
    rw[decide_eq_true h0]
    exact sQ
 ·cases neg with
  |
   false =>
   simp only[pO,lP,c1,c2,c3,c4,h1,eU,aR,bD,aX,gC,Nat.reduceLeDiff,Nat.reduceLT,Nat.reduceSub,VX,Nat.reduceEqDiff,Nat.reduceAdd]
   exact sQ
  |
   true =>
   generalize t / aNN t b=t' at *
   by_cases h0:t'=0
   ·have hl:¬(0:Int)<((aD 1000000000 t').length:Int):=by rw[uI];omega
    simp only[pO,lP,c1,c2,c3,c4,h1,hl,cJ,eU,aR,bD,aX,gC,Nat.reduceLeDiff,Nat.reduceLT,Nat.reduceSub,VX,Nat.reduceEqDiff,Nat.reduceAdd]
    rw[h0]
    exact sQ
   ·have hl:(0:Int)<((aD 1000000000 t').length:Int):=uI.2 h0
    simp only[pO,lP,c1,c2,c3,c4,h1,hl,cJ,eU,aR,bD,aX,gC,Nat.reduceLeDiff,Nat.reduceLT,Nat.reduceSub,VX,Nat.reduceEqDiff,Nat.reduceAdd]
    rw[decide_eq_true h0]
    exact sQ
theorem Hn (n:Int) (h0 : -9223372036854775808<n) (h1:n≤9223372036854775807):TC 130 [VI n] (aS (n:Rat)):=by
 refine TC.walk ⟨true,false⟩ Qo rfl (aM2 rfl) rfl (wW _) ?_
 rw[aoY]
 by_cases h:n<0
 ·have w:IntKind.i64.wrap (0-n)=(n.natAbs:Int):=wrapN _ (by omega) (by omega)
  have c1:TC 178 [VI (n.natAbs:Int)] (bW n.natAbs):=uE (n.natAbs:Int) (by omega)
  rw[decide_eq_true h]
  simp only[Fh,CJ,h,w,c1,eU,aR,bD,aX,gP,eQ,gO,gC,Nat.reduceLeDiff,Nat.reduceLT,Nat.reduceSub,VX,Nat.reduceEqDiff,Nat.reduceAdd]
  exact uT (d:=6) (ajN rfl) (aM (cG _)) (Sz (d:=5))
 ·have c1:TC 178 [VI n] (bW n.natAbs):=by
   have:=uE n h1
   rwa [show n.toNat=n.natAbs by omega] at this
  rw[decide_eq_false h]
  simp only[Fh,CJ,h,c1,eU,aR,bD,aX,gP,eQ,gO,gC,Nat.reduceLeDiff,Nat.reduceLT,Nat.reduceSub,VX,Nat.reduceEqDiff,Nat.reduceAdd]
  exact uT (d:=6) (ajN rfl) (aM (cG _)) (Sz (d:=5))
theorem Qz:TC 83 [] (aS 1):=by
 refine TC.walk ⟨true,false⟩ QA rfl (aM2 rfl) rfl (wW _) ?_
 have c1:TC 130 [VI 1] (aS 1):=Hn 1 (by decide) (by decide)
 simp only[L9,Ht,c1,bR,cF,gL,aR,gC,Nat.reduceLeDiff,Nat.reduceLT,Nat.reduceSub,VX,Nat.reduceEqDiff,Nat.reduceAdd]
 exact B3 _
theorem Bv:TC 77 [] (aS 0):=by
 refine TC.walk ⟨true,false⟩ Pm rfl (aM2 rfl) rfl (wW _) ?_
 have c1:TC 130 [VI 0] (aS 0):=Hn 0 (by decide) (by decide)
 simp only[JL,Fc,c1,bR,cF,gL,aR,gC,Nat.reduceLeDiff,Nat.reduceLT,Nat.reduceSub,VX,Nat.reduceEqDiff,Nat.reduceAdd]
 exact B3 _
theorem IM (q:Rat):TC 157 [aS q] (aS (-q)):=by
 refine TC.walk ⟨true,false⟩ IB rfl (aM2 rfl) (by simp[aO,qC]) (wW _) ?_
 have hq:aS (-q) = .agg [VB (decide (0<q.num)),bW q.num.natAbs,bW q.den]:=NL (by simp) (by simp) (by simp)
 rw[hq]
 by_cases h1:q.num<0
 ·have h2:¬0<q.num:=by omega
  simp only[sW,pP,cJ,h1,h2,bR,iJ,jQ,jM,aR,bD,aX,gC,Nat.reduceLeDiff,Nat.reduceLT,Nat.reduceSub,VX,Nat.reduceEqDiff,Nat.reduceAdd]
  exact sQ
 ·by_cases h0:q.num=0
  ·have hl:¬(0:Int)<((aD 1000000000 q.num.natAbs).length:Int):=by rw[uI];omega
   have h2:¬0<q.num:=by omega
   simp only[sW,pP,cJ,hl,h1,h2,bR,iJ,jQ,jM,aR,bD,aX,gC,Nat.reduceLeDiff,Nat.reduceLT,Nat.reduceSub,VX,Nat.reduceEqDiff,Nat.reduceAdd]
   exact sQ
  ·have hl:(0:Int)<((aD 1000000000 q.num.natAbs).length:Int):=by rw[uI];omega
   have h2:0<q.num:=by omega
   simp only[sW,pP,cJ,hl,h1,h2,bR,iJ,jQ,jM,aR,bD,aX,gC,Nat.reduceLeDiff,Nat.reduceLT,Nat.reduceSub,VX,Nat.reduceEqDiff,Nat.reduceAdd]
   exact sQ
theorem nB (a b:Rat) (Gp:aL a≤1099511627776) (Fm:aL b≤1099511627776):TC 79 [aS a,aS b] (aS (a+b)):=by
 refine TC.walk ⟨true,false⟩ Qf rfl (aM2 rfl) (by simp[aO,qC]) (wW _) ?_
 have la:=uW Gp
 have lb:=uW Fm
 have lda:=uZ Gp
 have ldb:=uZ Fm
 have hBn:=aNW a.den_nz b.den_nz
 have m1:=fL a.num.natAbs b.den (aLV (oX (by omega))) (aLV (oX (by omega)))
 have m2:=fL b.num.natAbs a.den (aLV (oX (by omega))) (aLV (oX (by omega)))
 have m3:=fL a.den b.den (aLV (oX (by omega))) (aLV (oX (by omega)))
 have ea:mkRat (mF (decide (a.num<0)) (a.num.natAbs*b.den)) (a.den*b.den)=a:=Gz a b.den_nz
 have eb:mkRat (mF (decide (b.num<0)) (b.num.natAbs*a.den)) (a.den*b.den)=b:=by rw[aMG a.den];exact Gz b a.den_nz
 have k1:=nW a.num.natAbs b.den
 have k2:=nW b.num.natAbs a.den
 have k3:=nW a.den b.den
 obtain⟨p1,p2,p3⟩:=Kt hBn ea eb
 have hX:bl (a.num.natAbs*b.den)≤2199023255552:=by omega
 have hY:bl (b.num.natAbs*a.den)≤2199023255552:=by omega
 have hB:bl (a.den*b.den)≤4398046511104:=by omega
 generalize a.num.natAbs*b.den=X at *
 generalize b.num.natAbs*a.den=Y at *
 generalize a.den*b.den=B at *
 have f1:=KG X Y (oX (by omega)) (oX (by omega))
 have f2:=yU X Y (aLV (oX (by omega))) (aLV (oX (by omega)))
 have hS:bl (X+Y)≤4398046511104:=aLf (YI hX hY) (by decide)
 have hD1:bl (X-Y)≤4398046511104:=aLf (lY (Nat.sub_le _ _)) (by omega)
 have hD2:bl (Y-X)≤4398046511104:=aLf (lY (Nat.sub_le _ _)) (by omega)
 have f5:=fun neg=>rG neg (X+Y) B hBn hS hB
 have f6:=fun neg=>rG neg (X-Y) B hBn hD1 hB
 have f7:=fun neg=>rG neg (Y-X) B hBn hD2 hB
 by_cases hn:decide (a.num<0)=decide (b.num<0)
 ·have Xa:(decide (a.num<0) == decide (b.num<0))=true:=by simpa using hn
  rw[←p1 hn]
  simp only[Cb,yX,m1,m2,m3,f1,f5,yO,Aa,Xa,bR,cF,iJ,jQ,jM,gL,aR,bD,aX,gC,Nat.reduceLeDiff,Nat.reduceLT,Nat.reduceSub,VX,Nat.reduceEqDiff,Nat.reduceAdd]
  exact B3 _
 ·have Xa:(decide (a.num<0) == decide (b.num<0))=false:=by simpa using hn
  by_cases hx:(0:Int)≤gA X Y
  ·have hle:Y≤X:=by have := @AL X Y;omega
   have c3:=Ca X Y hle (aLV (oX (by omega)))
   rw[←p2 hn hle]
   simp only[Cb,yX,m1,m2,m3,f2,c3,f6,hx,yO,Aa,Xa,bR,cF,iJ,jQ,jM,gL,aR,bD,aX,gC,Nat.reduceLeDiff,Nat.reduceLT,Nat.reduceSub,VX,Nat.reduceEqDiff,Nat.reduceAdd]
   exact B3 _
  ·have hle:X≤Y:=by have := @AL X Y;omega
   have c3:=Ca Y X hle (aLV (oX (by omega)))
   rw[←p3 hn hle]
   simp only[Cb,yX,m1,m2,m3,f2,c3,f7,hx,yO,Aa,Xa,bR,cF,iJ,jQ,jM,gL,aR,bD,aX,gC,Nat.reduceLeDiff,Nat.reduceLT,Nat.reduceSub,VX,Nat.reduceEqDiff,Nat.reduceAdd]
   exact B3 _
theorem zZ (a b:Rat) (Gp:aL a≤1099511627776) (Fm:aL b≤1099511627776):TC 82 [aS a,aS b] (aS (a-b)):=by
 refine TC.walk ⟨true,false⟩ M7 rfl (aM2 rfl) (by simp[aO,qC]) (wW _) ?_
 have c1:=IM b
 have c2:=nB a (-b) Gp (by rw[Lu];exact Fm)
 rw[←Rat.sub_eq_add_neg] at c2
 simp only[Hj,EM,c1,c2,bR,cF,gL,aR,bD,aX,gC,Nat.reduceLeDiff,Nat.reduceLT,Nat.reduceSub,VX,Nat.reduceEqDiff,Nat.reduceAdd]
 exact B3 _
theorem Y9 (a b:Int):mF (decide (a<0) != decide (b<0)) (a.natAbs*b.natAbs)=a*b:=by
 rcases aN3 a 0 with h1 | h1 | h1<;>rcases aN3 b 0 with h2 | h2 | h2
 ·rw[decide_eq_true h1,decide_eq_true h2]
  simp only[mF,bne_self_eq_false,aLQ,if_false,aNx]
  rw[show (a.natAbs:Int) = -a by omega,show (b.natAbs:Int) = -b by omega,Int.neg_mul_neg]
 ·subst h2;simp[Bu]
 ·rw[decide_eq_true h1,decide_eq_false (show ¬b<0 by omega)]
  simp only[mF,Bool.true_bne,Bool.not_false,if_true,aNx]
  rw[show (a.natAbs:Int) = -a by omega,show (b.natAbs:Int)=b by omega,Int.neg_mul,Int.neg_neg]
 ·subst h1;simp[Bu]
 ·subst h1;simp[Bu]
 ·subst h1;simp[Bu]
 ·rw[decide_eq_false (show ¬a<0 by omega),decide_eq_true h2]
  simp only[mF,Bool.false_bne,if_true,aNx]
  rw[show (a.natAbs:Int)=a by omega,show (b.natAbs:Int) = -b by omega,Int.mul_neg,Int.neg_neg]
 ·subst h2;simp[Bu]
 ·rw[decide_eq_false (show ¬a<0 by omega),decide_eq_false (show ¬b<0 by omega)]
  simp only[mF,bne_self_eq_false,aLQ,if_false,aNx]
  rw[show (a.natAbs:Int)=a by omega,show (b.natAbs:Int)=b by omega]
theorem Ad (a b:Rat) (Gp:aL a≤1099511627776) (Fm:aL b≤1099511627776):TC 125 [aS a,aS b] (aS (a*b)):=by
 refine TC.walk ⟨true,false⟩ M8 rfl (aM2 rfl) (by simp[aO,qC]) (wW _) ?_
 have la:=uW Gp
 have lb:=uW Fm
 have lda:=uZ Gp
 have ldb:=uZ Fm
 have k1:=nW a.num.natAbs b.num.natAbs
 have k3:=nW a.den b.den
 have m1:=fL a.num.natAbs b.num.natAbs (aLV (oX (by omega))) (aLV (oX (by omega)))
 have m3:=fL a.den b.den (aLV (oX (by omega))) (aLV (oX (by omega)))
 have c1:=rG (decide (a.num<0) != decide (b.num<0)) (a.num.natAbs*b.num.natAbs) (a.den*b.den) (aNW a.den_nz b.den_nz) (by omega) (by omega)
 rw[Y9,←Rat.mul_def'] at c1
 simp only[HK,ET,m1,m3,c1,Aa,bR,cF,iJ,jQ,jM,gL,aR,bD,aX,gC,Nat.reduceLeDiff,Nat.reduceLT,Nat.reduceSub,VX,Nat.reduceEqDiff,Nat.reduceAdd]
 exact B3 _
theorem XX {a b:Rat} (hb:b≠0):mkRat (mF (decide (a.num<0) != decide (b.num<0)) (a.num.natAbs*b.den)) (a.den*b.num.natAbs)=a / b:=by
 have hn:b.num≠0:=fun h=>hb (aN5.1 h)
 have i1:b⁻¹.num=b.num.sign*b.den:=Rat.num_inv b
 have i2:b⁻¹.den=b.num.natAbs:=by rw[Rat.den_inv,if_neg hn]
 have hd:(0:Int)<b.den:=by have:=b.den_nz;omega
 have i3:b⁻¹.num.natAbs=b.den:=by
  rw[i1,Int.natAbs_mul,Int.natAbs_natCast]
  rcases Int.lt_or_gt_of_ne hn with h1 | h1
  ·rw[aN6 h1];simp
  ·rw[aN7 h1];simp
 have i4:decide (b⁻¹.num<0)=decide (b.num<0):=by
  rw[i1]
  rcases Int.lt_or_gt_of_ne hn with h1 | h1
  ·rw[aN6 h1,decide_eq_true h1];simp;omega
  ·rw[aN7 h1,decide_eq_false (show ¬b.num<0 by omega)];simp
 rw[Rat.div_def,Rat.mul_def',←Y9,i2,i3,i4]
theorem F9 (a b:Rat) (hb:b≠0) (Gp:aL a≤1099511627776) (Fm:aL b≤1099511627776):TC 81 [aS a,aS b] (aS (a / b)):=by
 refine TC.walk ⟨true,false⟩ Pc rfl (aM2 rfl) (by simp[aO,qC]) (wW _) ?_
 have hn:b.num≠0:=fun h=>hb (aN5.1 h)
 have la:=uW Gp
 have lb:=uW Fm
 have lda:=uZ Gp
 have ldb:=uZ Fm
 have k1:=nW a.num.natAbs b.den
 have k3:=nW a.den b.num.natAbs
 have m1:=fL a.num.natAbs b.den (aLV (oX (by omega))) (aLV (oX (by omega)))
 have m3:=fL a.den b.num.natAbs (aLV (oX (by omega))) (aLV (oX (by omega)))
 have c1:=rG (decide (a.num<0) != decide (b.num<0)) (a.num.natAbs*b.den) (a.den*b.num.natAbs) (aNW a.den_nz (by omega)) (by omega) (by omega)
 rw[XX hb] at c1
 simp only[Kd,F6,m1,m3,c1,Aa,bR,cF,iJ,jQ,jM,gL,aR,bD,aX,gC,Nat.reduceLeDiff,Nat.reduceLT,Nat.reduceSub,VX,Nat.reduceEqDiff,Nat.reduceAdd]
 exact B3 _
theorem rK (q:Rat):TC 59 [aS q] (VB (decide (q=0))):=by
 refine TC.walk ⟨true,false⟩ OU rfl (aM2 rfl) (by simp[aO,qC]) rfl ?_
 by_cases h0:q=0
 ·have hl:(((aD 1000000000 q.num.natAbs).length:Nat):Int)=0:=by rw[h0];simp[cC]
  simp only[D9,A9,cJ,hl,bR,iJ,jQ,jM,aR,bD,aX,gC,Nat.reduceLeDiff,Nat.reduceLT,Nat.reduceSub,VX,Nat.reduceEqDiff,Nat.reduceAdd]
  rw[decide_eq_true h0]
  exact aK rfl
 ·have hn:q.num≠0:=fun h=>h0 (aN5.1 h)
  have hl:¬(((aD 1000000000 q.num.natAbs).length:Nat):Int)=0:=by have := @uI q.num.natAbs;omega
  simp only[D9,A9,cJ,hl,bR,iJ,jQ,jM,aR,bD,aX,gC,Nat.reduceLeDiff,Nat.reduceLT,Nat.reduceSub,VX,Nat.reduceEqDiff,Nat.reduceAdd]
  rw[decide_eq_false h0]
  exact aK rfl
end Go.PM
namespace Go.PM
open Go.Lib
abbrev bV (b:UInt8):VV := .sc (.int .u8 (b.toNat:Int))
theorem Pp:∀bs:List UInt8,Lb (bs.map bV)=some bs
 | []=>rfl
 |
  b::bs=>by
  rw[List.map_cons]
  show (Lb (bs.map bV)).map (UInt8.ofNat ((b.toNat:Int)).toNat :: ·)=_
  rw[Pp bs]
  simp
structure Kc (v:VV) (H:aA) (bs:List UInt8):Prop where
 len:pV v H=some (VI bs.length)
 src:dG 1 v H=some (bs.map bV)
 nsc:∀x,v ≠ .sc x
theorem Kc.str {v:VV} {H:aA} {bs:List UInt8} (h:Kc v H bs) {fl:Fl} {lo:Nat} {x:Operand} {ρ:cV} (hx:fE ρ x=v):vop fl lo (.b2s x) ρ H=some (bE bs,H):=by
 have h1:=h.nsc
 have h2:=h.src
 unfold vop
 dsimp only
 rw[hx]
 cases v with
 | sc x=>exact absurd rfl (h1 x)
 | _=>simp only[h2,Pp,aMz]
theorem adB {bs:List UInt8} {k:TK} {H:aA}:dG 1 (.tree (bs.map bV) k) H=some (bs.map bV):=by
 have:((bs.map bV).all fun x=>(aB x).length == 1&&(aB x).all bP)=true:=by
  rw[aLs]
  intro x hx
  obtain⟨d,_,rfl⟩:=aMP.1 hx
  rfl
 simp only[dG,this,if_true]
theorem Kc.tree {bs:List UInt8} {k:TK} {H:aA}:Kc (.tree (bs.map bV) k) H bs:=⟨eK,adB,fun x=>by simp⟩
theorem Kc.row {bs:List UInt8} {H:aA} {b g:Nat} {w:Bool} (h:aJ H b g=some (bs.map bV,1,w)):Kc (.ref b g 0 bs.length bs.length) H bs:=by
 refine⟨eI h,?_,fun x=>by simp⟩
 have kV:(((bs.map bV).drop 0).take bs.length).all (fun x=>(aB x).all bP)=true:=by
  rw[aLs]
  intro x hx
  obtain⟨d,_,rfl⟩:=aMP.1 (aMc (aMb hx))
  rfl
 simp only[dG,h]
 rw[if_pos ⟨trivial,by simp,kV⟩,aMq,aL7 (by simp)]
theorem Kc.cons {v:VV} {H:aA} {bs:List UInt8} (h:Kc v H bs) (x:UInt8) (hl:bs.length≤1000000) (lo:Nat):∃v' H',dK lo 1 1 (.tree [bV x] (.cl 1)) (bs.map bV) H=some (v',H')∧Kc v' H' (x::bs):=by
 by_cases hb:bs=[]
 ·subst hb
  exact⟨_,_,rfl,Kc.tree (bs:=[x])⟩
 ·have fN:bs.length≠0:=fun h=>hb (aOn.1 h)
  refine⟨.ref H.length 0 0 (x::bs).length (x::bs).length,H++[.row 0 ((x::bs).map bV) 1 true],?_,Kc.row (W1 rfl)⟩
  simp only[dK,aMV]
  rw[if_pos ⟨by decide,by decide⟩,if_pos trivial,if_neg fN,if_pos (by simp;omega)]
  simp[Nat.add_comm]
theorem aaF (r:Int):dO .rem (.int .i64 r) (.int .i64 10)=some (.int .i64 (r.tmod 10)):=rfl
theorem aCQ (r:Int) (h0 : -9223372036854775808≤r) (h1:r≤9223372036854775807):dO .quo (.int .i64 r) (.int .i64 10)=some (.int .i64 (r.tdiv 10)):=by
 show some (Value.int .i64 (IntKind.i64.wrap (r.tdiv 10)))=_
 have h2:(r.tdiv 10).natAbs=r.natAbs / 10:=by rw[Int.natAbs_tdiv];rfl
 rw[wrap64 (by omega) (by omega)]
theorem aeJ {d:Nat} (h:d<10):(d10 d).toNat=48+d:=by
 unfold d10
 simp
 omega
theorem Sh {n r:Nat} {bs:List UInt8} (h:decDigits n=decDigits r++bs):decDigits n=vD (r / 10)++d10 (r % 10)::bs:=by
 rw[h]
 by_cases hr:r<10
 ·rw[jZ hr,vD,if_pos (by omega),aMI hr];rfl
 ·rw[Cf hr,vD,if_neg (by omega),aM0];rfl
theorem QD (n:Int) (h0 : -9223372036854775808≤n) (h1:n≤9223372036854775807):TC 219 [VI n] (bE ((if n<0 then [45] else [])++decDigits n.natAbs)):=by
 refine TC.walk ⟨true,false⟩ Qe rfl (aM2 rfl) rfl rfl ?_
 have e0:∀lr,nT lr [.int .u8 0] 0 [] []=some (.ref 0 0 0 0 0,[.row 0 (([]:List UInt8).map bV) 1 true]):=fun lr=>mQ (H:=[]) rfl
 have e1:∀(x:UInt8) (H:aA),nT false [.int .u8 0] 1 [(0,bV x)] H=some (.tree [bV x] (.cl 1),H):=fun x H=>lO rfl rfl rfl
 have hdl:=D3 n.natAbs 19 (by omega)
 simp only[MI,HC,e0,VX,Nat.reduceEqDiff,Nat.reduceAdd]
 refine aN (fun(s:Int×List UInt8) ρ H => -9223372036854775808≤s.1∧s.1≤9223372036854775807∧(s.2=[]→s.1=n)∧(s.2≠[]→decDigits n.natAbs=vD s.1.natAbs++s.2)∧Kc (ρ 3) H s.2∧ρ 0=VI n∧ρ 4=VI s.1) (fun s=>s.1.natAbs+(if s.2=[] then 1 else 0)) (n,[]) ⟨h0,h1,fun _=>rfl,fun h=>absurd rfl h,by simp only[VX,Nat.reduceEqDiff,Nat.reduceAdd];exact Kc.row (bs:=[]) aQ,rfl,rfl⟩ ?_
 rintro⟨r,bs⟩ ρ H ⟨Ko,Ns,hn,hd,ho,g0,g4⟩
 simp only at Ko Ns hn hd ho g4
 generalize hv3:ρ 3=v3 at ho
 have hlen:=ho.len
 have DG:=ho.src
 by_cases PX:bs≠[]∧r=0
 ·obtain⟨hb,hr⟩:=PX
  subst hr
  have hl:¬(bs.length:Int)=0:=by have:=aNM.2 hb;omega
  have hdd:=hd hb
  simp only[vD,Int.natAbs_zero,if_true,aMw] at hdd
  by_cases mG:n<0
  ·obtain⟨v',H',ap,ho'⟩:=ho.cons 45 (by rw[←hdd];omega) 0
   have Rj:nT false [.int .u8 0] 1 [(0,.sc (.int .u8 45))] H=some (.tree [bV 45] (.cl 1),H):=e1 45 H
   have bs2:=fun aP (h:fE aP (.tmp 34)=v')=>ho'.str (fl:=⟨true,false⟩) (lo:=0) h
   simp only[lF,g0,g4,hv3,hlen,hl,VX,Nat.reduceEqDiff,Nat.reduceAdd]
   simp only[g0,mG,hv3,Rj,DG,ap,Zy,VX,Nat.reduceEqDiff,Nat.reduceAdd]
   rw[bs2 _ (by rfl)]
   simp only[VX,Nat.reduceEqDiff,Nat.reduceAdd]
   rw[hdd]
   exact aK rfl
  ·have bs2:=fun aP (h:fE aP (.tmp 34)=v3)=>ho.str (fl:=⟨true,false⟩) (lo:=0) h
   simp only[lF,g0,g4,hv3,hlen,hl,VX,Nat.reduceEqDiff,Nat.reduceAdd]
   simp only[g0,mG,hv3,Zy,VX,Nat.reduceEqDiff,Nat.reduceAdd]
   rw[bs2 _ (by simp only[VX,Nat.reduceEqDiff,Nat.reduceAdd];try exact hv3)]
   simp only[VX,Nat.reduceEqDiff,Nat.reduceAdd]
   rw[hdd]
   exact aK rfl
 ·have hm:r.tmod 10=if r<0 then -((r.natAbs % 10:Nat):Int) else ((r.natAbs % 10:Nat):Int):=by
   have:=aOe (a:=r) (b:=10)
   by_cases h:r<0
   ·rw[if_pos h]
    have h2:=Int.neg_tmod (-r) 10
    rw[Int.neg_neg] at h2
    rw[h2,aOe (by omega)]
    omega
   ·rw[if_neg h,this (by omega)]
    omega
  have hq:(r.tdiv 10).natAbs=r.natAbs / 10:=by rw[Int.natAbs_tdiv];rfl
  have hmd:=aLG r.natAbs (show 0<10 by decide)
  have q1:=aCQ r Ko Ns
  have yW:bs.length≤19:=by
   by_cases hb:bs=[]
   ·subst hb;simp
   ·have h2:=hd hb
    have h3:=congrArg List.length h2
    rw[aLp] at h3
    have h4:r≠0:=fun h=>PX ⟨hb,h⟩
    have h5:=aNM.2 (TO r.natAbs)
    rw[vD,if_neg (by omega)] at h3
    omega
  obtain⟨v',H',ap,ho'⟩:=ho.cons (d10 (r.natAbs % 10)) (by omega) 0
  have w2:IntKind.i64.wrap (48+((r.natAbs % 10:Nat):Int))=((48+r.natAbs % 10:Nat):Int):=wrapN _ (by omega) (by omega)
  have w3:IntKind.u8.wrap ((48+r.natAbs % 10:Nat):Int)=((48+r.natAbs % 10:Nat):Int):=by
   simp[IntKind.wrap,IntKind.bits,IntKind.signed]
   omega
  have hx:VV.sc (.int .u8 ((48+r.natAbs % 10:Nat):Int))=bV (d10 (r.natAbs % 10)):=by rw[bV,aeJ hmd]
  have Rj:=e1 (d10 (r.natAbs % 10)) H
  rw[←hx] at Rj ap
  have next:∃s':Int×List UInt8,s'.1.natAbs+(if s'.2=[] then 1 else 0)<r.natAbs+(if bs=[] then 1 else 0) ∧ -9223372036854775808≤s'.1∧s'.1≤9223372036854775807∧(s'.2=[]→s'.1=n)∧(s'.2≠[]→decDigits n.natAbs=vD s'.1.natAbs++s'.2)∧Kc v' H' s'.2∧r.tdiv 10=s'.1:=by
   refine⟨(r.tdiv 10,d10 (r.natAbs % 10)::bs),?_,by simp only;omega,by simp only;omega,fun h=>(by simp at h),fun _ => ?_,ho',rfl⟩
   ·simp only[hq,List.cons_ne_nil,if_false]
    by_cases hb:bs=[]
    ·rw[if_pos hb];omega
    ·have h4:r≠0:=fun h=>PX ⟨hb,h⟩
     rw[if_neg hb];omega
   ·simp only[hq]
    by_cases hb:bs=[]
    ·subst hb
     refine Sh ?_
     rw[hn rfl,aMm]
    ·have h4:r≠0:=fun h=>PX ⟨hb,h⟩
     have h2:=hd hb
     rw[vD,if_neg (by omega)] at h2
     exact Sh h2
  by_cases hrn:r.tmod 10<0
  ·have w1:IntKind.i64.wrap (0-r.tmod 10)=((r.natAbs % 10:Nat):Int):=by
    have:r.tmod 10 = -((r.natAbs % 10:Nat):Int):=by
     by_cases h:r<0
     ·rw[if_pos h] at hm;exact hm
     ·rw[if_neg h] at hm;omega
    rw[this]
    exact wrapN _ (by omega) (by omega)
   by_cases hb:bs=[]
   ·have hl:(bs.length:Int)=0:=by rw[hb];rfl
    simp only[lF,g0,g4,hv3,hlen,hl,aaF,q1,hrn,w1,w2,w3,Rj,DG,ap,VX,Nat.reduceEqDiff,Nat.reduceAdd]
    obtain⟨s',n1,n2,n3,n4,n5,n6,n7⟩:=next
    exact⟨s',n1,n2,n3,n4,n5,n6,by rw[n7]⟩
   ·have hl:¬(bs.length:Int)=0:=by have:=aNM.2 hb;omega
    have hr:¬r=0:=fun h=>PX ⟨hb,h⟩
    simp only[lF,g0,g4,hv3,hlen,hl,hr,aaF,q1,hrn,w1,w2,w3,Rj,DG,ap,VX,Nat.reduceEqDiff,Nat.reduceAdd]
    obtain⟨s',n1,n2,n3,n4,n5,n6,n7⟩:=next
    exact⟨s',n1,n2,n3,n4,n5,n6,by rw[n7]⟩
  ·have hmm:r.tmod 10=((r.natAbs % 10:Nat):Int):=by
    rw[hm] at hrn ⊢
    split
    ·rename_i h;rw[if_pos h] at hrn;omega
    ·rfl
   have aCn:¬((r.natAbs % 10:Nat):Int)<0:=by omega
   by_cases hb:bs=[]
   ·have hl:(bs.length:Int)=0:=by rw[hb];rfl
    simp only[lF,g0,g4,hv3,hlen,hl,aaF,hmm,q1,aCn,w2,w3,Rj,DG,ap,VX,Nat.reduceEqDiff,Nat.reduceAdd]
    obtain⟨s',n1,n2,n3,n4,n5,n6,n7⟩:=next
    exact⟨s',n1,n2,n3,n4,n5,n6,by rw[n7]⟩
   ·have hl:¬(bs.length:Int)=0:=by have:=aNM.2 hb;omega
    have hr:¬r=0:=fun h=>PX ⟨hb,h⟩
    simp only[lF,g0,g4,hv3,hlen,hl,hr,aaF,hmm,q1,aCn,w2,w3,Rj,DG,ap,VX,Nat.reduceEqDiff,Nat.reduceAdd]
    obtain⟨s',n1,n2,n3,n4,n5,n6,n7⟩:=next
    exact⟨s',n1,n2,n3,n4,n5,n6,by rw[n7]⟩
end Go.PM
namespace Go.PM
abbrev chV (c:List (List ByteArray)):VV := .agg [lM c]
def D7 (n:Nat) (H:aA) (bare:Bool) (c:List (List ByteArray)) (r:VV):Prop:=∃c0,r = .agg [c0]∧wB n H bare c c0
theorem D7.cW {n:Nat} {H H':aA} {bare:Bool} {s:List (List ByteArray)} {c:VV} (h:D7 n H bare s c) (hk:∀b g x,n<b→aJ H b g=some x→aJ H' b g=some x):D7 n H' bare s c:=by
 obtain⟨c0,rfl,h0⟩:=h
 exact⟨c0,rfl,h0.cW hk⟩
theorem D7.pre {n:Nat} {H H':aA} {bare:Bool} {s:List (List ByteArray)} {c:VV} (h:D7 n H bare s c) (hh:H <+: H'):D7 n H' bare s c:=h.cW fun _ _ _ _=>cE hh
theorem D7.fz {n:Nat} {H:aA} {bare:Bool} {s:List (List ByteArray)} {c:VV} (h:D7 n H bare s c):PM.fz depth H c=some (chV s):=by
 obtain⟨c0,rfl,h0⟩:=h
 have f0:=h0.fz (d:=4)
 have e:PM.fz (7+1) H (.agg [c0])=if aY (.agg [c0])=true then some (.agg [c0]) else ([c0].mapM (PM.fz 7 H)).map .agg:=rfl
 show PM.fz (7+1) H (.agg [c0])=_
 rw[e]
 by_cases hp:aY (.agg [c0])=true
 ·rw[if_pos hp]
  have hu:aY c0=true:=by simpa[aY,aO] using hp
  rw[aM hu] at f0
  cases f0
  rfl
 ·rw[if_neg hp,aMB,f0]
  rfl
theorem TV {n b:Nat} {s:List (List ByteArray)} {bare:Bool} {H H':aA} {c:VV} (hc:D7 n H bare s c) (h:aJ H' b 0=some ([c],1,true)):bG true 1 (.ptr b 0 0 0) H'=some c:=by
 obtain⟨c0,rfl,_⟩:=hc
 rw[bJ,h]
 rfl
end Go.PM
namespace Go.PM
open Go.Lib
theorem ajI {α:Type} {l:List α} (h:l.Nodup) {i j:Nat} {x:α} (hi:l[i]? = some x) (hj:l[j]? = some x):i=j:=by
 obtain⟨hi,qK⟩:=aLd.1 hi
 obtain⟨hj,hj'⟩:=aLd.1 hj
 have h:=List.pairwise_iff_getElem.1 h
 rcases Nat.lt_trichotomy i j with bH | heq | hgt
 ·exact absurd (qK.trans hj'.symm) (h i j hi hj bH)
 ·exact heq
 ·exact absurd (hj'.trans qK.symm) (h j i hj hi hgt)
section
variable {α:Type} {f:α→VV} {e lo hi:Nat} {H H':aA} {v:VV}
def jX (lo hi:Nat) (H H':aA):Prop:=∀b g x,lo≤b→b<hi→aJ H b g=some x→aJ H' b g=some x
theorem jX.pre (h:H <+: H'):jX lo hi H H':=fun _ _ _ _ _=>cE h
theorem jX.refl:jX lo hi H H:=fun _ _ _ _ _ h=>h
theorem jX.trans {VU:aA} (h:jX lo hi H H') (h':jX lo hi H' VU):jX lo hi H VU:=fun b g x h1 h2 h3=>h' b g x h1 h2 (h b g x h1 h2 h3)
theorem jX.sub {l h':Nat} (h:jX lo hi H H') (hl:lo≤l) (hh:h'≤hi):jX l h' H H':=fun b g x h1 h2=>h b g x (by omega) (by omega)
theorem jX.set {b:Nat} {x:eR} (hb:b<lo∨hi≤b):jX lo hi H (H.set b x):=fun _ _ _ h1 h2=>aW (by omega)
theorem jX.move {L:aA}:jX H.length hi (aL4 H.length .dead++L) (H++L):=fun _ _ _ h1 _=>Lv h1
def Xd (f:α→VV) (e:Nat) (cD:List α) (lo hi:Nat) (H:aA) (v:VV):Prop :=
 (v = .tree [] .nil∧cD=[])∨∃b g c,lo≤b∧b<hi∧v = .ref b g 0 cD.length c∧cD.length≤c∧aJ H b g=some (cD.map f,e,true)
theorem Xd.cW {cD:List α} (h:Xd f e cD lo hi H v) (hk:jX lo hi H H'):Xd f e cD lo hi H' v:=by
 rcases h with h | ⟨b,g,c,h1,h2,h3,h4,h5⟩
 ·exact .inl h
 ·exact .inr ⟨b,g,c,h1,h2,h3,h4,hk _ _ _ h1 h2 h5⟩
theorem Xd.wide {cD:List α} {fV qK:Nat} (h:Xd f e cD lo hi H v) (hl:fV≤lo) (hh:hi≤qK):Xd f e cD fV qK H v:=by
 rcases h with h | ⟨b,g,c,h1,h2,h3⟩
 ·exact .inl h
 ·exact .inr ⟨b,g,c,by omega,by omega,h3⟩
theorem Gf {d b g c:Nat} {xs:List α} {w:Bool} (hp:∀x,aY (f x)=true) (h:aJ H b g=some (xs.map f,e,w)) (hc:xs.length≤c):fz (d+2) H (.ref b g 0 xs.length c)=some (aC f xs):=by
 have:aY (.ref b g 0 xs.length c)=false:=rfl
 show PM.fz ((d+1)+1) H _=_
 unfold PM.fz
 simp only[this,h,aLQ,if_false]
 rw[if_pos ⟨by simp,hc⟩,aMq,aL7 (by simp),mapM_pure (n:=d) (fO hp)]
 rfl
theorem Xd.fz {d:Nat} {cD:List α} (h:Xd f e cD lo hi H v) (hp:∀x,aY (f x)=true):PM.fz (d+2) H v=some (aC f cD):=by
 rcases h with⟨rfl,rfl⟩ | ⟨b,g,c,h1,h2,rfl,h4,h5⟩
 ·exact PF
 ·exact Gf hp h5 h4
structure CM (α:Type) where
 b:Nat
 g:Nat
 c:Nat
 xs:List α
def uH (r:CM α):VV := .ref r.b r.g 0 r.xs.length r.c
structure aaJ (f:α→VV) (e lo hi b:Nat) (H:aA) (rs:List (CM α)):Prop where
 nd:(rs.map (·.b)).Nodup
 row:∀r∈rs,lo≤r.b∧r.b<hi∧r.b≠b∧r.xs.length≤r.c∧aJ H r.b r.g=some (r.xs.map f,e,true)
def RG (f:α→VV) (e:Nat) (cD:List (List α)) (lo hi:Nat) (H:aA) (v:VV):Prop :=
 (v = .tree [] .nil∧cD=[])∨∃b g c rs,lo≤b∧b<hi∧v = .ref b g 0 cD.length c∧cD.length≤c∧aJ H b g=some (rs.map uH,1,true)∧rs.map (·.xs)=cD∧aaJ f e lo hi b H rs
theorem RG.cW {cD:List (List α)} (h:RG f e cD lo hi H v) (hk:jX lo hi H H'):RG f e cD lo hi H' v:=by
 rcases h with h | ⟨b,g,c,rs,h1,h2,h3,h4,h5,h6,h7⟩
 ·exact .inl h
 ·exact .inr ⟨b,g,c,rs,h1,h2,h3,h4,hk _ _ _ h1 h2 h5,h6,h7.nd,fun r hr=>by
   obtain⟨k1,k2,k3,k4,k5⟩:=h7.row r hr
   exact⟨k1,k2,k3,k4,hk _ _ _ k1 k2 k5⟩⟩
theorem RG.wide {cD:List (List α)} {fV qK:Nat} (h:RG f e cD lo hi H v) (hl:fV≤lo) (hh:hi≤qK):RG f e cD fV qK H v:=by
 rcases h with h | ⟨b,g,c,rs,h1,h2,h3,h4,h5,h6,h7⟩
 ·exact .inl h
 ·exact .inr ⟨b,g,c,rs,by omega,by omega,h3,h4,h5,h6,h7.nd,fun r hr=>by
   obtain⟨k1,k2,k3,k4,k5⟩:=h7.row r hr
   exact⟨by omega,by omega,k3,k4,k5⟩⟩
theorem ZW {d b g c lo hi:Nat} {rs:List (CM α)} {w:Bool} (hp:∀x,aY (f x)=true) (h:aJ H b g=some (rs.map uH,1,w)) (hc:rs.length≤c) (hR:aaJ f e lo hi b H rs) :
  fz (d+3) H (.ref b g 0 rs.length c)=some (aC (aC f) (rs.map (·.xs))):=by
 have:aY (.ref b g 0 rs.length c)=false:=rfl
 show PM.fz ((d+2)+1) H _=_
 unfold PM.fz
 simp only[this,h,aLQ,if_false]
 rw[if_pos ⟨by simp,hc⟩,aMq,aL7 (by simp),mapM_map (f:=uH) (f':=fun r=>aC f r.xs) fun r hr=>Gf hp (hR.row r hr).2.2.2.2 (hR.row r hr).2.2.2.1]
 simp[aC,List.map_map]
theorem RG.fz {d:Nat} {cD:List (List α)} (h:RG f e cD lo hi H v) (hp:∀x,aY (f x)=true):PM.fz (d+3) H v=some (aC (aC f) cD):=by
 rcases h with⟨rfl,rfl⟩ | ⟨b,g,c,rs,h1,h2,rfl,h4,h5,rfl,h7⟩
 ·exact PF
 ·rw[aMV] at h4 ⊢
  exact ZW hp h5 h4 h7
theorem Gv {d:Nat} {us HX:List VV} (h:us.mapM (PM.fz (d+1) H)=some HX):PM.fz (d+2) H (.agg us)=some (.agg HX):=by
 have e:PM.fz (d+2) H (.agg us)=if aY (.agg us)=true then some (.agg us) else (us.mapM (PM.fz (d+1) H)).map .agg:=rfl
 rw[e]
 by_cases hq:aY (.agg us)=true
 ·rw[if_pos hq]
  have:us.mapM (PM.fz (d+1) H)=some us:=mapM_pure hq
  rw[this] at h
  cases h
  rfl
 ·rw[if_neg hq,h]
  rfl
end
def JA (T:VV) (lo hi:Nat) (H:aA) (v:VV):Prop:=∀H',jX lo hi H H'→fz depth H' v=some T
theorem JA.cW {T:VV}:∀ {lo hi H H' v},JA T lo hi H v→jX lo hi H H'→JA T lo hi H' v:=fun h hk _ h'=>h _ (hk.trans h')
theorem JA.now {T v:VV} {lo hi:Nat} {H:aA} (h:JA T lo hi H v):fz depth H v=some T:=h H jX.refl
def CG (cD:List (List ByteArray)) (lo hi:Nat) (H:aA) (v:VV):Prop:=∃c,v = .agg [c]∧RG sV 1 cD lo hi H c
theorem CG.cW {cD:List (List ByteArray)}:∀ {lo hi H H' v},CG cD lo hi H v→jX lo hi H H'→CG cD lo hi H' v:=by
 rintro lo hi H H' v ⟨c,h1,h2⟩ hk
 exact⟨c,h1,h2.cW hk⟩
theorem CG.fz {cD:List (List ByteArray)} {lo hi:Nat} {H:aA} {v:VV} (h:CG cD lo hi H v):PM.fz depth H v=some (chV cD):=by
 obtain⟨c,rfl,h⟩:=h
 refine Gv (d:=6) ?_
 rw[aMB,h.fz (d:=4) fun _=>rfl]
 rfl
theorem CG.seen {cD:List (List ByteArray)} {lo hi:Nat} {H:aA} {v:VV} (h:CG cD lo hi H v):JA (chV cD) lo hi H v:=fun _ hk=>(h.cW hk).fz
def SvG (s:rV) (lo hi:Nat) (H:aA) (v:VV):Prop:=∃a b c m1 m2,v = .agg [a,b,c]∧lo≤m1∧m1≤m2∧m2≤hi∧Xd sV 1 s.b lo m1 H a∧RG sV 1 s.g m1 m2 H b∧Xd sV 1 s.e m2 hi H c
theorem SvG.cW {s:rV}:∀ {lo hi H H' v},SvG s lo hi H v→jX lo hi H H'→SvG s lo hi H' v:=by
 rintro lo hi H H' v ⟨a,b,c,m1,m2,h1,k1,k2,k3,h2,h3,h4⟩ hk
 exact⟨a,b,c,m1,m2,h1,k1,k2,k3,h2.cW (hk.sub (by omega) (by omega)),h3.cW (hk.sub (by omega) (by omega)),h4.cW (hk.sub (by omega) (by omega))⟩
theorem axN {s:rV} {l1 h1 l2 h2 l3 h3:Nat} {H:aA} {a b c:VV} (ha:Xd sV 1 s.b l1 h1 H a) (hb:RG sV 1 s.g l2 h2 H b) (hc:Xd sV 1 s.e l3 h3 H c):PM.fz depth H (.agg [a,b,c])=some (tX s):=by
 refine Gv (d:=6) ?_
 rw[aMB,ha.fz (d:=5) fun _=>rfl]
 rw[aMB,hb.fz (d:=4) fun _=>rfl]
 rw[aMB,hc.fz (d:=5) fun _=>rfl]
 rfl
theorem SvG.fz {s:rV} {lo hi:Nat} {H:aA} {v:VV} (h:SvG s lo hi H v):PM.fz depth H v=some (tX s):=by
 obtain⟨a,b,c,m1,m2,rfl,k1,k2,k3,h2,h3,h4⟩:=h
 exact axN h2 h3 h4
theorem SvG.seen {s:rV} {lo hi:Nat} {H:aA} {v:VV} (h:SvG s lo hi H v):JA (tX s) lo hi H v:=fun _ hk=>(h.cW hk).fz
theorem Xd.seen {cD:List ByteArray} {lo hi:Nat} {H:aA} {v:VV} (h:Xd sV 1 cD lo hi H v):JA (gJ cD) lo hi H v:=fun _ hk=>(h.cW hk).fz (d:=6) fun _=>rfl
end Go.PM
namespace Go.PM
section
variable {α:Type} {f:α→VV} {e:Nat}
structure Rd (f:α→VV) (e:Nat) (xs:List α) (H:aA) (v:VV):Prop where
 len:∀H',H <+: H'→pV v H'=some (VI xs.length)
 get:∀H',H <+: H'→∀(i:Nat) x,xs[i]? = some x→∃p,bI e v (VI i) H'=some p∧∀ag,bG ag e p H'=dJ ag e (f x) 0
 cell:aB v=[v]∧bP v=true∧isAny v=false
theorem Rd.pre {xs:List α} {H H':aA} {v:VV} (h:Rd f e xs H v) (hh:H <+: H'):Rd f e xs H' v:=⟨fun H2 h2=>h.len H2 (hh.trans h2),fun H2 h2=>h.get H2 (hh.trans h2),h.cell⟩
theorem Rd.tree {xs:List α} {H:aA} {t:TK} (hs:∀x,(aB (f x)).length=e):Rd f e xs H (.tree (xs.map f) t) :=
 ⟨fun _ _=>eK,fun _ _ i x hx=>⟨_,aF hx (hs x),fun ag=>NI⟩,rfl,rfl,rfl⟩
theorem Rd.row {xs:List α} {H:aA} {b g n c:Nat} {w:Bool} (h:aJ H b g=some (xs.map f,e,w)) (hn:n=xs.length):Rd f e xs H (.ref b g 0 n c):=by
 subst hn
 refine⟨fun H' hh=>eI (cE hh h),fun H' hh i x hx => ?_,rfl,rfl,rfl⟩
 have hi:=(aLd.1 hx).1
 have e1:=bC (o:=0) (n:=xs.length) (c:=c) (i:=i) (k := .i64) (cE hh h) hi
 rw[aMM] at e1
 exact⟨_,e1,fun ag=>qI (f:=f) (cE hh h) hx⟩
structure MG (f:α→VV) (e lo hi b g:Nat) (H:aA) (rs:List (CM α)):Prop where
 out:aJ H b g=some (rs.map uH,1,true)
 blo:lo≤b
 bhi:b<hi
 rows:aaJ f e lo hi b H rs
variable {lo hi b g:Nat} {H H':aA} {rs:List (CM α)}
theorem MG.cW (h:MG f e lo hi b g H rs) (hk:jX lo hi H H'):MG f e lo hi b g H' rs :=
 ⟨hk _ _ _ h.blo h.bhi h.out,h.blo,h.bhi,h.rows.nd,fun r hr=>by
  obtain⟨k1,k2,k3,k4,k5⟩:=h.rows.row r hr
  exact⟨k1,k2,k3,k4,hk _ _ _ k1 k2 k5⟩⟩
theorem MG.pre (h:MG f e lo hi b g H rs) (hh:H <+: H'):MG f e lo hi b g H' rs:=h.cW (jX.pre hh)
theorem MG.len {n c:Nat} (h:MG f e lo hi b g H rs):pV (.ref b g 0 n c) H=some (VI n):=eI h.out
theorem MG.addr {i n c:Nat} (h:MG f e lo hi b g H rs) (hi:i<n):bI 1 (.ref b g 0 n c) (VI i) H=some (.ptr b g i 0):=by
 have:=bC (o:=0) (n:=n) (c:=c) (i:=i) (k := .i64) h.out hi
 rwa [aMM] at this
theorem MG.cell {i:Nat} {r:CM α} (h:MG f e lo hi b g H rs) (hr:rs[i]? = some r):bG false 1 (.ptr b g i 0) H=some (.ref r.b r.g 0 r.xs.length r.c):=by
 rw[qI (f:=uH) h.out hr]
 rfl
theorem MG.row {i:Nat} {r:CM α} (h:MG f e lo hi b g H rs) (hr:rs[i]? = some r):aJ H r.b r.g=some (r.xs.map f,e,true):=(h.rows.row r (aL8 hr)).2.2.2.2
theorem MG.at {i j n c:Nat} {r:CM α} (h:MG f e lo hi b g H rs) (hr:rs[i]? = some r) (hj:j<n):bI e (.ref r.b r.g 0 n c) (VI j) H=some (.ptr r.b r.g j 0):=by
 have:=bC (o:=0) (n:=n) (c:=c) (i:=j) (k := .i64) (h.row hr) hj
 rwa [aMM] at this
theorem MG.get {i j:Nat} {ag:Bool} {r:CM α} {x:α} (h:MG f e lo hi b g H rs) (hr:rs[i]? = some r) (hx:r.xs[j]? = some x):bG ag e (.ptr r.b r.g j 0) H=dJ ag e (f x) 0:=qI (f:=f) (h.row hr) hx
theorem MG.inj {i j:Nat} {r s:CM α} (h:MG f e lo hi b g H rs) (hr:rs[i]? = some r) (hs:rs[j]? = some s) (he:r.b=s.b):i=j:=by
 have h1:(rs.map (·.b))[i]? = some r.b:=by simp[hr]
 have h2:(rs.map (·.b))[j]? = some r.b:=by simp[hs,he]
 exact ajI h.rows.nd h1 h2
theorem PY {β γ:Type} {F:β→γ} {l:List β} {i:Nat} {x y:β} (hx:l[i]? = some x) (he:F y=F x):(l.set i y).map F=l.map F:=by
 apply List.ext_getElem?
 intro j
 rw[List.getElem?_map,List.getElem?_map,List.getElem?_set]
 split
 ·rename_i Qq
  subst Qq
  split
  ·rw[hx,aMz,aMz,he]
  ·rename_i hn
   rw[(List.getElem?_eq_none (by omega))] at hx
   cases hx
 ·rfl
theorem MG.set {i:Nat} {r:CM α} {ys:List α} (h:MG f e lo hi b g H rs) (hr:rs[i]? = some r) (hl:ys.length=r.xs.length):MG f e lo hi b g (H.set r.b (.row r.g (ys.map f) e true)) (rs.set i { r with xs:=ys }):=by
 have SM:=h.rows.row r (aL8 hr)
 refine⟨?_,h.blo,h.bhi,?_,fun s hs => ?_⟩
 ·rw[PY hr (by simp[uH,hl])]
  exact aW SM.2.2.1 h.out
 ·rw[PY (F:=fun r:CM α=>r.b) (y:={ r with xs:=ys }) hr rfl]
  exact h.rows.nd
 ·obtain⟨j,hj⟩:=aNa hs
  rw[List.getElem?_set] at hj
  split at hj
  ·rename_i Qq
   split at hj
   ·cases hj
    exact⟨SM.1,SM.2.1,SM.2.2.1,by rw[hl];exact SM.2.2.2.1,cP SM.2.2.2.2⟩
   ·cases hj
  ·rename_i Qq
   have Zz:=h.rows.row s (aL8 hj)
   exact⟨Zz.1,Zz.2.1,Zz.2.2.1,Zz.2.2.2.1,aW (fun he=>Qq (h.inj hr hj he)) Zz.2.2.2.2⟩
theorem MG.put {i j fV:Nat} {r:CM α} {y:α} (h:MG f e lo hi b g H rs) (hr:rs[i]? = some r) (hj:j<r.xs.length) (eT:fV≤lo) (hv:(aB (f y)).length=e) (hs:(aB (f y)).all bP=true) :
  bM fV e (.ptr r.b r.g j 0) (f y) H=some (H.set r.b (.row r.g ((r.xs.set j y).map f) e true)) :=
 eG (f:=f) (h.row hr) hj (aLf eT (h.rows.row r (aL8 hr)).1) hv hs
theorem MG.lt {i:Nat} {r:CM α} (h:MG f e lo hi b g H rs) (hr:rs[i]? = some r):lo≤r.b∧r.b<hi∧r.b<H.length:=⟨(h.rows.row r (aL8 hr)).1,(h.rows.row r (aL8 hr)).2.1,lZ (h.row hr)⟩
theorem MG.cD {c:Nat} (h:MG f e lo hi b g H rs) (hc:rs.length≤c):RG f e (rs.map (·.xs)) lo hi H (.ref b g 0 rs.length c) := .inr ⟨b,g,c,rs,h.blo,h.bhi,by rw[aMV],by rw[aMV];exact hc,h.out,rfl,h.rows⟩
theorem MG.fz {d c:Nat} (h:MG f e lo hi b g H rs) (hc:rs.length≤c) (hp:∀x,aY (f x)=true):PM.fz (d+3) H (.ref b g 0 rs.length c)=some (aC (aC f) (rs.map (·.xs))):=ZW hp h.out hc h.rows
theorem MG.wide {fV qK:Nat} (h:MG f e lo hi b g H rs) (hl:fV≤lo) (hh:hi≤qK):MG f e fV qK b g H rs:=⟨h.out,by have:=h.blo;omega,by have:=h.bhi;omega,h.rows.nd,fun r hr=>by
 obtain⟨k1,k2,k3,k4,k5⟩:=h.rows.row r hr
 exact⟨by omega,by omega,k3,k4,k5⟩⟩
end
theorem eO:type_of% (aMU @vC<|aMU @pA<|aMU @oO.eq_1<|aMU @sU.eq_1<|aMU @sU.eq_2<|aMU @FK.eq_1<|aMU @FK.eq_2<|aMU @BT.eq_1<|aMU @BT.eq_2<|aMU @Js<|aMU @Ei<|aMU @Gg<|aMU @GJ<|aMU @aOl.{0}<|aMU @aL1.{0}<|aMU @List.take_nil.{0}<|aMU @aMq.{0}<|aMU @aMZ.{0}<|aMU @List.drop_nil.{0}<|aMU @aMm.{0} <| @aLe):=aMU @vC<|aMU @pA<|aMU @oO.eq_1<|aMU @sU.eq_1<|aMU @sU.eq_2<|aMU @FK.eq_1<|aMU @FK.eq_2<|aMU @BT.eq_1<|aMU @BT.eq_2<|aMU @Js<|aMU @Ei<|aMU @Gg<|aMU @GJ<|aMU @aOl.{0}<|aMU @aL1.{0}<|aMU @List.take_nil.{0}<|aMU @aMq.{0}<|aMU @aMZ.{0}<|aMU @List.drop_nil.{0}<|aMU @aMm.{0} <| @aLe
def Uo (P:Nat→Nat→aA→VV→Prop) (H:aA) (r:VV) (H':aA):Prop:=H <+: H'∧P H.length H'.length H' r
theorem rJ {F lo:Nat} {args:List VV} {P:Nat→Nat→aA→VV→Prop} {H:aA} {K:VV→aA→Prop} (En:G5.contains F=true) (h:mB F args lo H (Uo P H)) (hk:∀r L,P H.length (H++L).length (H++L) r→K r (H++L)):dP F args lo H K:=by
 refine iN En (h.mono ?_)
 rintro r H' ⟨⟨L,rfl⟩,hP⟩
 exact hk r L hP
end Go.PM
namespace Go.PM
open Go.Lib
abbrev cell0:eR := .row 0 [.agg [VB false,.tree [] .nil,.tree [] .nil]] 3 true
def dF (qs:List Rat):Rat:=qs.foldl (· + ·) 0
theorem Dg {qs:List Rat} {i:Nat} {q:Rat} (h:qs[i]? = some q):dF (qs.take (i+1))=dF (qs.take i)+q:=by
 rw[sZ h,dF,List.foldl_append];rfl
theorem Ry {B:Nat}:∀ {qs:List Rat},(∀q∈qs,aL q≤B)→∀a:Rat,aL (qs.foldl (· + ·) a)≤qs.length*(B+1)+aL a
 | [],_,a=>by simp
 |
  q::qs,h,a=>by
  have h1:=Ry (fun x hx=>h x (List.mem_cons_of_mem _ hx)) (a+q)
  have h2:=yS a q
  have h3:=h q List.mem_cons_self
  rw[List.foldl_cons,aLo,Nat.succ_mul]
  omega
theorem Bb {B:Nat} {qs:List Rat} (h:∀q∈qs,aL q≤B) (i:Nat):aL (dF (qs.take i))≤qs.length*(B+1)+1:=by
 have h1:=Ry (qs:=qs.take i) (fun q hq=>h q (aMb hq)) 0
 have h2:(qs.take i).length*(B+1)≤qs.length*(B+1):=aLF _ (by rw[aMN];omega)
 rw[nC] at h1
 unfold dF
 omega
set_option maxHeartbeats 1000000 in
abbrev rz:VV := .agg [VB false,.tree [] .nil,.tree [] .nil]
theorem BS {H H1:aA} {b:Nat} {x:eR} (h:H <+: H1) (hb:H.length≤b):H <+: H1.set b x:=by
 obtain⟨L,rfl⟩:=h
 rw[List.set_append_right _ _ hb]
 exact aM9 _ _
theorem Uq {H H1 L:aA} (h:H <+: H1):H <+: H1++L:=h.trans (aM9 _ _)
theorem Fs {lo:Nat} {H:aA} {q:Rat} (h:lo≤H.length):bM lo 3 (.ptr H.length 0 0 0) (aG q) (H++[cell0])=some (H++[.row 0 [aG q] 3 true]):=by
 rw[bS (g:=0) (e:=3) (j:=0) iO (by exact aOo) h rfl rfl,OZ]
 rfl
theorem abO {H K:aA} {q:Rat}:bG true 3 (.ptr H.length 0 0 0) (H ++ .row 0 [aG q] 3 true::K)=some (aG q):=by
 rw[bJ,Cu,aQ]
 exact bK _
theorem O8 {lo:Nat} {H:aA} {v:VV} (qs:List Rat) {B:Nat} (hv:Rd aG 3 qs H v) (eT:lo≤H.length) (hb:∀q∈qs,aL q≤B) (hk:qs.length*(B+1)+1≤1099511627776) (hB:B≤1099511627776) (hn:qs.length≤1000000000) :
  mB 70 [v] lo H (Uo (fun _ _ _ r=>r=aG (dF qs)) H):=by
 refine mB.walk ⟨true,false⟩ Yg (aM2 rfl) ?_
 have e1:TC 64 [VI 0] (aG 0):=vY 0 (by decide) (by decide)
 have e2:=hv.len (H++[cell0,.row 0 [aG 0] 3 true]) (aM9 _ _)
 have s0:bM lo 3 (.ptr (H.length+1) 0 0 0) (aG 0) (H++[cell0,cell0])=some (H++[cell0,.row 0 [aG 0] 3 true]):=by
  have:=Fs (lo:=lo) (H:=H++[cell0]) (q:=0) (by rw[aLp];omega)
  simpa only[aLp,aLo,aMR,aMM,aM0,aME,aMw] using this
 simp only[U1,OI,e1,e2,s0,aLp,aLo,aMR,aM0,aME,aMw,eO,VX,Nat.reduceEqDiff,Nat.reduceAdd,Nat.reduceLeDiff,Nat.reduceLT,Nat.reduceSub]
 refine aN (fun(i:Nat) ρ H1=>i≤qs.length∧H <+: H1∧aJ H1 H.length 0=some ([rz],3,true)∧aJ H1 (H.length+1) 0=some ([aG (dF (qs.take i))],3,true)∧ρ 2 = .ptr H.length 0 0 0∧ρ 3 = .ptr (H.length+1) 0 0 0∧ρ 7=v∧ρ 8=VI qs.length∧ρ 9=VI i) (fun i=>qs.length-i) 0 ⟨aLI _,aM9 _ _,Cu.trans aQ,Nw.trans (cL.trans aQ),rfl,rfl,rfl,rfl,rfl⟩ ?_
 rintro i ρ H1 ⟨hi,hp,Ko,Ns,g2,g3,g7,g8,g9⟩
 have Gy:=lZ Ns
 by_cases bX:(i:Int)<(qs.length:Int)
 ·obtain⟨q,hq⟩:∃q,qs[i]? = some q:=⟨_,aLl (by omega)⟩
  obtain⟨p,a1,a2⟩:=hv.get H1 hp i q hq
  have a2':=(a2 true).trans (bK _)
  have wi:IntKind.i64.wrap ((i:Int)+1)=((i+1:Nat):Int):=wrapN (i+1) (by omega) (by omega)
  have h1:=Bb hb i
  have h2:=hb q (aL8 hq)
  have h3:(i+1)*(B+1)≤qs.length*(B+1):=aLF _ (by omega)
  have e3:=oE (dF (qs.take i)) q (by omega) (by omega)
  rw[←Dg hq] at e3
  have s1:=Fs (lo:=lo) (H:=H1) (q:=q) (by omega)
  have s2:=abO (H:=H1) (K:=[]) (q:=q)
  have s3:bG true 3 (.ptr (H.length+1) 0 0 0) (H1++[.row 0 [aG q] 3 true])=some (aG (dF (qs.take i))):=by
   rw[bJ,dC Ns]
   exact bK _
  have s4:=bS (lo:=lo) (v:=aG (dF (qs.take (i+1)))) (j:=0) (dC (L:=[.row 0 [aG q] 3 true]) Ns) (by exact aOo) (by omega) rfl rfl
  rw[aMS] at s4
  simp only[E8,g2,g3,g7,g8,g9,bX,a1,a2',e3,s1,s2,s3,s4,wi,bK,eO,VX,Nat.reduceEqDiff,Nat.reduceAdd,Nat.reduceLeDiff,Nat.reduceLT,Nat.reduceSub]
  exact⟨i+1,by omega,by omega,BS (Uq hp) (by omega),aW (by omega) (dC Ko),cP (dC Ns),by (repeat' apply aMU)<;>first | rfl | trivial | assumption⟩
 ·have mZ:i=qs.length:=by omega
  subst mZ
  rw[List.take_length] at Ns
  have s3:bG true 3 (.ptr (H.length+1) 0 0 0) H1=some (aG (dF qs)):=by
   rw[bJ,Ns]
   exact bK _
  have s4:=bS (lo:=lo) (v:=aG (dF qs)) (j:=0) Ko (by exact aOo) eT rfl rfl
  rw[aMS] at s4
  have s5:bG true 3 (.ptr H.length 0 0 0) (H1.set H.length (.row 0 [aG (dF qs)] 3 true))=some (aG (dF qs)):=by
   rw[bJ,cP Ko]
   exact bK _
  simp only[E8,g2,g3,g8,g9,bX,s3,s4,s5,eO,VX,Nat.reduceEqDiff,Nat.reduceAdd,Nat.reduceLeDiff,Nat.reduceLT,Nat.reduceSub]
  exact⟨BS hp (aLe _),rfl⟩
theorem RN {q:Rat}:jH q<0↔q<0:=by
 have e:q.num<0↔q<0:=by rw[←Int.not_le,Rat.num_nonneg];constructor<;>intro h<;>grind
 rw[←e]
 rcases aN3 q.num 0 with h | h | h
 ·rw[pL h];omega
 ·rw[kW h];omega
 ·rw[pK h];omega
theorem BJ (q:Rat):TC 67 [aG q] (VB (decide (q<0))):=by
 refine TC.walk ⟨true,false⟩ Oy rfl (aM2 rfl) (by simp[aO,iM]) rfl ?_
 have e1:=dL q
 by_cases h:jH q<0
 ·rw[decide_eq_true (RN.1 h)]
  simp only[DP,Bp,e1,h,aI,cI,bK,bB,bA,aU,gC,Nat.reduceLeDiff,Nat.reduceLT,Nat.reduceSub,mX,cA,cM,gB,lB,pT,bne_iff_ne,ne_eq,not_false_eq_true,not_true_eq_false,VX,Nat.reduceEqDiff,Nat.reduceAdd]
  exact aK rfl
 ·rw[decide_eq_false (mt RN.2 h)]
  simp only[DP,Bp,e1,h,aI,cI,bK,bB,bA,aU,gC,Nat.reduceLeDiff,Nat.reduceLT,Nat.reduceSub,mX,cA,cM,gB,lB,pT,bne_iff_ne,ne_eq,not_false_eq_true,not_true_eq_false,VX,Nat.reduceEqDiff,Nat.reduceAdd]
  exact aK rfl
theorem D6 (xs:List Rat) (g:Nat) (p:Rat→Bool) (hg:∀x∈xs,TC g [aG x] (VB (p x))) (hn:xs.length≤1000000000) :
  ∃k:Int,(0≤k↔xs.any p=true)∧TC 141 [aC aG xs,.yV g []] (VI k):=by
 refine⟨match xs.findIdx? p with | some i=>i | none => -1,?_,?_⟩
 ·cases h:xs.findIdx? p with
  |
   none =>
   rw[aOp] at h
   simp only[List.any_eq_true]
   constructor
   ·intro h';omega
   ·rintro⟨x,hx,hp⟩;rw[h x hx] at hp;cases hp
  |
   some i =>
   simp only[List.any_eq_true]
   obtain⟨hi,hp,_⟩:=aOq.1 h
   exact⟨fun _=>⟨_,List.getElem_mem hi,hp⟩,fun _=>by omega⟩
 ·refine TC.walk ⟨true,false⟩ rD rfl (aM2 rfl) (by simp[aO,gN];rfl) rfl ?_
  simp only[kD,jF,VX,Nat.reduceEqDiff,Nat.reduceAdd]
  refine aN (fun(i:Nat) ρ H=>i≤xs.length∧H=[]∧(∀j x,j<i→xs[j]? = some x→p x=false)∧ρ 0=aC aG xs∧ρ 1 = .yV g []∧ρ 7=VI xs.length∧ρ 8=VI i) (fun i=>xs.length-i) 0 ⟨aLI _,rfl,fun j x h=>by omega,rfl,rfl,rfl,rfl⟩ ?_
  rintro i ρ H ⟨hi,rfl,kV,h0,h1,h7,h8⟩
  by_cases bX:(i:Int)<(xs.length:Int)
  ·obtain⟨x,hx⟩:∃x,xs[i]? = some x:=⟨_,aLl (by omega)⟩
   have e1:=aF (f:=aG) (t := .op) (H:=[]) (size:=3) (k := .i64) hx rfl
   have wi:IntKind.i64.wrap ((i:Int)+1)=((i+1:Nat):Int):=wrapN (i+1) (by omega) (by omega)
   have e2:=hg x (aL8 hx)
   cases hp:p x with
   |
    false =>
    rw[hp] at e2
    simp only[cU,h0,h1,h7,h8,bX,e1,e2,wi,Ek,aMm,aI,cI,bK,bB,bA,aU,VX,Nat.reduceEqDiff,Nat.reduceAdd]
    refine⟨i+1,by omega,by omega,fun j y hj hy => ?_,by (repeat' apply aMU)<;>first | rfl | trivial⟩
    rcases Nat.lt_or_ge j i with Ea | Ea
    ·exact kV j y Ea hy
    ·have:j=i:=by omega
     subst this
     rw[hx] at hy
     injection hy with hy
     exact hy▸hp
   |
    true =>
    rw[hp] at e2
    simp only[cU,h0,h1,h7,h8,bX,e1,e2,wi,Ek,aMm,aI,cI,bK,bB,bA,aU,VX,Nat.reduceEqDiff,Nat.reduceAdd]
    have:xs.findIdx? p=some i:=by
     rw[aOq]
     obtain⟨bH,G0⟩:=aLd.1 hx
     exact⟨bH,by rw[G0];exact hp,fun j hj=>by
      have:=kV j _ hj (aLl (by omega))
      simp[this]⟩
    rw[this]
    exact aK rfl
  ·simp only[cU,h0,h1,h7,h8,bX,VX,Nat.reduceEqDiff,Nat.reduceAdd]
   have:xs.findIdx? p=none:=by
    rw[aOp]
    intro x hx
    obtain⟨j,hj⟩:=aNa hx
    exact kV j x (by have:=(aLd.1 hj).1;omega) hj
   rw[this]
   exact aK rfl
theorem mE (xs:List Rat) (g:Nat) (p:Rat→Bool) (hg:∀x∈xs,TC g [aG x] (VB (p x))) (hn:xs.length≤1000000000):TC 66 [aC aG xs,.yV g []] (VB (xs.any p)):=by
 refine TC.walk ⟨true,false⟩ pH rfl (aM2 rfl) (by simp[aO,gN];rfl) rfl ?_
 obtain⟨k,hk,hc⟩:=D6 xs g p hg hn
 have e:decide (0≤k)=xs.any p:=by
  cases h:xs.any p with
  | true=>rw[decide_eq_true (hk.2 h)]
  | false=>rw[decide_eq_false fun h'=>by rw[hk.1 h'] at h;cases h]
 simp only[iY,iD,hc,e,VX,Nat.reduceEqDiff,Nat.reduceAdd]
 exact aK rfl
def jT (qs:List Rat):Bool := !(qs.any fun q=>decide (q<0))&&decide (dF qs=1)
def mT (xs:List ByteArray):Option (List Rat):=match tC xs with
 | some qs=>if jT qs=true then some qs else none
 | none=>none
theorem QC {xs:List ByteArray} {qs:List Rat} (h:mT xs=some qs):tC xs=some qs∧jT qs=true:=by
 unfold mT at h
 split at h
 ·rename_i ps hp
  split at h
  ·rename_i hw
   cases h
   exact⟨hp,hw⟩
  ·cases h
 ·cases h
theorem N8 {n:Nat} (h:n≤300):n*(665+1)+1≤1099511627776:=by omega
theorem Fp {xs:List ByteArray} {qs:List Rat} (h:tC xs=some qs):mT xs=if jT qs=true then some qs else none:=by unfold mT;rw[h]
theorem Mr {xs:List ByteArray} (h:tC xs=none):mT xs=none:=by unfold mT;rw[h]
theorem sD:Q6 none = .eH [aC aG [],VB false]:=rfl
theorem xU (qs:List Rat):Q6 (some qs) = .eH [aC aG qs,VB true]:=rfl
set_option maxHeartbeats 1000000 in
theorem KP (xs:List ByteArray) (hn:xs.length≤1000000000) (hs:∀s∈xs,s.size≤1000000000):TC 98 [gJ xs] (Q6 (mT xs)):=by
 refine TC.walk ⟨true,false⟩ Lo rfl (aM2 rfl) (by simp[aO,kG]) (RB _) ?_
 have e1:=Fq xs hn hs
 cases h:tC xs with
 |
  none =>
  rw[h,sD] at e1
  rw[Mr h,sD]
  simp only[rH,nS,e1,VX,Nat.reduceEqDiff,Nat.reduceAdd]
  exact Il
 |
  some qs =>
  rw[h,xU] at e1
  rw[Fp h]
  obtain⟨hb,hl,_⟩:=mY h
  have e2:=mE qs 67 (fun q=>decide (q<0)) (fun q _=>BJ q) (by omega)
  have hm:qs.length*666≤199800:=by omega
  have e3:=fun(K:aA)=>O8 (lo:=0) (H:=K) (v:=aC aG qs) qs (B:=665) (Rd.tree fD) (aLI _) hb (N8 hl) (by decide) (by omega)
  have hsb:=Bb hb qs.length
  rw[List.take_length] at hsb
  have e4:=KY (dF qs) (by omega)
  cases Ai:qs.any (fun q=>decide (q<0)) with
  |
   true =>
   rw[Ai] at e2
   have hw:¬jT qs=true:=by unfold jT;rw[Ai];simp
   rw[if_neg hw,sD]
   simp only[rH,nS,e1,e2,VX,Nat.reduceEqDiff,Nat.reduceAdd]
   exact Il
  |
   false =>
   rw[Ai] at e2
   by_cases afW:dF qs=1
   ·rw[decide_eq_true afW] at e4
    have hw:jT qs=true:=by unfold jT;rw[Ai,decide_eq_true afW];rfl
    rw[if_pos hw,xU]
    simp only[rH,nS,e1,e2,VX,Nat.reduceEqDiff,Nat.reduceAdd]
    refine rJ rfl (e3 _) fun r L hr => ?_
    subst hr
    simp only[e4,VX,Nat.reduceEqDiff,Nat.reduceAdd]
    exact aK (aeN (gN _) rfl)
   ·rw[decide_eq_false afW] at e4
    have hw:¬jT qs=true:=by unfold jT;rw[Ai,decide_eq_false afW];simp
    rw[if_neg hw,sD]
    simp only[rH,nS,e1,e2,VX,Nat.reduceEqDiff,Nat.reduceAdd]
    refine rJ rfl (e3 _) fun r L hr => ?_
    subst hr
    simp only[e4,VX,Nat.reduceEqDiff,Nat.reduceAdd]
    exact Il
end Go.PM
namespace Go.PM
open Go.Lib
end Go.PM
namespace Go.PM
def CI:aE:=(LS [LO 10 (.bin .lss (LT 9) (LT 8))] (.seq (.cond (LT 10) .skip (.exit 0)) (.seq (.block 1 (LS [LM 11 9,LM 4 11] (.cT [LM 12 3,LM 13 4,LO 14 (.call 64 [(LI 0)]),LO 15 (.lit [(.bool false),(.slice none 0 0),(.slice none 0 0)] 1 [(0,(LT 14))]),LM 16 0,LO 17 (.call 162 [(LT 15),(LT 16)]),LO 18 (.iaddr 1 (LT 12) (LT 13)),LN (.store 1 (LT 18) (LT 17))]))) (.cT [LO 19 (.bin .add (LT 9) (LI 1)),LM 9 19]))))
def Jv:aE:=(LS [LO 2 (.mv (.const (.slice none 0 0)))] (LS [LM 5 0,LO 6 (.make [(.slice none 0 0)] 24 (LT 5) (LT 5)),LM 3 6] (.seq (LS [LM 7 3,LO 8 (.len (LT 7)),LO 9 (.mv (LI 0))] (.block 0 (.loop CI))) (LS [LM 20 3,LM 2 20] .ret))))
def O0:aZ:=⟨21,[(.tmp 2)],Jv⟩
theorem S9:gH 99=some O0:=by kernel_rfl
def Cy:aE:=(.seq (LS [LM 21 8,LM 22 6,LO 23 (.bin .lss (LT 21) (LT 22)),LM 24 23,LY 24 25 (.mv (LT 0)),LY 24 26 (.mv (LT 8)),LY 24 27 (.iaddr 1 (LT 25) (LT 26)),LY 24 28 (LL 27),LY 24 29 (.mv (LT 7)),LY 24 30 (.iaddr 3 (LT 28) (LT 29)),LY 24 31 (LK 30),LY 24 32 (.call 68 [(LT 31)]),LY 24 33 (.bin .eql (LT 32) (LI 0)),LO 34 (.pick (LT 24) (LT 33) LF)] (.cond (LT 34) .skip (.exit 2))) (.block 3 (.cT [LM 35 8,LO 36 (.bin .add (LT 35) (LI 1)),LM 8 36])))
def CQ:aE:=(.seq (LS [LM 100 11,LM 101 6,LO 102 (.bin .lss (LT 100) (LT 101))] (.cond (LT 102) .skip (.exit 6))) (.seq (.block 7 (.cT [LM 105 0,LM 106 9,LO 107 (.iaddr 1 (LT 105) (LT 106)),LO 108 (LL 107),LM 109 11,LM 110 0,LM 111 9,LO 112 (.iaddr 1 (LT 110) (LT 111)),LO 113 (LL 112),LM 114 11,LO 115 (.iaddr 3 (LT 113) (LT 114)),LO 116 (LK 115),LO 117 (LK 10),LM 118 0,LM 119 7,LO 120 (.iaddr 1 (LT 118) (LT 119)),LO 121 (LL 120),LM 122 11,LO 123 (.iaddr 3 (LT 121) (LT 122)),LO 124 (LK 123),LQ 125 (.call 132 [(LT 117),(LT 124)]),LQ 126 (.call 128 [(LT 116),(LT 125)]),LO 127 (.iaddr 3 (LT 108) (LT 109)),LN (.store 3 (LT 127) (LT 126))])) (.cT [LM 103 11,LO 104 (.bin .add (LT 103) (LI 1)),LM 11 104])))
def zD:aE:=(.seq (LS [LM 70 9,LM 71 6,LO 72 (.bin .lss (LT 70) (LT 71))] (.cond (LT 72) .skip (.exit 4))) (.seq (.block 5 (.seq (LS [LM 75 0,LM 76 9,LO 77 (.iaddr 1 (LT 75) (LT 76)),LO 78 (LL 77),LM 79 7,LO 80 (.iaddr 3 (LT 78) (LT 79)),LO 81 (LK 80),LO 82 (.call 68 [(LT 81)]),LO 83 (.bin .eql (LT 82) (LI 0))] (.cond (LT 83) (.exit 5) .skip)) (LS [LM 84 0,LM 85 9,LO 86 (.iaddr 1 (LT 84) (LT 85)),LO 87 (LL 86),LM 88 7,LO 89 (.iaddr 3 (LT 87) (LT 88)),LO 90 (LK 89),LM 91 0,LM 92 7,LO 93 (.iaddr 1 (LT 91) (LT 92)),LO 94 (LL 93),LM 95 7,LO 96 (.iaddr 3 (LT 94) (LT 95)),LO 97 (LK 96),LQ 98 (.call 129 [(LT 90),(LT 97)]),LQ 10 (.new [(.bool false),(.slice none 0 0),(.slice none 0 0)]),LN (.store 3 (LT 10) (LT 98))] (.seq (LS [LM 99 7,LM 11 99] (.block 6 (.loop CQ))) (.cT [LM 128 1,LM 129 9,LM 130 1,LM 131 9,LO 132 (.iaddr 3 (LT 130) (LT 131)),LO 133 (LK 132),LO 134 (LK 10),LM 135 1,LM 136 7,LO 137 (.iaddr 3 (LT 135) (LT 136)),LO 138 (LK 137),LQ 139 (.call 132 [(LT 134),(LT 138)]),LQ 140 (.call 128 [(LT 133),(LT 139)]),LO 141 (.iaddr 3 (LT 128) (LT 129)),LN (.store 3 (LT 141) (LT 140))]))))) (.cT [LM 73 9,LO 74 (.bin .add (LT 73) (LI 1)),LM 9 74])))
def CB:aE:=(LS [LO 18 (.bin .lss (LT 17) (LT 16))] (.seq (.cond (LT 18) .skip (.exit 0)) (.seq (.block 1 (LS [LM 19 17,LM 7 19] (LS [LM 20 7,LM 8 20] (.seq (.block 2 (.loop Cy)) (.seq (LS [LM 37 8,LM 38 6,LO 39 (.bin .eql (LT 37) (LT 38))] (.cond (LT 39) (LS [LO 4 (.mv (.const (.slice none 0 0))),LO 5 (.mv LF)] .ret) .skip)) (LS [LM 40 0,LM 41 7,LM 42 0,LM 43 8,LM 44 1,LM 45 7,LM 46 1,LM 47 8,LM 48 0,LM 49 8,LO 50 (.iaddr 1 (LT 48) (LT 49)),LO 51 (LL 50),LM 52 0,LM 53 7,LO 54 (.iaddr 1 (LT 52) (LT 53)),LO 55 (LL 54),LM 56 1,LM 57 8,LO 58 (.iaddr 3 (LT 56) (LT 57)),LO 59 (LK 58),LM 60 1,LM 61 7,LO 62 (.iaddr 3 (LT 60) (LT 61)),LO 63 (LK 62),LO 64 (.iaddr 1 (LT 40) (LT 41)),LN (.store 1 (LT 64) (LT 51)),LO 65 (.iaddr 1 (LT 42) (LT 43)),LN (.store 1 (LT 65) (LT 55)),LO 66 (.iaddr 3 (LT 44) (LT 45)),LN (.store 3 (LT 66) (LT 59)),LO 67 (.iaddr 3 (LT 46) (LT 47)),LN (.store 3 (LT 67) (LT 63))] (LS [LM 68 7,LO 69 (.bin .add (LT 68) (LI 1)),LM 9 69] (.block 4 (.loop zD))))))))) (.cT [LO 142 (.bin .add (LT 17) (LI 1)),LM 17 142]))))
def CD:aE:=(.seq (LS [LM 151 13,LM 152 6,LO 153 (.bin .lss (LT 151) (LT 152))] (.cond (LT 153) .skip (.exit 10))) (.seq (.block 11 (.cT [LM 156 1,LM 157 12,LM 158 1,LM 159 12,LO 160 (.iaddr 3 (LT 158) (LT 159)),LO 161 (LK 160),LM 162 0,LM 163 12,LO 164 (.iaddr 1 (LT 162) (LT 163)),LO 165 (LL 164),LM 166 13,LO 167 (.iaddr 3 (LT 165) (LT 166)),LO 168 (LK 167),LM 169 1,LM 170 13,LO 171 (.iaddr 3 (LT 169) (LT 170)),LO 172 (LK 171),LQ 173 (.call 132 [(LT 168),(LT 172)]),LQ 174 (.call 128 [(LT 161),(LT 173)]),LO 175 (.iaddr 3 (LT 156) (LT 157)),LN (.store 3 (LT 175) (LT 174))])) (.cT [LM 154 13,LO 155 (.bin .add (LT 154) (LI 1)),LM 13 155])))
def CO:aE:=(.seq (LS [LM 145 12,LO 146 (.bin .geq (LT 145) (LI 0))] (.cond (LT 146) .skip (.exit 8))) (.seq (.block 9 (.seq (LS [LM 149 12,LO 150 (.bin .add (LT 149) (LI 1)),LM 13 150] (.block 10 (.loop CD))) (.cT [LM 176 1,LM 177 12,LM 178 1,LM 179 12,LO 180 (.iaddr 3 (LT 178) (LT 179)),LO 181 (LK 180),LM 182 0,LM 183 12,LO 184 (.iaddr 1 (LT 182) (LT 183)),LO 185 (LL 184),LM 186 12,LO 187 (.iaddr 3 (LT 185) (LT 186)),LO 188 (LK 187),LQ 189 (.call 129 [(LT 181),(LT 188)]),LO 190 (.iaddr 3 (LT 176) (LT 177)),LN (.store 3 (LT 190) (LT 189))]))) (.cT [LM 147 12,LO 148 (.bin .sub (LT 147) (LI 1)),LM 12 148])))
def I4:aE:=(LS [LO 4 (.mv (.const (.slice none 0 0))),LO 5 (.mv LF)] (LS [LM 14 0,LO 15 (.len (LT 14)),LM 6 15] (.seq (LS [LM 16 6,LO 17 (.mv (LI 0))] (.block 0 (.loop CB))) (.seq (LS [LM 143 6,LO 144 (.bin .sub (LT 143) (LI 1)),LM 12 144] (.block 8 (.loop CO))) (LS [LM 191 1,LM 4 191,LO 5 (.mv LG)] .ret)))))
def N1:aZ:=⟨192,[(.tmp 4),(.tmp 5)],I4⟩
theorem Sx:gH 118=some N1:=by kernel_rfl
end Go.PM