/- Texts of a claim, in one: part 9. -/
import Derived.Test.YtjmflicajplclaaGreatDoorKXh
set_option linter.unusedSimpArgs false
set_option linter.unusedVariables false
namespace Go.PM
section
variable {H:aA} {b g o i lo d:Nat} {L R:List VV} {low:List Nat}
theorem Y9 (hr:aH H b g=some (L++low.map tV++R,1,true)) (ho:L.length=o) (hi:low[i]? = some d):cN false 1 (.ptr b g (o+i) 0) H=some (VI (d:Int)):=by
 have bH:=(List.getElem?_eq_some_iff.1 hi).1
 rw[PT hr (x:=tV d) (by rw[P5 ho (by simpa using bH)];simp[hi])]
 rfl
theorem Z2 (hr:aH H b g=some (L++low.map tV++R,1,true)) (ho:L.length=o) (hi:i<low.length) (fG:lo≤b):cD lo 1 (.ptr b g (o+i) 0) (VI (d:Int)) H=some (H.set b (.row g (L++(low.set i d).map tV++R) 1 true)):=by
 rw[bX hr (by simp only[List.length_append,List.length_map];omega) fG rfl rfl,Vf ho (by simpa using hi),List.map_set]
theorem T6 {n:Nat} {z:Int} (hr:aH H b g=some (L++low.map tV++VI z::R,1,true)) (ho:L.length=o) (hn:low.length=n):cN false 1 (.ptr b g (o+n) 0) H=some (VI z):=by
 rw[PT hr (x:=VI z) (by rw[List.getElem?_append_right (by simp;omega)];simp[ho,hn])]
 rfl
theorem ZZ {n:Nat} {z z':Int} (hr:aH H b g=some (L++low.map tV++VI z::R,1,true)) (ho:L.length=o) (hn:low.length=n) (fG:lo≤b):cD lo 1 (.ptr b g (o+n) 0) (VI z') H=some (H.set b (.row g (L++low.map tV++VI z'::R) 1 true)):=by
 rw[bX hr (by simp only[List.length_append,List.length_map,List.length_cons];omega) fG rfl rfl,List.set_append_right _ _ (by simp;omega)]
 congr 5
 simp[ho,hn]
end
theorem Pp {P A N B c u x t r k m q T:Nat} (h:A+P*c=N+t*B) (h1:r+m+c=u+T*k) (h2:m+T*q=x*t):(A+P*u)+P*T*(q+k)=(N+P*r)+t*(B+P*x):=by
 have e1:P*(r+m+c)=P*(u+T*k):=by rw[h1]
 have e2:P*(m+T*q)=P*(x*t):=by rw[h2]
 grind
theorem Zf {x t:Nat} (hx:x<1000000000) (ht:t<1000000000):x*t≤999999998000000001∧x*t / 1000000000≤999999998:=by
 have h:x*t≤999999999*999999999:=Nat.mul_le_mul (by omega) (by omega)
 omega
theorem Xs {H:aA} {lo b g o n N t top:Nat} {L R:List VV} {low vs:List Nat} (hr:aH H b g=some (L++low.map tV++VI (top:Int)::R,1,true)) (fG:lo≤b) (ho:L.length=o) (hl:low.length=n) (E3:vs.length=n) (hN:o+n<N) (DL:N≤70368744177664)
  (hld:∀d∈low,d<1000000000) (Ho:∀d∈vs,d<1000000000) (ht:t<1000000000) (abC:top<1000000000) :
  kS 204 [.ref b g 0 N N,iM vs,VI (o:Int),VI (t:Int)] lo H fun r H'=>∃(Bs:List Nat) (c:Nat),H'=H.set b (.row g (L++Bs.map tV++VI ((top:Int)-(c:Int))::R) 1 true)∧Bs.length=n∧(∀d∈Bs,d<1000000000)∧c≤1000000000 ∧
   r=VB (decide ((top:Int)-(c:Int)<0))∧val 1000000000 low+1000000000^n*c=val 1000000000 Bs+t*val 1000000000 vs:=by
 refine kS.walk ⟨true,false⟩ Gp (Nat.le_of_ble_eq_true rfl) ?_
 have rd:∀(s:List Nat) (z:Int),aH (H.set b (.row g (L++s.map tV++VI z::R) 1 true)) b g=some (L++s.map tV++VI z::R,1,true):=fun s z=>oF hr
 have ad:∀(K:aA) (es:List VV) (i:Nat),aH K b g=some (es,1,true)→i≤n→bP 1 (.ref b g 0 N N) (VI ((o+i:Nat):Int)) K=some (.ptr b g (o+i) 0):=fun K es i h hi=>by rw[aS h (by omega),Nat.zero_add]
 simp only[CO,Ar,eI,VX,Nat.reduceEqDiff,Nat.reduceAdd]
 refine aP (fun(u:Nat×List Nat×Nat) ρ K=>u.1≤n∧K=H.set b (.row g (L++u.2.1.map tV++VI (top:Int)::R) 1 true)∧u.2.1.length=n∧(∀d∈u.2.1,d<1000000000)∧u.2.2≤1000000000∧val 1000000000 (low.take u.1)+1000000000^u.1*u.2.2=val 1000000000 (u.2.1.take u.1)+t*val 1000000000 (vs.take u.1)∧(∀j,u.1≤j→u.2.1[j]? = low[j]?) ∧
  ρ 0 = .ref b g 0 N N∧ρ 1=iM vs∧ρ 2=VI o∧ρ 3=VI t∧ρ 9=VI u.2.2∧ρ 13=iM vs∧ρ 14=VI vs.length∧ρ 15=VI u.1) (fun u=>n-u.1) (0,low,0) ⟨Nat.zero_le _,(xG hr).symm,hl,hld,by simp,by simp[val],fun _ _=>rfl,by (repeat' apply And.intro)<;>first | rfl | trivial⟩ ?_
 rintro⟨i,outs,c⟩ ρ K ⟨hi,rfl,jR,lW,hc,hv,Ga,k0,k1,k2,k3,k9,BO,C1,Ky⟩
 simp only at hi jR lW hc hv Ga k9 Ky
 by_cases cK:(i:Int)<(vs.length:Int)
 ·obtain⟨u,hu⟩:∃u,outs[i]? = some u:=⟨_,List.getElem?_eq_getElem (by omega)⟩
  have lu:=lW u (List.mem_of_getElem? hu)
  have hu':low[i]? = some u:=by rw[←Ga i (Nat.le_refl _)];exact hu
  obtain⟨x,hx⟩:∃x,vs[i]? = some x:=⟨_,List.getElem?_eq_getElem (by omega)⟩
  have lx:=Ho x (List.mem_of_getElem? hx)
  obtain⟨xt1,xt2⟩:=Zf lx ht
  have e1:bP 1 (iM vs) (VI i) (H.set b (.row g (L++outs.map tV++VI (top:Int)::R) 1 true))=some (.dB (tV x) 0):=aI (f:=tV) (t := .op) (size:=1) (k := .i64) hx rfl
  have w1:IntKind.i64.wrap ((o:Int)+(i:Int))=((o+i:Nat):Int):=wrapN _ (by omega) (by omega)
  have e2:=ad _ _ i (rd outs top) (by omega)
  have e3:=Y9 (rd outs top) ho hu
  have e4:∀d:Nat,cD lo 1 (.ptr b g (o+i) 0) (VI (d:Int)) (H.set b (.row g (L++outs.map tV++VI (top:Int)::R) 1 true))=some (H.set b (.row g (L++(outs.set i d).map tV++VI (top:Int)::R) 1 true)):=fun d=>by rw[Z2 (rd outs top) ho (by omega) fG,mU]
  have w2:IntKind.i64.wrap ((x:Int)*(t:Int))=((x*t:Nat):Int):=wrapN _ (by simp) (by omega)
  have r1:=NM (x*t)
  have q1:=OQ (x*t) (by omega)
  have hm:=Nat.mod_lt (x*t) (show 0<1000000000 by decide)
  have hdv:=Nat.mod_add_div (x*t) 1000000000
  have wi:IntKind.i64.wrap ((i:Int)+1)=((i+1:Nat):Int):=wrapN (i+1) (by omega) (by omega)
  generalize hmq:x*t % 1000000000=m at *
  generalize hqq:x*t / 1000000000=q at *
  have w3:IntKind.i64.wrap ((u:Int)-(m:Int))=(u:Int)-(m:Int):=wrap64 (by omega) (by omega)
  have w4:IntKind.i64.wrap ((u:Int)-(m:Int)-(c:Int))=(u:Int)-(m:Int)-(c:Int):=wrap64 (by omega) (by omega)
  have step:∀r k:Nat,r<1000000000→r+m+c=u+1000000000*k→val 1000000000 (low.take (i+1))+1000000000^(i+1)*(q+k)=val 1000000000 ((outs.set i r).take (i+1))+t*val 1000000000 (vs.take (i+1))∧(∀d∈outs.set i r,d<1000000000)∧(∀j,i+1≤j→(outs.set i r)[j]? = low[j]?)∧(outs.set i r).length=n:=by
   intro r k hr hk
   refine⟨?_,mN lW hr,fun j hj=>by rw[List.getElem?_set_ne (by omega)];exact Ga j (by omega),by rw[List.length_set];exact jR⟩
   rw[bD hu',bD hx,eT (by omega),Nat.pow_succ]
   exact Pp hv hk hdv
  by_cases h1:(u:Int)-(m:Int)-(c:Int)<0
  ·have w5:IntKind.i64.wrap ((u:Int)-(m:Int)-(c:Int)+1000000000)=(u:Int)-(m:Int)-(c:Int)+1000000000:=wrap64 (by omega) (by omega)
   have w6:IntKind.i64.wrap ((q:Int)+1)=((q+1:Nat):Int):=wrapN _ (by omega) (by omega)
   by_cases h2:(u:Int)-(m:Int)-(c:Int)+1000000000<0
   ·obtain⟨r,hr⟩:∃r:Nat,r+m+c=u+1000000000*2:=⟨u+1000000000*2-m-c,by omega⟩
    have w7:IntKind.i64.wrap ((u:Int)-(m:Int)-(c:Int)+1000000000+1000000000)=(r:Int):=wrapN r (by omega) (by omega)
    have w8:IntKind.i64.wrap (((q+1:Nat):Int)+1)=((q+2:Nat):Int):=wrapN _ (by omega) (by omega)
    obtain⟨s1,s2,s3,s4⟩:=step r 2 (by omega) hr
    simp only[kJ,k0,k1,k2,k3,k9,BO,C1,Ky,cK,e1,e2,e3,e4,w1,w2,w3,w4,w5,w6,w7,w8,wi,r1,q1,h1,h2,VX,Nat.reduceEqDiff,Nat.reduceAdd]
    refine⟨(i+1,outs.set i r,q+2),by simp only;omega,by omega,rfl,s4,s2,by simp only;omega,s1,s3,?_⟩
    try (repeat' apply And.intro)<;>first | rfl | trivial
   ·obtain⟨r,hr⟩:∃r:Nat,r+m+c=u+1000000000*1:=⟨u+1000000000*1-m-c,by omega⟩
    have w7:IntKind.i64.wrap ((u:Int)-(m:Int)-(c:Int)+1000000000)=(r:Int):=wrapN r (by omega) (by omega)
    have h3:¬(r:Int)<0:=by omega
    obtain⟨s1,s2,s3,s4⟩:=step r 1 (by omega) hr
    simp only[kJ,k0,k1,k2,k3,k9,BO,C1,Ky,cK,e1,e2,e3,e4,w1,w2,w3,w4,w6,w7,wi,r1,q1,h1,h3,VX,Nat.reduceEqDiff,Nat.reduceAdd]
    refine⟨(i+1,outs.set i r,q+1),by simp only;omega,by omega,rfl,s4,s2,by simp only;omega,s1,s3,?_⟩
    try (repeat' apply And.intro)<;>first | rfl | trivial
  ·obtain⟨r,hr⟩:∃r:Nat,r+m+c=u+1000000000*0:=⟨u-m-c,by omega⟩
   have w7:IntKind.i64.wrap ((u:Int)-(m:Int)-(c:Int))=(r:Int):=wrapN r (by omega) (by omega)
   have h3:¬(r:Int)<0:=by omega
   obtain⟨s1,s2,s3,s4⟩:=step r 0 (by omega) hr
   simp only[kJ,k0,k1,k2,k3,k9,BO,C1,Ky,cK,e1,e2,e3,e4,w1,w2,w3,w7,wi,r1,q1,h3,VX,Nat.reduceEqDiff,Nat.reduceAdd]
   refine⟨(i+1,outs.set i r,q),by simp only;omega,by omega,rfl,s4,s2,by simp only;omega,s1,s3,?_⟩
   try (repeat' apply And.intro)<;>first | rfl | trivial
 ·have lS:i=n:=by omega
  subst lS
  rw[List.take_of_length_le (by omega),List.take_of_length_le (by omega),List.take_of_length_le (by omega)] at hv
  have w1:IntKind.i64.wrap ((o:Int)+(vs.length:Int))=((o+i:Nat):Int):=wrapN _ (by omega) (by omega)
  have e2:=ad _ _ i (rd outs top) (by omega)
  have e2':=ad _ _ i (rd outs ((top:Int)-(c:Int))) (by omega)
  have e3:=T6 (rd outs top) ho jR
  have e3':=T6 (rd outs ((top:Int)-(c:Int))) ho jR
  have e4:cD lo 1 (.ptr b g (o+i) 0) (VI ((top:Int)-(c:Int))) (H.set b (.row g (L++outs.map tV++VI (top:Int)::R) 1 true))=some (H.set b (.row g (L++outs.map tV++VI ((top:Int)-(c:Int))::R) 1 true)):=by rw[ZZ (rd outs top) ho jR fG,mU]
  have w2:IntKind.i64.wrap ((top:Int)-(c:Int))=(top:Int)-(c:Int):=wrap64 (by omega) (by omega)
  simp only[kJ,k0,k1,k2,k3,k9,BO,C1,Ky,cK,eI,w1,w2,e2,e2',e3,e3',e4,VX,Nat.reduceEqDiff,Nat.reduceAdd]
  refine⟨outs,c,rfl,jR,lW,hc,?_,hv⟩
  try rfl
theorem W5 {H:aA} {lo b g o n N:Nat} {z:Int} {L R:List VV} {low vs:List Nat} (hr:aH H b g=some (L++low.map tV++VI z::R,1,true)) (fG:lo≤b) (ho:L.length=o) (hl:low.length=n) (E3:vs.length=n) (hN:o+n<N) (DL:N≤70368744177664)
  (hld:∀d∈low,d<1000000000) (Ho:∀d∈vs,d<1000000000) (hz : -1000000000≤z) (S4:z≤1000000000) :
  kS 205 [.ref b g 0 N N,iM vs,VI (o:Int)] lo H fun r H'=>∃(Bs:List Nat) (c:Nat),H'=H.set b (.row g (L++Bs.map tV++VI (z+(c:Int))::R) 1 true)∧Bs.length=n∧(∀d∈Bs,d<1000000000)∧c≤1 ∧
   val 1000000000 low+val 1000000000 vs=val 1000000000 Bs+1000000000^n*c:=by
 refine kS.walk ⟨true,false⟩ GU (Nat.le_of_ble_eq_true rfl) ?_
 have rd:∀(s:List Nat) (z:Int),aH (H.set b (.row g (L++s.map tV++VI z::R) 1 true)) b g=some (L++s.map tV++VI z::R,1,true):=fun s z=>oF hr
 have ad:∀(K:aA) (es:List VV) (i:Nat),aH K b g=some (es,1,true)→i≤n→bP 1 (.ref b g 0 N N) (VI ((o+i:Nat):Int)) K=some (.ptr b g (o+i) 0):=fun K es i h hi=>by rw[aS h (by omega),Nat.zero_add]
 simp only[CB,AA,eI,VX,Nat.reduceEqDiff,Nat.reduceAdd]
 refine aP (fun(u:Nat×List Nat×Nat) ρ K=>u.1≤n∧K=H.set b (.row g (L++u.2.1.map tV++VI z::R) 1 true)∧u.2.1.length=n∧(∀d∈u.2.1,d<1000000000)∧u.2.2≤1∧val 1000000000 (low.take u.1)+val 1000000000 (vs.take u.1)=val 1000000000 (u.2.1.take u.1)+1000000000^u.1*u.2.2∧(∀j,u.1≤j→u.2.1[j]? = low[j]?) ∧
  ρ 0 = .ref b g 0 N N∧ρ 1=iM vs∧ρ 2=VI o∧ρ 6=VI u.2.2∧ρ 10=iM vs∧ρ 11=VI vs.length∧ρ 12=VI u.1) (fun u=>n-u.1) (0,low,0) ⟨Nat.zero_le _,(xG hr).symm,hl,hld,by simp,by simp[val],fun _ _=>rfl,by (repeat' apply And.intro)<;>first | rfl | trivial⟩ ?_
 rintro⟨i,outs,c⟩ ρ K ⟨hi,rfl,jR,lW,hc,hv,Ga,k0,k1,k2,k6,YC,Wp,FU⟩
 simp only at hi jR lW hc hv Ga k6 FU
 by_cases cK:(i:Int)<(vs.length:Int)
 ·obtain⟨u,hu⟩:∃u,outs[i]? = some u:=⟨_,List.getElem?_eq_getElem (by omega)⟩
  have lu:=lW u (List.mem_of_getElem? hu)
  have hu':low[i]? = some u:=by rw[←Ga i (Nat.le_refl _)];exact hu
  obtain⟨x,hx⟩:∃x,vs[i]? = some x:=⟨_,List.getElem?_eq_getElem (by omega)⟩
  have lx:=Ho x (List.mem_of_getElem? hx)
  have e1:bP 1 (iM vs) (VI i) (H.set b (.row g (L++outs.map tV++VI z::R) 1 true))=some (.dB (tV x) 0):=aI (f:=tV) (t := .op) (size:=1) (k := .i64) hx rfl
  have w1:IntKind.i64.wrap ((o:Int)+(i:Int))=((o+i:Nat):Int):=wrapN _ (by omega) (by omega)
  have e2:=ad _ _ i (rd outs z) (by omega)
  have e3:=Y9 (rd outs z) ho hu
  have e4:∀d:Nat,cD lo 1 (.ptr b g (o+i) 0) (VI (d:Int)) (H.set b (.row g (L++outs.map tV++VI z::R) 1 true))=some (H.set b (.row g (L++(outs.set i d).map tV++VI z::R) 1 true)):=fun d=>by rw[Z2 (rd outs z) ho (by omega) fG,mU]
  have w2:IntKind.i64.wrap ((u:Int)+(x:Int))=((u+x:Nat):Int):=wrapN _ (by omega) (by omega)
  have w3:IntKind.i64.wrap (((u+x:Nat):Int)+(c:Int))=((u+x+c:Nat):Int):=wrapN _ (by omega) (by omega)
  have r1:=NM (u+x+c)
  have q1:=OQ (u+x+c) (by omega)
  have wi:IntKind.i64.wrap ((i:Int)+1)=((i+1:Nat):Int):=wrapN (i+1) (by omega) (by omega)
  simp only[rS,k0,k1,k2,k6,YC,Wp,FU,cK,e1,e2,e3,e4,w1,w2,w3,wi,r1,q1,VX,Nat.reduceEqDiff,Nat.reduceAdd]
  refine⟨(i+1,outs.set i ((u+x+c) % 1000000000),(u+x+c) / 1000000000),by simp only;omega,by omega,rfl,by rw[List.length_set];exact jR,mN lW (Nat.mod_lt _ (by decide)),by simp only;omega,?_,fun j hj=>by rw[List.getElem?_set_ne (by omega)];exact Ga j (by omega),?_⟩
  ·simp only
   rw[bD hu',bD hx,eT (by omega),Nat.pow_succ]
   exact FO hv (show c+u+x=u+x+c by omega) (Nat.mod_add_div _ _)
  ·try (repeat' apply And.intro)<;>first | rfl | trivial
 ·have lS:i=n:=by omega
  subst lS
  rw[List.take_of_length_le (by omega),List.take_of_length_le (by omega),List.take_of_length_le (by omega)] at hv
  have w1:IntKind.i64.wrap ((o:Int)+(vs.length:Int))=((o+i:Nat):Int):=wrapN _ (by omega) (by omega)
  have e2:=ad _ _ i (rd outs z) (by omega)
  have e3:=T6 (rd outs z) ho jR
  have e4:cD lo 1 (.ptr b g (o+i) 0) (VI (z+(c:Int))) (H.set b (.row g (L++outs.map tV++VI z::R) 1 true))=some (H.set b (.row g (L++outs.map tV++VI (z+(c:Int))::R) 1 true)):=by rw[ZZ (rd outs z) ho jR fG,mU]
  have w2:IntKind.i64.wrap (z+(c:Int))=z+(c:Int):=wrap64 (by omega) (by omega)
  simp only[rS,k0,k1,k2,k6,YC,Wp,FU,cK,eI,w1,w2,e2,e3,e4,VX,Nat.reduceEqDiff,Nat.reduceAdd]
  exact⟨outs,c,rfl,jR,lW,hc,hv⟩
end Go.PM
namespace Go.PM
theorem xL {d:Nat} {H:aA}:fz (d+1) H (.tree [] .nil)=some (bO 0):=by
 rw[Ep]
 unfold fz
 have:bA (.tree [] .nil)=false:=by simp[bA]
 simp only[this,Bool.false_eq_true,if_false]
 rfl
theorem acG {d:Nat} {H:aA} {m:Nat} {t:TK} (ht:t = .cl 1∨t = .op):fz (d+2) H (.tree ((aC 4294967296 m).map uV) t)=some (bO m):=by
 rcases ht with rfl | rfl
 ·unfold fz
  have:bA (.tree ((aC 4294967296 m).map uV) (.cl 1))=false:=by simp[bA]
  simp only[this,Bool.false_eq_true,if_false]
  rw[mapM_pure (fJ fun _=>rfl)]
  rfl
 ·exact aJ (bU m)
abbrev H3 (us ws os:List Nat):aA:=[.row 0 (us.map uV) 1 true,.row 0 (ws.map uV) 1 true,.row 0 (os.map uV) 1 true]
theorem CY {us ws os:List Nat}:aH (H3 us ws os) 0 0=some (us.map uV,1,true):=rfl
theorem anL {us ws os:List Nat}:aH (H3 us ws os) 1 0=some (ws.map uV,1,true):=rfl
theorem adV {us ws os:List Nat}:aH (H3 us ws os) 2 0=some (os.map uV,1,true):=rfl
theorem Yh {us:List Nat} {i n N V:Nat} (hN:us.length=N) (cK:i+n<N) (hd:∀d∈us,d<4294967296) (hV:V<4294967296^n) (CN:val 4294967296 (us.drop (i+1))<V) :
  us=us.take i++(us.drop i).take (n+1)++us.drop (i+(n+1))∧(us.take i).length=i∧((us.drop i).take (n+1)).length=n+1∧val 4294967296 ((us.drop i).take (n+1))<4294967296*V∧val 4294967296 (us.drop i)=val 4294967296 ((us.drop i).take (n+1))∧val 4294967296 (us.drop (i+(n+1)))=0∧∀j,j<n+1→((us.drop i).take (n+1))[j]? = us[i+j]? := by
 obtain⟨x,hx⟩:∃x,us[i]? = some x:=⟨_,List.getElem?_eq_getElem (by omega)⟩
 have lx:=hd x (List.mem_of_getElem? hx)
 have h1:=tC (b:=4294967296) hx
 have h2:val 4294967296 (us.drop i)<4294967296*V:=by
  have:4294967296*(val 4294967296 (us.drop (i+1))+1)≤4294967296*V:=Nat.mul_le_mul_left _ CN
  omega
 have h3:=pV (b:=4294967296) (us.drop i) (n+1)
 have h4:((us.drop i).take (n+1)).length=n+1:=by rw[List.length_take,List.length_drop];omega
 rw[h4,List.drop_drop] at h3
 have h5:val 4294967296 (us.drop (i+(n+1)))=0:=by
  rcases Nat.eq_zero_or_pos (val 4294967296 (us.drop (i+(n+1)))) with h | h
  ·exact h
  ·have h6:4294967296^(n+1)*1≤4294967296^(n+1)*val 4294967296 (us.drop (i+(n+1))):=Nat.mul_le_mul_left _ h
   have h7:4294967296*V≤4294967296^(n+1):=by rw[Nat.pow_succ,Nat.mul_comm];exact Nat.mul_le_mul_right _ (by omega)
   omega
 rw[h5,Nat.mul_zero,Nat.add_zero] at h3
 refine⟨?_,by rw[List.length_take];omega,h4,by omega,h3,h5,fun j hj => ?_⟩
 ·rw[List.append_assoc,←List.drop_drop,List.take_append_drop,List.take_append_drop]
 ·rw[List.getElem?_take_of_lt hj,List.getElem?_drop]
theorem Q7 {x D p w:Nat} (hp:0<p) (hw:p*w=4294967296):(x+4294967296*D) / p=((D % 4294967296*4294967296+x) / p) % 4294967296+4294967296*(D / p)∨¬x<4294967296:=by
 rcases Nat.lt_or_ge x 4294967296 with hx | hx
 ·left
  have h1:(x+4294967296*D) / p / 4294967296=D / p:=by
   rw[Nat.div_div_eq_div_mul,Nat.mul_comm p,←Nat.div_div_eq_div_mul,Nat.add_mul_div_left _ _ (by decide),Nat.div_eq_of_lt hx,Nat.zero_add]
  have h2:(x+4294967296*D) / p % 4294967296=(D % 4294967296*4294967296+x) / p % 4294967296:=by
   have e:x+4294967296*D=(D % 4294967296*4294967296+x)+p*(4294967296*(w*(D / 4294967296))):=by
    have h3:=Nat.mod_add_div D 4294967296
    have h4:p*(4294967296*(w*(D / 4294967296)))=(p*w)*(4294967296*(D / 4294967296)):=by grind
    rw[h4,hw]
    omega
   rw[e,Nat.add_mul_div_left _ _ hp,Nat.add_mul_mod_self_left]
  have:=Nat.mod_add_div ((x+4294967296*D) / p) 4294967296
  rw[h1,h2] at this
  exact this.symm
 ·right
  omega
theorem TF {x:Nat} (h0:x≠0) (hx:x<4294967296):∃s,s≤31∧TC 198 [uV x] (VI (s:Nat))∧x*2^s<4294967296:=by
 obtain⟨h1,h2,h3⟩:=Lib.bitLenAux_bounds 64 x (by omega) h0
 have h4:Lib.bitLenAux 64 x-1<32:=by
  have:2^(Lib.bitLenAux 64 x-1)<2^32:=by omega
  exact(Nat.pow_lt_pow_iff_right (by decide)).1 this
 refine⟨32-Lib.bitLenAux 64 x,by omega,?_,?_⟩
 ·have:=Xc x hx
  have e:(((32-Lib.bitLenAux 64 x:Nat)):Int)=32-(Lib.bitLen x:Int):=by unfold Lib.bitLen;omega
  rw[e]
  exact this
 ·have:2^Lib.bitLenAux 64 x*2^(32-Lib.bitLenAux 64 x)=4294967296:=by rw[←Nat.pow_add,show Lib.bitLenAux 64 x+(32-Lib.bitLenAux 64 x)=32 by omega]
  rw[←this]
  exact Nat.mul_lt_mul_of_pos_right h3 (Nat.pow_pos (by decide))
theorem Yp {us ws os:List Nat} {k N s w0:Nat} {ρ:dH} {Q:VQ} (hs:s≤31) (hw:2^s*w0=4294967296) (hN:us.length=N) (hk:k≤N) (DL:N≤70368744177664) (hd:∀d∈us,d<4294967296) (g8:ρ 8=VI s) (g9:ρ 9 = .ref 0 0 0 k N) (avZ:ρ 147=VI k) (ayL:ρ 148=VI 0)
  (hQ:∀(bI:dH) (FD:List Nat),bI 9 = .ref 0 0 0 k N→bI 13=ρ 13→FD.length=N→(∀d∈FD,d<4294967296)→val 4294967296 (FD.take k)=val 4294967296 (us.take k) / 2^s→Q (.exit 4) bI (H3 FD ws os)) :
  VW ⟨true,false⟩ 0 (.loop lK) Q ρ (H3 us ws os):=by
 have hp:0<2^s:=Nat.pow_pos (by decide)
 refine aP (fun(t:Nat×List Nat) bI H=>t.1≤k∧H=H3 t.2 ws os∧t.2.length=N∧(∀d∈t.2,d<4294967296)∧(∀j,t.1≤j→t.2[j]? = us[j]?)∧val 4294967296 (t.2.take t.1)+4294967296^t.1*(val 4294967296 ((us.take k).drop t.1) / 2^s)=val 4294967296 (us.take k) / 2^s ∧
  bI 8=VI s∧bI 9 = .ref 0 0 0 k N∧bI 13=ρ 13∧bI 147=VI k∧bI 148=VI t.1) (fun t=>k-t.1) (0,us) ⟨Nat.zero_le _,rfl,hN,hd,fun _ _=>rfl,by simp[val],g8,g9,rfl,avZ,ayL⟩ ?_
 rintro⟨i,vs⟩ NP H ⟨hi,rfl,E3,Ho,Ga,hv,k8,k9,BO,ajR,aeL⟩
 simp only at hi E3 Ho Ga hv aeL
 by_cases cK:(i:Int)<(k:Int)
 ·obtain⟨x,hx⟩:∃x,us[i]? = some x:=⟨_,List.getElem?_eq_getElem (by omega)⟩
  have hx2:vs[i]? = some x:=by rw[Ga i (Nat.le_refl _)];exact hx
  have lx:=hd x (List.mem_of_getElem? hx)
  have hx3:(us.take k)[i]? = some x:=by rw[List.getElem?_take_of_lt (by omega)];exact hx
  have h1:=tC (b:=4294967296) hx3
  generalize hD:val 4294967296 ((us.take k).drop (i+1))=D at *
  have hlen:qB (.ref 0 0 0 k N) (H3 vs ws os)=some (VI k):=dP CY
  have e1:bP 1 (.ref 0 0 0 k N) (VI i) (H3 vs ws os)=some (.ptr 0 0 i 0):=by rw[aS CY (by omega),Nat.zero_add]
  have e2:cN false 1 (.ptr 0 0 i 0) (H3 vs ws os)=some (uV x):=jD CY hx2
  have e3:∀d:Nat,cD 0 1 (.ptr 0 0 i 0) (uV d) (H3 vs ws os)=some (H3 (vs.set i d) ws os):=fun d=>by
   rw[eH (f:=uV) (e:=1) CY (by omega) (Nat.le_refl _) rfl rfl]
   rfl
  have wi:IntKind.i64.wrap ((i:Int)+1)=((i+1:Nat):Int):=wrapN (i+1) (by omega) (by omega)
  have wx:IntKind.u64.wrap (x:Int)=(x:Int):=fR _ (by omega)
  have hm:=Nat.mod_lt D (show 0<4294967296 by decide)
  have w5:=Es (D % 4294967296) .u64 hm
  have w6:IntKind.u64.wrap (((D % 4294967296*4294967296:Nat):Int)+(x:Int))=((D % 4294967296*4294967296+x:Nat):Int):=by rw[←Int.natCast_add];exact fR _ (by omega)
  have w7:=YU (D % 4294967296*4294967296+x) s hs
  have sd:(x+4294967296*D) / 2^s=((D % 4294967296*4294967296+x) / 2^s) % 4294967296+4294967296*(D / 2^s):=by
   rcases Q7 (x:=x) (D:=D) hp hw with h | h
   ·exact h
   ·exact absurd lx h
  have next:∃s':Nat×List Nat,k-s'.1<k-i∧s'.1≤k∧H3 (vs.set i (((D % 4294967296*4294967296+x) / 2^s) % 4294967296)) ws os=H3 s'.2 ws os∧s'.2.length=N∧(∀d∈s'.2,d<4294967296)∧(∀j,s'.1≤j→s'.2[j]? = us[j]?)∧val 4294967296 (s'.2.take s'.1)+4294967296^s'.1*(val 4294967296 ((us.take k).drop s'.1) / 2^s)=val 4294967296 (us.take k) / 2^s∧s'.1=i+1:=by
   refine⟨(i+1,vs.set i (((D % 4294967296*4294967296+x) / 2^s) % 4294967296)),by simp only;omega,by simp only;omega,rfl,by simp only[List.length_set];exact E3,mN Ho (Nat.mod_lt _ (by decide)),fun j hj => ?_,?_,rfl⟩
   ·simp only at hj ⊢
    rw[List.getElem?_set_ne (by omega)]
    exact Ga j (by omega)
   ·simp only
    rw[eT (by omega),hD,←hv,h1,sd,Nat.pow_succ]
    generalize (D % 4294967296*4294967296+x) / 2^s % 4294967296=q
    generalize D / 2^s=E
    rw[Nat.mul_add,Nat.mul_assoc,Nat.add_assoc]
  obtain⟨s',n1,n2,n3,n4,n5,n6,n7,n8⟩:=next
  by_cases anR:((i+1:Nat):Int)<(k:Int)
  ·obtain⟨h,hh⟩:∃h,us[i+1]? = some h:=⟨_,List.getElem?_eq_getElem (by omega)⟩
   have hh2:vs[i+1]? = some h:=by rw[Ga (i+1) (by omega)];exact hh
   have hhD:D % 4294967296=h:=by
    have hh3:(us.take k)[i+1]? = some h:=by rw[List.getElem?_take_of_lt (by omega)];exact hh
    have:=tC (b:=4294967296) hh3
    rw[hD] at this
    have lh:=hd h (List.mem_of_getElem? hh)
    omega
   have f1:bP 1 (.ref 0 0 0 k N) (VI ((i+1:Nat):Int)) (H3 vs ws os)=some (.ptr 0 0 (i+1) 0):=by rw[aS CY (by omega),Nat.zero_add]
   have f2:cN false 1 (.ptr 0 0 (i+1) 0) (H3 vs ws os)=some (uV h):=jD CY hh2
   have wh:IntKind.u64.wrap (h:Int)=(h:Int):=fR _ (by omega)
   rw[hhD] at w5 w6 w7 n3
   simp only[lK,k8,k9,ajR,aeL,cK,anR,hlen,e1,e2,e3,f1,f2,wi,wx,wh,w5,w6,w7,wrap32,VX,Nat.reduceEqDiff,Nat.reduceAdd]
   exact⟨s',n1,n2,n3,n4,n5,n6,n7,BO,by rw[n8]⟩
  ·have hD0:D=0:=by
    rw[←hD,List.drop_of_length_le (by rw[List.length_take];omega)]
    rfl
   subst hD0
   have w5':dU .shl (.int .u64 0) (.int .u64 32)=some (.int .u64 0):=Es 0 .u64 (by decide)
   have w6':IntKind.u64.wrap ((0:Int)+(x:Int))=(x:Int):=by rw[Int.zero_add];exact wx
   have w7':=YU x s hs
   simp only[Nat.zero_mod,Nat.zero_mul,Nat.zero_add] at n3
   simp only[lK,k8,k9,ajR,aeL,cK,anR,hlen,e1,e2,e3,wi,wx,w5',w6',w7',wrap32,VX,Nat.reduceEqDiff,Nat.reduceAdd]
   exact⟨s',n1,n2,n3,n4,n5,n6,n7,BO,by rw[n8]⟩
 ·have lS:i=k:=by omega
  subst lS
  rw[List.drop_of_length_le (by rw[List.length_take];omega)] at hv
  simp only[val,Nat.zero_div,Nat.mul_zero,Nat.add_zero] at hv
  simp only[lK,k8,k9,ajR,aeL,cK,VX,Nat.reduceEqDiff,Nat.reduceAdd]
  exact hQ _ vs k9 BO E3 Ho hv
end Go.PM
namespace Go.PM
theorem T0 {iQ vs us ws os:List Nat} {n u2 u1 u0 v1 v0 N k g left:Nat} (G:xB 4294967296 iQ vs n u2 u1 u0 v1 v0) {ρ:dH} {Q:VQ} (hN:us.length=N) (hk2:2≤k) (hkN:k<N) (DL:N≤70368744177664) (hu0:us[k-2]? = some u0)
  (g9:ρ 9 = .ref 0 0 0 N N) (g11:ρ 11=VK .u64 v1) (g12:ρ 12=VK .u64 v0) (g15:ρ 15=VI k) (g17:ρ 17=VK .u64 g) (g18:ρ 18=VK .u64 left) (hh:u2*4294967296+u1=g*v1+left) (hq:val 4294967296 iQ / val 4294967296 vs≤g) (hl:left<4294967296) (hgb:g<18446744073709551616)
  (hQ:∀(bI:dH) (g':Nat),val 4294967296 iQ / val 4294967296 vs≤g'→g'≤val 4294967296 iQ / val 4294967296 vs+1→g'<4294967296→bI 17=VK .u64 g'→bI 8=ρ 8→bI 9=ρ 9→bI 10=ρ 10→bI 11=ρ 11→bI 12=ρ 12→bI 13=ρ 13→bI 14=ρ 14→bI 15=ρ 15→Q (.exit 2) bI (H3 us ws os)) :
  VW ⟨true,false⟩ 0 (.loop gN) Q ρ (H3 us ws os):=by
 have lv1:=G.UU
 have lv0:=G.abK
 have lu0:=G.aiD
 have qlt:=G.agB
 have lT:=G.pos
 refine aP (fun(t:Nat×Nat) bI H=>H=H3 us ws os∧u2*4294967296+u1=t.1*v1+t.2∧val 4294967296 iQ / val 4294967296 vs≤t.1∧t.2<4294967296∧t.1<18446744073709551616 ∧
  bI 9 = .ref 0 0 0 N N∧bI 11=VK .u64 v1∧bI 12=VK .u64 v0∧bI 15=VI k∧bI 17=VK .u64 t.1∧bI 18=VK .u64 t.2∧bI 8=ρ 8∧bI 10=ρ 10∧bI 13=ρ 13∧bI 14=ρ 14) (fun t=>4294967296-t.2) (g,left) ⟨rfl,hh,hq,hl,hgb,g9,g11,g12,g15,g17,g18,rfl,rfl,rfl,rfl⟩ ?_
 rintro⟨g,left⟩ NP H ⟨rfl,hh,hq,hl,hgb,k9,Wp,FU,Ky,It,Yt,k8,YC,BO,C1⟩
 simp only at hh hq hl hgb It Yt
 have e1:bP 1 (.ref 0 0 0 N N) (VI ((k-2:Nat):Int)) (H3 us ws os)=some (.ptr 0 0 (k-2) 0):=by rw[aS CY (by omega),Nat.zero_add]
 have e2:cN false 1 (.ptr 0 0 (k-2) 0) (H3 us ws os)=some (uV u0):=jD CY hu0
 have wk:IntKind.i64.wrap ((k:Int)-2)=((k-2:Nat):Int):=wrapN _ (by omega) (by omega)
 have wu:IntKind.u64.wrap (u0:Int)=(u0:Int):=fR _ (by omega)
 have ws:=Es left .u64 hl
 have wa:IntKind.u64.wrap (((left*4294967296:Nat):Int)+(u0:Int))=((left*4294967296+u0:Nat):Int):=by rw[←Int.natCast_add];exact fR _ (by omega)
 have wl:IntKind.u64.wrap ((left:Int)+(v1:Int))=((left+v1:Nat):Int):=by rw[←Int.natCast_add];exact fR _ (by omega)
 have same:NP 9=ρ 9∧NP 11=ρ 11∧NP 12=ρ 12∧NP 15=ρ 15:=⟨by rw[k9,g9],by rw[Wp,g11],by rw[FU,g12],by rw[Ky,g15]⟩
 obtain⟨s9,s11,s12,s15⟩:=same
 have down:val 4294967296 iQ / val 4294967296 vs<g→∃g',g=g'+1∧IntKind.u64.wrap ((g:Int)-1)=(g':Int)∧u2*4294967296+u1=g'*v1+(left+v1)∧val 4294967296 iQ / val 4294967296 vs≤g':=by
  intro h
  have hg1:1≤g:=Nat.lt_of_le_of_lt (Nat.zero_le _) h
  obtain⟨g',rfl⟩:∃g',g=g'+1:=⟨g-1,by omega⟩
  refine⟨g',rfl,?_,?_,by omega⟩
  ·rw[show ((g'+1:Nat):Int)-1=(g':Int) by omega]
   exact fR _ (by omega)
  ·rw[hh,Nat.add_mul]
   omega
 by_cases hA:(4294967296:Int)≤(g:Int)
 ·obtain⟨g',hg',wg,UH,Nf⟩:=down (by omega)
  by_cases hB:(4294967296:Int)≤((left+v1:Nat):Int)
  ·obtain⟨c1,c2⟩:=G.broken UH (by omega)
   simp only[gN,k9,Wp,FU,Ky,It,Yt,hA,hB,wg,wl,VX,Nat.reduceEqDiff,Nat.reduceAdd]
   exact hQ _ g' Nf (G.Xu UH (by omega) c2) c1 rfl k8 s9 YC s11 s12 BO C1 s15
  ·simp only[gN,k9,Wp,FU,Ky,It,Yt,hA,hB,wg,wl,VX,Nat.reduceEqDiff,Nat.reduceAdd]
   exact⟨(g',left+v1),by simp only;omega,UH,Nf,by simp only;omega,by simp only;omega,by rfl,by rfl,k8,YC,BO,C1⟩
 ·have hgv:g*v0≤4294967295*4294967295:=Nat.mul_le_mul (by omega) (by omega)
  have wm:IntKind.u64.wrap ((g:Int)*(v0:Int))=((g*v0:Nat):Int):=by rw[←Int.natCast_mul];exact fR _ (by omega)
  by_cases hT:((left*4294967296+u0:Nat):Int)<((g*v0:Nat):Int)
  ·obtain⟨g',hg',wg,UH,Nf⟩:=down (G.too hh (by omega))
   by_cases hB:(4294967296:Int)≤((left+v1:Nat):Int)
   ·obtain⟨c1,c2⟩:=G.broken UH (by omega)
    simp only[gN,k9,Wp,FU,Ky,It,Yt,hA,hB,hT,e1,e2,wk,wu,ws,wa,wm,wg,wl,VX,Nat.reduceEqDiff,Nat.reduceAdd]
    exact hQ _ g' Nf (G.Xu UH (by omega) c2) c1 rfl k8 s9 YC s11 s12 BO C1 s15
   ·simp only[gN,k9,Wp,FU,Ky,It,Yt,hA,hB,hT,e1,e2,wk,wu,ws,wa,wm,wg,wl,VX,Nat.reduceEqDiff,Nat.reduceAdd]
    exact⟨(g',left+v1),by simp only;omega,UH,Nf,by simp only;omega,by simp only;omega,by rfl,by rfl,k8,YC,BO,C1⟩
  ·simp only[gN,k9,Wp,FU,Ky,It,Yt,hA,hT,e1,e2,wk,wu,ws,wa,wm,VX,Nat.reduceEqDiff,Nat.reduceAdd]
   exact hQ _ g hq (G.Xu hh (by omega) (by omega)) (by omega) It k8 s9 YC s11 s12 BO C1 s15
theorem Ls {X S S' R V q Q P w:Nat} (hs:S=q*V+S') (h:X+P*S+P*w*V*Q=R):X+P*S'+P*V*(q+w*Q)=R:=by
 subst hs
 grind
theorem ZV {EF ws YD vs:List Nat} {N m n v1 v0 A s:Nat} {ρ:dH} {Q:VQ} (hN:EF.length=N) (hm:m+(n+2)=N) (DL:N≤70368744177664) (JN:∀d∈EF,d<4294967296) (hws:ws.take (n+2)=vs) (hwl:ws.length=n+3) (E3:vs.length=n+2) (Ho:∀d∈vs,d<4294967296) (f1:vs[n+1]? = some v1) (f0:vs[n]? = some v0) (lT:1≤v1)
  (hA:val 4294967296 EF=A) (CN:val 4294967296 (EF.drop m)<val 4294967296 vs) (jR:YD.length=m) (lW:∀d∈YD,d<4294967296)
  (g8:ρ 8=VI s) (g9:ρ 9 = .ref 0 0 0 N N) (g10:ρ 10 = .ref 1 0 0 (n+2) (n+3)) (g11:ρ 11=VK .u64 v1) (g12:ρ 12=VK .u64 v0) (g13:ρ 13 = .ref 2 0 0 m m) (g14:ρ 14=VI ((m:Int)-1))
  (hQ:∀(bI:dH) (us os:List Nat),bI 8=VI s→bI 9 = .ref 0 0 0 N N→bI 13 = .ref 2 0 0 m m→us.length=N→(∀d∈us,d<4294967296)→os.length=m→(∀d∈os,d<4294967296)→val 4294967296 us+val 4294967296 vs*val 4294967296 os=A→val 4294967296 us<val 4294967296 vs→Q (.exit 0) bI (H3 us ws os)) :
  VW ⟨true,false⟩ 0 (.loop oN) Q ρ (H3 EF ws YD):=by
 have hVb:=pF Ho
 rw[E3] at hVb
 refine aP (fun(t:Nat×List Nat×List Nat) bI H=>t.1≤m∧H=H3 t.2.1 ws t.2.2∧t.2.1.length=N∧(∀d∈t.2.1,d<4294967296)∧t.2.2.length=m∧(∀d∈t.2.2,d<4294967296)∧val 4294967296 (t.2.1.drop t.1)<val 4294967296 vs∧val 4294967296 t.2.1+4294967296^t.1*val 4294967296 vs*val 4294967296 (t.2.2.drop t.1)=A ∧
  bI 8=VI s∧bI 9 = .ref 0 0 0 N N∧bI 10 = .ref 1 0 0 (n+2) (n+3)∧bI 11=VK .u64 v1∧bI 12=VK .u64 v0∧bI 13 = .ref 2 0 0 m m∧bI 14=VI ((t.1:Int)-1)) (fun t=>t.1) (m,EF,YD) ⟨Nat.le_refl _,rfl,hN,JN,jR,lW,CN,by rw[List.drop_of_length_le (by simp only;omega)];simpa[val] using hA,g8,g9,g10,g11,g12,g13,g14⟩ ?_
 rintro⟨j,us,os⟩ NP H ⟨hj,rfl,Qk,JN,jR,lW,bH,hv,k8,k9,YC,Wp,FU,BO,C1⟩
 simp only at hj Qk JN jR lW bH hv C1
 by_cases hz:(0:Int)≤(j:Int)-1
 ·obtain⟨i,rfl⟩:∃i,j=i+1:=⟨j-1,by omega⟩
  have Jy:((i+1:Nat):Int)-1=(i:Int):=by omega
  rw[Jy] at C1 hz
  obtain⟨Ur,Bw,P3,hsW,YV,acM,sL⟩:=Yh (n:=n+2) Qk (by omega) JN hVb bH
  generalize Xw:(us.drop i).take (n+2+1)=iQ at *
  have PB:∀d∈iQ,d<4294967296:=fun d hd=>by rw[←Xw] at hd;exact JN d (List.mem_of_mem_drop (List.mem_of_mem_take hd))
  obtain⟨u2,hu2⟩:∃u2,us[i+(n+2)]? = some u2:=⟨_,List.getElem?_eq_getElem (by omega)⟩
  obtain⟨u1,hu1⟩:∃u1,us[i+(n+1)]? = some u1:=⟨_,List.getElem?_eq_getElem (by omega)⟩
  obtain⟨u0,hu0⟩:∃u0,us[i+n]? = some u0:=⟨_,List.getElem?_eq_getElem (by omega)⟩
  have G:xB 4294967296 iQ vs n u2 u1 u0 v1 v0:=⟨by decide,PB,Ho,P3,E3,by rw[sL _ (by omega)];exact hu2,by rw[sL _ (by omega)];exact hu1,by rw[sL _ (by omega)];exact hu0,f1,f0,lT,hsW⟩
  have lu2:=G.aiA
  have lu1:=G.abB
  have lv1:=G.UU
  have qlt:=G.agB
  have HS:=G.HS
  have amE:qB (.ref 1 0 0 (n+2) (n+3)) (H3 us ws os)=some (VI ((n+2:Nat):Int)):=dP anL
  have w1:IntKind.i64.wrap ((i:Int)+((n+2:Nat):Int))=((i+(n+2):Nat):Int):=by rw[←Int.natCast_add];exact wrapN _ rfl (by omega)
  have w2:IntKind.i64.wrap (((i+(n+2):Nat):Int)-1)=((i+(n+1):Nat):Int):=wrapN _ (by omega) (by omega)
  have e2:bP 1 (.ref 0 0 0 N N) (VI ((i+(n+2):Nat):Int)) (H3 us ws os)=some (.ptr 0 0 (i+(n+2)) 0):=by rw[aS CY (by omega),Nat.zero_add]
  have e1:bP 1 (.ref 0 0 0 N N) (VI ((i+(n+1):Nat):Int)) (H3 us ws os)=some (.ptr 0 0 (i+(n+1)) 0):=by rw[aS CY (by omega),Nat.zero_add]
  have l2:cN false 1 (.ptr 0 0 (i+(n+2)) 0) (H3 us ws os)=some (uV u2):=jD CY hu2
  have l1:cN false 1 (.ptr 0 0 (i+(n+1)) 0) (H3 us ws os)=some (uV u1):=jD CY hu1
  have wu2:IntKind.u64.wrap (u2:Int)=(u2:Int):=fR _ (by omega)
  have wu1:IntKind.u64.wrap (u1:Int)=(u1:Int):=fR _ (by omega)
  have ws2:=Es u2 .u64 lu2
  have wa:IntKind.u64.wrap (((u2*4294967296:Nat):Int)+(u1:Int))=((u2*4294967296+u1:Nat):Int):=by rw[←Int.natCast_add];exact fR _ (by omega)
  have q1:=VC (u2*4294967296+u1) v1 (by omega) lT
  have q2:=O5 (u2*4294967296+u1) v1 lT
  simp only[oN,k8,k9,YC,Wp,FU,BO,C1,hz,amE,w1,w2,e1,e2,l1,l2,wu1,wu2,ws2,wa,q1,q2,VX,Nat.reduceEqDiff,Nat.reduceAdd]
  have hh:=Nat.mod_add_div (u2*4294967296+u1) v1
  have Kz:=Nat.mod_lt (u2*4294967296+u1) lT
  have hdl:(u2*4294967296+u1) / v1≤u2*4294967296+u1:=Nat.div_le_self _ _
  have NR:val 4294967296 iQ / val 4294967296 vs≤(u2*4294967296+u1) / v1:=by
   have t1:=(DP (n:=n+1) (xs:=iQ) PB (by omega) (by rw[sL _ (by omega)];exact hu2) (by rw[sL _ (by omega)];exact hu1)).2
   have t2:=(AE (n:=n+1) Ho E3 f1).1
   rw[Nat.le_div_iff_mul_le lT]
   have t3:val 4294967296 iQ / val 4294967296 vs*(v1*4294967296^(n+1))≤val 4294967296 iQ / val 4294967296 vs*val 4294967296 vs:=Nat.mul_le_mul_left _ t2
   have t4:=Nat.div_mul_le_self (val 4294967296 iQ) (val 4294967296 vs)
   have t5:val 4294967296 iQ / val 4294967296 vs*v1*4294967296^(n+1)<(u2*4294967296+u1+1)*4294967296^(n+1):=by rw[Nat.mul_assoc];omega
   have:=Nat.lt_of_mul_lt_mul_right t5
   omega
  refine T0 (k:=i+(n+2)) G Qk (by omega) (by omega) DL (by rw[show i+(n+2)-2=i+n by omega];exact hu0) k9 Wp FU (by rfl) (by rfl) (by rfl) (by rw[Nat.mul_comm ((u2*4294967296+u1) / v1)];omega) NR (by omega) (by omega) ?_
  intro TU g' hq Nf hgW r17 r8 r9 r10 r11 r12 r13 r14 r15
  have R7:TU 15=VI ((i+(n+2):Nat):Int):=r15
  have r8':TU 8=VI s:=r8.trans k8
  have r9':TU 9 = .ref 0 0 0 N N:=r9.trans k9
  have alC:TU 10 = .ref 1 0 0 (n+2) (n+3):=r10.trans YC
  have amA:TU 11=VK .u64 v1:=r11.trans Wp
  have Su:TU 12=VK .u64 v0:=r12.trans FU
  have SA:TU 13 = .ref 2 0 0 m m:=r13.trans BO
  have Qr:TU 14=VI i:=r14.trans C1
  have w3:IntKind.i64.wrap (((i+(n+2):Nat):Int)+1)=((i+(n+3):Nat):Int):=wrapN _ (by omega) (by omega)
  have ZX:Gb 1 (.ref 0 0 0 N N) (some (VI i)) (some (VI ((i+(n+3):Nat):Int))) none (H3 us ws os)=some (.ref 0 0 i (n+3) (N-i)):=by
   rw[LR CY (by omega) (by omega),Nat.zero_add,Nat.add_sub_cancel_left]
  simp only[r8',r9',alC,amA,Su,SA,Qr,R7,r17,w3,ZX,VX,Nat.reduceEqDiff,Nat.reduceAdd]
  have rU:g'*val 4294967296 vs≤val 4294967296 iQ+val 4294967296 vs:=by
   have:=Nat.mul_le_mul_right (val 4294967296 vs) Nf
   rw[Nat.add_mul,Nat.one_mul] at this
   have:=Nat.div_mul_le_self (val 4294967296 iQ) (val 4294967296 vs)
   omega
  refine gC rfl ((UR (pre:=us.take i) (iQ:=iQ) (post:=us.drop (i+(n+2+1))) (L:=n+3) (o:=i) (by rw[←Ur];exact CY) (anL (us:=us) (ws:=ws) (os:=os)) (by decide) (Nat.zero_le _) Bw P3 (by omega) hws (by omega) (by omega) PB Ho hgW rU).mono ?_)
  rintro r H' ⟨sB,rfl,B7,Xh,hr⟩
  generalize aeF:us.take i++sB++us.drop (i+(n+2+1))=FD at *
  have IA:(H3 us ws os).set 0 (.row 0 (FD.map uV) 1 true)=H3 FD ws os:=rfl
  rw[IA]
  have akC:FD.length=N:=by rw[←aeF,List.length_append,List.length_append,Bw,B7,List.length_drop];omega
  have aeZ:∀d∈FD,d<4294967296:=fun d hd=>by
   rw[←aeF,List.mem_append,List.mem_append] at hd
   rcases hd with(hd | hd) | hd
   ·exact JN d (List.mem_of_mem_take hd)
   ·exact Xh d hd
   ·exact JN d (List.mem_of_mem_drop hd)
  have Ux:FD.drop i=sB++us.drop (i+(n+2+1)):=by rw[←aeF,List.append_assoc,List.drop_append,List.drop_of_length_le (by omega),Bw];simp
  have TQ:FD.take i=us.take i:=by rw[←aeF,List.append_assoc,List.take_append_of_le_length (by omega),List.take_of_length_le (by omega)]
  have Sr:val 4294967296 (FD.drop i)=val 4294967296 sB:=by rw[Ux,yX,acM,Nat.mul_zero,Nat.add_zero]
  have digit:∀q:Nat,q=val 4294967296 iQ / val 4294967296 vs→val 4294967296 sB=val 4294967296 iQ % val 4294967296 vs →
    val 4294967296 (FD.drop i)<val 4294967296 vs∧val 4294967296 FD+4294967296^i*val 4294967296 vs*val 4294967296 ((os.set i q).drop i)=A:=by
   rintro q S6 hse
   have afH:=Nat.mod_lt (val 4294967296 iQ) HS
   refine⟨by rw[Sr,hse];exact afH,?_⟩
   have h1:=Nat.div_add_mod (val 4294967296 iQ) (val 4294967296 vs)
   rw[←S6,←hse,Nat.mul_comm] at h1
   have h2:=pV (b:=4294967296) us i
   have h3:=pV (b:=4294967296) FD i
   rw[TQ,Bw,Sr] at h3
   rw[Bw,YV] at h2
   rw[set_drop (by omega),sW,h3]
   rw[h2,Nat.pow_succ] at hv
   exact Ls h1.symm hv
  have e3:∀d:Nat,bP 1 (.ref 2 0 0 m m) (VI i) (H3 FD ws os)=some (.ptr 2 0 i 0)∧cD 0 1 (.ptr 2 0 i 0) (uV d) (H3 FD ws os)=some (H3 FD ws (os.set i d)):=fun d=>by
   refine⟨by rw[aS adV (by omega),Nat.zero_add],?_⟩
   rw[eH (f:=uV) (e:=1) adV (by omega) (Nat.zero_le _) rfl rfl]
   rfl
  have wi:IntKind.i64.wrap ((i:Int)-1)=(i:Int)-1:=wrap64 (by omega) (by omega)
  rcases hr with⟨rfl,hr⟩ | ⟨rfl,AW,WM⟩
  ·have CR:g'*val 4294967296 vs≤val 4294967296 iQ:=by omega
   have S6:g'=val 4294967296 iQ / val 4294967296 vs:=by
    have:=(Nat.le_div_iff_mul_le HS).2 CR
    omega
   have hse:val 4294967296 sB=val 4294967296 iQ % val 4294967296 vs:=by
    have h1:=Nat.div_add_mod (val 4294967296 iQ) (val 4294967296 vs)
    rw[←S6,Nat.mul_comm] at h1
    omega
   obtain⟨d1,d2⟩:=digit g' S6 hse
   simp only[r8',r9',alC,amA,Su,SA,Qr,R7,r17,(e3 g').1,(e3 g').2,wi,wrap32,Nat.mod_eq_of_lt hgW,VX,Nat.reduceEqDiff,Nat.reduceAdd]
   exact⟨(i,FD,os.set i g'),by simp only;omega,by omega,rfl,akC,aeZ,by rw[List.length_set];exact jR,mN lW hgW,d1,d2,by (repeat' apply And.intro)<;>first | rfl | trivial⟩
  ·have Zs:val 4294967296 iQ / val 4294967296 vs<g':=(Nat.div_lt_iff_lt_mul HS).2 AW
   have hg1:1≤g':=Nat.lt_of_le_of_lt (Nat.zero_le _) Zs
   obtain⟨q,rfl⟩:∃q,g'=q+1:=⟨g'-1,by omega⟩
   have S6:q=val 4294967296 iQ / val 4294967296 vs:=by omega
   have hse:val 4294967296 sB=val 4294967296 iQ % val 4294967296 vs:=by
    have h1:=Nat.div_add_mod (val 4294967296 iQ) (val 4294967296 vs)
    rw[←S6,Nat.mul_comm] at h1
    rw[Nat.add_mul,Nat.one_mul] at WM
    omega
   have wq:IntKind.u64.wrap (((q+1:Nat):Int)-1)=(q:Int):=by rw[show ((q+1:Nat):Int)-1=(q:Int) by omega];exact fR _ (by omega)
   obtain⟨d1,d2⟩:=digit q S6 hse
   simp only[r8',r9',alC,amA,Su,SA,Qr,R7,r17,wq,(e3 q).1,(e3 q).2,wi,wrap32,Nat.mod_eq_of_lt (show q<4294967296 by omega),VX,Nat.reduceEqDiff,Nat.reduceAdd]
   exact⟨(i,FD,os.set i q),by simp only;omega,by omega,rfl,akC,aeZ,by rw[List.length_set];exact jR,mN lW (by omega),d1,d2,by (repeat' apply And.intro)<;>first | rfl | trivial⟩
 ·have T3:j=0:=by omega
  subst T3
  rw[List.drop_zero] at bH
  rw[Nat.pow_zero,Nat.one_mul,List.drop_zero] at hv
  simp only[oN,k8,k9,YC,Wp,FU,BO,C1,hz,VX,Nat.reduceEqDiff,Nat.reduceAdd]
  exact hQ _ us os k8 k9 BO Qk JN jR lW hv bH
end Go.PM
namespace Go.PM
theorem Me {a n:Nat} (hn:(aC 4294967296 a).length=n+1):∃d,(aC 4294967296 a)[n]? = some d∧d≠0∧d<4294967296:=by
 obtain⟨d,hd⟩:∃d,(aC 4294967296 a)[n]? = some d:=⟨_,List.getElem?_eq_getElem (by omega)⟩
 refine⟨d,hd,fun h0 => ?_,fP (by decide) a d (List.mem_of_getElem? hd)⟩
 have:=OZ (b:=4294967296) (by decide) a
 rw[List.getLast?_eq_getElem?,hn,Nat.add_sub_cancel,hd,h0] at this
 exact this rfl
theorem RP {a d:Nat} (h:aC 4294967296 a=[d]):a=d∧0<d∧d<4294967296:=by
 have h1:=cJ (b:=4294967296) (by decide) a
 rw[h,val_one] at h1
 obtain⟨e,h2,h3,h4⟩:=Me (a:=a) (n:=0) (by rw[h];rfl)
 rw[h] at h2
 cases h2
 exact⟨h1.symm,by omega,h4⟩
theorem yN (a b:Nat) (hb:b≠0) (ha:(aC 4294967296 a).length≤17592186044416) (vL:(aC 4294967296 b).length≤17592186044416):TC 183 [bO a,bO b] (.fN [bO (a / b),bO (a % b)]):=by
 refine TC.walk ⟨true,false⟩ HG rfl (Nat.le_of_ble_eq_true rfl) (by simp[aM,bU]) (by simp[iU,sK,rD]) ?_
 have c1:=kU a b ha vL
 by_cases F9:fB a b<0
 ·have bH:a<b:=by
   unfold fB at F9
   split at F9
   ·assumption
   ·split at F9<;>omega
  simp only[sN,pS,c1,F9,VX,Nat.reduceEqDiff,Nat.reduceAdd]
  rw[Nat.div_eq_of_lt bH,Nat.mod_eq_of_lt bH]
  exact bT (d:=6) xL (aJ (bU a))
 have CR:b≤a:=by
  unfold fB at F9
  split at F9
  ·omega
  ·omega
 have hbn:(aC 4294967296 b).length≠0:=fun h=>hb ((mJ (b:=4294967296) (by decide)).1 (List.length_eq_zero_iff.1 h))
 by_cases h1:(((aC 4294967296 b).length:Nat):Int)=1
 ·obtain⟨d,hd⟩:∃d,aC 4294967296 b=[d]:=by
   match hx:aC 4294967296 b with
   | []=>rw[hx] at hbn;exact absurd rfl hbn
   | [d]=>exact⟨d,rfl⟩
   | _::_::_=>rw[hx] at h1;simp at h1;omega
  obtain⟨rfl,Dp,hdW⟩:=RP hd
  have c2:=wZ a b Dp hdW ha
  have e0:qB (bO b) []=some (VI 1):=by rw[bO,Bc,eI,hd];rfl
  have e1:bP 1 (bO b) (VI 0) []=some (.dB (uV b) 0):=by
   rw[bO,hd]
   exact aI (f:=uV) (t := .op) (H:=[]) (size:=1) (k := .i64) (xs:=[b]) (i:=0) rfl rfl
  have e2:=gJ (H:=[]) (z:=[.int .u32 0]) (v:=uV (a % b)) rfl rfl rfl
  have e3:=YM (size:=1) (v:=Value.int .u32 ((b:Nat):Int))
  simp only[sN,pS,c1,F9,e0,e1,c2,e2,VX,Nat.reduceEqDiff,Nat.reduceAdd]
  refine Ma (ds:=[a % b]) (t := .cl 1) (fun d hd => ?_) (by show 1≤70368744177664;decide) (val_one _) fun t' ht => ?_
  ·rw[List.mem_singleton] at hd
   subst hd
   exact Nat.lt_of_lt_of_le (Nat.mod_lt _ Dp) (Nat.le_of_lt hdW)
  ·simp only[VX,Nat.reduceEqDiff,Nat.reduceAdd]
   exact bT (d:=6) (aJ (bU _)) (acG (d:=5) ht)
 obtain⟨n,hn⟩:∃n,(aC 4294967296 b).length=n+2:=⟨(aC 4294967296 b).length-2,by omega⟩
 obtain⟨t,ht,ht0,htW⟩:=Me (a:=b) (n:=n+1) hn
 obtain⟨s,hs,cl,abC⟩:=TF ht0 htW
 have hS:0<2^s:=Nat.pow_pos (by decide)
 have hSW:2^s*2^(32-s)=4294967296:=by rw[←Nat.pow_add,show s+(32-s)=32 by omega]
 have hla:=eJ (b:=4294967296) (by decide) CR
 have e0:qB (bO b) []=some (VI ((n+2:Nat):Int)):=by rw[bO,Bc,eI,hn]
 have w0:IntKind.i64.wrap (((n+2:Nat):Int)-1)=((n+1:Nat):Int):=wrapN _ (by omega) (by omega)
 have WH:¬(((n+2:Nat):Int)=1):=by omega
 have e1:bP 1 (bO b) (VI ((n+1:Nat):Int)) []=some (.dB (uV t) 0):=aI (f:=uV) (t := .op) (H:=[]) (size:=1) (k := .i64) ht rfl
 simp only[sN,pS,c1,F9,e0,WH,w0,e1,cl,VX,Nat.reduceEqDiff,Nat.reduceAdd]
 have fa:[bO a,VI (s:Int)].mapM (fz depth ([]:aA))=some [bO a,VI (s:Int)]:=fz2 (aK (bU a)) (aK rfl)
 refine FC.call (zO a s hs ha) rfl fa ?_
 rintro r L ⟨HZ,rfl,rfl,hAl,hAd,hAv,hAt⟩
 simp only[VX,Nat.reduceEqDiff,Nat.reduceAdd]
 have fb:∀H:aA,[bO b,VI (s:Int)].mapM (fz depth H)=some [bO b,VI (s:Int)]:=fun H=>fz2 (aK (bU b)) (aK rfl)
 refine FC.call (zO b s hs vL) rfl (fb _) ?_
 rintro r L ⟨EL,rfl,rfl,hBl,hBd,hBv,hBt⟩
 rw[hn] at hBl
 simp only[hn,List.length_singleton,VX,Nat.reduceEqDiff,Nat.reduceAdd]
 have alE:b*2^s<4294967296^(n+2):=by
  have h2:=(AE (n:=n+1) (fP (b:=4294967296) (by decide) b) hn ht).2
  rw[cJ (by decide)] at h2
  have h3:b*2^s<(t+1)*4294967296^(n+1)*2^s:=Nat.mul_lt_mul_of_pos_right h2 hS
  have h4:(t+1)*4294967296^(n+1)*2^s=(t+1)*2^s*4294967296^(n+1):=by grind
  have h5:(t+1)*2^s≤4294967296:=by
   have h6:t*2^s<2^(32-s)*2^s:=by rw[Nat.mul_comm (2^(32-s)),hSW];exact abC
   have h7:=Nat.lt_of_mul_lt_mul_right h6
   have h8:(t+1)*2^s≤2^(32-s)*2^s:=Nat.mul_le_mul_right _ h7
   rwa [Nat.mul_comm (2^(32-s)),hSW] at h8
  have h9:(t+1)*2^s*4294967296^(n+1)≤4294967296*4294967296^(n+1):=Nat.mul_le_mul_right _ h5
  have h10:4294967296*4294967296^(n+1)=4294967296^(n+2):=by rw[Nat.pow_succ 4294967296 (n+1)];exact Nat.mul_comm _ _
  omega
 have hVl:(aC 4294967296 (b*2^s)).length=n+2:=by
  have h2:=mV (b:=4294967296) (by decide) alE
  have h3:b≤b*2^s:=Nat.le_mul_of_pos_right b hS
  have h4:=eJ (b:=4294967296) (by decide) h3
  omega
 refine sG (rows:=EL) (m:=b*2^s) (by rfl) (by omega) (by omega) (by omega) (fun d hd=>hBd d (List.mem_of_mem_take hd)) (by rw[List.take_of_length_le (by omega)];exact hBv) fun k hk he => ?_
 have hk2:k=n+2:=by
  have:=congrArg List.length he
  rw[hVl,List.length_take] at this
  omega
 subst hk2
 generalize Qn:aC 4294967296 (b*2^s)=vs at *
 have Ho:∀d∈vs,d<4294967296:=by rw[←Qn];exact fP (by decide) _
 have M6:val 4294967296 vs=b*2^s:=by rw[←Qn];exact cJ (by decide) _
 obtain⟨v1,f1⟩:∃v1,vs[n+1]? = some v1:=⟨_,List.getElem?_eq_getElem (by omega)⟩
 obtain⟨v0,f0⟩:∃v0,vs[n]? = some v0:=⟨_,List.getElem?_eq_getElem (by omega)⟩
 have hv1:1≤v1:=by
  obtain⟨d,hd,Dp,_⟩:=Me (a:=b*2^s) (n:=n+1) (by rw[Qn];exact hVl)
  rw[Qn,f1] at hd
  cases hd
  omega
 have b1:EL[n+1]? = some v1:=by rw[←f1,←he,List.getElem?_take_of_lt (by omega)]
 have b0:EL[n]? = some v0:=by rw[←f0,←he,List.getElem?_take_of_lt (by omega)]
 have lv1:=Ho v1 (List.mem_of_getElem? f1)
 have lv0:=Ho v0 (List.mem_of_getElem? f0)
 have x1:bP 1 (.ref 1 0 0 (n+2) (n+2+1)) (VI ((n+1:Nat):Int)) [.row 0 (HZ.map uV) 1 true,.row 0 (EL.map uV) 1 true]=some (.ptr 1 0 (n+1) 0):=by rw[aS (by rfl) (by omega),Nat.zero_add]
 have x0:bP 1 (.ref 1 0 0 (n+2) (n+2+1)) (VI ((n:Nat):Int)) [.row 0 (HZ.map uV) 1 true,.row 0 (EL.map uV) 1 true]=some (.ptr 1 0 n 0):=by rw[aS (by rfl) (by omega),Nat.zero_add]
 have y1:cN false 1 (.ptr 1 0 (n+1) 0) [.row 0 (HZ.map uV) 1 true,.row 0 (EL.map uV) 1 true]=some (uV v1):=jD (rows:=EL) (g:=0) (w:=true) (by rfl) b1
 have y0:cN false 1 (.ptr 1 0 n 0) [.row 0 (HZ.map uV) 1 true,.row 0 (EL.map uV) 1 true]=some (uV v0):=jD (rows:=EL) (g:=0) (w:=true) (by rfl) b0
 have z0:qB (.ref 1 0 0 (n+2) (n+2+1)) [.row 0 (HZ.map uV) 1 true,.row 0 (EL.map uV) 1 true]=some (VI ((n+2:Nat):Int)):=dP (r:=(EL.map uV,1,true)) (by rfl)
 have z1:qB (.ref 0 0 0 ((aC 4294967296 a).length+1) ((aC 4294967296 a).length+1)) [.row 0 (HZ.map uV) 1 true,.row 0 (EL.map uV) 1 true]=some (VI (((aC 4294967296 a).length+1:Nat):Int)):=dP (r:=(HZ.map uV,1,true)) (by rfl)
 have w2:IntKind.i64.wrap (((n+2:Nat):Int)-2)=((n:Nat):Int):=wrapN _ (by omega) (by omega)
 have wv1:IntKind.u64.wrap (v1:Int)=(v1:Int):=fR _ (by omega)
 have wv0:IntKind.u64.wrap (v0:Int)=(v0:Int):=fR _ (by omega)
 obtain⟨m,hm⟩:∃m,m+(n+2)=(aC 4294967296 a).length+1:=⟨(aC 4294967296 a).length+1-(n+2),by omega⟩
 have wm:IntKind.i64.wrap ((((aC 4294967296 a).length+1:Nat):Int)-((n+2:Nat):Int))=(m:Int):=wrapN _ (by omega) (by omega)
 have wm1:IntKind.i64.wrap ((m:Int)-1)=(m:Int)-1:=wrap64 (by omega) (by omega)
 have mk:=U6 m 0 (by omega) (H:=[.row 0 (HZ.map uV) 1 true,.row 0 (EL.map uV) 1 true])
 have z2:qB (.ref 2 0 0 m m) (H3 HZ EL (List.replicate m 0))=some (VI m):=dP (r:=((List.replicate m 0).map uV,1,true)) (by rfl)
 simp only[w0,x1,x0,y1,y0,z0,z1,w2,wv1,wv0,wm,mk,z2,wm1,List.length_cons,List.length_nil,VX,Nat.reduceEqDiff,Nat.reduceAdd]
 have CN:val 4294967296 (HZ.drop m)<val 4294967296 vs:=by
  obtain⟨d,hd⟩:∃d,HZ[(aC 4294967296 a).length]? = some d:=⟨_,List.getElem?_eq_getElem (by omega)⟩
  have h2:=(AE (b:=4294967296) (xs:=HZ.drop m) (n:=n+1) (t:=d) (fun x hx=>hAd x (List.mem_of_mem_drop hx)) (by rw[List.length_drop];omega) (by rw[List.getElem?_drop,show m+(n+1)=(aC 4294967296 a).length by omega];exact hd)).2
  have h3:=hAt d hd
  have h4:=(AE (n:=n+1) (fP (b:=4294967296) (by decide) b) hn ht).1
  rw[cJ (by decide)] at h4
  have h5:(d+1)*4294967296^(n+1)≤2^s*4294967296^(n+1):=Nat.mul_le_mul_right _ h3
  have h6:1*4294967296^(n+1)≤t*4294967296^(n+1):=Nat.mul_le_mul_right _ (by omega)
  have h7:1*4294967296^(n+1)*2^s≤b*2^s:=Nat.mul_le_mul_right _ (by omega)
  rw[M6]
  rw[Nat.one_mul,Nat.mul_comm] at h7
  omega
 refine ZV (EF:=HZ) (ws:=EL) (YD:=List.replicate m 0) (vs:=vs) (N:=(aC 4294967296 a).length+1) (m:=m) (n:=n) (A:=a*2^s) (s:=s) hAl hm (by omega) hAd he hBl hVl Ho f1 f0 hv1 hAv CN (by simp) (AQ (by decide) _) (by rfl) (by rfl) (by rfl) (by rfl) (by rfl) (by rfl) (by rfl) ?_
 intro xS us os r8 r9 r13 Qk JN jR lW hv bH
 rw[M6] at hv bH
 have hq:val 4294967296 os=a / b:=by
  rw[←Nat.mul_div_mul_right a b hS,←hv,Nat.add_mul_div_left _ _ (by omega),Nat.div_eq_of_lt bH,Nat.zero_add]
 have hr:val 4294967296 us=a % b*2^s:=by
  rw[←Nat.mul_mod_mul_right,←hv,Nat.add_mul_mod_self_left,Nat.mod_eq_of_lt bH]
 simp only[r9,VX,Nat.reduceEqDiff,Nat.reduceAdd]
 refine sG (rows:=us) (m:=a % b*2^s) CY (by omega) (Nat.le_refl _) (by omega) (fun d hd=>JN d (List.mem_of_mem_take hd)) (by rw[List.take_of_length_le (by omega)];exact hr) fun k hk he2 => ?_
 have z3:qB (.ref 0 0 0 k ((aC 4294967296 a).length+1)) (H3 us EL os)=some (VI k):=dP CY
 simp only[z3,VX,Nat.reduceEqDiff,Nat.reduceAdd]
 refine Yp (us:=us) (k:=k) (N:=(aC 4294967296 a).length+1) (s:=s) (w0:=2^(32-s)) hs hSW Qk hk (by omega) JN r8 (by rfl) (by rfl) (by rfl) ?_
 intro NP FD q9 q13 akC aeZ hv'
 have axG:NP 13 = .ref 2 0 0 m m:=q13.trans r13
 have Dn:val 4294967296 (FD.take k)=a % b:=by
  rw[hv',he2,cJ (by decide),Nat.mul_div_cancel _ hS]
 simp only[q9,axG,VX,Nat.reduceEqDiff,Nat.reduceAdd]
 refine sG (rows:=os) (m:=a / b) adV (by omega) (Nat.le_refl _) (by omega) (fun d hd=>lW d (List.mem_of_mem_take hd)) (by rw[List.take_of_length_le (by omega)];exact hq) fun k2 hk2 he3 => ?_
 simp only[q9,VX,Nat.reduceEqDiff,Nat.reduceAdd]
 refine sG (rows:=FD) (m:=a % b) CY (by omega) hk (by omega) (fun d hd=>aeZ d (List.mem_of_mem_take hd)) Dn fun k3 hk3 he4 => ?_
 simp only[VX,Nat.reduceEqDiff,Nat.reduceAdd]
 exact bT (d:=6) (KD (d:=5) adV (by omega) hk2 he3) (KD (d:=5) CY (by omega) (by omega) he4)
end Go.PM
namespace Go.PM
abbrev H2 (us os:List Nat):aA:=[.row 0 (us.map tV) 1 true,.row 0 (os.map tV) 1 true]
theorem Tj {us os:List Nat}:aH (H2 us os) 0 0=some (us.map tV,1,true):=rfl
theorem aoT {us os:List Nat}:aH (H2 us os) 1 0=some (os.map tV,1,true):=rfl
theorem ahB {P a Z:Nat} {y:Int} (h:(a:Int)+(P:Int)*y=(Z:Int)) (ha:a<P) (hZ:Z<P):y=0∧a=Z:=by
 have hy:y=0:=by
  rcases Int.lt_trichotomy y 0 with h1 | h1 | h1
  ·have:(P:Int)*y≤(P:Int)*(-1):=Int.mul_le_mul_of_nonneg_left (by omega) (by omega)
   omega
  ·exact h1
  ·have:(P:Int)*1≤(P:Int)*y:=Int.mul_le_mul_of_nonneg_left (by omega) (by omega)
   omega
 subst hy
 rw[Int.mul_zero] at h
 exact⟨rfl,by omega⟩
theorem T5 {us:List Nat} {i n N V:Nat} (hN:us.length=N) (cK:i+n<N) (hd:∀d∈us,d<1000000000) (hV:V<1000000000^n) (CN:val 1000000000 (us.drop (i+1))<V) :
  us=us.take i++(us.drop i).take (n+1)++us.drop (i+(n+1))∧(us.take i).length=i∧((us.drop i).take (n+1)).length=n+1∧val 1000000000 ((us.drop i).take (n+1))<1000000000*V∧val 1000000000 (us.drop i)=val 1000000000 ((us.drop i).take (n+1))∧val 1000000000 (us.drop (i+(n+1)))=0∧∀j,j<n+1→((us.drop i).take (n+1))[j]? = us[i+j]? := by
 obtain⟨x,hx⟩:∃x,us[i]? = some x:=⟨_,List.getElem?_eq_getElem (by omega)⟩
 have lx:=hd x (List.mem_of_getElem? hx)
 have h1:=tC (b:=1000000000) hx
 have h2:val 1000000000 (us.drop i)<1000000000*V:=by
  have:1000000000*(val 1000000000 (us.drop (i+1))+1)≤1000000000*V:=Nat.mul_le_mul_left _ CN
  omega
 have h3:=pV (b:=1000000000) (us.drop i) (n+1)
 have h4:((us.drop i).take (n+1)).length=n+1:=by rw[List.length_take,List.length_drop];omega
 rw[h4,List.drop_drop] at h3
 have h5:val 1000000000 (us.drop (i+(n+1)))=0:=by
  rcases Nat.eq_zero_or_pos (val 1000000000 (us.drop (i+(n+1)))) with h | h
  ·exact h
  ·have h6:1000000000^(n+1)*1≤1000000000^(n+1)*val 1000000000 (us.drop (i+(n+1))):=Nat.mul_le_mul_left _ h
   have h7:1000000000*V≤1000000000^(n+1):=by rw[Nat.pow_succ,Nat.mul_comm];exact Nat.mul_le_mul_right _ (by omega)
   omega
 rw[h5,Nat.mul_zero,Nat.add_zero] at h3
 refine⟨?_,by rw[List.length_take];omega,h4,by omega,h3,h5,fun j hj => ?_⟩
 ·rw[List.append_assoc,←List.drop_drop,List.take_append_drop,List.take_append_drop]
 ·rw[List.getElem?_take_of_lt hj,List.getElem?_drop]
theorem leT {g:Nat} (h:(1000000000:Int)≤(g:Int)):1000000000≤g:=by omega
theorem aaN {g:Nat} (h:¬(1000000000:Int)≤(g:Int)):g<1000000000:=by omega
theorem ltC {a b:Nat} (h:(a:Int)<(b:Int)):a<b:=by omega
theorem atW {a b:Nat} (h:¬(a:Int)<(b:Int)):b≤a:=by omega
theorem Oe {a:Nat} (h:a*1000000000≤9223372036854775807):IntKind.i64.wrap ((a:Int)*1000000000)=((a*1000000000:Nat):Int):=wrapN _ (by omega) h
theorem OT {a b:Nat} (h:a+b≤9223372036854775807):IntKind.i64.wrap ((a:Int)+(b:Int))=((a+b:Nat):Int):=wrapN _ (by omega) h
theorem XV {a b:Nat} (h:a*b≤9223372036854775807):IntKind.i64.wrap ((a:Int)*(b:Int))=((a*b:Nat):Int):=wrapN _ (by simp) h
theorem x17 {a:Nat} (h:a<1000000000):a*1000000000≤9223372036854775807:=by omega
theorem x18 {a b:Nat} (h:a<1000000000) (hb:b<1000000000):a*1000000000+b≤1000000000000000000:=by omega
theorem RN {iQ vs us os:List Nat} {n u2 u1 u0 v1 v0 N i g left:Nat} (G:xB 1000000000 iQ vs n u2 u1 u0 v1 v0) {ρ:dH} {Q:VQ} (hN:us.length=N) (hiN:i+(n+2)<N) (DL:N≤70368744177664) (hu0:us[i+n]? = some u0)
  (g13:ρ 13 = .ref 0 0 0 N N) (g14:ρ 14=iM vs) (g15:ρ 15=VI ((n+2:Nat):Int)) (g17:ρ 17=VI i) (g19:ρ 19=VI g) (g20:ρ 20=VI left) (hh:u2*1000000000+u1=g*v1+left) (hq:val 1000000000 iQ / val 1000000000 vs≤g) (hl:left<1000000000) (hgb:g≤1000000000000000000)
  (hQ:∀(bI:dH) (g':Nat),val 1000000000 iQ / val 1000000000 vs≤g'→g'≤val 1000000000 iQ / val 1000000000 vs+1→g'<1000000000→bI 19=VI g'→bI 12=ρ 12→bI 13=ρ 13→bI 14=ρ 14→bI 15=ρ 15→bI 16=ρ 16→bI 17=ρ 17→Q (.exit 2) bI (H2 us os)) :
  VW ⟨true,false⟩ 0 (.loop gS) Q ρ (H2 us os):=by
 have lv1:=G.UU
 have lv0:=G.abK
 have lu0:=G.aiD
 have qlt:=G.agB
 have lT:=G.pos
 have E3:=G.KZ
 refine aP (fun(t:Nat×Nat) bI H=>H=H2 us os∧u2*1000000000+u1=t.1*v1+t.2∧val 1000000000 iQ / val 1000000000 vs≤t.1∧t.2<1000000000∧t.1≤1000000000000000000 ∧
  bI 13 = .ref 0 0 0 N N∧bI 14=iM vs∧bI 15=VI ((n+2:Nat):Int)∧bI 17=VI i∧bI 19=VI t.1∧bI 20=VI t.2∧bI 12=ρ 12∧bI 16=ρ 16) (fun t=>1000000000-t.2) (g,left) ⟨rfl,hh,hq,hl,hgb,g13,g14,g15,g17,g19,g20,rfl,rfl⟩ ?_
 rintro⟨g,left⟩ NP H ⟨rfl,hh,hq,hl,hgb,BO,C1,Ky,It,k19,k20,FU,k16⟩
 simp only at hh hq hl hgb k19 k20
 have f1:bP 1 (iM vs) (VI ((n+1:Nat):Int)) (H2 us os)=some (.dB (tV v1) 0):=aI (f:=tV) (t := .op) (size:=1) (k := .i64) G.f1 rfl
 have f0:bP 1 (iM vs) (VI (n:Int)) (H2 us os)=some (.dB (tV v0) 0):=aI (f:=tV) (t := .op) (size:=1) (k := .i64) G.f0 rfl
 have wn2:IntKind.i64.wrap (((n+2:Nat):Int)-2)=(n:Int):=wrapN _ (by omega) (by omega)
 have wn1:IntKind.i64.wrap (((n+2:Nat):Int)-1)=((n+1:Nat):Int):=wrapN _ (by omega) (by omega)
 have wi:IntKind.i64.wrap ((i:Int)+((n+2:Nat):Int))=((i+(n+2):Nat):Int):=wrapN _ (by omega) (by omega)
 have wi2:IntKind.i64.wrap (((i+(n+2):Nat):Int)-2)=((i+n:Nat):Int):=wrapN _ (by omega) (by omega)
 have e1:bP 1 (.ref 0 0 0 N N) (VI ((i+n:Nat):Int)) (H2 us os)=some (.ptr 0 0 (i+n) 0):=by rw[aS Tj (by omega),Nat.zero_add]
 have e2:cN false 1 (.ptr 0 0 (i+n) 0) (H2 us os)=some (VI (u0:Int)):=Lf Tj hu0
 have wl:IntKind.i64.wrap ((left:Int)+(v1:Int))=((left+v1:Nat):Int):=wrapN _ (by omega) (by omega)
 have down:val 1000000000 iQ / val 1000000000 vs<g→∃g',g=g'+1∧IntKind.i64.wrap ((g:Int)-1)=(g':Int)∧u2*1000000000+u1=g'*v1+(left+v1)∧val 1000000000 iQ / val 1000000000 vs≤g':=by
  intro h
  have hg1:1≤g:=Nat.lt_of_le_of_lt (Nat.zero_le _) h
  obtain⟨g',rfl⟩:∃g',g=g'+1:=⟨g-1,by omega⟩
  refine⟨g',rfl,wrapN _ (by omega) (by omega),?_,by omega⟩
  rw[hh,Nat.add_mul]
  omega
 have hmu:∀g':Nat,left+v1<1000000000→1000000000-(g',left+v1).2<1000000000-(g,left).2:=fun g' h=>by
  show 1000000000-(left+v1)<1000000000-left
  omega
 have hle:∀g':Nat,g=g'+1→g'≤1000000000000000000:=fun g' h=>by
  omega
 have axY:left*1000000000+u0≤9223372036854775807:=Nat.le_trans (x18 hl lu0) (by decide)
 have avI:left*1000000000≤9223372036854775807:=x17 hl
 have ws:IntKind.i64.wrap ((left:Int)*1000000000)=((left*1000000000:Nat):Int):=Oe avI
 have wa:IntKind.i64.wrap (((left*1000000000:Nat):Int)+(u0:Int))=((left*1000000000+u0:Nat):Int):=OT axY
 obtain⟨s13,s14,s15,s17⟩:NP 13=ρ 13∧NP 14=ρ 14∧NP 15=ρ 15∧NP 17=ρ 17:=⟨by rw[BO,g13],by rw[C1,g14],by rw[Ky,g15],by rw[It,g17]⟩
 by_cases hA:(1000000000:Int)≤(g:Int)
 ·have hA':=leT hA
  obtain⟨g',hg',wg,UH,Nf⟩:=down (Nat.lt_of_lt_of_le qlt hA')
  by_cases hB:(1000000000:Int)≤((left+v1:Nat):Int)
  ·obtain⟨c1,c2⟩:=G.broken UH (leT hB)
   simp only[gS,BO,C1,Ky,It,k19,k20,hA,hB,f1,wn1,wg,wl,VX,Nat.reduceEqDiff,Nat.reduceAdd]
   exact hQ _ g' Nf (G.Xu UH (Nat.le_of_lt c1) c2) c1 rfl FU s13 s14 s15 k16 s17
  ·simp only[gS,BO,C1,Ky,It,k19,k20,hA,hB,f1,wn1,wg,wl,VX,Nat.reduceEqDiff,Nat.reduceAdd]
   refine⟨(g',left+v1),hmu g' (aaN hB),UH,Nf,aaN hB,hle g' hg',?_⟩
   exact⟨rfl,rfl,FU,k16⟩
 ·have hA':=aaN hA
  have hgv:g*v0≤999999999*999999999:=Nat.mul_le_mul (Nat.le_of_lt_succ hA') (Nat.le_of_lt_succ lv0)
  have wm:IntKind.i64.wrap ((g:Int)*(v0:Int))=((g*v0:Nat):Int):=XV (Nat.le_trans hgv (by decide))
  by_cases hT:((left*1000000000+u0:Nat):Int)<((g*v0:Nat):Int)
  ·obtain⟨g',hg',wg,UH,Nf⟩:=down (G.too hh (ltC hT))
   by_cases hB:(1000000000:Int)≤((left+v1:Nat):Int)
   ·obtain⟨c1,c2⟩:=G.broken UH (leT hB)
    simp only[gS,BO,C1,Ky,It,k19,k20,hA,hB,hT,f1,f0,e1,e2,wn1,wn2,wi,wi2,ws,wa,wm,wg,wl,VX,Nat.reduceEqDiff,Nat.reduceAdd]
    exact hQ _ g' Nf (G.Xu UH (Nat.le_of_lt c1) c2) c1 rfl FU s13 s14 s15 k16 s17
   ·simp only[gS,BO,C1,Ky,It,k19,k20,hA,hB,hT,f1,f0,e1,e2,wn1,wn2,wi,wi2,ws,wa,wm,wg,wl,VX,Nat.reduceEqDiff,Nat.reduceAdd]
    refine⟨(g',left+v1),hmu g' (aaN hB),UH,Nf,aaN hB,hle g' hg',?_⟩
    exact⟨rfl,rfl,FU,k16⟩
  ·simp only[gS,BO,C1,Ky,It,k19,k20,hA,hT,f0,e1,e2,wn2,wi,wi2,ws,wa,wm,VX,Nat.reduceEqDiff,Nat.reduceAdd]
   exact hQ _ g hq (G.Xu hh (Nat.le_of_lt hA') (atW hT)) hA' k19 FU s13 s14 s15 k16 s17
theorem O2 {EF YD vs:List Nat} {N m n v1 v0 A s:Nat} {ρ:dH} {Q:VQ} (hN:EF.length=N) (hm:m+(n+2)=N) (DL:N≤70368744177664) (JN:∀d∈EF,d<1000000000) (E3:vs.length=n+2) (Ho:∀d∈vs,d<1000000000) (f1:vs[n+1]? = some v1) (f0:vs[n]? = some v0) (lT:1≤v1)
  (hA:val 1000000000 EF=A) (CN:val 1000000000 (EF.drop m)<val 1000000000 vs) (jR:YD.length=m) (lW:∀d∈YD,d<1000000000)
  (g12:ρ 12=VI s) (g13:ρ 13 = .ref 0 0 0 N N) (g14:ρ 14=iM vs) (g15:ρ 15=VI ((n+2:Nat):Int)) (g16:ρ 16 = .ref 1 0 0 m m) (g17:ρ 17=VI ((m:Int)-1))
  (hQ:∀(bI:dH) (us os:List Nat),bI 12=VI s→bI 13 = .ref 0 0 0 N N→bI 16 = .ref 1 0 0 m m→us.length=N→(∀d∈us,d<1000000000)→os.length=m→(∀d∈os,d<1000000000)→val 1000000000 us+val 1000000000 vs*val 1000000000 os=A→val 1000000000 us<val 1000000000 vs→Q (.exit 0) bI (H2 us os)) :
  VW ⟨true,false⟩ 0 (.loop jC) Q ρ (H2 EF YD):=by
 have hVb:=pF Ho
 rw[E3] at hVb
 refine aP (fun(t:Nat×List Nat×List Nat) bI H=>t.1≤m∧H=H2 t.2.1 t.2.2∧t.2.1.length=N∧(∀d∈t.2.1,d<1000000000)∧t.2.2.length=m∧(∀d∈t.2.2,d<1000000000)∧val 1000000000 (t.2.1.drop t.1)<val 1000000000 vs∧val 1000000000 t.2.1+1000000000^t.1*val 1000000000 vs*val 1000000000 (t.2.2.drop t.1)=A ∧
  bI 12=VI s∧bI 13 = .ref 0 0 0 N N∧bI 14=iM vs∧bI 15=VI ((n+2:Nat):Int)∧bI 16 = .ref 1 0 0 m m∧bI 17=VI ((t.1:Int)-1)) (fun t=>t.1) (m,EF,YD) ⟨Nat.le_refl _,rfl,hN,JN,jR,lW,CN,by rw[List.drop_of_length_le (by simp only;omega)];simpa[val] using hA,g12,g13,g14,g15,g16,g17⟩ ?_
 rintro⟨j,us,os⟩ NP H ⟨hj,rfl,Qk,JN,jR,lW,bH,hv,FU,BO,C1,Ky,k16,It⟩
 simp only at hj Qk JN jR lW bH hv It
 by_cases hz:(0:Int)≤(j:Int)-1
 ·obtain⟨i,rfl⟩:∃i,j=i+1:=⟨j-1,by omega⟩
  have Jy:((i+1:Nat):Int)-1=(i:Int):=by omega
  rw[Jy] at It hz
  obtain⟨Ur,Bw,P3,hsW,YV,acM,sL⟩:=T5 (n:=n+2) Qk (by omega) JN hVb bH
  generalize Xw:(us.drop i).take (n+2+1)=iQ at *
  have PB:∀d∈iQ,d<1000000000:=fun d hd=>by rw[←Xw] at hd;exact JN d (List.mem_of_mem_drop (List.mem_of_mem_take hd))
  obtain⟨u2,hu2⟩:∃u2,us[i+(n+2)]? = some u2:=⟨_,List.getElem?_eq_getElem (by omega)⟩
  obtain⟨u1,hu1⟩:∃u1,us[i+(n+1)]? = some u1:=⟨_,List.getElem?_eq_getElem (by omega)⟩
  obtain⟨u0,hu0⟩:∃u0,us[i+n]? = some u0:=⟨_,List.getElem?_eq_getElem (by omega)⟩
  have G:xB 1000000000 iQ vs n u2 u1 u0 v1 v0:=⟨by decide,PB,Ho,P3,E3,by rw[sL _ (by omega)];exact hu2,by rw[sL _ (by omega)];exact hu1,by rw[sL _ (by omega)];exact hu0,f1,f0,lT,hsW⟩
  have lu2:=G.aiA
  have lu1:=G.abB
  have lv1:=G.UU
  have qlt:=G.agB
  have HS:=G.HS
  have w1:IntKind.i64.wrap ((i:Int)+((n+2:Nat):Int))=((i+(n+2):Nat):Int):=wrapN _ (by omega) (by omega)
  have w2:IntKind.i64.wrap (((i+(n+2):Nat):Int)-1)=((i+(n+1):Nat):Int):=wrapN _ (by omega) (by omega)
  have wn1:IntKind.i64.wrap (((n+2:Nat):Int)-1)=((n+1:Nat):Int):=wrapN _ (by omega) (by omega)
  have ev1:bP 1 (iM vs) (VI ((n+1:Nat):Int)) (H2 us os)=some (.dB (tV v1) 0):=aI (f:=tV) (t := .op) (size:=1) (k := .i64) f1 rfl
  have e2:bP 1 (.ref 0 0 0 N N) (VI ((i+(n+2):Nat):Int)) (H2 us os)=some (.ptr 0 0 (i+(n+2)) 0):=by rw[aS Tj (by omega),Nat.zero_add]
  have e1:bP 1 (.ref 0 0 0 N N) (VI ((i+(n+1):Nat):Int)) (H2 us os)=some (.ptr 0 0 (i+(n+1)) 0):=by rw[aS Tj (by omega),Nat.zero_add]
  have l2:cN false 1 (.ptr 0 0 (i+(n+2)) 0) (H2 us os)=some (VI (u2:Int)):=Lf Tj hu2
  have l1:cN false 1 (.ptr 0 0 (i+(n+1)) 0) (H2 us os)=some (VI (u1:Int)):=Lf Tj hu1
  have avP:u2*1000000000+u1≤1000000000000000000:=x18 lu2 lu1
  have atT:u2*1000000000≤9223372036854775807:=x17 lu2
  have aoE:u2*1000000000+u1≤9223372036854775807:=Nat.le_trans avP (by decide)
  have ws2:IntKind.i64.wrap ((u2:Int)*1000000000)=((u2*1000000000:Nat):Int):=Oe atT
  have wa:IntKind.i64.wrap (((u2*1000000000:Nat):Int)+(u1:Int))=((u2*1000000000+u1:Nat):Int):=OT aoE
  have q1:=Ks (u2*1000000000+u1) v1 aoE lT
  have q2:=My (u2*1000000000+u1) v1 lT
  simp only[jC,FU,BO,C1,Ky,k16,It,hz,w1,w2,wn1,ev1,e1,e2,l1,l2,ws2,wa,q1,q2,VX,Nat.reduceEqDiff,Nat.reduceAdd]
  clear ws2 wa q1 q2 e1 e2 l1 l2 ev1 w1 w2 wn1
  have hh:=Nat.mod_add_div (u2*1000000000+u1) v1
  have Kz:=Nat.mod_lt (u2*1000000000+u1) lT
  have hdl:(u2*1000000000+u1) / v1≤u2*1000000000+u1:=Nat.div_le_self _ _
  have NR:val 1000000000 iQ / val 1000000000 vs≤(u2*1000000000+u1) / v1:=by
   have t1:=(DP (n:=n+1) (xs:=iQ) PB (by omega) (by rw[sL _ (by omega)];exact hu2) (by rw[sL _ (by omega)];exact hu1)).2
   have t2:=(AE (n:=n+1) Ho E3 f1).1
   rw[Nat.le_div_iff_mul_le lT]
   have t3:val 1000000000 iQ / val 1000000000 vs*(v1*1000000000^(n+1))≤val 1000000000 iQ / val 1000000000 vs*val 1000000000 vs:=Nat.mul_le_mul_left _ t2
   have t4:=Nat.div_mul_le_self (val 1000000000 iQ) (val 1000000000 vs)
   have t5:val 1000000000 iQ / val 1000000000 vs*v1*1000000000^(n+1)<(u2*1000000000+u1+1)*1000000000^(n+1):=by rw[Nat.mul_assoc];omega
   have:=Nat.lt_of_mul_lt_mul_right t5
   omega
  generalize hQ1:(u2*1000000000+u1) / v1=g0 at *
  generalize hQ2:(u2*1000000000+u1) % v1=l0 at *
  refine RN (i:=i) G Qk (by omega) DL hu0 BO C1 Ky It (by rfl) (by rfl) (by rw[Nat.mul_comm g0];omega) NR (by omega) (by omega) ?_
  intro TU g' hq Nf hgW r19 r12 r13 r14 r15 r16 r17
  have Su:TU 12=VI s:=r12.trans FU
  have SA:TU 13 = .ref 0 0 0 N N:=r13.trans BO
  have Qr:TU 14=iM vs:=r14.trans C1
  have R7:TU 15=VI ((n+2:Nat):Int):=r15.trans Ky
  have aeT:TU 16 = .ref 1 0 0 m m:=r16.trans k16
  have agJ:TU 17=VI i:=r17.trans It
  simp only[Su,SA,Qr,R7,aeT,agJ,r19,VX,Nat.reduceEqDiff,Nat.reduceAdd]
  have rU:g'*val 1000000000 vs≤val 1000000000 iQ+val 1000000000 vs:=by
   have:=Nat.mul_le_mul_right (val 1000000000 vs) Nf
   rw[Nat.add_mul,Nat.one_mul] at this
   have:=Nat.div_mul_le_self (val 1000000000 iQ) (val 1000000000 vs)
   omega
  obtain⟨low,alZ⟩:∃low,low=iQ.take (n+2):=⟨_,rfl⟩
  have hll:low.length=n+2:=by rw[alZ,List.length_take];omega
  have hld:∀d∈low,d<1000000000:=fun d hd=>PB d (by rw[alZ] at hd;exact List.mem_of_mem_take hd)
  have hsg:iQ=low++[u2]:=by
   have h1:iQ[n+2]? = some u2:=by rw[sL _ (by omega)];exact hu2
   have h2:=List.take_append_drop (n+2) iQ
   have h3:=(List.getElem?_eq_some_iff.1 h1)
   rw[List.drop_eq_getElem_cons h3.1,h3.2,List.drop_of_length_le (by omega),←alZ] at h2
   exact h2.symm
  have Qn:val 1000000000 iQ=val 1000000000 low+1000000000^(n+2)*u2:=by rw[hsg,tE,hll]
  have gG:∀(lw:List Nat) (t:Nat),(us.take i).map tV++lw.map tV++VI (t:Int)::(us.drop (i+(n+2+1))).map tV=(us.take i++(lw++[t])++us.drop (i+(n+2+1))).map tV:=fun lw t=>by simp
  have vO:aH (H2 us os) 0 0=some ((us.take i).map tV++low.map tV++VI (u2:Int)::(us.drop (i+(n+2+1))).map tV,1,true):=by
   rw[gG,←hsg,←Ur]
   rfl
  refine gC rfl ((Xs (o:=i) (n:=n+2) vO (Nat.zero_le _) (by simpa using Bw) hll E3 (by omega) DL hld Ho hgW lu2).mono ?_)
  rintro r H' ⟨Bs,c,rfl,B7,Xh,hc,hr,hE⟩
  have azU:val 1000000000 low<1000000000^(n+2):=by have:=pF hld;rwa [hll] at this
  have avM:val 1000000000 Bs<1000000000^(n+2):=by have:=pF Xh;rwa [B7] at this
  have rows:∀(lw:List Nat) (t q:Nat),lw.length=n+2→(∀d∈lw,d<1000000000)→t<1000000000→q=val 1000000000 iQ / val 1000000000 vs→val 1000000000 lw+1000000000^(n+2)*t=val 1000000000 iQ % val 1000000000 vs →
    ((us.take i++(lw++[t])++us.drop (i+(n+2+1))).length=N∧(∀d∈us.take i++(lw++[t])++us.drop (i+(n+2+1)),d<1000000000)∧val 1000000000 ((us.take i++(lw++[t])++us.drop (i+(n+2+1))).drop i)<val 1000000000 vs∧val 1000000000 (us.take i++(lw++[t])++us.drop (i+(n+2+1)))+1000000000^i*val 1000000000 vs*val 1000000000 ((os.set i q).drop i)=A):=by
   intro lw t q hlw avX ht S6 hse
   have ahH:val 1000000000 (lw++[t])=val 1000000000 iQ % val 1000000000 vs:=by rw[tE,hlw];exact hse
   have avO:(lw++[t]).length=n+3:=by rw[List.length_append,hlw];rfl
   have auS:∀d∈lw++[t],d<1000000000:=fun d hd=>by
    rcases List.mem_append.1 hd with h | h
    ·exact avX d h
    ·rw[List.mem_singleton.1 h];exact ht
   generalize lw++[t]=sB at *
   have afH:=Nat.mod_lt (val 1000000000 iQ) HS
   have Ux:(us.take i++sB++us.drop (i+(n+2+1))).drop i=sB++us.drop (i+(n+2+1)):=by rw[List.append_assoc,List.drop_append,List.drop_of_length_le (by omega),Bw];simp
   have TQ:(us.take i++sB++us.drop (i+(n+2+1))).take i=us.take i:=by rw[List.append_assoc,List.take_append_of_le_length (by omega),List.take_of_length_le (by omega)]
   have Sr:val 1000000000 ((us.take i++sB++us.drop (i+(n+2+1))).drop i)=val 1000000000 sB:=by rw[Ux,yX,acM,Nat.mul_zero,Nat.add_zero]
   refine⟨by rw[List.length_append,List.length_append,Bw,avO,List.length_drop];omega,fun d hd => ?_,by rw[Sr,ahH];exact afH,?_⟩
   ·rw[List.mem_append,List.mem_append] at hd
    rcases hd with(hd | hd) | hd
    ·exact JN d (List.mem_of_mem_take hd)
    ·exact auS d hd
    ·exact JN d (List.mem_of_mem_drop hd)
   ·have h1:=Nat.div_add_mod (val 1000000000 iQ) (val 1000000000 vs)
    rw[←S6,←ahH,Nat.mul_comm] at h1
    have h2:=pV (b:=1000000000) us i
    have h3:=pV (b:=1000000000) (us.take i++sB++us.drop (i+(n+2+1))) i
    rw[TQ,Bw,Sr] at h3
    rw[Bw,YV] at h2
    rw[set_drop (by omega),sW,h3]
    rw[h2,Nat.pow_succ] at hv
    exact Ls h1.symm hv
  have e3:∀(FD:List Nat) (d:Nat),bP 1 (.ref 1 0 0 m m) (VI i) (H2 FD os)=some (.ptr 1 0 i 0)∧cD 0 1 (.ptr 1 0 i 0) (VI (d:Int)) (H2 FD os)=some (H2 FD (os.set i d)):=fun FD d=>by
   refine⟨by rw[aS aoT (by omega),Nat.zero_add],?_⟩
   rw[show VI (d:Int)=tV d from rfl,eH (f:=tV) (e:=1) aoT (by omega) (Nat.zero_le _) rfl rfl]
   rfl
  have wi:IntKind.i64.wrap ((i:Int)-1)=(i:Int)-1:=wrap64 (by omega) (by omega)
  have hdm:=Nat.div_add_mod (val 1000000000 iQ) (val 1000000000 vs)
  have afH:=Nat.mod_lt (val 1000000000 iQ) HS
  generalize hPP:1000000000^(n+2)=P at *
  by_cases lM:(u2:Int)-(c:Int)<0
  ·
   rw[decide_eq_true lM] at hr
   subst hr
   have hgt:val 1000000000 iQ<g'*val 1000000000 vs:=by
    have h1:P*(u2+1)≤P*c:=Nat.mul_le_mul_left _ (by omega)
    rw[Nat.mul_add,Nat.mul_one] at h1
    omega
   have S6:g'=val 1000000000 iQ / val 1000000000 vs+1:=by
    rcases Nat.lt_or_ge (val 1000000000 iQ / val 1000000000 vs) g' with h | h
    ·omega
    ·have h1:g'*val 1000000000 vs≤val 1000000000 iQ / val 1000000000 vs*val 1000000000 vs:=Nat.mul_le_mul_right _ h
     have:=Nat.div_mul_le_self (val 1000000000 iQ) (val 1000000000 vs)
     omega
   have hg1:1≤g':=by rw[S6];exact Nat.le_add_left 1 _
   have wg:IntKind.i64.wrap ((g':Int)-1)=((g'-1:Nat):Int):=wrapN _ (by omega) (by omega)
   simp only[Su,SA,Qr,R7,aeT,agJ,r19,wg,VX,Nat.reduceEqDiff,Nat.reduceAdd]
   have AW:aH ((H2 us os).set 0 (.row 0 ((us.take i).map tV++Bs.map tV++VI ((u2:Int)-(c:Int))::(us.drop (i+(n+2+1))).map tV) 1 true)) 0 0=some ((us.take i).map tV++Bs.map tV++VI ((u2:Int)-(c:Int))::(us.drop (i+(n+2+1))).map tV,1,true):=rfl
   refine gC rfl ((W5 (o:=i) (n:=n+2) AW (Nat.zero_le _) (by simpa using Bw) B7 E3 (by omega) DL Xh Ho (by omega) (by omega)).mono ?_)
   rintro r H' ⟨Ui,c2,rfl,F3,hd2,Yi,hE2⟩
   rw[hPP] at hE2
   have amO:val 1000000000 Ui<P:=by have:=pF hd2;rwa [F3,hPP] at this
   obtain⟨hy,hZ⟩:(u2:Int)-(c:Int)+(c2:Int)=0∧val 1000000000 Ui=val 1000000000 iQ % val 1000000000 vs:=by
    refine ahB (P:=P) ?_ amO (by omega)
    have i1:(P:Int)*((u2:Int)-(c:Int)+(c2:Int))=(P:Int)*u2-(P:Int)*c+(P:Int)*c2:=by rw[Int.mul_add,Int.mul_sub]
    have i2:((P*u2:Nat):Int)=(P:Int)*u2:=by simp
    have i3:((P*c:Nat):Int)=(P:Int)*c:=by simp
    have i4:((P*c2:Nat):Int)=(P:Int)*c2:=by simp
    rw[i1,←i2,←i3,←i4]
    have i5:g'*val 1000000000 vs=val 1000000000 vs*(val 1000000000 iQ / val 1000000000 vs)+val 1000000000 vs:=by rw[S6,Nat.add_mul,Nat.one_mul,Nat.mul_comm (val 1000000000 vs)]
    omega
   have IA:((H2 us os).set 0 (.row 0 ((us.take i).map tV++Bs.map tV++VI ((u2:Int)-(c:Int))::(us.drop (i+(n+2+1))).map tV) 1 true)).set 0 (.row 0 ((us.take i).map tV++Ui.map tV++VI ((u2:Int)-(c:Int)+(c2:Int))::(us.drop (i+(n+2+1))).map tV) 1 true)=H2 (us.take i++(Ui++[0])++us.drop (i+(n+2+1))) os:=by
    rw[hy]
    rw[show (0:Int)=((0:Nat):Int) from rfl,gG]
    rfl
   rw[IA]
   obtain⟨x1,x2⟩:=e3 (us.take i++(Ui++[0])++us.drop (i+(n+2+1))) (g'-1)
   obtain⟨y1,y2,y3,y4⟩:=rows Ui 0 (g'-1) F3 hd2 (by decide) (by rw[S6,Nat.add_sub_cancel]) (by rw[Nat.mul_zero,Nat.add_zero];exact hZ)
   simp only[Su,SA,Qr,R7,aeT,agJ,x1,x2,wi,VX,Nat.reduceEqDiff,Nat.reduceAdd]
   refine⟨(i,us.take i++(Ui++[0])++us.drop (i+(n+2+1)),os.set i (g'-1)),by simp only;omega,by omega,rfl,y1,y2,by rw[List.length_set];exact jR,mN lW (by omega),y3,y4,?_⟩
   try (repeat' apply And.intro)<;>first | rfl | trivial
  ·rw[decide_eq_false lM] at hr
   subst hr
   obtain⟨t',ht'⟩:∃t':Nat,(u2:Int)-(c:Int)=(t':Int):=⟨u2-c,by omega⟩
   have hP1:P*u2=P*c+P*t':=by rw[←Nat.mul_add];congr 1;omega
   have CR:g'*val 1000000000 vs≤val 1000000000 iQ:=by omega
   have S6:g'=val 1000000000 iQ / val 1000000000 vs:=by
    have:=(Nat.le_div_iff_mul_le HS).2 CR
    omega
   have IA:(H2 us os).set 0 (.row 0 ((us.take i).map tV++Bs.map tV++VI ((u2:Int)-(c:Int))::(us.drop (i+(n+2+1))).map tV) 1 true)=H2 (us.take i++(Bs++[t'])++us.drop (i+(n+2+1))) os:=by
    rw[ht',gG]
    rfl
   rw[IA]
   obtain⟨x1,x2⟩:=e3 (us.take i++(Bs++[t'])++us.drop (i+(n+2+1))) g'
   have hse:val 1000000000 Bs+P*t'=val 1000000000 iQ % val 1000000000 vs:=by
    rw[←S6,Nat.mul_comm] at hdm
    omega
   obtain⟨y1,y2,y3,y4⟩:=rows Bs t' g' B7 Xh (by omega) S6 hse
   simp only[Su,SA,Qr,R7,aeT,agJ,r19,x1,x2,wi,VX,Nat.reduceEqDiff,Nat.reduceAdd]
   refine⟨(i,us.take i++(Bs++[t'])++us.drop (i+(n+2+1)),os.set i g'),by simp only;omega,by omega,rfl,y1,y2,by rw[List.length_set];exact jR,mN lW (by omega),y3,y4,?_⟩
   try (repeat' apply And.intro)<;>first | rfl | trivial
 ·have T3:j=0:=by omega
  subst T3
  rw[Nat.pow_zero,Nat.one_mul,List.drop_zero] at hv
  rw[List.drop_zero] at bH
  simp only[jC,FU,BO,C1,Ky,k16,It,hz,VX,Nat.reduceEqDiff,Nat.reduceAdd]
  exact hQ _ us os FU BO k16 Qk JN jR lW hv bH
end Go.PM
namespace Go.PM
def bl (n:Nat):Nat:=(aC 2 n).length
theorem OU (n:Nat):n<2^bl n:=gW (by decide) n
theorem G9 {n k:Nat} (h:n<2^k):bl n≤k:=mV (by decide) h
theorem kY {m n:Nat} (h:m≤n):bl m≤bl n:=eJ (by decide) h
theorem oH (m n:Nat):bl (m*n)≤bl m+bl n:=by
 refine G9 ?_
 rw[Nat.pow_add]
 exact Nat.mul_lt_mul'' (OU m) (OU n)
theorem GC {n k:Nat} (h:bl n≤k):n<2^k:=Nat.lt_of_lt_of_le (OU n) (Nat.pow_le_pow_right (by decide) h)
theorem Uy {m n k:Nat} (hm:bl m≤k) (hn:bl n≤k):bl (m+n)≤k+1:=by
 refine G9 ?_
 have h1:=GC hm
 have h2:=GC hn
 rw[Nat.pow_succ]
 omega
theorem Wf:bl 0=0:=by simp[bl,cG]
theorem L5:bl 1=1:=by simp[bl,jN (b:=2) (by decide) (n:=1) (by decide),cG]
theorem acP {n:Nat} (h:n≠0):1≤bl n:=by
 have:=kY (m:=1) (n:=n) (by omega)
 rwa [L5] at this
theorem aiG (n:Nat):32*(aC 4294967296 n).length≤bl n+31:=by
 by_cases h:n=0
 ·subst h;rw[cG];simp
 ·have h1:=KA (b:=4294967296) (by decide) h
  have h2:=OU n
  have e:(4294967296:Nat)=2^32:=by decide
  rw[e] at h1 ⊢
  rw[←Nat.pow_mul] at h1
  have h3:2^(32*((aC (2^32) n).length-1))<2^bl n:=by omega
  have h4:=(Nat.pow_lt_pow_iff_right (by decide)).1 h3
  omega
theorem ahD (n:Nat):29*(aC 1000000000 n).length≤bl n+28:=by
 by_cases h:n=0
 ·subst h;rw[cG];simp
 ·have h1:=KA (b:=1000000000) (by decide) h
  have h2:=OU n
  have h5:(2^29)^((aC 1000000000 n).length-1)≤1000000000^((aC 1000000000 n).length-1):=Nat.pow_le_pow_left (by decide) _
  rw[←Nat.pow_mul] at h5
  have h3:2^(29*((aC 1000000000 n).length-1))<2^bl n:=by omega
  have h4:=(Nat.pow_lt_pow_iff_right (by decide)).1 h3
  omega
def bQ (q:Rat):Nat:=max (bl q.num.natAbs) (bl q.den)
theorem sF {q:Rat}:bl q.num.natAbs≤bQ q:=Nat.le_max_left _ _
theorem qE {q:Rat}:bl q.den≤bQ q:=Nat.le_max_right _ _
theorem OY {q:Rat}:1≤bQ q:=Nat.le_trans (acP q.den_nz) qE
theorem QE {q:Rat} {k:Nat} (h1:bl q.num.natAbs≤k) (h2:bl q.den≤k):bQ q≤k:=Nat.max_le.2 ⟨h1,h2⟩
theorem Gz {n:Int} {d k:Nat} (h1:bl n.natAbs≤k) (h2:bl d≤k) (hk:1≤k):bQ (mkRat n d)≤k:=by
 refine QE ?_ ?_
 ·rw[Rat.num_mkRat]
  split
  ·rw[Int.natAbs_zero,Wf];omega
  ·exact Nat.le_trans (kY (Int.natAbs_ediv_le_natAbs _ _)) h1
 ·rw[Rat.den_mkRat]
  split
  ·rw[L5];exact hk
  ·exact Nat.le_trans (kY (Nat.div_le_self _ _)) h2
theorem Ot (a b:Rat):bQ (a+b)≤bQ a+bQ b+1:=by
 rw[Rat.add_def']
 have h1 := @sF a
 have h2 := @sF b
 have h3 := @qE a
 have h4 := @qE b
 have h5:=oH a.num.natAbs b.den
 have h6:=oH b.num.natAbs a.den
 have h7:=oH a.den b.den
 refine Gz ?_ (by omega) (by omega)
 have h8:(a.num*b.den+b.num*a.den).natAbs≤a.num.natAbs*b.den+b.num.natAbs*a.den:=by
  refine Nat.le_trans (Int.natAbs_add_le _ _) ?_
  rw[Int.natAbs_mul,Int.natAbs_mul,Int.natAbs_natCast,Int.natAbs_natCast]
  exact Nat.le_refl _
 exact Nat.le_trans (kY h8) (Uy (by omega) (by omega))
theorem WU (a b:Rat):bQ (a*b)≤bQ a+bQ b:=by
 rw[Rat.mul_def']
 have h1 := @sF a
 have h2 := @sF b
 have h3 := @qE a
 have h4 := @qE b
 have h5:=oH a.num.natAbs b.num.natAbs
 have h7:=oH a.den b.den
 have h8 := @OY a
 refine Gz ?_ (by omega) (by omega)
 rw[Int.natAbs_mul]
 omega
theorem I4 (a:Rat):bQ (-a)=bQ a:=by simp[bQ]
theorem WD (a b:Rat):bQ (a-b)≤bQ a+bQ b+1:=by
 rw[Rat.sub_eq_add_neg]
 have:=Ot a (-b)
 rwa [I4] at this
theorem Oa (a:Rat):bQ a⁻¹≤bQ a:=by
 have h1 := @sF a
 have h2 := @qE a
 refine QE ?_ ?_
 ·rw[Rat.num_inv,Int.natAbs_mul,Int.natAbs_natCast]
  refine Nat.le_trans (kY ?_) h2
  have h3:a.num.sign.natAbs≤1:=by
   rcases Int.lt_trichotomy a.num 0 with h | h | h
   ·rw[Int.sign_eq_neg_one_of_neg h];decide
   ·rw[h];decide
   ·rw[Int.sign_eq_one_of_pos h];decide
  have:=Nat.mul_le_mul_right a.den h3
  omega
 ·rw[Rat.den_inv]
  split
  ·rw[L5];exact OY
  ·exact h1
theorem Xx (a b:Rat):bQ (a / b)≤bQ a+bQ b:=by
 rw[Rat.div_def]
 have:=WU a b⁻¹
 have:=Oa b
 omega
theorem L6:bQ 0=1:=by simp[bQ,Wf,L5]
theorem HT:bQ 1=1:=by simp[bQ,L5]
def lB (neg:Bool) (t:Nat):Int:=if neg then -(t:Int) else t
theorem oZ (neg:Bool) (t:Nat):(lB neg t).natAbs=t:=by cases neg<;>simp[lB]
theorem Py {neg:Bool} {t:Nat}:lB neg t<0↔neg=true∧t≠0:=by cases neg<;>simp[lB]<;>omega
theorem zS (neg:Bool):lB neg 0=0:=by cases neg<;>rfl
theorem GZ (z:Int):lB (decide (z<0)) z.natAbs=z:=by
 by_cases h:z<0<;>simp[lB,h]<;>omega
theorem agW {neg:Bool} {t g:Nat}:(lB neg t) / (g:Int)=lB neg (t / g)∨¬g ∣ t:=by
 by_cases h:g ∣ t
 ·left
  obtain⟨k,rfl⟩:=h
  by_cases hg:g=0
  ·subst hg;simp[zS]
  ·rw[Nat.mul_div_cancel_left _ (by omega)]
   cases neg
   ·simp only[lB]
    simp only[Bool.false_eq_true,if_false]
    rw[Int.natCast_mul,Int.mul_ediv_cancel_left _ (by omega)]
   ·simp only[lB,if_true]
    rw[Int.natCast_mul,←Int.mul_neg,Int.mul_ediv_cancel_left _ (by omega)]
 ·exact .inr h
theorem F7 {neg:Bool} {t b:Nat} (hb:b≠0):(mkRat (lB neg t) b).num=lB neg (t / Nat.gcd t b):=by
 rw[Rat.num_mkRat,if_neg hb,oZ,Nat.gcd_comm]
 rcases agW (neg:=neg) (t:=t) (g:=Nat.gcd t b) with h | h
 ·exact h
 ·exact absurd (Nat.gcd_dvd_left _ _) h
theorem Pw {neg:Bool} {t b:Nat} (hb:b≠0):(mkRat (lB neg t) b).den=b / Nat.gcd t b:=by
 rw[Rat.den_mkRat,if_neg hb,oZ,Nat.gcd_comm]
theorem KC (q:Rat):mkRat (lB (decide (q.num<0)) q.num.natAbs) q.den=q:=by rw[GZ,Rat.mkRat_self]
end Go.PM
namespace Go.PM
theorem aeA (neg:Bool) (t d:Nat):lB neg (t*d)=lB neg t*(d:Int):=by cases neg<;>simp[lB,Int.neg_mul]
theorem EA (q:Rat) {d:Nat} (hd:d≠0):mkRat (lB (decide (q.num<0)) (q.num.natAbs*d)) (q.den*d)=q:=by
 rw[aeA,Rat.mkRat_mul_right hd,KC]
theorem C4 (X Y:Int) {B:Nat} (hB:B≠0):mkRat X B+mkRat Y B=mkRat (X+Y) B:=by
 rw[Rat.mkRat_add_mkRat _ _ hB hB,←Int.add_mul,Rat.mkRat_mul_right hB]
theorem PG (n:Bool) (x y:Nat):lB n x+lB n y=lB n (x+y):=by cases n<;>simp[lB]<;>omega
theorem Uf {m n:Bool} (h:m≠n) {x y:Nat} (hx:y≤x):lB m x+lB n y=lB m (x-y):=by
 cases m<;>cases n<;>simp_all [lB]<;>omega
theorem TX {m n:Bool} (h:m≠n) {x y:Nat} (hx:x≤y):lB m x+lB n y=lB n (y-x):=by
 cases m<;>cases n<;>simp_all [lB]<;>omega
theorem Pj (n:Int) {d:Nat} (hd:d≠0):(mkRat n d).num.natAbs=n.natAbs / Nat.gcd n.natAbs d:=by
 have:=F7 (neg:=decide (n<0)) (t:=n.natAbs) (b:=d) hd
 rw[GZ] at this
 rw[this,oZ]
theorem Km (n:Int) {d:Nat} (hd:d≠0):(mkRat n d).den=d / Nat.gcd n.natAbs d:=by
 have:=Pw (neg:=decide (n<0)) (t:=n.natAbs) (b:=d) hd
 rwa [GZ] at this
theorem aiX (n:Int) {d:Nat} (hd:d≠0):(mkRat n d).num<0↔n<0:=by
 have:=F7 (neg:=decide (n<0)) (t:=n.natAbs) (b:=d) hd
 rw[GZ] at this
 rw[this,Py]
 have h:n<0→n.natAbs / Nat.gcd n.natAbs d≠0:=fun h=>by
  have:=Nat.div_pos (Nat.le_of_dvd (by omega) (Nat.gcd_dvd_left n.natAbs d)) (Nat.gcd_pos_of_pos_left d (show 0<n.natAbs by omega))
  omega
 constructor
 ·rintro⟨h1,_⟩;simpa using h1
 ·intro h1;exact⟨by simpa using h1,h h1⟩
theorem BU (t:Nat) {d:Nat} (hd:d≠0):(mkRat (lB false t) d).num.natAbs ∣ t∧(mkRat (lB false t) d).den ∣ d:=by
 rw[Pj _ hd,Km _ hd,oZ]
 exact⟨Nat.div_dvd_of_dvd (Nat.gcd_dvd_left _ _),Nat.div_dvd_of_dvd (Nat.gcd_dvd_right _ _)⟩
theorem Yl (a b:Rat):(a*b).num.natAbs=(mkRat (lB false a.num.natAbs) b.den).num.natAbs*(mkRat (lB false b.num.natAbs) a.den).num.natAbs ∧
  (a*b).den=(mkRat (lB false a.num.natAbs) b.den).den*(mkRat (lB false b.num.natAbs) a.den).den:=by
 have ha:=a.den_nz
 have hb:=b.den_nz
 have F9:a.den*b.den≠0:=Nat.mul_ne_zero ha hb
 obtain⟨u1,u2⟩:=BU a.num.natAbs hb
 obtain⟨v1,v2⟩:=BU b.num.natAbs ha
 have e:(mkRat (lB false a.num.natAbs) b.den)*(mkRat (lB false b.num.natAbs) a.den)=mkRat (lB false a.num.natAbs*lB false b.num.natAbs) (b.den*a.den):=Rat.mkRat_mul_mkRat _ _ _ _
 have en:((mkRat (lB false a.num.natAbs) b.den)*(mkRat (lB false b.num.natAbs) a.den)).num.natAbs=(a*b).num.natAbs:=by
  rw[e,Rat.mul_def',Pj _ F9,Pj _ (Nat.mul_ne_zero hb ha),Int.natAbs_mul,Int.natAbs_mul,oZ,oZ,Nat.mul_comm b.den]
 have ed:((mkRat (lB false a.num.natAbs) b.den)*(mkRat (lB false b.num.natAbs) a.den)).den=(a*b).den:=by
  rw[e,Rat.mul_def',Km _ F9,Km _ (Nat.mul_ne_zero hb ha),Int.natAbs_mul,Int.natAbs_mul,oZ,oZ,Nat.mul_comm b.den]
 rw[←en,←ed]
 generalize hu:mkRat (lB false a.num.natAbs) b.den=u at *
 generalize hv:mkRat (lB false b.num.natAbs) a.den=v at *
 have c1:Nat.Coprime u.num.natAbs u.den:=u.reduced
 have c2:Nat.Coprime v.num.natAbs v.den:=v.reduced
 have c3:Nat.Coprime u.num.natAbs v.den:=Nat.Coprime.coprime_dvd_left u1 (Nat.Coprime.coprime_dvd_right v2 a.reduced)
 have c4:Nat.Coprime v.num.natAbs u.den:=Nat.Coprime.coprime_dvd_left v1 (Nat.Coprime.coprime_dvd_right u2 b.reduced)
 have c:Nat.gcd (u.num*v.num).natAbs (u.den*v.den)=1:=by
  rw[Int.natAbs_mul]
  exact Nat.Coprime.mul_left (Nat.Coprime.mul_right c1 c3) (Nat.Coprime.mul_right c4 c2)
 rw[Rat.mul_def',Pj _ (Nat.mul_ne_zero u.den_nz v.den_nz),Km _ (Nat.mul_ne_zero u.den_nz v.den_nz),c,Nat.div_one,Nat.div_one,Int.natAbs_mul]
 exact⟨rfl,rfl⟩
theorem Q1 {a b:Rat} (ha:a.num≠0) (hb:b.num≠0):(a*b).num<0↔(decide (a.num<0) != decide (b.num<0))=true:=by
 rw[Rat.mul_def',aiX _ (Nat.mul_ne_zero a.den_nz b.den_nz)]
 rcases Int.lt_or_gt_of_ne ha with h1 | h1<;>rcases Int.lt_or_gt_of_ne hb with h2 | h2
 ·have:=Int.mul_pos_of_neg_of_neg h1 h2
  rw[decide_eq_true h1,decide_eq_true h2]
  simp;omega
 ·have:=Int.mul_neg_of_neg_of_pos h1 h2
  rw[decide_eq_true h1,decide_eq_false (show ¬b.num<0 by omega)]
  simp[this]
 ·have:=Int.mul_neg_of_pos_of_neg h1 h2
  rw[decide_eq_false (show ¬a.num<0 by omega),decide_eq_true h2]
  simp[this]
 ·have:=Int.mul_pos h1 h2
  rw[decide_eq_false (show ¬a.num<0 by omega),decide_eq_false (show ¬b.num<0 by omega)]
  simp;omega
def kB (q:Rat):Int:=if q.num=0 then 0 else if q.num<0 then -1 else 1
def SY (a b:Rat):Int:=if kB a=kB b then (if a.num<0 then -fB (a.num.natAbs*b.den) (b.num.natAbs*a.den) else fB (a.num.natAbs*b.den) (b.num.natAbs*a.den)) else kB a-kB b
theorem vG {m n:Nat}:fB m n<0↔m<n:=by
 unfold fB
 split
 ·omega
 ·split<;>omega
theorem Wi {m n:Nat}:0<fB m n↔n<m:=by
 unfold fB
 split
 ·omega
 ·split<;>omega
theorem A3 {m n:Nat}:fB m n=0↔m=n:=by
 unfold fB
 split
 ·omega
 ·split<;>omega
theorem oP {q:Rat} (h:q.num<0):kB q = -1:=by unfold kB;rw[if_neg (by omega),if_pos h]
theorem kX {q:Rat} (h:q.num=0):kB q=0:=by unfold kB;rw[if_pos h]
theorem oQ {q:Rat} (h:0<q.num):kB q=1:=by unfold kB;rw[if_neg (by omega),if_neg (by omega)]
theorem afZ {a b:Rat}:SY a b<0↔a<b:=by
 rw[Rat.lt_iff]
 have hA:(0:Int)<a.den:=by have:=a.den_nz;omega
 have hB:(0:Int)<b.den:=by have:=b.den_nz;omega
 have eA:((a.num.natAbs*b.den:Nat):Int)=(a.num.natAbs:Int)*b.den:=by simp
 have eB:((b.num.natAbs*a.den:Nat):Int)=(b.num.natAbs:Int)*a.den:=by simp
 unfold SY
 rcases Int.lt_trichotomy a.num 0 with h1 | h1 | h1<;>rcases Int.lt_trichotomy b.num 0 with h2 | h2 | h2
 ·rw[oP h1,oP h2,if_pos rfl,if_pos h1]
  have f1:(a.num.natAbs:Int) = -a.num:=by omega
  have f2:(b.num.natAbs:Int) = -b.num:=by omega
  rw[f1,Int.neg_mul] at eA
  rw[f2,Int.neg_mul] at eB
  have := @Wi (a.num.natAbs*b.den) (b.num.natAbs*a.den)
  omega
 ·rw[oP h1,kX h2,if_neg (by decide),h2,Int.zero_mul]
  have:=Int.mul_neg_of_neg_of_pos h1 hB
  omega
 ·rw[oP h1,oQ h2,if_neg (by decide)]
  have:=Int.mul_neg_of_neg_of_pos h1 hB
  have:=Int.mul_pos h2 hA
  omega
 ·rw[kX h1,oP h2,if_neg (by decide),h1,Int.zero_mul]
  have:=Int.mul_neg_of_neg_of_pos h2 hA
  omega
 ·rw[kX h1,kX h2,if_pos rfl,h1,h2];simp[fB]
 ·rw[kX h1,oQ h2,if_neg (by decide),h1,Int.zero_mul]
  have:=Int.mul_pos h2 hA
  omega
 ·rw[oQ h1,oP h2,if_neg (by decide)]
  have:=Int.mul_neg_of_neg_of_pos h2 hA
  have:=Int.mul_pos h1 hB
  omega
 ·rw[oQ h1,kX h2,if_neg (by decide),h2,Int.zero_mul]
  have:=Int.mul_pos h1 hB
  omega
 ·rw[oQ h1,oQ h2,if_pos rfl,if_neg (by omega)]
  have f1:(a.num.natAbs:Int)=a.num:=by omega
  have f2:(b.num.natAbs:Int)=b.num:=by omega
  rw[f1] at eA
  rw[f2] at eB
  have := @vG (a.num.natAbs*b.den) (b.num.natAbs*a.den)
  omega
theorem aaC (m n:Nat):fB n m = -fB m n:=by
 rcases Nat.lt_trichotomy m n with h | h | h
 ·rw[fB,fB,if_neg (by omega),if_neg (by omega),if_pos h];rfl
 ·subst h;rw[fB,if_neg (by omega),if_pos rfl];rfl
 ·rw[fB,fB,if_pos h,if_neg (by omega),if_neg (by omega)]
theorem ZY (a b:Rat):SY b a = -SY a b:=by
 unfold SY
 by_cases h:kB a=kB b
 ·have h2:b.num<0↔a.num<0:=by
   rcases Int.lt_trichotomy a.num 0 with h1 | h1 | h1<;>rcases Int.lt_trichotomy b.num 0 with h2 | h2 | h2
   ·simp[h1,h2]
   ·rw[oP h1,kX h2] at h;omega
   ·rw[oP h1,oQ h2] at h;omega
   ·rw[kX h1,oP h2] at h;omega
   ·omega
   ·rw[kX h1,oQ h2] at h;omega
   ·rw[oQ h1,oP h2] at h;omega
   ·rw[oQ h1,kX h2] at h;omega
   ·omega
  rw[if_pos h,if_pos h.symm,aaC]
  by_cases h3:a.num<0
  ·rw[if_pos h3,if_pos (h2.2 h3)]
  ·rw[if_neg h3,if_neg (mt h2.1 h3)]
 ·rw[if_neg h,if_neg (fun h'=>h h'.symm)];omega
theorem Ws {a b:Rat}:0<SY a b↔b<a:=by
 rw[←afZ,ZY a b];omega
theorem B5 {q:Rat}:kB q=0↔q=0:=by
 rw[←Rat.num_eq_zero]
 rcases Int.lt_trichotomy q.num 0 with h | h | h
 ·rw[oP h];omega
 ·rw[kX h];omega
 ·rw[oQ h];omega
end Go.PM