/- Texts of a claim, in one: part 8. -/
import Derived.Test.YtodamlihdkalfaaGreatDoorKVg
set_option linter.unusedSimpArgs false
set_option linter.unusedVariables false
namespace Go.PM
section
variable {H:aA} {b g o i lo d:Nat} {L R:List VV} {low:List Nat}
theorem XH (hr:aF H b g=some (L++low.map tV++R,1,true)) (ho:L.length=o) (hi:low[i]? = some d):cO false 1 (.ptr b g (o+i) 0) H=some (VI (d:Int)):=by
 have aV:=(List.getElem?_eq_some_iff.1 hi).1
 rw[Mv hr (x:=tV d) (by rw[Ma ho (by simpa using aV)];simp[hi])]
 rfl
theorem XJ (hr:aF H b g=some (L++low.map tV++R,1,true)) (ho:L.length=o) (hi:i<low.length) (eJ:lo≤b):bY lo 1 (.ptr b g (o+i) 0) (VI (d:Int)) H=some (H.set b (.row g (L++(low.set i d).map tV++R) 1 true)):=by
 rw[dC hr (by simp only[List.length_append,List.length_map];omega) eJ rfl rfl,R7 ho (by simpa using hi),List.map_set]
theorem QE {n:Nat} {z:Int} (hr:aF H b g=some (L++low.map tV++VI z::R,1,true)) (ho:L.length=o) (hn:low.length=n):cO false 1 (.ptr b g (o+n) 0) H=some (VI z):=by
 rw[Mv hr (x:=VI z) (by rw[List.getElem?_append_right (by simp;omega)];simp[ho,hn])]
 rfl
theorem X5 {n:Nat} {z z':Int} (hr:aF H b g=some (L++low.map tV++VI z::R,1,true)) (ho:L.length=o) (hn:low.length=n) (eJ:lo≤b):bY lo 1 (.ptr b g (o+n) 0) (VI z') H=some (H.set b (.row g (L++low.map tV++VI z'::R) 1 true)):=by
 rw[dC hr (by simp only[List.length_append,List.length_map,List.length_cons];omega) eJ rfl rfl,List.set_append_right _ _ (by simp;omega)]
 congr 5
 simp[ho,hn]
end
theorem ME {P A N B c u x t r k m q T:Nat} (h:A+P*c=N+t*B) (h1:r+m+c=u+T*k) (h2:m+T*q=x*t):(A+P*u)+P*T*(q+k)=(N+P*r)+t*(B+P*x):=by
 have e1:P*(r+m+c)=P*(u+T*k):=by rw[h1]
 have e2:P*(m+T*q)=P*(x*t):=by rw[h2]
 grind
theorem Yb {x t:Nat} (hx:x<1000000000) (ht:t<1000000000):x*t≤999999998000000001∧x*t / 1000000000≤999999998:=by
 have h:x*t≤999999999*999999999:=Nat.mul_le_mul (by omega) (by omega)
 omega
theorem Uq {H:aA} {lo b g o n N t top:Nat} {L R:List VV} {low vs:List Nat} (hr:aF H b g=some (L++low.map tV++VI (top:Int)::R,1,true)) (eJ:lo≤b) (ho:L.length=o) (hl:low.length=n) (DP:vs.length=n) (hN:o+n<N) (BH:N≤70368744177664)
  (WV:∀d∈low,d<1000000000) (D5:∀d∈vs,d<1000000000) (ht:t<1000000000) (WO:top<1000000000) :
  iV 239 [.ref b g 0 N N,iY vs,VI (o:Int),VI (t:Int)] lo H fun r H'=>∃(zD:List Nat) (c:Nat),H'=H.set b (.row g (L++zD.map tV++VI ((top:Int)-(c:Int))::R) 1 true)∧zD.length=n∧(∀d∈zD,d<1000000000)∧c≤1000000000 ∧
   r=VB (decide ((top:Int)-(c:Int)<0))∧val 1000000000 low+1000000000^n*c=val 1000000000 zD+t*val 1000000000 vs:=by
 refine iV.walk ⟨true,false⟩ EE (Nat.le_of_ble_eq_true rfl) ?_
 have rd:∀(s:List Nat) (z:Int),aF (H.set b (.row g (L++s.map tV++VI z::R) 1 true)) b g=some (L++s.map tV++VI z::R,1,true):=fun s z=>lF hr
 have ad:∀(K:aA) (es:List VV) (i:Nat),aF K b g=some (es,1,true)→i≤n→bI 1 (.ref b g 0 N N) (VI ((o+i:Nat):Int)) K=some (.ptr b g (o+i) 0):=fun K es i h hi=>by rw[aQ h (by omega),Nat.zero_add]
 simp only[AF,wV,fI,VX,Nat.reduceEqDiff,Nat.reduceAdd]
 refine aR (fun(u:Nat×List Nat×Nat) ρ K=>u.1≤n∧K=H.set b (.row g (L++u.2.1.map tV++VI (top:Int)::R) 1 true)∧u.2.1.length=n∧(∀d∈u.2.1,d<1000000000)∧u.2.2≤1000000000∧val 1000000000 (low.take u.1)+1000000000^u.1*u.2.2=val 1000000000 (u.2.1.take u.1)+t*val 1000000000 (vs.take u.1)∧(∀j,u.1≤j→u.2.1[j]? = low[j]?) ∧
  ρ 0 = .ref b g 0 N N∧ρ 1=iY vs∧ρ 2=VI o∧ρ 3=VI t∧ρ 9=VI u.2.2∧ρ 13=iY vs∧ρ 14=VI vs.length∧ρ 15=VI u.1) (fun u=>n-u.1) (0,low,0) ⟨Nat.zero_le _,(tF hr).symm,hl,WV,by simp,by simp[val],fun _ _=>rfl,by (repeat' apply And.intro)<;>first | rfl | trivial⟩ ?_
 rintro⟨i,outs,c⟩ ρ K ⟨hi,rfl,iW,mJ,hc,hv,E9,k0,k1,k2,k3,k9,zK,AR,HH⟩
 simp only at hi iW mJ hc hv E9 k9 HH
 by_cases dK:(i:Int)<(vs.length:Int)
 ·obtain⟨u,hu⟩:∃u,outs[i]? = some u:=⟨_,List.getElem?_eq_getElem (by omega)⟩
  have lu:=mJ u (List.mem_of_getElem? hu)
  have hu':low[i]? = some u:=by rw[←E9 i (Nat.le_refl _)];exact hu
  obtain⟨x,hx⟩:∃x,vs[i]? = some x:=⟨_,List.getElem?_eq_getElem (by omega)⟩
  have lx:=D5 x (List.mem_of_getElem? hx)
  obtain⟨xt1,xt2⟩:=Yb lx ht
  have e1:bI 1 (iY vs) (VI i) (H.set b (.row g (L++outs.map tV++VI (top:Int)::R) 1 true))=some (.cY (tV x) 0):=aK (f:=tV) (t := .op) (size:=1) (k := .i64) hx rfl
  have w1:IntKind.i64.wrap ((o:Int)+(i:Int))=((o+i:Nat):Int):=wrapN _ (by omega) (by omega)
  have e2:=ad _ _ i (rd outs top) (by omega)
  have e3:=XH (rd outs top) ho hu
  have e4:∀d:Nat,bY lo 1 (.ptr b g (o+i) 0) (VI (d:Int)) (H.set b (.row g (L++outs.map tV++VI (top:Int)::R) 1 true))=some (H.set b (.row g (L++(outs.set i d).map tV++VI (top:Int)::R) 1 true)):=fun d=>by rw[XJ (rd outs top) ho (by omega) eJ,kJ]
  have w2:IntKind.i64.wrap ((x:Int)*(t:Int))=((x*t:Nat):Int):=wrapN _ (by simp) (by omega)
  have r1:=Sg (x*t)
  have q1:=R8 (x*t) (by omega)
  have hm:=Nat.mod_lt (x*t) (show 0<1000000000 by decide)
  have hdv:=Nat.mod_add_div (x*t) 1000000000
  have wi:IntKind.i64.wrap ((i:Int)+1)=((i+1:Nat):Int):=wrapN (i+1) (by omega) (by omega)
  generalize hmq:x*t % 1000000000=m at *
  generalize hqq:x*t / 1000000000=q at *
  have w3:IntKind.i64.wrap ((u:Int)-(m:Int))=(u:Int)-(m:Int):=wrap64 (by omega) (by omega)
  have w4:IntKind.i64.wrap ((u:Int)-(m:Int)-(c:Int))=(u:Int)-(m:Int)-(c:Int):=wrap64 (by omega) (by omega)
  have step:∀r k:Nat,r<1000000000→r+m+c=u+1000000000*k→val 1000000000 (low.take (i+1))+1000000000^(i+1)*(q+k)=val 1000000000 ((outs.set i r).take (i+1))+t*val 1000000000 (vs.take (i+1))∧(∀d∈outs.set i r,d<1000000000)∧(∀j,i+1≤j→(outs.set i r)[j]? = low[j]?)∧(outs.set i r).length=n:=by
   intro r k hr hk
   refine⟨?_,mA mJ hr,fun j hj=>by rw[List.getElem?_set_ne (by omega)];exact E9 j (by omega),by rw[List.length_set];exact iW⟩
   rw[bH hu',bH hx,gH (by omega),Nat.pow_succ]
   exact ME hv hk hdv
  by_cases h1:(u:Int)-(m:Int)-(c:Int)<0
  ·have w5:IntKind.i64.wrap ((u:Int)-(m:Int)-(c:Int)+1000000000)=(u:Int)-(m:Int)-(c:Int)+1000000000:=wrap64 (by omega) (by omega)
   have w6:IntKind.i64.wrap ((q:Int)+1)=((q+1:Nat):Int):=wrapN _ (by omega) (by omega)
   by_cases h2:(u:Int)-(m:Int)-(c:Int)+1000000000<0
   ·obtain⟨r,hr⟩:∃r:Nat,r+m+c=u+1000000000*2:=⟨u+1000000000*2-m-c,by omega⟩
    have w7:IntKind.i64.wrap ((u:Int)-(m:Int)-(c:Int)+1000000000+1000000000)=(r:Int):=wrapN r (by omega) (by omega)
    have w8:IntKind.i64.wrap (((q+1:Nat):Int)+1)=((q+2:Nat):Int):=wrapN _ (by omega) (by omega)
    obtain⟨s1,s2,s3,s4⟩:=step r 2 (by omega) hr
    simp only[iQ,k0,k1,k2,k3,k9,zK,AR,HH,dK,e1,e2,e3,e4,w1,w2,w3,w4,w5,w6,w7,w8,wi,r1,q1,h1,h2,VX,Nat.reduceEqDiff,Nat.reduceAdd]
    refine⟨(i+1,outs.set i r,q+2),by simp only;omega,by omega,rfl,s4,s2,by simp only;omega,s1,s3,?_⟩
    try (repeat' apply And.intro)<;>first | rfl | trivial
   ·obtain⟨r,hr⟩:∃r:Nat,r+m+c=u+1000000000*1:=⟨u+1000000000*1-m-c,by omega⟩
    have w7:IntKind.i64.wrap ((u:Int)-(m:Int)-(c:Int)+1000000000)=(r:Int):=wrapN r (by omega) (by omega)
    have h3:¬(r:Int)<0:=by omega
    obtain⟨s1,s2,s3,s4⟩:=step r 1 (by omega) hr
    simp only[iQ,k0,k1,k2,k3,k9,zK,AR,HH,dK,e1,e2,e3,e4,w1,w2,w3,w4,w6,w7,wi,r1,q1,h1,h3,VX,Nat.reduceEqDiff,Nat.reduceAdd]
    refine⟨(i+1,outs.set i r,q+1),by simp only;omega,by omega,rfl,s4,s2,by simp only;omega,s1,s3,?_⟩
    try (repeat' apply And.intro)<;>first | rfl | trivial
  ·obtain⟨r,hr⟩:∃r:Nat,r+m+c=u+1000000000*0:=⟨u-m-c,by omega⟩
   have w7:IntKind.i64.wrap ((u:Int)-(m:Int)-(c:Int))=(r:Int):=wrapN r (by omega) (by omega)
   have h3:¬(r:Int)<0:=by omega
   obtain⟨s1,s2,s3,s4⟩:=step r 0 (by omega) hr
   simp only[iQ,k0,k1,k2,k3,k9,zK,AR,HH,dK,e1,e2,e3,e4,w1,w2,w3,w7,wi,r1,q1,h3,VX,Nat.reduceEqDiff,Nat.reduceAdd]
   refine⟨(i+1,outs.set i r,q),by simp only;omega,by omega,rfl,s4,s2,by simp only;omega,s1,s3,?_⟩
   try (repeat' apply And.intro)<;>first | rfl | trivial
 ·have qG:i=n:=by omega
  subst qG
  rw[List.take_of_length_le (by omega),List.take_of_length_le (by omega),List.take_of_length_le (by omega)] at hv
  have w1:IntKind.i64.wrap ((o:Int)+(vs.length:Int))=((o+i:Nat):Int):=wrapN _ (by omega) (by omega)
  have e2:=ad _ _ i (rd outs top) (by omega)
  have e2':=ad _ _ i (rd outs ((top:Int)-(c:Int))) (by omega)
  have e3:=QE (rd outs top) ho iW
  have e3':=QE (rd outs ((top:Int)-(c:Int))) ho iW
  have e4:bY lo 1 (.ptr b g (o+i) 0) (VI ((top:Int)-(c:Int))) (H.set b (.row g (L++outs.map tV++VI (top:Int)::R) 1 true))=some (H.set b (.row g (L++outs.map tV++VI ((top:Int)-(c:Int))::R) 1 true)):=by rw[X5 (rd outs top) ho iW eJ,kJ]
  have w2:IntKind.i64.wrap ((top:Int)-(c:Int))=(top:Int)-(c:Int):=wrap64 (by omega) (by omega)
  simp only[iQ,k0,k1,k2,k3,k9,zK,AR,HH,dK,fI,w1,w2,e2,e2',e3,e3',e4,VX,Nat.reduceEqDiff,Nat.reduceAdd]
  refine⟨outs,c,rfl,iW,mJ,hc,?_,hv⟩
  try rfl
theorem Uo {H:aA} {lo b g o n N:Nat} {z:Int} {L R:List VV} {low vs:List Nat} (hr:aF H b g=some (L++low.map tV++VI z::R,1,true)) (eJ:lo≤b) (ho:L.length=o) (hl:low.length=n) (DP:vs.length=n) (hN:o+n<N) (BH:N≤70368744177664)
  (WV:∀d∈low,d<1000000000) (D5:∀d∈vs,d<1000000000) (hz : -1000000000≤z) (PK:z≤1000000000) :
  iV 240 [.ref b g 0 N N,iY vs,VI (o:Int)] lo H fun r H'=>∃(zD:List Nat) (c:Nat),H'=H.set b (.row g (L++zD.map tV++VI (z+(c:Int))::R) 1 true)∧zD.length=n∧(∀d∈zD,d<1000000000)∧c≤1 ∧
   val 1000000000 low+val 1000000000 vs=val 1000000000 zD+1000000000^n*c:=by
 refine iV.walk ⟨true,false⟩ EC (Nat.le_of_ble_eq_true rfl) ?_
 have rd:∀(s:List Nat) (z:Int),aF (H.set b (.row g (L++s.map tV++VI z::R) 1 true)) b g=some (L++s.map tV++VI z::R,1,true):=fun s z=>lF hr
 have ad:∀(K:aA) (es:List VV) (i:Nat),aF K b g=some (es,1,true)→i≤n→bI 1 (.ref b g 0 N N) (VI ((o+i:Nat):Int)) K=some (.ptr b g (o+i) 0):=fun K es i h hi=>by rw[aQ h (by omega),Nat.zero_add]
 simp only[Au,wZ,fI,VX,Nat.reduceEqDiff,Nat.reduceAdd]
 refine aR (fun(u:Nat×List Nat×Nat) ρ K=>u.1≤n∧K=H.set b (.row g (L++u.2.1.map tV++VI z::R) 1 true)∧u.2.1.length=n∧(∀d∈u.2.1,d<1000000000)∧u.2.2≤1∧val 1000000000 (low.take u.1)+val 1000000000 (vs.take u.1)=val 1000000000 (u.2.1.take u.1)+1000000000^u.1*u.2.2∧(∀j,u.1≤j→u.2.1[j]? = low[j]?) ∧
  ρ 0 = .ref b g 0 N N∧ρ 1=iY vs∧ρ 2=VI o∧ρ 6=VI u.2.2∧ρ 10=iY vs∧ρ 11=VI vs.length∧ρ 12=VI u.1) (fun u=>n-u.1) (0,low,0) ⟨Nat.zero_le _,(tF hr).symm,hl,WV,by simp,by simp[val],fun _ _=>rfl,by (repeat' apply And.intro)<;>first | rfl | trivial⟩ ?_
 rintro⟨i,outs,c⟩ ρ K ⟨hi,rfl,iW,mJ,hc,hv,E9,k0,k1,k2,k6,U9,Tm,Gb⟩
 simp only at hi iW mJ hc hv E9 k6 Gb
 by_cases dK:(i:Int)<(vs.length:Int)
 ·obtain⟨u,hu⟩:∃u,outs[i]? = some u:=⟨_,List.getElem?_eq_getElem (by omega)⟩
  have lu:=mJ u (List.mem_of_getElem? hu)
  have hu':low[i]? = some u:=by rw[←E9 i (Nat.le_refl _)];exact hu
  obtain⟨x,hx⟩:∃x,vs[i]? = some x:=⟨_,List.getElem?_eq_getElem (by omega)⟩
  have lx:=D5 x (List.mem_of_getElem? hx)
  have e1:bI 1 (iY vs) (VI i) (H.set b (.row g (L++outs.map tV++VI z::R) 1 true))=some (.cY (tV x) 0):=aK (f:=tV) (t := .op) (size:=1) (k := .i64) hx rfl
  have w1:IntKind.i64.wrap ((o:Int)+(i:Int))=((o+i:Nat):Int):=wrapN _ (by omega) (by omega)
  have e2:=ad _ _ i (rd outs z) (by omega)
  have e3:=XH (rd outs z) ho hu
  have e4:∀d:Nat,bY lo 1 (.ptr b g (o+i) 0) (VI (d:Int)) (H.set b (.row g (L++outs.map tV++VI z::R) 1 true))=some (H.set b (.row g (L++(outs.set i d).map tV++VI z::R) 1 true)):=fun d=>by rw[XJ (rd outs z) ho (by omega) eJ,kJ]
  have w2:IntKind.i64.wrap ((u:Int)+(x:Int))=((u+x:Nat):Int):=wrapN _ (by omega) (by omega)
  have w3:IntKind.i64.wrap (((u+x:Nat):Int)+(c:Int))=((u+x+c:Nat):Int):=wrapN _ (by omega) (by omega)
  have r1:=Sg (u+x+c)
  have q1:=R8 (u+x+c) (by omega)
  have wi:IntKind.i64.wrap ((i:Int)+1)=((i+1:Nat):Int):=wrapN (i+1) (by omega) (by omega)
  simp only[oH,k0,k1,k2,k6,U9,Tm,Gb,dK,e1,e2,e3,e4,w1,w2,w3,wi,r1,q1,VX,Nat.reduceEqDiff,Nat.reduceAdd]
  refine⟨(i+1,outs.set i ((u+x+c) % 1000000000),(u+x+c) / 1000000000),by simp only;omega,by omega,rfl,by rw[List.length_set];exact iW,mA mJ (Nat.mod_lt _ (by decide)),by simp only;omega,?_,fun j hj=>by rw[List.getElem?_set_ne (by omega)];exact E9 j (by omega),?_⟩
  ·simp only
   rw[bH hu',bH hx,gH (by omega),Nat.pow_succ]
   exact Dw hv (show c+u+x=u+x+c by omega) (Nat.mod_add_div _ _)
  ·try (repeat' apply And.intro)<;>first | rfl | trivial
 ·have qG:i=n:=by omega
  subst qG
  rw[List.take_of_length_le (by omega),List.take_of_length_le (by omega),List.take_of_length_le (by omega)] at hv
  have w1:IntKind.i64.wrap ((o:Int)+(vs.length:Int))=((o+i:Nat):Int):=wrapN _ (by omega) (by omega)
  have e2:=ad _ _ i (rd outs z) (by omega)
  have e3:=QE (rd outs z) ho iW
  have e4:bY lo 1 (.ptr b g (o+i) 0) (VI (z+(c:Int))) (H.set b (.row g (L++outs.map tV++VI z::R) 1 true))=some (H.set b (.row g (L++outs.map tV++VI (z+(c:Int))::R) 1 true)):=by rw[X5 (rd outs z) ho iW eJ,kJ]
  have w2:IntKind.i64.wrap (z+(c:Int))=z+(c:Int):=wrap64 (by omega) (by omega)
  simp only[oH,k0,k1,k2,k6,U9,Tm,Gb,dK,fI,w1,w2,e2,e3,e4,VX,Nat.reduceEqDiff,Nat.reduceAdd]
  exact⟨outs,c,rfl,iW,mJ,hc,hv⟩
end Go.PM
namespace Go.PM
theorem wM {d:Nat} {H:aA}:fz (d+1) H (.tree [] .nil)=some (bX 0):=by
 rw[Lr]
 unfold fz
 have:aN (.tree [] .nil)=false:=by simp[aN]
 simp only[this,Bool.false_eq_true,if_false]
 rfl
theorem Vv {d:Nat} {H:aA} {m:Nat} {t:TK} (ht:t = .cl 1∨t = .op):fz (d+2) H (.tree ((aC 4294967296 m).map uV) t)=some (bX m):=by
 rcases ht with rfl | rfl
 ·unfold fz
  have:aN (.tree ((aC 4294967296 m).map uV) (.cl 1))=false:=by simp[aN]
  simp only[this,Bool.false_eq_true,if_false]
  rw[mapM_pure (eX fun _=>rfl)]
  rfl
 ·exact aH (bO m)
abbrev H3 (us ws os:List Nat):aA:=[.row 0 (us.map uV) 1 true,.row 0 (ws.map uV) 1 true,.row 0 (os.map uV) 1 true]
theorem AV {us ws os:List Nat}:aF (H3 us ws os) 0 0=some (us.map uV,1,true):=rfl
theorem agT {us ws os:List Nat}:aF (H3 us ws os) 1 0=some (ws.map uV,1,true):=rfl
theorem ZC {us ws os:List Nat}:aF (H3 us ws os) 2 0=some (os.map uV,1,true):=rfl
theorem Ux {us:List Nat} {i n N V:Nat} (hN:us.length=N) (dK:i+n<N) (hd:∀d∈us,d<4294967296) (hV:V<4294967296^n) (AK:val 4294967296 (us.drop (i+1))<V) :
  us=us.take i++(us.drop i).take (n+1)++us.drop (i+(n+1))∧(us.take i).length=i∧((us.drop i).take (n+1)).length=n+1∧val 4294967296 ((us.drop i).take (n+1))<4294967296*V∧val 4294967296 (us.drop i)=val 4294967296 ((us.drop i).take (n+1))∧val 4294967296 (us.drop (i+(n+1)))=0∧∀j,j<n+1→((us.drop i).take (n+1))[j]? = us[i+j]? := by
 obtain⟨x,hx⟩:∃x,us[i]? = some x:=⟨_,List.getElem?_eq_getElem (by omega)⟩
 have lx:=hd x (List.mem_of_getElem? hx)
 have h1:=pE (b:=4294967296) hx
 have h2:val 4294967296 (us.drop i)<4294967296*V:=by
  have:4294967296*(val 4294967296 (us.drop (i+1))+1)≤4294967296*V:=Nat.mul_le_mul_left _ AK
  omega
 have h3:=nB (b:=4294967296) (us.drop i) (n+1)
 have h4:((us.drop i).take (n+1)).length=n+1:=by rw[List.length_take,List.length_drop];omega
 rw[h4,List.drop_drop] at h3
 have h5:val 4294967296 (us.drop (i+(n+1)))=0:=by
  rcases Nat.eq_zero_or_pos (val 4294967296 (us.drop (i+(n+1)))) with h | h
  ·exact h
  ·have h6:4294967296^(n+1)*1≤4294967296^(n+1)*val 4294967296 (us.drop (i+(n+1))):=Nat.mul_le_mul_left _ h
   have h7:4294967296*V≤4294967296^(n+1):=by rw[Nat.pow_succ,Nat.mul_comm];exact Nat.mul_le_mul_right _ (by omega)
   omega
 rw[h5,Nat.mul_zero,Nat.add_zero] at h3
 refine⟨?_,by rw[List.length_take];omega,h4,by omega,h3,h5,fun j hj => ?_⟩
 ·rw[List.append_assoc,←List.drop_drop,List.take_append_drop,List.take_append_drop]
 ·rw[List.getElem?_take_of_lt hj,List.getElem?_drop]
theorem PF {x D p w:Nat} (hp:0<p) (hw:p*w=4294967296):(x+4294967296*D) / p=((D % 4294967296*4294967296+x) / p) % 4294967296+4294967296*(D / p)∨¬x<4294967296:=by
 rcases Nat.lt_or_ge x 4294967296 with hx | hx
 ·left
  have h1:(x+4294967296*D) / p / 4294967296=D / p:=by
   rw[Nat.div_div_eq_div_mul,Nat.mul_comm p,←Nat.div_div_eq_div_mul,Nat.add_mul_div_left _ _ (by decide),Nat.div_eq_of_lt hx,Nat.zero_add]
  have h2:(x+4294967296*D) / p % 4294967296=(D % 4294967296*4294967296+x) / p % 4294967296:=by
   have e:x+4294967296*D=(D % 4294967296*4294967296+x)+p*(4294967296*(w*(D / 4294967296))):=by
    have h3:=Nat.mod_add_div D 4294967296
    have h4:p*(4294967296*(w*(D / 4294967296)))=(p*w)*(4294967296*(D / 4294967296)):=by grind
    rw[h4,hw]
    omega
   rw[e,Nat.add_mul_div_left _ _ hp,Nat.add_mul_mod_self_left]
  have:=Nat.mod_add_div ((x+4294967296*D) / p) 4294967296
  rw[h1,h2] at this
  exact this.symm
 ·right
  omega
theorem RF {x:Nat} (h0:x≠0) (hx:x<4294967296):∃s,s≤31∧TC 219 [uV x] (VI (s:Nat))∧x*2^s<4294967296:=by
 obtain⟨h1,h2,h3⟩:=Lib.bitLenAux_bounds 64 x (by omega) h0
 have h4:Lib.bitLenAux 64 x-1<32:=by
  have:2^(Lib.bitLenAux 64 x-1)<2^32:=by omega
  exact(Nat.pow_lt_pow_iff_right (by decide)).1 this
 refine⟨32-Lib.bitLenAux 64 x,by omega,?_,?_⟩
 ·have:=UU x hx
  have e:(((32-Lib.bitLenAux 64 x:Nat)):Int)=32-(Lib.bitLen x:Int):=by unfold Lib.bitLen;omega
  rw[e]
  exact this
 ·have:2^Lib.bitLenAux 64 x*2^(32-Lib.bitLenAux 64 x)=4294967296:=by rw[←Nat.pow_add,show Lib.bitLenAux 64 x+(32-Lib.bitLenAux 64 x)=32 by omega]
  rw[←this]
  exact Nat.mul_lt_mul_of_pos_right h3 (Nat.pow_pos (by decide))
theorem Tr {us ws os:List Nat} {k N s w0:Nat} {ρ:dJ} {Q:VQ} (hs:s≤31) (hw:2^s*w0=4294967296) (hN:us.length=N) (hk:k≤N) (BH:N≤70368744177664) (hd:∀d∈us,d<4294967296) (g8:ρ 8=VI s) (g9:ρ 9 = .ref 0 0 0 k N) (aoQ:ρ 147=VI k) (aoF:ρ 148=VI 0)
  (hQ:∀(aU:dJ) (DI:List Nat),aU 9 = .ref 0 0 0 k N→aU 13=ρ 13→DI.length=N→(∀d∈DI,d<4294967296)→val 4294967296 (DI.take k)=val 4294967296 (us.take k) / 2^s→Q (.exit 4) aU (H3 DI ws os)) :
  VW ⟨true,false⟩ 0 (.loop jK) Q ρ (H3 us ws os):=by
 have hp:0<2^s:=Nat.pow_pos (by decide)
 refine aR (fun(t:Nat×List Nat) aU H=>t.1≤k∧H=H3 t.2 ws os∧t.2.length=N∧(∀d∈t.2,d<4294967296)∧(∀j,t.1≤j→t.2[j]? = us[j]?)∧val 4294967296 (t.2.take t.1)+4294967296^t.1*(val 4294967296 ((us.take k).drop t.1) / 2^s)=val 4294967296 (us.take k) / 2^s ∧
  aU 8=VI s∧aU 9 = .ref 0 0 0 k N∧aU 13=ρ 13∧aU 147=VI k∧aU 148=VI t.1) (fun t=>k-t.1) (0,us) ⟨Nat.zero_le _,rfl,hN,hd,fun _ _=>rfl,by simp[val],g8,g9,rfl,aoQ,aoF⟩ ?_
 rintro⟨i,vs⟩ LW H ⟨hi,rfl,DP,D5,E9,hv,k8,k9,zK,aeK,Y3⟩
 simp only at hi DP D5 E9 hv Y3
 by_cases dK:(i:Int)<(k:Int)
 ·obtain⟨x,hx⟩:∃x,us[i]? = some x:=⟨_,List.getElem?_eq_getElem (by omega)⟩
  have hx2:vs[i]? = some x:=by rw[E9 i (Nat.le_refl _)];exact hx
  have lx:=hd x (List.mem_of_getElem? hx)
  have hx3:(us.take k)[i]? = some x:=by rw[List.getElem?_take_of_lt (by omega)];exact hx
  have h1:=pE (b:=4294967296) hx3
  generalize hD:val 4294967296 ((us.take k).drop (i+1))=D at *
  have hlen:nP (.ref 0 0 0 k N) (H3 vs ws os)=some (VI k):=eZ AV
  have e1:bI 1 (.ref 0 0 0 k N) (VI i) (H3 vs ws os)=some (.ptr 0 0 i 0):=by rw[aQ AV (by omega),Nat.zero_add]
  have e2:cO false 1 (.ptr 0 0 i 0) (H3 vs ws os)=some (uV x):=gP AV hx2
  have e3:∀d:Nat,bY 0 1 (.ptr 0 0 i 0) (uV d) (H3 vs ws os)=some (H3 (vs.set i d) ws os):=fun d=>by
   rw[dO (f:=uV) (e:=1) AV (by omega) (Nat.le_refl _) rfl rfl]
   rfl
  have wi:IntKind.i64.wrap ((i:Int)+1)=((i+1:Nat):Int):=wrapN (i+1) (by omega) (by omega)
  have wx:IntKind.u64.wrap (x:Int)=(x:Int):=dP _ (by omega)
  have hm:=Nat.mod_lt D (show 0<4294967296 by decide)
  have w5:=Cl (D % 4294967296) .u64 hm
  have w6:IntKind.u64.wrap (((D % 4294967296*4294967296:Nat):Int)+(x:Int))=((D % 4294967296*4294967296+x:Nat):Int):=by rw[←Int.natCast_add];exact dP _ (by omega)
  have w7:=WK (D % 4294967296*4294967296+x) s hs
  have sd:(x+4294967296*D) / 2^s=((D % 4294967296*4294967296+x) / 2^s) % 4294967296+4294967296*(D / 2^s):=by
   rcases PF (x:=x) (D:=D) hp hw with h | h
   ·exact h
   ·exact absurd lx h
  have next:∃s':Nat×List Nat,k-s'.1<k-i∧s'.1≤k∧H3 (vs.set i (((D % 4294967296*4294967296+x) / 2^s) % 4294967296)) ws os=H3 s'.2 ws os∧s'.2.length=N∧(∀d∈s'.2,d<4294967296)∧(∀j,s'.1≤j→s'.2[j]? = us[j]?)∧val 4294967296 (s'.2.take s'.1)+4294967296^s'.1*(val 4294967296 ((us.take k).drop s'.1) / 2^s)=val 4294967296 (us.take k) / 2^s∧s'.1=i+1:=by
   refine⟨(i+1,vs.set i (((D % 4294967296*4294967296+x) / 2^s) % 4294967296)),by simp only;omega,by simp only;omega,rfl,by simp only[List.length_set];exact DP,mA D5 (Nat.mod_lt _ (by decide)),fun j hj => ?_,?_,rfl⟩
   ·simp only at hj ⊢
    rw[List.getElem?_set_ne (by omega)]
    exact E9 j (by omega)
   ·simp only
    rw[gH (by omega),hD,←hv,h1,sd,Nat.pow_succ]
    generalize (D % 4294967296*4294967296+x) / 2^s % 4294967296=q
    generalize D / 2^s=E
    rw[Nat.mul_add,Nat.mul_assoc,Nat.add_assoc]
  obtain⟨s',n1,n2,n3,n4,n5,n6,n7,n8⟩:=next
  by_cases ahM:((i+1:Nat):Int)<(k:Int)
  ·obtain⟨h,hh⟩:∃h,us[i+1]? = some h:=⟨_,List.getElem?_eq_getElem (by omega)⟩
   have hh2:vs[i+1]? = some h:=by rw[E9 (i+1) (by omega)];exact hh
   have hhD:D % 4294967296=h:=by
    have hh3:(us.take k)[i+1]? = some h:=by rw[List.getElem?_take_of_lt (by omega)];exact hh
    have:=pE (b:=4294967296) hh3
    rw[hD] at this
    have lh:=hd h (List.mem_of_getElem? hh)
    omega
   have f1:bI 1 (.ref 0 0 0 k N) (VI ((i+1:Nat):Int)) (H3 vs ws os)=some (.ptr 0 0 (i+1) 0):=by rw[aQ AV (by omega),Nat.zero_add]
   have f2:cO false 1 (.ptr 0 0 (i+1) 0) (H3 vs ws os)=some (uV h):=gP AV hh2
   have wh:IntKind.u64.wrap (h:Int)=(h:Int):=dP _ (by omega)
   rw[hhD] at w5 w6 w7 n3
   simp only[jK,k8,k9,aeK,Y3,dK,ahM,hlen,e1,e2,e3,f1,f2,wi,wx,wh,w5,w6,w7,wrap32,VX,Nat.reduceEqDiff,Nat.reduceAdd]
   exact⟨s',n1,n2,n3,n4,n5,n6,n7,zK,by rw[n8]⟩
  ·have hD0:D=0:=by
    rw[←hD,List.drop_of_length_le (by rw[List.length_take];omega)]
    rfl
   subst hD0
   have w5':dB .shl (.int .u64 0) (.int .u64 32)=some (.int .u64 0):=Cl 0 .u64 (by decide)
   have w6':IntKind.u64.wrap ((0:Int)+(x:Int))=(x:Int):=by rw[Int.zero_add];exact wx
   have w7':=WK x s hs
   simp only[Nat.zero_mod,Nat.zero_mul,Nat.zero_add] at n3
   simp only[jK,k8,k9,aeK,Y3,dK,ahM,hlen,e1,e2,e3,wi,wx,w5',w6',w7',wrap32,VX,Nat.reduceEqDiff,Nat.reduceAdd]
   exact⟨s',n1,n2,n3,n4,n5,n6,n7,zK,by rw[n8]⟩
 ·have qG:i=k:=by omega
  subst qG
  rw[List.drop_of_length_le (by rw[List.length_take];omega)] at hv
  simp only[val,Nat.zero_div,Nat.mul_zero,Nat.add_zero] at hv
  simp only[jK,k8,k9,aeK,Y3,dK,VX,Nat.reduceEqDiff,Nat.reduceAdd]
  exact hQ _ vs k9 zK DP D5 hv
end Go.PM
namespace Go.PM
theorem Rm {gI vs us ws os:List Nat} {n u2 u1 u0 v1 v0 N k g left:Nat} (G:sQ 4294967296 gI vs n u2 u1 u0 v1 v0) {ρ:dJ} {Q:VQ} (hN:us.length=N) (Y2:2≤k) (hkN:k<N) (BH:N≤70368744177664) (Zs:us[k-2]? = some u0)
  (g9:ρ 9 = .ref 0 0 0 N N) (g11:ρ 11=VK .u64 v1) (g12:ρ 12=VK .u64 v0) (g15:ρ 15=VI k) (g17:ρ 17=VK .u64 g) (g18:ρ 18=VK .u64 left) (hh:u2*4294967296+u1=g*v1+left) (hq:val 4294967296 gI / val 4294967296 vs≤g) (hl:left<4294967296) (hgb:g<18446744073709551616)
  (hQ:∀(aU:dJ) (g':Nat),val 4294967296 gI / val 4294967296 vs≤g'→g'≤val 4294967296 gI / val 4294967296 vs+1→g'<4294967296→aU 17=VK .u64 g'→aU 8=ρ 8→aU 9=ρ 9→aU 10=ρ 10→aU 11=ρ 11→aU 12=ρ 12→aU 13=ρ 13→aU 14=ρ 14→aU 15=ρ 15→Q (.exit 2) aU (H3 us ws os)) :
  VW ⟨true,false⟩ 0 (.loop fJ) Q ρ (H3 us ws os):=by
 have lv1:=G.RQ
 have lv0:=G.Wy
 have lu0:=G.aaU
 have qlt:=G.YX
 have iU:=G.pos
 refine aR (fun(t:Nat×Nat) aU H=>H=H3 us ws os∧u2*4294967296+u1=t.1*v1+t.2∧val 4294967296 gI / val 4294967296 vs≤t.1∧t.2<4294967296∧t.1<18446744073709551616 ∧
  aU 9 = .ref 0 0 0 N N∧aU 11=VK .u64 v1∧aU 12=VK .u64 v0∧aU 15=VI k∧aU 17=VK .u64 t.1∧aU 18=VK .u64 t.2∧aU 8=ρ 8∧aU 10=ρ 10∧aU 13=ρ 13∧aU 14=ρ 14) (fun t=>4294967296-t.2) (g,left) ⟨rfl,hh,hq,hl,hgb,g9,g11,g12,g15,g17,g18,rfl,rfl,rfl,rfl⟩ ?_
 rintro⟨g,left⟩ LW H ⟨rfl,hh,hq,hl,hgb,k9,Tm,Gb,HH,Hv,Zr,k8,U9,zK,AR⟩
 simp only at hh hq hl hgb Hv Zr
 have e1:bI 1 (.ref 0 0 0 N N) (VI ((k-2:Nat):Int)) (H3 us ws os)=some (.ptr 0 0 (k-2) 0):=by rw[aQ AV (by omega),Nat.zero_add]
 have e2:cO false 1 (.ptr 0 0 (k-2) 0) (H3 us ws os)=some (uV u0):=gP AV Zs
 have wk:IntKind.i64.wrap ((k:Int)-2)=((k-2:Nat):Int):=wrapN _ (by omega) (by omega)
 have wu:IntKind.u64.wrap (u0:Int)=(u0:Int):=dP _ (by omega)
 have ws:=Cl left .u64 hl
 have wa:IntKind.u64.wrap (((left*4294967296:Nat):Int)+(u0:Int))=((left*4294967296+u0:Nat):Int):=by rw[←Int.natCast_add];exact dP _ (by omega)
 have wl:IntKind.u64.wrap ((left:Int)+(v1:Int))=((left+v1:Nat):Int):=by rw[←Int.natCast_add];exact dP _ (by omega)
 have same:LW 9=ρ 9∧LW 11=ρ 11∧LW 12=ρ 12∧LW 15=ρ 15:=⟨by rw[k9,g9],by rw[Tm,g11],by rw[Gb,g12],by rw[HH,g15]⟩
 obtain⟨s9,s11,s12,s15⟩:=same
 have down:val 4294967296 gI / val 4294967296 vs<g→∃g',g=g'+1∧IntKind.u64.wrap ((g:Int)-1)=(g':Int)∧u2*4294967296+u1=g'*v1+(left+v1)∧val 4294967296 gI / val 4294967296 vs≤g':=by
  intro h
  have hg1:1≤g:=Nat.lt_of_le_of_lt (Nat.zero_le _) h
  obtain⟨g',rfl⟩:∃g',g=g'+1:=⟨g-1,by omega⟩
  refine⟨g',rfl,?_,?_,by omega⟩
  ·rw[show ((g'+1:Nat):Int)-1=(g':Int) by omega]
   exact dP _ (by omega)
  ·rw[hh,Nat.add_mul]
   omega
 by_cases hA:(4294967296:Int)≤(g:Int)
 ·obtain⟨g',TA,wg,QH,Kh⟩:=down (by omega)
  by_cases hB:(4294967296:Int)≤((left+v1:Nat):Int)
  ·obtain⟨c1,c2⟩:=G.broken QH (by omega)
   simp only[fJ,k9,Tm,Gb,HH,Hv,Zr,hA,hB,wg,wl,VX,Nat.reduceEqDiff,Nat.reduceAdd]
   exact hQ _ g' Kh (G.UA QH (by omega) c2) c1 rfl k8 s9 U9 s11 s12 zK AR s15
  ·simp only[fJ,k9,Tm,Gb,HH,Hv,Zr,hA,hB,wg,wl,VX,Nat.reduceEqDiff,Nat.reduceAdd]
   exact⟨(g',left+v1),by simp only;omega,QH,Kh,by simp only;omega,by simp only;omega,by rfl,by rfl,k8,U9,zK,AR⟩
 ·have hgv:g*v0≤4294967295*4294967295:=Nat.mul_le_mul (by omega) (by omega)
  have wm:IntKind.u64.wrap ((g:Int)*(v0:Int))=((g*v0:Nat):Int):=by rw[←Int.natCast_mul];exact dP _ (by omega)
  by_cases hT:((left*4294967296+u0:Nat):Int)<((g*v0:Nat):Int)
  ·obtain⟨g',TA,wg,QH,Kh⟩:=down (G.too hh (by omega))
   by_cases hB:(4294967296:Int)≤((left+v1:Nat):Int)
   ·obtain⟨c1,c2⟩:=G.broken QH (by omega)
    simp only[fJ,k9,Tm,Gb,HH,Hv,Zr,hA,hB,hT,e1,e2,wk,wu,ws,wa,wm,wg,wl,VX,Nat.reduceEqDiff,Nat.reduceAdd]
    exact hQ _ g' Kh (G.UA QH (by omega) c2) c1 rfl k8 s9 U9 s11 s12 zK AR s15
   ·simp only[fJ,k9,Tm,Gb,HH,Hv,Zr,hA,hB,hT,e1,e2,wk,wu,ws,wa,wm,wg,wl,VX,Nat.reduceEqDiff,Nat.reduceAdd]
    exact⟨(g',left+v1),by simp only;omega,QH,Kh,by simp only;omega,by simp only;omega,by rfl,by rfl,k8,U9,zK,AR⟩
  ·simp only[fJ,k9,Tm,Gb,HH,Hv,Zr,hA,hT,e1,e2,wk,wu,ws,wa,wm,VX,Nat.reduceEqDiff,Nat.reduceAdd]
   exact hQ _ g hq (G.UA hh (by omega) (by omega)) (by omega) Hv k8 s9 U9 s11 s12 zK AR s15
theorem Iq {X S S' R V q Q P w:Nat} (hs:S=q*V+S') (h:X+P*S+P*w*V*Q=R):X+P*S'+P*V*(q+w*Q)=R:=by
 subst hs
 grind
theorem W3 {Cy ws U8 vs:List Nat} {N m n v1 v0 A s:Nat} {ρ:dJ} {Q:VQ} (hN:Cy.length=N) (hm:m+(n+2)=N) (BH:N≤70368744177664) (GQ:∀d∈Cy,d<4294967296) (hws:ws.take (n+2)=vs) (hwl:ws.length=n+3) (DP:vs.length=n+2) (D5:∀d∈vs,d<4294967296) (f1:vs[n+1]? = some v1) (f0:vs[n]? = some v0) (iU:1≤v1)
  (hA:val 4294967296 Cy=A) (AK:val 4294967296 (Cy.drop m)<val 4294967296 vs) (iW:U8.length=m) (mJ:∀d∈U8,d<4294967296)
  (g8:ρ 8=VI s) (g9:ρ 9 = .ref 0 0 0 N N) (g10:ρ 10 = .ref 1 0 0 (n+2) (n+3)) (g11:ρ 11=VK .u64 v1) (g12:ρ 12=VK .u64 v0) (g13:ρ 13 = .ref 2 0 0 m m) (g14:ρ 14=VI ((m:Int)-1))
  (hQ:∀(aU:dJ) (us os:List Nat),aU 8=VI s→aU 9 = .ref 0 0 0 N N→aU 13 = .ref 2 0 0 m m→us.length=N→(∀d∈us,d<4294967296)→os.length=m→(∀d∈os,d<4294967296)→val 4294967296 us+val 4294967296 vs*val 4294967296 os=A→val 4294967296 us<val 4294967296 vs→Q (.exit 0) aU (H3 us ws os)) :
  VW ⟨true,false⟩ 0 (.loop lO) Q ρ (H3 Cy ws U8):=by
 have hVb:=oG D5
 rw[DP] at hVb
 refine aR (fun(t:Nat×List Nat×List Nat) aU H=>t.1≤m∧H=H3 t.2.1 ws t.2.2∧t.2.1.length=N∧(∀d∈t.2.1,d<4294967296)∧t.2.2.length=m∧(∀d∈t.2.2,d<4294967296)∧val 4294967296 (t.2.1.drop t.1)<val 4294967296 vs∧val 4294967296 t.2.1+4294967296^t.1*val 4294967296 vs*val 4294967296 (t.2.2.drop t.1)=A ∧
  aU 8=VI s∧aU 9 = .ref 0 0 0 N N∧aU 10 = .ref 1 0 0 (n+2) (n+3)∧aU 11=VK .u64 v1∧aU 12=VK .u64 v0∧aU 13 = .ref 2 0 0 m m∧aU 14=VI ((t.1:Int)-1)) (fun t=>t.1) (m,Cy,U8) ⟨Nat.le_refl _,rfl,hN,GQ,iW,mJ,AK,by rw[List.drop_of_length_le (by simp only;omega)];simpa[val] using hA,g8,g9,g10,g11,g12,g13,g14⟩ ?_
 rintro⟨j,us,os⟩ LW H ⟨hj,rfl,M9,GQ,iW,mJ,aV,hv,k8,k9,U9,Tm,Gb,zK,AR⟩
 simp only at hj M9 GQ iW mJ aV hv AR
 by_cases hz:(0:Int)≤(j:Int)-1
 ·obtain⟨i,rfl⟩:∃i,j=i+1:=⟨j-1,by omega⟩
  have M3:((i+1:Nat):Int)-1=(i:Int):=by omega
  rw[M3] at AR hz
  obtain⟨Q2,wD,Qd,hsW,V9,VE,rU⟩:=Ux (n:=n+2) M9 (by omega) GQ hVb aV
  generalize Ud:(us.drop i).take (n+2+1)=gI at *
  have SW:∀d∈gI,d<4294967296:=fun d hd=>by rw[←Ud] at hd;exact GQ d (List.mem_of_mem_drop (List.mem_of_mem_take hd))
  obtain⟨u2,hu2⟩:∃u2,us[i+(n+2)]? = some u2:=⟨_,List.getElem?_eq_getElem (by omega)⟩
  obtain⟨u1,YG⟩:∃u1,us[i+(n+1)]? = some u1:=⟨_,List.getElem?_eq_getElem (by omega)⟩
  obtain⟨u0,Zs⟩:∃u0,us[i+n]? = some u0:=⟨_,List.getElem?_eq_getElem (by omega)⟩
  have G:sQ 4294967296 gI vs n u2 u1 u0 v1 v0:=⟨by decide,SW,D5,Qd,DP,by rw[rU _ (by omega)];exact hu2,by rw[rU _ (by omega)];exact YG,by rw[rU _ (by omega)];exact Zs,f1,f0,iU,hsW⟩
  have lu2:=G.abJ
  have lu1:=G.V3
  have lv1:=G.RQ
  have qlt:=G.YX
  have F9:=G.F9
  have aeV:nP (.ref 1 0 0 (n+2) (n+3)) (H3 us ws os)=some (VI ((n+2:Nat):Int)):=eZ agT
  have w1:IntKind.i64.wrap ((i:Int)+((n+2:Nat):Int))=((i+(n+2):Nat):Int):=by rw[←Int.natCast_add];exact wrapN _ rfl (by omega)
  have w2:IntKind.i64.wrap (((i+(n+2):Nat):Int)-1)=((i+(n+1):Nat):Int):=wrapN _ (by omega) (by omega)
  have e2:bI 1 (.ref 0 0 0 N N) (VI ((i+(n+2):Nat):Int)) (H3 us ws os)=some (.ptr 0 0 (i+(n+2)) 0):=by rw[aQ AV (by omega),Nat.zero_add]
  have e1:bI 1 (.ref 0 0 0 N N) (VI ((i+(n+1):Nat):Int)) (H3 us ws os)=some (.ptr 0 0 (i+(n+1)) 0):=by rw[aQ AV (by omega),Nat.zero_add]
  have l2:cO false 1 (.ptr 0 0 (i+(n+2)) 0) (H3 us ws os)=some (uV u2):=gP AV hu2
  have l1:cO false 1 (.ptr 0 0 (i+(n+1)) 0) (H3 us ws os)=some (uV u1):=gP AV YG
  have wu2:IntKind.u64.wrap (u2:Int)=(u2:Int):=dP _ (by omega)
  have wu1:IntKind.u64.wrap (u1:Int)=(u1:Int):=dP _ (by omega)
  have ws2:=Cl u2 .u64 lu2
  have wa:IntKind.u64.wrap (((u2*4294967296:Nat):Int)+(u1:Int))=((u2*4294967296+u1:Nat):Int):=by rw[←Int.natCast_add];exact dP _ (by omega)
  have q1:=Sf (u2*4294967296+u1) v1 (by omega) iU
  have q2:=Lz (u2*4294967296+u1) v1 iU
  simp only[lO,k8,k9,U9,Tm,Gb,zK,AR,hz,aeV,w1,w2,e1,e2,l1,l2,wu1,wu2,ws2,wa,q1,q2,VX,Nat.reduceEqDiff,Nat.reduceAdd]
  have hh:=Nat.mod_add_div (u2*4294967296+u1) v1
  have hml:=Nat.mod_lt (u2*4294967296+u1) iU
  have hdl:(u2*4294967296+u1) / v1≤u2*4294967296+u1:=Nat.div_le_self _ _
  have M8:val 4294967296 gI / val 4294967296 vs≤(u2*4294967296+u1) / v1:=by
   have t1:=(Bv (n:=n+1) (xs:=gI) SW (by omega) (by rw[rU _ (by omega)];exact hu2) (by rw[rU _ (by omega)];exact YG)).2
   have t2:=(wE (n:=n+1) D5 DP f1).1
   rw[Nat.le_div_iff_mul_le iU]
   have t3:val 4294967296 gI / val 4294967296 vs*(v1*4294967296^(n+1))≤val 4294967296 gI / val 4294967296 vs*val 4294967296 vs:=Nat.mul_le_mul_left _ t2
   have t4:=Nat.div_mul_le_self (val 4294967296 gI) (val 4294967296 vs)
   have t5:val 4294967296 gI / val 4294967296 vs*v1*4294967296^(n+1)<(u2*4294967296+u1+1)*4294967296^(n+1):=by rw[Nat.mul_assoc];omega
   have:=Nat.lt_of_mul_lt_mul_right t5
   omega
  refine Rm (k:=i+(n+2)) G M9 (by omega) (by omega) BH (by rw[show i+(n+2)-2=i+n by omega];exact Zs) k9 Tm Gb (by rfl) (by rfl) (by rfl) (by rw[Nat.mul_comm ((u2*4294967296+u1) / v1)];omega) M8 (by omega) (by omega) ?_
  intro PW g' hq Kh hgW r17 r8 r9 r10 r11 r12 Y8 r14 r15
  have Pc:PW 15=VI ((i+(n+2):Nat):Int):=r15
  have r8':PW 8=VI s:=r8.trans k8
  have r9':PW 9 = .ref 0 0 0 N N:=r9.trans k9
  have acZ:PW 10 = .ref 1 0 0 (n+2) (n+3):=r10.trans U9
  have adA:PW 11=VK .u64 v1:=r11.trans Tm
  have ON:PW 12=VK .u64 v0:=r12.trans Gb
  have N6:PW 13 = .ref 2 0 0 m m:=Y8.trans zK
  have O8:PW 14=VI i:=r14.trans AR
  have w3:IntKind.i64.wrap (((i+(n+2):Nat):Int)+1)=((i+(n+3):Nat):Int):=wrapN _ (by omega) (by omega)
  have X8:Dg 1 (.ref 0 0 0 N N) (some (VI i)) (some (VI ((i+(n+3):Nat):Int))) none (H3 us ws os)=some (.ref 0 0 i (n+3) (N-i)):=by
   rw[Xy AV (by omega) (by omega),Nat.zero_add,Nat.add_sub_cancel_left]
  simp only[r8',r9',acZ,adA,ON,N6,O8,Pc,r17,w3,X8,VX,Nat.reduceEqDiff,Nat.reduceAdd]
  have qK:g'*val 4294967296 vs≤val 4294967296 gI+val 4294967296 vs:=by
   have:=Nat.mul_le_mul_right (val 4294967296 vs) Kh
   rw[Nat.add_mul,Nat.one_mul] at this
   have:=Nat.div_mul_le_self (val 4294967296 gI) (val 4294967296 vs)
   omega
  refine eB rfl ((QK (pre:=us.take i) (gI:=gI) (post:=us.drop (i+(n+2+1))) (L:=n+3) (o:=i) (by rw[←Q2];exact AV) (agT (us:=us) (ws:=ws) (os:=os)) (by decide) (Nat.zero_le _) wD Qd (by omega) hws (by omega) (by omega) SW D5 hgW qK).mono ?_)
  rintro r H' ⟨oU,rfl,AQ,WY,hr⟩
  generalize Zz:us.take i++oU++us.drop (i+(n+2+1))=DI at *
  have F0:(H3 us ws os).set 0 (.row 0 (DI.map uV) 1 true)=H3 DI ws os:=rfl
  rw[F0]
  have acD:DI.length=N:=by rw[←Zz,List.length_append,List.length_append,wD,AQ,List.length_drop];omega
  have Z5:∀d∈DI,d<4294967296:=fun d hd=>by
   rw[←Zz,List.mem_append,List.mem_append] at hd
   rcases hd with(hd | hd) | hd
   ·exact GQ d (List.mem_of_mem_take hd)
   ·exact WY d hd
   ·exact GQ d (List.mem_of_mem_drop hd)
  have Rj:DI.drop i=oU++us.drop (i+(n+2+1)):=by rw[←Zz,List.append_assoc,List.drop_append,List.drop_of_length_le (by omega),wD];simp
  have P8:DI.take i=us.take i:=by rw[←Zz,List.append_assoc,List.take_append_of_le_length (by omega),List.take_of_length_le (by omega)]
  have NG:val 4294967296 (DI.drop i)=val 4294967296 oU:=by rw[Rj,uZ,VE,Nat.mul_zero,Nat.add_zero]
  have digit:∀q:Nat,q=val 4294967296 gI / val 4294967296 vs→val 4294967296 oU=val 4294967296 gI % val 4294967296 vs →
    val 4294967296 (DI.drop i)<val 4294967296 vs∧val 4294967296 DI+4294967296^i*val 4294967296 vs*val 4294967296 ((os.set i q).drop i)=A:=by
   rintro q PV YE
   have YW:=Nat.mod_lt (val 4294967296 gI) F9
   refine⟨by rw[NG,YE];exact YW,?_⟩
   have h1:=Nat.div_add_mod (val 4294967296 gI) (val 4294967296 vs)
   rw[←PV,←YE,Nat.mul_comm] at h1
   have h2:=nB (b:=4294967296) us i
   have h3:=nB (b:=4294967296) DI i
   rw[P8,wD,NG] at h3
   rw[wD,V9] at h2
   rw[set_drop (by omega),pC,h3]
   rw[h2,Nat.pow_succ] at hv
   exact Iq h1.symm hv
  have e3:∀d:Nat,bI 1 (.ref 2 0 0 m m) (VI i) (H3 DI ws os)=some (.ptr 2 0 i 0)∧bY 0 1 (.ptr 2 0 i 0) (uV d) (H3 DI ws os)=some (H3 DI ws (os.set i d)):=fun d=>by
   refine⟨by rw[aQ ZC (by omega),Nat.zero_add],?_⟩
   rw[dO (f:=uV) (e:=1) ZC (by omega) (Nat.zero_le _) rfl rfl]
   rfl
  have wi:IntKind.i64.wrap ((i:Int)-1)=(i:Int)-1:=wrap64 (by omega) (by omega)
  rcases hr with⟨rfl,hr⟩ | ⟨rfl,Vj,ZG⟩
  ·have CC:g'*val 4294967296 vs≤val 4294967296 gI:=by omega
   have PV:g'=val 4294967296 gI / val 4294967296 vs:=by
    have:=(Nat.le_div_iff_mul_le F9).2 CC
    omega
   have YE:val 4294967296 oU=val 4294967296 gI % val 4294967296 vs:=by
    have h1:=Nat.div_add_mod (val 4294967296 gI) (val 4294967296 vs)
    rw[←PV,Nat.mul_comm] at h1
    omega
   obtain⟨d1,d2⟩:=digit g' PV YE
   simp only[r8',r9',acZ,adA,ON,N6,O8,Pc,r17,(e3 g').1,(e3 g').2,wi,wrap32,Nat.mod_eq_of_lt hgW,VX,Nat.reduceEqDiff,Nat.reduceAdd]
   exact⟨(i,DI,os.set i g'),by simp only;omega,by omega,rfl,acD,Z5,by rw[List.length_set];exact iW,mA mJ hgW,d1,d2,by (repeat' apply And.intro)<;>first | rfl | trivial⟩
  ·have VN:val 4294967296 gI / val 4294967296 vs<g':=(Nat.div_lt_iff_lt_mul F9).2 Vj
   have hg1:1≤g':=Nat.lt_of_le_of_lt (Nat.zero_le _) VN
   obtain⟨q,rfl⟩:∃q,g'=q+1:=⟨g'-1,by omega⟩
   have PV:q=val 4294967296 gI / val 4294967296 vs:=by omega
   have YE:val 4294967296 oU=val 4294967296 gI % val 4294967296 vs:=by
    have h1:=Nat.div_add_mod (val 4294967296 gI) (val 4294967296 vs)
    rw[←PV,Nat.mul_comm] at h1
    rw[Nat.add_mul,Nat.one_mul] at ZG
    omega
   have wq:IntKind.u64.wrap (((q+1:Nat):Int)-1)=(q:Int):=by rw[show ((q+1:Nat):Int)-1=(q:Int) by omega];exact dP _ (by omega)
   obtain⟨d1,d2⟩:=digit q PV YE
   simp only[r8',r9',acZ,adA,ON,N6,O8,Pc,r17,wq,(e3 q).1,(e3 q).2,wi,wrap32,Nat.mod_eq_of_lt (show q<4294967296 by omega),VX,Nat.reduceEqDiff,Nat.reduceAdd]
   exact⟨(i,DI,os.set i q),by simp only;omega,by omega,rfl,acD,Z5,by rw[List.length_set];exact iW,mA mJ (by omega),d1,d2,by (repeat' apply And.intro)<;>first | rfl | trivial⟩
 ·have Qn:j=0:=by omega
  subst Qn
  rw[List.drop_zero] at aV
  rw[Nat.pow_zero,Nat.one_mul,List.drop_zero] at hv
  simp only[lO,k8,k9,U9,Tm,Gb,zK,AR,hz,VX,Nat.reduceEqDiff,Nat.reduceAdd]
  exact hQ _ us os k8 k9 zK M9 GQ iW mJ hv aV
end Go.PM
namespace Go.PM
theorem Je {a n:Nat} (hn:(aC 4294967296 a).length=n+1):∃d,(aC 4294967296 a)[n]? = some d∧d≠0∧d<4294967296:=by
 obtain⟨d,hd⟩:∃d,(aC 4294967296 a)[n]? = some d:=⟨_,List.getElem?_eq_getElem (by omega)⟩
 refine⟨d,hd,fun h0 => ?_,gF (by decide) a d (List.mem_of_getElem? hd)⟩
 have:=KD (b:=4294967296) (by decide) a
 rw[List.getLast?_eq_getElem?,hn,Nat.add_sub_cancel,hd,h0] at this
 exact this rfl
theorem Yi {a d:Nat} (h:aC 4294967296 a=[d]):a=d∧0<d∧d<4294967296:=by
 have h1:=cL (b:=4294967296) (by decide) a
 rw[h,val_one] at h1
 obtain⟨e,h2,h3,h4⟩:=Je (a:=a) (n:=0) (by rw[h];rfl)
 rw[h] at h2
 cases h2
 exact⟨h1.symm,by omega,h4⟩
theorem Jp (a b:Nat) (hb:b≠0) (ha:(aC 4294967296 a).length≤17592186044416) (vZ:(aC 4294967296 b).length≤17592186044416):TC 173 [bX a,bX b] (.dQ [bX (a / b),bX (a % b)]):=by
 refine TC.walk ⟨true,false⟩ FW rfl (Nat.le_of_ble_eq_true rfl) (by simp[aP,bO]) (by simp[fY,oJ,pX]) ?_
 have c1:=uF a b ha vZ
 by_cases HN:kZ a b<0
 ·have aV:a<b:=by
   unfold kZ at HN
   split at HN
   ·assumption
   ·split at HN<;>omega
  simp only[pS,mO,c1,HN,VX,Nat.reduceEqDiff,Nat.reduceAdd]
  rw[Nat.div_eq_of_lt aV,Nat.mod_eq_of_lt aV]
  exact bJ (d:=6) wM (aH (bO a))
 have CC:b≤a:=by
  unfold kZ at HN
  split at HN
  ·omega
  ·omega
 have hbn:(aC 4294967296 b).length≠0:=fun h=>hb ((kD (b:=4294967296) (by decide)).1 (List.length_eq_zero_iff.1 h))
 by_cases h1:(((aC 4294967296 b).length:Nat):Int)=1
 ·obtain⟨d,hd⟩:∃d,aC 4294967296 b=[d]:=by
   match hx:aC 4294967296 b with
   | []=>rw[hx] at hbn;exact absurd rfl hbn
   | [d]=>exact⟨d,rfl⟩
   | _::_::_=>rw[hx] at h1;simp at h1;omega
  obtain⟨rfl,Bx,hdW⟩:=Yi hd
  have c2:=sR a b Bx hdW ha
  have e0:nP (bX b) []=some (VI 1):=by rw[bX,AY,fI,hd];rfl
  have e1:bI 1 (bX b) (VI 0) []=some (.cY (uV b) 0):=by
   rw[bX,hd]
   exact aK (f:=uV) (t := .op) (H:=[]) (size:=1) (k := .i64) (xs:=[b]) (i:=0) rfl rfl
  have e2:=eW (H:=[]) (z:=[.int .u32 0]) (v:=uV (a % b)) rfl rfl rfl
  have e3:=VJ (size:=1) (v:=Value.int .u32 ((b:Nat):Int))
  simp only[pS,mO,c1,HN,e0,e1,c2,e2,VX,Nat.reduceEqDiff,Nat.reduceAdd]
  refine Ji (ds:=[a % b]) (t := .cl 1) (fun d hd => ?_) (by show 1≤70368744177664;decide) (val_one _) fun t' ht => ?_
  ·rw[List.mem_singleton] at hd
   subst hd
   exact Nat.lt_of_lt_of_le (Nat.mod_lt _ Bx) (Nat.le_of_lt hdW)
  ·simp only[VX,Nat.reduceEqDiff,Nat.reduceAdd]
   exact bJ (d:=6) (aH (bO _)) (Vv (d:=5) ht)
 obtain⟨n,hn⟩:∃n,(aC 4294967296 b).length=n+2:=⟨(aC 4294967296 b).length-2,by omega⟩
 obtain⟨t,ht,ht0,htW⟩:=Je (a:=b) (n:=n+1) hn
 obtain⟨s,hs,cl,WO⟩:=RF ht0 htW
 have hS:0<2^s:=Nat.pow_pos (by decide)
 have hSW:2^s*2^(32-s)=4294967296:=by rw[←Nat.pow_add,show s+(32-s)=32 by omega]
 have hla:=fG (b:=4294967296) (by decide) CC
 have e0:nP (bX b) []=some (VI ((n+2:Nat):Int)):=by rw[bX,AY,fI,hn]
 have w0:IntKind.i64.wrap (((n+2:Nat):Int)-1)=((n+1:Nat):Int):=wrapN _ (by omega) (by omega)
 have UR:¬(((n+2:Nat):Int)=1):=by omega
 have e1:bI 1 (bX b) (VI ((n+1:Nat):Int)) []=some (.cY (uV t) 0):=aK (f:=uV) (t := .op) (H:=[]) (size:=1) (k := .i64) ht rfl
 simp only[pS,mO,c1,HN,e0,UR,w0,e1,cl,VX,Nat.reduceEqDiff,Nat.reduceAdd]
 have fa:[bX a,VI (s:Int)].mapM (fz depth ([]:aA))=some [bX a,VI (s:Int)]:=fz2 (aI (bO a)) (aI rfl)
 refine FC.call (uI a s hs ha) rfl fa ?_
 rintro r L ⟨FY,rfl,rfl,hAl,hAd,hAv,hAt⟩
 simp only[VX,Nat.reduceEqDiff,Nat.reduceAdd]
 have fb:∀H:aA,[bX b,VI (s:Int)].mapM (fz depth H)=some [bX b,VI (s:Int)]:=fun H=>fz2 (aI (bO b)) (aI rfl)
 refine FC.call (uI b s hs vZ) rfl (fb _) ?_
 rintro r L ⟨CA,rfl,rfl,hBl,hBd,hBv,hBt⟩
 rw[hn] at hBl
 simp only[hn,List.length_singleton,VX,Nat.reduceEqDiff,Nat.reduceAdd]
 have acA:b*2^s<4294967296^(n+2):=by
  have h2:=(wE (n:=n+1) (gF (b:=4294967296) (by decide) b) hn ht).2
  rw[cL (by decide)] at h2
  have h3:b*2^s<(t+1)*4294967296^(n+1)*2^s:=Nat.mul_lt_mul_of_pos_right h2 hS
  have h4:(t+1)*4294967296^(n+1)*2^s=(t+1)*2^s*4294967296^(n+1):=by grind
  have h5:(t+1)*2^s≤4294967296:=by
   have h6:t*2^s<2^(32-s)*2^s:=by rw[Nat.mul_comm (2^(32-s)),hSW];exact WO
   have h7:=Nat.lt_of_mul_lt_mul_right h6
   have h8:(t+1)*2^s≤2^(32-s)*2^s:=Nat.mul_le_mul_right _ h7
   rwa [Nat.mul_comm (2^(32-s)),hSW] at h8
  have h9:(t+1)*2^s*4294967296^(n+1)≤4294967296*4294967296^(n+1):=Nat.mul_le_mul_right _ h5
  have h10:4294967296*4294967296^(n+1)=4294967296^(n+2):=by rw[Nat.pow_succ 4294967296 (n+1)];exact Nat.mul_comm _ _
  omega
 have hVl:(aC 4294967296 (b*2^s)).length=n+2:=by
  have h2:=mM (b:=4294967296) (by decide) acA
  have h3:b≤b*2^s:=Nat.le_mul_of_pos_right b hS
  have h4:=fG (b:=4294967296) (by decide) h3
  omega
 refine qS (rows:=CA) (m:=b*2^s) (by rfl) (by omega) (by omega) (by omega) (fun d hd=>hBd d (List.mem_of_mem_take hd)) (by rw[List.take_of_length_le (by omega)];exact hBv) fun k hk he => ?_
 have Y2:k=n+2:=by
  have:=congrArg List.length he
  rw[hVl,List.length_take] at this
  omega
 subst Y2
 generalize M7:aC 4294967296 (b*2^s)=vs at *
 have D5:∀d∈vs,d<4294967296:=by rw[←M7];exact gF (by decide) _
 have QZ:val 4294967296 vs=b*2^s:=by rw[←M7];exact cL (by decide) _
 obtain⟨v1,f1⟩:∃v1,vs[n+1]? = some v1:=⟨_,List.getElem?_eq_getElem (by omega)⟩
 obtain⟨v0,f0⟩:∃v0,vs[n]? = some v0:=⟨_,List.getElem?_eq_getElem (by omega)⟩
 have hv1:1≤v1:=by
  obtain⟨d,hd,Bx,_⟩:=Je (a:=b*2^s) (n:=n+1) (by rw[M7];exact hVl)
  rw[M7,f1] at hd
  cases hd
  omega
 have b1:CA[n+1]? = some v1:=by rw[←f1,←he,List.getElem?_take_of_lt (by omega)]
 have b0:CA[n]? = some v0:=by rw[←f0,←he,List.getElem?_take_of_lt (by omega)]
 have lv1:=D5 v1 (List.mem_of_getElem? f1)
 have lv0:=D5 v0 (List.mem_of_getElem? f0)
 have x1:bI 1 (.ref 1 0 0 (n+2) (n+2+1)) (VI ((n+1:Nat):Int)) [.row 0 (FY.map uV) 1 true,.row 0 (CA.map uV) 1 true]=some (.ptr 1 0 (n+1) 0):=by rw[aQ (by rfl) (by omega),Nat.zero_add]
 have x0:bI 1 (.ref 1 0 0 (n+2) (n+2+1)) (VI ((n:Nat):Int)) [.row 0 (FY.map uV) 1 true,.row 0 (CA.map uV) 1 true]=some (.ptr 1 0 n 0):=by rw[aQ (by rfl) (by omega),Nat.zero_add]
 have y1:cO false 1 (.ptr 1 0 (n+1) 0) [.row 0 (FY.map uV) 1 true,.row 0 (CA.map uV) 1 true]=some (uV v1):=gP (rows:=CA) (g:=0) (w:=true) (by rfl) b1
 have y0:cO false 1 (.ptr 1 0 n 0) [.row 0 (FY.map uV) 1 true,.row 0 (CA.map uV) 1 true]=some (uV v0):=gP (rows:=CA) (g:=0) (w:=true) (by rfl) b0
 have z0:nP (.ref 1 0 0 (n+2) (n+2+1)) [.row 0 (FY.map uV) 1 true,.row 0 (CA.map uV) 1 true]=some (VI ((n+2:Nat):Int)):=eZ (r:=(CA.map uV,1,true)) (by rfl)
 have z1:nP (.ref 0 0 0 ((aC 4294967296 a).length+1) ((aC 4294967296 a).length+1)) [.row 0 (FY.map uV) 1 true,.row 0 (CA.map uV) 1 true]=some (VI (((aC 4294967296 a).length+1:Nat):Int)):=eZ (r:=(FY.map uV,1,true)) (by rfl)
 have w2:IntKind.i64.wrap (((n+2:Nat):Int)-2)=((n:Nat):Int):=wrapN _ (by omega) (by omega)
 have wv1:IntKind.u64.wrap (v1:Int)=(v1:Int):=dP _ (by omega)
 have wv0:IntKind.u64.wrap (v0:Int)=(v0:Int):=dP _ (by omega)
 obtain⟨m,hm⟩:∃m,m+(n+2)=(aC 4294967296 a).length+1:=⟨(aC 4294967296 a).length+1-(n+2),by omega⟩
 have wm:IntKind.i64.wrap ((((aC 4294967296 a).length+1:Nat):Int)-((n+2:Nat):Int))=(m:Int):=wrapN _ (by omega) (by omega)
 have wm1:IntKind.i64.wrap ((m:Int)-1)=(m:Int)-1:=wrap64 (by omega) (by omega)
 have mk:=SN m 0 (by omega) (H:=[.row 0 (FY.map uV) 1 true,.row 0 (CA.map uV) 1 true])
 have z2:nP (.ref 2 0 0 m m) (H3 FY CA (List.replicate m 0))=some (VI m):=eZ (r:=((List.replicate m 0).map uV,1,true)) (by rfl)
 simp only[w0,x1,x0,y1,y0,z0,z1,w2,wv1,wv0,wm,mk,z2,wm1,List.length_cons,List.length_nil,VX,Nat.reduceEqDiff,Nat.reduceAdd]
 have AK:val 4294967296 (FY.drop m)<val 4294967296 vs:=by
  obtain⟨d,hd⟩:∃d,FY[(aC 4294967296 a).length]? = some d:=⟨_,List.getElem?_eq_getElem (by omega)⟩
  have h2:=(wE (b:=4294967296) (xs:=FY.drop m) (n:=n+1) (t:=d) (fun x hx=>hAd x (List.mem_of_mem_drop hx)) (by rw[List.length_drop];omega) (by rw[List.getElem?_drop,show m+(n+1)=(aC 4294967296 a).length by omega];exact hd)).2
  have h3:=hAt d hd
  have h4:=(wE (n:=n+1) (gF (b:=4294967296) (by decide) b) hn ht).1
  rw[cL (by decide)] at h4
  have h5:(d+1)*4294967296^(n+1)≤2^s*4294967296^(n+1):=Nat.mul_le_mul_right _ h3
  have h6:1*4294967296^(n+1)≤t*4294967296^(n+1):=Nat.mul_le_mul_right _ (by omega)
  have h7:1*4294967296^(n+1)*2^s≤b*2^s:=Nat.mul_le_mul_right _ (by omega)
  rw[QZ]
  rw[Nat.one_mul,Nat.mul_comm] at h7
  omega
 refine W3 (Cy:=FY) (ws:=CA) (U8:=List.replicate m 0) (vs:=vs) (N:=(aC 4294967296 a).length+1) (m:=m) (n:=n) (A:=a*2^s) (s:=s) hAl hm (by omega) hAd he hBl hVl D5 f1 f0 hv1 hAv AK (by simp) (Bq (by decide) _) (by rfl) (by rfl) (by rfl) (by rfl) (by rfl) (by rfl) (by rfl) ?_
 intro tM us os r8 r9 Y8 M9 GQ iW mJ hv aV
 rw[QZ] at hv aV
 have hq:val 4294967296 os=a / b:=by
  rw[←Nat.mul_div_mul_right a b hS,←hv,Nat.add_mul_div_left _ _ (by omega),Nat.div_eq_of_lt aV,Nat.zero_add]
 have hr:val 4294967296 us=a % b*2^s:=by
  rw[←Nat.mul_mod_mul_right,←hv,Nat.add_mul_mod_self_left,Nat.mod_eq_of_lt aV]
 simp only[r9,VX,Nat.reduceEqDiff,Nat.reduceAdd]
 refine qS (rows:=us) (m:=a % b*2^s) AV (by omega) (Nat.le_refl _) (by omega) (fun d hd=>GQ d (List.mem_of_mem_take hd)) (by rw[List.take_of_length_le (by omega)];exact hr) fun k hk he2 => ?_
 have z3:nP (.ref 0 0 0 k ((aC 4294967296 a).length+1)) (H3 us CA os)=some (VI k):=eZ AV
 simp only[z3,VX,Nat.reduceEqDiff,Nat.reduceAdd]
 refine Tr (us:=us) (k:=k) (N:=(aC 4294967296 a).length+1) (s:=s) (w0:=2^(32-s)) hs hSW M9 hk (by omega) GQ r8 (by rfl) (by rfl) (by rfl) ?_
 intro LW DI q9 q13 acD Z5 Vc
 have apR:LW 13 = .ref 2 0 0 m m:=q13.trans Y8
 have BC:val 4294967296 (DI.take k)=a % b:=by
  rw[Vc,he2,cL (by decide),Nat.mul_div_cancel _ hS]
 simp only[q9,apR,VX,Nat.reduceEqDiff,Nat.reduceAdd]
 refine qS (rows:=os) (m:=a / b) ZC (by omega) (Nat.le_refl _) (by omega) (fun d hd=>mJ d (List.mem_of_mem_take hd)) (by rw[List.take_of_length_le (by omega)];exact hq) fun k2 Y2 he3 => ?_
 simp only[q9,VX,Nat.reduceEqDiff,Nat.reduceAdd]
 refine qS (rows:=DI) (m:=a % b) AV (by omega) hk (by omega) (fun d hd=>Z5 d (List.mem_of_mem_take hd)) BC fun k3 hk3 he4 => ?_
 simp only[VX,Nat.reduceEqDiff,Nat.reduceAdd]
 exact bJ (d:=6) (HA (d:=5) ZC (by omega) Y2 he3) (HA (d:=5) AV (by omega) (by omega) he4)
end Go.PM
namespace Go.PM
abbrev H2 (us os:List Nat):aA:=[.row 0 (us.map tV) 1 true,.row 0 (os.map tV) 1 true]
theorem Qs {us os:List Nat}:aF (H2 us os) 0 0=some (us.map tV,1,true):=rfl
theorem ajW {us os:List Nat}:aF (H2 us os) 1 0=some (os.map tV,1,true):=rfl
theorem Zp {P a Z:Nat} {y:Int} (h:(a:Int)+(P:Int)*y=(Z:Int)) (ha:a<P) (hZ:Z<P):y=0∧a=Z:=by
 have hy:y=0:=by
  rcases Int.lt_trichotomy y 0 with h1 | h1 | h1
  ·have:(P:Int)*y≤(P:Int)*(-1):=Int.mul_le_mul_of_nonneg_left (by omega) (by omega)
   omega
  ·exact h1
  ·have:(P:Int)*1≤(P:Int)*y:=Int.mul_le_mul_of_nonneg_left (by omega) (by omega)
   omega
 subst hy
 rw[Int.mul_zero] at h
 exact⟨rfl,by omega⟩
theorem Qe {us:List Nat} {i n N V:Nat} (hN:us.length=N) (dK:i+n<N) (hd:∀d∈us,d<1000000000) (hV:V<1000000000^n) (AK:val 1000000000 (us.drop (i+1))<V) :
  us=us.take i++(us.drop i).take (n+1)++us.drop (i+(n+1))∧(us.take i).length=i∧((us.drop i).take (n+1)).length=n+1∧val 1000000000 ((us.drop i).take (n+1))<1000000000*V∧val 1000000000 (us.drop i)=val 1000000000 ((us.drop i).take (n+1))∧val 1000000000 (us.drop (i+(n+1)))=0∧∀j,j<n+1→((us.drop i).take (n+1))[j]? = us[i+j]? := by
 obtain⟨x,hx⟩:∃x,us[i]? = some x:=⟨_,List.getElem?_eq_getElem (by omega)⟩
 have lx:=hd x (List.mem_of_getElem? hx)
 have h1:=pE (b:=1000000000) hx
 have h2:val 1000000000 (us.drop i)<1000000000*V:=by
  have:1000000000*(val 1000000000 (us.drop (i+1))+1)≤1000000000*V:=Nat.mul_le_mul_left _ AK
  omega
 have h3:=nB (b:=1000000000) (us.drop i) (n+1)
 have h4:((us.drop i).take (n+1)).length=n+1:=by rw[List.length_take,List.length_drop];omega
 rw[h4,List.drop_drop] at h3
 have h5:val 1000000000 (us.drop (i+(n+1)))=0:=by
  rcases Nat.eq_zero_or_pos (val 1000000000 (us.drop (i+(n+1)))) with h | h
  ·exact h
  ·have h6:1000000000^(n+1)*1≤1000000000^(n+1)*val 1000000000 (us.drop (i+(n+1))):=Nat.mul_le_mul_left _ h
   have h7:1000000000*V≤1000000000^(n+1):=by rw[Nat.pow_succ,Nat.mul_comm];exact Nat.mul_le_mul_right _ (by omega)
   omega
 rw[h5,Nat.mul_zero,Nat.add_zero] at h3
 refine⟨?_,by rw[List.length_take];omega,h4,by omega,h3,h5,fun j hj => ?_⟩
 ·rw[List.append_assoc,←List.drop_drop,List.take_append_drop,List.take_append_drop]
 ·rw[List.getElem?_take_of_lt hj,List.getElem?_drop]
theorem leT {g:Nat} (h:(1000000000:Int)≤(g:Int)):1000000000≤g:=by omega
theorem Vy {g:Nat} (h:¬(1000000000:Int)≤(g:Int)):g<1000000000:=by omega
theorem ltC {a b:Nat} (h:(a:Int)<(b:Int)):a<b:=by omega
theorem aqG {a b:Nat} (h:¬(a:Int)<(b:Int)):b≤a:=by omega
theorem Le {a:Nat} (h:a*1000000000≤9223372036854775807):IntKind.i64.wrap ((a:Int)*1000000000)=((a*1000000000:Nat):Int):=wrapN _ (by omega) h
theorem KN {a b:Nat} (h:a+b≤9223372036854775807):IntKind.i64.wrap ((a:Int)+(b:Int))=((a+b:Nat):Int):=wrapN _ (by omega) h
theorem Ua {a b:Nat} (h:a*b≤9223372036854775807):IntKind.i64.wrap ((a:Int)*(b:Int))=((a*b:Nat):Int):=wrapN _ (by simp) h
theorem x17 {a:Nat} (h:a<1000000000):a*1000000000≤9223372036854775807:=by omega
theorem x18 {a b:Nat} (h:a<1000000000) (hb:b<1000000000):a*1000000000+b≤1000000000000000000:=by omega
theorem NW {gI vs us os:List Nat} {n u2 u1 u0 v1 v0 N i g left:Nat} (G:sQ 1000000000 gI vs n u2 u1 u0 v1 v0) {ρ:dJ} {Q:VQ} (hN:us.length=N) (hiN:i+(n+2)<N) (BH:N≤70368744177664) (Zs:us[i+n]? = some u0)
  (g13:ρ 13 = .ref 0 0 0 N N) (g14:ρ 14=iY vs) (g15:ρ 15=VI ((n+2:Nat):Int)) (g17:ρ 17=VI i) (g19:ρ 19=VI g) (g20:ρ 20=VI left) (hh:u2*1000000000+u1=g*v1+left) (hq:val 1000000000 gI / val 1000000000 vs≤g) (hl:left<1000000000) (hgb:g≤1000000000000000000)
  (hQ:∀(aU:dJ) (g':Nat),val 1000000000 gI / val 1000000000 vs≤g'→g'≤val 1000000000 gI / val 1000000000 vs+1→g'<1000000000→aU 19=VI g'→aU 12=ρ 12→aU 13=ρ 13→aU 14=ρ 14→aU 15=ρ 15→aU 16=ρ 16→aU 17=ρ 17→Q (.exit 2) aU (H2 us os)) :
  VW ⟨true,false⟩ 0 (.loop fO) Q ρ (H2 us os):=by
 have lv1:=G.RQ
 have lv0:=G.Wy
 have lu0:=G.aaU
 have qlt:=G.YX
 have iU:=G.pos
 have DP:=G.Jh
 refine aR (fun(t:Nat×Nat) aU H=>H=H2 us os∧u2*1000000000+u1=t.1*v1+t.2∧val 1000000000 gI / val 1000000000 vs≤t.1∧t.2<1000000000∧t.1≤1000000000000000000 ∧
  aU 13 = .ref 0 0 0 N N∧aU 14=iY vs∧aU 15=VI ((n+2:Nat):Int)∧aU 17=VI i∧aU 19=VI t.1∧aU 20=VI t.2∧aU 12=ρ 12∧aU 16=ρ 16) (fun t=>1000000000-t.2) (g,left) ⟨rfl,hh,hq,hl,hgb,g13,g14,g15,g17,g19,g20,rfl,rfl⟩ ?_
 rintro⟨g,left⟩ LW H ⟨rfl,hh,hq,hl,hgb,zK,AR,HH,Hv,Yy,k20,Gb,YC⟩
 simp only at hh hq hl hgb Yy k20
 have f1:bI 1 (iY vs) (VI ((n+1:Nat):Int)) (H2 us os)=some (.cY (tV v1) 0):=aK (f:=tV) (t := .op) (size:=1) (k := .i64) G.f1 rfl
 have f0:bI 1 (iY vs) (VI (n:Int)) (H2 us os)=some (.cY (tV v0) 0):=aK (f:=tV) (t := .op) (size:=1) (k := .i64) G.f0 rfl
 have wn2:IntKind.i64.wrap (((n+2:Nat):Int)-2)=(n:Int):=wrapN _ (by omega) (by omega)
 have wn1:IntKind.i64.wrap (((n+2:Nat):Int)-1)=((n+1:Nat):Int):=wrapN _ (by omega) (by omega)
 have wi:IntKind.i64.wrap ((i:Int)+((n+2:Nat):Int))=((i+(n+2):Nat):Int):=wrapN _ (by omega) (by omega)
 have wi2:IntKind.i64.wrap (((i+(n+2):Nat):Int)-2)=((i+n:Nat):Int):=wrapN _ (by omega) (by omega)
 have e1:bI 1 (.ref 0 0 0 N N) (VI ((i+n:Nat):Int)) (H2 us os)=some (.ptr 0 0 (i+n) 0):=by rw[aQ Qs (by omega),Nat.zero_add]
 have e2:cO false 1 (.ptr 0 0 (i+n) 0) (H2 us os)=some (VI (u0:Int)):=Qt Qs Zs
 have wl:IntKind.i64.wrap ((left:Int)+(v1:Int))=((left+v1:Nat):Int):=wrapN _ (by omega) (by omega)
 have down:val 1000000000 gI / val 1000000000 vs<g→∃g',g=g'+1∧IntKind.i64.wrap ((g:Int)-1)=(g':Int)∧u2*1000000000+u1=g'*v1+(left+v1)∧val 1000000000 gI / val 1000000000 vs≤g':=by
  intro h
  have hg1:1≤g:=Nat.lt_of_le_of_lt (Nat.zero_le _) h
  obtain⟨g',rfl⟩:∃g',g=g'+1:=⟨g-1,by omega⟩
  refine⟨g',rfl,wrapN _ (by omega) (by omega),?_,by omega⟩
  rw[hh,Nat.add_mul]
  omega
 have hmu:∀g':Nat,left+v1<1000000000→1000000000-(g',left+v1).2<1000000000-(g,left).2:=fun g' h=>by
  show 1000000000-(left+v1)<1000000000-left
  omega
 have hle:∀g':Nat,g=g'+1→g'≤1000000000000000000:=fun g' h=>by
  omega
 have apI:left*1000000000+u0≤9223372036854775807:=Nat.le_trans (x18 hl lu0) (by decide)
 have anI:left*1000000000≤9223372036854775807:=x17 hl
 have ws:IntKind.i64.wrap ((left:Int)*1000000000)=((left*1000000000:Nat):Int):=Le anI
 have wa:IntKind.i64.wrap (((left*1000000000:Nat):Int)+(u0:Int))=((left*1000000000+u0:Nat):Int):=KN apI
 obtain⟨s13,s14,s15,s17⟩:LW 13=ρ 13∧LW 14=ρ 14∧LW 15=ρ 15∧LW 17=ρ 17:=⟨by rw[zK,g13],by rw[AR,g14],by rw[HH,g15],by rw[Hv,g17]⟩
 by_cases hA:(1000000000:Int)≤(g:Int)
 ·have hA':=leT hA
  obtain⟨g',TA,wg,QH,Kh⟩:=down (Nat.lt_of_lt_of_le qlt hA')
  by_cases hB:(1000000000:Int)≤((left+v1:Nat):Int)
  ·obtain⟨c1,c2⟩:=G.broken QH (leT hB)
   simp only[fO,zK,AR,HH,Hv,Yy,k20,hA,hB,f1,wn1,wg,wl,VX,Nat.reduceEqDiff,Nat.reduceAdd]
   exact hQ _ g' Kh (G.UA QH (Nat.le_of_lt c1) c2) c1 rfl Gb s13 s14 s15 YC s17
  ·simp only[fO,zK,AR,HH,Hv,Yy,k20,hA,hB,f1,wn1,wg,wl,VX,Nat.reduceEqDiff,Nat.reduceAdd]
   refine⟨(g',left+v1),hmu g' (Vy hB),QH,Kh,Vy hB,hle g' TA,?_⟩
   exact⟨rfl,rfl,Gb,YC⟩
 ·have hA':=Vy hA
  have hgv:g*v0≤999999999*999999999:=Nat.mul_le_mul (Nat.le_of_lt_succ hA') (Nat.le_of_lt_succ lv0)
  have wm:IntKind.i64.wrap ((g:Int)*(v0:Int))=((g*v0:Nat):Int):=Ua (Nat.le_trans hgv (by decide))
  by_cases hT:((left*1000000000+u0:Nat):Int)<((g*v0:Nat):Int)
  ·obtain⟨g',TA,wg,QH,Kh⟩:=down (G.too hh (ltC hT))
   by_cases hB:(1000000000:Int)≤((left+v1:Nat):Int)
   ·obtain⟨c1,c2⟩:=G.broken QH (leT hB)
    simp only[fO,zK,AR,HH,Hv,Yy,k20,hA,hB,hT,f1,f0,e1,e2,wn1,wn2,wi,wi2,ws,wa,wm,wg,wl,VX,Nat.reduceEqDiff,Nat.reduceAdd]
    exact hQ _ g' Kh (G.UA QH (Nat.le_of_lt c1) c2) c1 rfl Gb s13 s14 s15 YC s17
   ·simp only[fO,zK,AR,HH,Hv,Yy,k20,hA,hB,hT,f1,f0,e1,e2,wn1,wn2,wi,wi2,ws,wa,wm,wg,wl,VX,Nat.reduceEqDiff,Nat.reduceAdd]
    refine⟨(g',left+v1),hmu g' (Vy hB),QH,Kh,Vy hB,hle g' TA,?_⟩
    exact⟨rfl,rfl,Gb,YC⟩
  ·simp only[fO,zK,AR,HH,Hv,Yy,k20,hA,hT,f0,e1,e2,wn2,wi,wi2,ws,wa,wm,VX,Nat.reduceEqDiff,Nat.reduceAdd]
   exact hQ _ g hq (G.UA hh (Nat.le_of_lt hA') (aqG hT)) hA' Yy Gb s13 s14 s15 YC s17
theorem Lc {Cy U8 vs:List Nat} {N m n v1 v0 A s:Nat} {ρ:dJ} {Q:VQ} (hN:Cy.length=N) (hm:m+(n+2)=N) (BH:N≤70368744177664) (GQ:∀d∈Cy,d<1000000000) (DP:vs.length=n+2) (D5:∀d∈vs,d<1000000000) (f1:vs[n+1]? = some v1) (f0:vs[n]? = some v0) (iU:1≤v1)
  (hA:val 1000000000 Cy=A) (AK:val 1000000000 (Cy.drop m)<val 1000000000 vs) (iW:U8.length=m) (mJ:∀d∈U8,d<1000000000)
  (g12:ρ 12=VI s) (g13:ρ 13 = .ref 0 0 0 N N) (g14:ρ 14=iY vs) (g15:ρ 15=VI ((n+2:Nat):Int)) (g16:ρ 16 = .ref 1 0 0 m m) (g17:ρ 17=VI ((m:Int)-1))
  (hQ:∀(aU:dJ) (us os:List Nat),aU 12=VI s→aU 13 = .ref 0 0 0 N N→aU 16 = .ref 1 0 0 m m→us.length=N→(∀d∈us,d<1000000000)→os.length=m→(∀d∈os,d<1000000000)→val 1000000000 us+val 1000000000 vs*val 1000000000 os=A→val 1000000000 us<val 1000000000 vs→Q (.exit 0) aU (H2 us os)) :
  VW ⟨true,false⟩ 0 (.loop gM) Q ρ (H2 Cy U8):=by
 have hVb:=oG D5
 rw[DP] at hVb
 refine aR (fun(t:Nat×List Nat×List Nat) aU H=>t.1≤m∧H=H2 t.2.1 t.2.2∧t.2.1.length=N∧(∀d∈t.2.1,d<1000000000)∧t.2.2.length=m∧(∀d∈t.2.2,d<1000000000)∧val 1000000000 (t.2.1.drop t.1)<val 1000000000 vs∧val 1000000000 t.2.1+1000000000^t.1*val 1000000000 vs*val 1000000000 (t.2.2.drop t.1)=A ∧
  aU 12=VI s∧aU 13 = .ref 0 0 0 N N∧aU 14=iY vs∧aU 15=VI ((n+2:Nat):Int)∧aU 16 = .ref 1 0 0 m m∧aU 17=VI ((t.1:Int)-1)) (fun t=>t.1) (m,Cy,U8) ⟨Nat.le_refl _,rfl,hN,GQ,iW,mJ,AK,by rw[List.drop_of_length_le (by simp only;omega)];simpa[val] using hA,g12,g13,g14,g15,g16,g17⟩ ?_
 rintro⟨j,us,os⟩ LW H ⟨hj,rfl,M9,GQ,iW,mJ,aV,hv,Gb,zK,AR,HH,YC,Hv⟩
 simp only at hj M9 GQ iW mJ aV hv Hv
 by_cases hz:(0:Int)≤(j:Int)-1
 ·obtain⟨i,rfl⟩:∃i,j=i+1:=⟨j-1,by omega⟩
  have M3:((i+1:Nat):Int)-1=(i:Int):=by omega
  rw[M3] at Hv hz
  obtain⟨Q2,wD,Qd,hsW,V9,VE,rU⟩:=Qe (n:=n+2) M9 (by omega) GQ hVb aV
  generalize Ud:(us.drop i).take (n+2+1)=gI at *
  have SW:∀d∈gI,d<1000000000:=fun d hd=>by rw[←Ud] at hd;exact GQ d (List.mem_of_mem_drop (List.mem_of_mem_take hd))
  obtain⟨u2,hu2⟩:∃u2,us[i+(n+2)]? = some u2:=⟨_,List.getElem?_eq_getElem (by omega)⟩
  obtain⟨u1,YG⟩:∃u1,us[i+(n+1)]? = some u1:=⟨_,List.getElem?_eq_getElem (by omega)⟩
  obtain⟨u0,Zs⟩:∃u0,us[i+n]? = some u0:=⟨_,List.getElem?_eq_getElem (by omega)⟩
  have G:sQ 1000000000 gI vs n u2 u1 u0 v1 v0:=⟨by decide,SW,D5,Qd,DP,by rw[rU _ (by omega)];exact hu2,by rw[rU _ (by omega)];exact YG,by rw[rU _ (by omega)];exact Zs,f1,f0,iU,hsW⟩
  have lu2:=G.abJ
  have lu1:=G.V3
  have lv1:=G.RQ
  have qlt:=G.YX
  have F9:=G.F9
  have w1:IntKind.i64.wrap ((i:Int)+((n+2:Nat):Int))=((i+(n+2):Nat):Int):=wrapN _ (by omega) (by omega)
  have w2:IntKind.i64.wrap (((i+(n+2):Nat):Int)-1)=((i+(n+1):Nat):Int):=wrapN _ (by omega) (by omega)
  have wn1:IntKind.i64.wrap (((n+2:Nat):Int)-1)=((n+1:Nat):Int):=wrapN _ (by omega) (by omega)
  have ev1:bI 1 (iY vs) (VI ((n+1:Nat):Int)) (H2 us os)=some (.cY (tV v1) 0):=aK (f:=tV) (t := .op) (size:=1) (k := .i64) f1 rfl
  have e2:bI 1 (.ref 0 0 0 N N) (VI ((i+(n+2):Nat):Int)) (H2 us os)=some (.ptr 0 0 (i+(n+2)) 0):=by rw[aQ Qs (by omega),Nat.zero_add]
  have e1:bI 1 (.ref 0 0 0 N N) (VI ((i+(n+1):Nat):Int)) (H2 us os)=some (.ptr 0 0 (i+(n+1)) 0):=by rw[aQ Qs (by omega),Nat.zero_add]
  have l2:cO false 1 (.ptr 0 0 (i+(n+2)) 0) (H2 us os)=some (VI (u2:Int)):=Qt Qs hu2
  have l1:cO false 1 (.ptr 0 0 (i+(n+1)) 0) (H2 us os)=some (VI (u1:Int)):=Qt Qs YG
  have apP:u2*1000000000+u1≤1000000000000000000:=x18 lu2 lu1
  have aoD:u2*1000000000≤9223372036854775807:=x17 lu2
  have agV:u2*1000000000+u1≤9223372036854775807:=Nat.le_trans apP (by decide)
  have ws2:IntKind.i64.wrap ((u2:Int)*1000000000)=((u2*1000000000:Nat):Int):=Le aoD
  have wa:IntKind.i64.wrap (((u2*1000000000:Nat):Int)+(u1:Int))=((u2*1000000000+u1:Nat):Int):=KN agV
  have q1:=HC (u2*1000000000+u1) v1 agV iU
  have q2:=IC (u2*1000000000+u1) v1 iU
  simp only[gM,Gb,zK,AR,HH,YC,Hv,hz,w1,w2,wn1,ev1,e1,e2,l1,l2,ws2,wa,q1,q2,VX,Nat.reduceEqDiff,Nat.reduceAdd]
  clear ws2 wa q1 q2 e1 e2 l1 l2 ev1 w1 w2 wn1
  have hh:=Nat.mod_add_div (u2*1000000000+u1) v1
  have hml:=Nat.mod_lt (u2*1000000000+u1) iU
  have hdl:(u2*1000000000+u1) / v1≤u2*1000000000+u1:=Nat.div_le_self _ _
  have M8:val 1000000000 gI / val 1000000000 vs≤(u2*1000000000+u1) / v1:=by
   have t1:=(Bv (n:=n+1) (xs:=gI) SW (by omega) (by rw[rU _ (by omega)];exact hu2) (by rw[rU _ (by omega)];exact YG)).2
   have t2:=(wE (n:=n+1) D5 DP f1).1
   rw[Nat.le_div_iff_mul_le iU]
   have t3:val 1000000000 gI / val 1000000000 vs*(v1*1000000000^(n+1))≤val 1000000000 gI / val 1000000000 vs*val 1000000000 vs:=Nat.mul_le_mul_left _ t2
   have t4:=Nat.div_mul_le_self (val 1000000000 gI) (val 1000000000 vs)
   have t5:val 1000000000 gI / val 1000000000 vs*v1*1000000000^(n+1)<(u2*1000000000+u1+1)*1000000000^(n+1):=by rw[Nat.mul_assoc];omega
   have:=Nat.lt_of_mul_lt_mul_right t5
   omega
  generalize hQ1:(u2*1000000000+u1) / v1=g0 at *
  generalize hQ2:(u2*1000000000+u1) % v1=l0 at *
  refine NW (i:=i) G M9 (by omega) BH Zs zK AR HH Hv (by rfl) (by rfl) (by rw[Nat.mul_comm g0];omega) M8 (by omega) (by omega) ?_
  intro PW g' hq Kh hgW r19 r12 Y8 r14 r15 r16 r17
  have ON:PW 12=VI s:=r12.trans Gb
  have N6:PW 13 = .ref 0 0 0 N N:=Y8.trans zK
  have O8:PW 14=iY vs:=r14.trans AR
  have Pc:PW 15=VI ((n+2:Nat):Int):=r15.trans HH
  have Z1:PW 16 = .ref 1 0 0 m m:=r16.trans YC
  have YK:PW 17=VI i:=r17.trans Hv
  simp only[ON,N6,O8,Pc,Z1,YK,r19,VX,Nat.reduceEqDiff,Nat.reduceAdd]
  have qK:g'*val 1000000000 vs≤val 1000000000 gI+val 1000000000 vs:=by
   have:=Nat.mul_le_mul_right (val 1000000000 vs) Kh
   rw[Nat.add_mul,Nat.one_mul] at this
   have:=Nat.div_mul_le_self (val 1000000000 gI) (val 1000000000 vs)
   omega
  obtain⟨low,adG⟩:∃low,low=gI.take (n+2):=⟨_,rfl⟩
  have hll:low.length=n+2:=by rw[adG,List.length_take];omega
  have WV:∀d∈low,d<1000000000:=fun d hd=>SW d (by rw[adG] at hd;exact List.mem_of_mem_take hd)
  have hsg:gI=low++[u2]:=by
   have h1:gI[n+2]? = some u2:=by rw[rU _ (by omega)];exact hu2
   have h2:=List.take_append_drop (n+2) gI
   have h3:=(List.getElem?_eq_some_iff.1 h1)
   rw[List.drop_eq_getElem_cons h3.1,h3.2,List.drop_of_length_le (by omega),←adG] at h2
   exact h2.symm
  have M7:val 1000000000 gI=val 1000000000 low+1000000000^(n+2)*u2:=by rw[hsg,rS,hll]
  have lX:∀(lw:List Nat) (t:Nat),(us.take i).map tV++lw.map tV++VI (t:Int)::(us.drop (i+(n+2+1))).map tV=(us.take i++(lw++[t])++us.drop (i+(n+2+1))).map tV:=fun lw t=>by simp
  have BG:aF (H2 us os) 0 0=some ((us.take i).map tV++low.map tV++VI (u2:Int)::(us.drop (i+(n+2+1))).map tV,1,true):=by
   rw[lX,←hsg,←Q2]
   rfl
  refine eB rfl ((Uq (o:=i) (n:=n+2) BG (Nat.zero_le _) (by simpa using wD) hll DP (by omega) BH WV D5 hgW lu2).mono ?_)
  rintro r H' ⟨zD,c,rfl,AQ,WY,hc,hr,hE⟩
  have auJ:val 1000000000 low<1000000000^(n+2):=by have:=oG WV;rwa [hll] at this
  have amE:val 1000000000 zD<1000000000^(n+2):=by have:=oG WY;rwa [AQ] at this
  have rows:∀(lw:List Nat) (t q:Nat),lw.length=n+2→(∀d∈lw,d<1000000000)→t<1000000000→q=val 1000000000 gI / val 1000000000 vs→val 1000000000 lw+1000000000^(n+2)*t=val 1000000000 gI % val 1000000000 vs →
    ((us.take i++(lw++[t])++us.drop (i+(n+2+1))).length=N∧(∀d∈us.take i++(lw++[t])++us.drop (i+(n+2+1)),d<1000000000)∧val 1000000000 ((us.take i++(lw++[t])++us.drop (i+(n+2+1))).drop i)<val 1000000000 vs∧val 1000000000 (us.take i++(lw++[t])++us.drop (i+(n+2+1)))+1000000000^i*val 1000000000 vs*val 1000000000 ((os.set i q).drop i)=A):=by
   intro lw t q hlw anC ht PV YE
   have aaG:val 1000000000 (lw++[t])=val 1000000000 gI % val 1000000000 vs:=by rw[rS,hlw];exact YE
   have arA:(lw++[t]).length=n+3:=by rw[List.length_append,hlw];rfl
   have aoB:∀d∈lw++[t],d<1000000000:=fun d hd=>by
    rcases List.mem_append.1 hd with h | h
    ·exact anC d h
    ·rw[List.mem_singleton.1 h];exact ht
   generalize lw++[t]=oU at *
   have YW:=Nat.mod_lt (val 1000000000 gI) F9
   have Rj:(us.take i++oU++us.drop (i+(n+2+1))).drop i=oU++us.drop (i+(n+2+1)):=by rw[List.append_assoc,List.drop_append,List.drop_of_length_le (by omega),wD];simp
   have P8:(us.take i++oU++us.drop (i+(n+2+1))).take i=us.take i:=by rw[List.append_assoc,List.take_append_of_le_length (by omega),List.take_of_length_le (by omega)]
   have NG:val 1000000000 ((us.take i++oU++us.drop (i+(n+2+1))).drop i)=val 1000000000 oU:=by rw[Rj,uZ,VE,Nat.mul_zero,Nat.add_zero]
   refine⟨by rw[List.length_append,List.length_append,wD,arA,List.length_drop];omega,fun d hd => ?_,by rw[NG,aaG];exact YW,?_⟩
   ·rw[List.mem_append,List.mem_append] at hd
    rcases hd with(hd | hd) | hd
    ·exact GQ d (List.mem_of_mem_take hd)
    ·exact aoB d hd
    ·exact GQ d (List.mem_of_mem_drop hd)
   ·have h1:=Nat.div_add_mod (val 1000000000 gI) (val 1000000000 vs)
    rw[←PV,←aaG,Nat.mul_comm] at h1
    have h2:=nB (b:=1000000000) us i
    have h3:=nB (b:=1000000000) (us.take i++oU++us.drop (i+(n+2+1))) i
    rw[P8,wD,NG] at h3
    rw[wD,V9] at h2
    rw[set_drop (by omega),pC,h3]
    rw[h2,Nat.pow_succ] at hv
    exact Iq h1.symm hv
  have e3:∀(DI:List Nat) (d:Nat),bI 1 (.ref 1 0 0 m m) (VI i) (H2 DI os)=some (.ptr 1 0 i 0)∧bY 0 1 (.ptr 1 0 i 0) (VI (d:Int)) (H2 DI os)=some (H2 DI (os.set i d)):=fun DI d=>by
   refine⟨by rw[aQ ajW (by omega),Nat.zero_add],?_⟩
   rw[show VI (d:Int)=tV d from rfl,dO (f:=tV) (e:=1) ajW (by omega) (Nat.zero_le _) rfl rfl]
   rfl
  have wi:IntKind.i64.wrap ((i:Int)-1)=(i:Int)-1:=wrap64 (by omega) (by omega)
  have hdm:=Nat.div_add_mod (val 1000000000 gI) (val 1000000000 vs)
  have YW:=Nat.mod_lt (val 1000000000 gI) F9
  generalize hPP:1000000000^(n+2)=P at *
  by_cases sW:(u2:Int)-(c:Int)<0
  ·
   rw[decide_eq_true sW] at hr
   subst hr
   have hgt:val 1000000000 gI<g'*val 1000000000 vs:=by
    have h1:P*(u2+1)≤P*c:=Nat.mul_le_mul_left _ (by omega)
    rw[Nat.mul_add,Nat.mul_one] at h1
    omega
   have PV:g'=val 1000000000 gI / val 1000000000 vs+1:=by
    rcases Nat.lt_or_ge (val 1000000000 gI / val 1000000000 vs) g' with h | h
    ·omega
    ·have h1:g'*val 1000000000 vs≤val 1000000000 gI / val 1000000000 vs*val 1000000000 vs:=Nat.mul_le_mul_right _ h
     have:=Nat.div_mul_le_self (val 1000000000 gI) (val 1000000000 vs)
     omega
   have hg1:1≤g':=by rw[PV];exact Nat.le_add_left 1 _
   have wg:IntKind.i64.wrap ((g':Int)-1)=((g'-1:Nat):Int):=wrapN _ (by omega) (by omega)
   simp only[ON,N6,O8,Pc,Z1,YK,r19,wg,VX,Nat.reduceEqDiff,Nat.reduceAdd]
   have Vj:aF ((H2 us os).set 0 (.row 0 ((us.take i).map tV++zD.map tV++VI ((u2:Int)-(c:Int))::(us.drop (i+(n+2+1))).map tV) 1 true)) 0 0=some ((us.take i).map tV++zD.map tV++VI ((u2:Int)-(c:Int))::(us.drop (i+(n+2+1))).map tV,1,true):=rfl
   refine eB rfl ((Uo (o:=i) (n:=n+2) Vj (Nat.zero_le _) (by simpa using wD) AQ DP (by omega) BH WY D5 (by omega) (by omega)).mono ?_)
   rintro r H' ⟨Q7,c2,rfl,Eo,hd2,PQ,hE2⟩
   rw[hPP] at hE2
   have adQ:val 1000000000 Q7<P:=by have:=oG hd2;rwa [Eo,hPP] at this
   obtain⟨hy,hZ⟩:(u2:Int)-(c:Int)+(c2:Int)=0∧val 1000000000 Q7=val 1000000000 gI % val 1000000000 vs:=by
    refine Zp (P:=P) ?_ adQ (by omega)
    have i1:(P:Int)*((u2:Int)-(c:Int)+(c2:Int))=(P:Int)*u2-(P:Int)*c+(P:Int)*c2:=by rw[Int.mul_add,Int.mul_sub]
    have i2:((P*u2:Nat):Int)=(P:Int)*u2:=by simp
    have i3:((P*c:Nat):Int)=(P:Int)*c:=by simp
    have i4:((P*c2:Nat):Int)=(P:Int)*c2:=by simp
    rw[i1,←i2,←i3,←i4]
    have i5:g'*val 1000000000 vs=val 1000000000 vs*(val 1000000000 gI / val 1000000000 vs)+val 1000000000 vs:=by rw[PV,Nat.add_mul,Nat.one_mul,Nat.mul_comm (val 1000000000 vs)]
    omega
   have F0:((H2 us os).set 0 (.row 0 ((us.take i).map tV++zD.map tV++VI ((u2:Int)-(c:Int))::(us.drop (i+(n+2+1))).map tV) 1 true)).set 0 (.row 0 ((us.take i).map tV++Q7.map tV++VI ((u2:Int)-(c:Int)+(c2:Int))::(us.drop (i+(n+2+1))).map tV) 1 true)=H2 (us.take i++(Q7++[0])++us.drop (i+(n+2+1))) os:=by
    rw[hy]
    rw[show (0:Int)=((0:Nat):Int) from rfl,lX]
    rfl
   rw[F0]
   obtain⟨x1,x2⟩:=e3 (us.take i++(Q7++[0])++us.drop (i+(n+2+1))) (g'-1)
   obtain⟨y1,y2,y3,y4⟩:=rows Q7 0 (g'-1) Eo hd2 (by decide) (by rw[PV,Nat.add_sub_cancel]) (by rw[Nat.mul_zero,Nat.add_zero];exact hZ)
   simp only[ON,N6,O8,Pc,Z1,YK,x1,x2,wi,VX,Nat.reduceEqDiff,Nat.reduceAdd]
   refine⟨(i,us.take i++(Q7++[0])++us.drop (i+(n+2+1)),os.set i (g'-1)),by simp only;omega,by omega,rfl,y1,y2,by rw[List.length_set];exact iW,mA mJ (by omega),y3,y4,?_⟩
   try (repeat' apply And.intro)<;>first | rfl | trivial
  ·rw[decide_eq_false sW] at hr
   subst hr
   obtain⟨t',Zx⟩:∃t':Nat,(u2:Int)-(c:Int)=(t':Int):=⟨u2-c,by omega⟩
   have hP1:P*u2=P*c+P*t':=by rw[←Nat.mul_add];congr 1;omega
   have CC:g'*val 1000000000 vs≤val 1000000000 gI:=by omega
   have PV:g'=val 1000000000 gI / val 1000000000 vs:=by
    have:=(Nat.le_div_iff_mul_le F9).2 CC
    omega
   have F0:(H2 us os).set 0 (.row 0 ((us.take i).map tV++zD.map tV++VI ((u2:Int)-(c:Int))::(us.drop (i+(n+2+1))).map tV) 1 true)=H2 (us.take i++(zD++[t'])++us.drop (i+(n+2+1))) os:=by
    rw[Zx,lX]
    rfl
   rw[F0]
   obtain⟨x1,x2⟩:=e3 (us.take i++(zD++[t'])++us.drop (i+(n+2+1))) g'
   have YE:val 1000000000 zD+P*t'=val 1000000000 gI % val 1000000000 vs:=by
    rw[←PV,Nat.mul_comm] at hdm
    omega
   obtain⟨y1,y2,y3,y4⟩:=rows zD t' g' AQ WY (by omega) PV YE
   simp only[ON,N6,O8,Pc,Z1,YK,r19,x1,x2,wi,VX,Nat.reduceEqDiff,Nat.reduceAdd]
   refine⟨(i,us.take i++(zD++[t'])++us.drop (i+(n+2+1)),os.set i g'),by simp only;omega,by omega,rfl,y1,y2,by rw[List.length_set];exact iW,mA mJ (by omega),y3,y4,?_⟩
   try (repeat' apply And.intro)<;>first | rfl | trivial
 ·have Qn:j=0:=by omega
  subst Qn
  rw[Nat.pow_zero,Nat.one_mul,List.drop_zero] at hv
  rw[List.drop_zero] at aV
  simp only[gM,Gb,zK,AR,HH,YC,Hv,hz,VX,Nat.reduceEqDiff,Nat.reduceAdd]
  exact hQ _ us os Gb zK YC M9 GQ iW mJ hv aV
end Go.PM
namespace Go.PM
def bl (n:Nat):Nat:=(aC 2 n).length
theorem N9 (n:Nat):n<2^bl n:=iE (by decide) n
theorem Gx {n k:Nat} (h:n<2^k):bl n≤k:=mM (by decide) h
theorem BW {m n:Nat} (h:m≤n):bl m≤bl n:=fG (by decide) h
theorem adU (m n:Nat):bl (m*n)≤bl m+bl n:=by
 refine Gx ?_
 rw[Nat.pow_add]
 exact Nat.mul_lt_mul'' (N9 m) (N9 n)
theorem Si:bl 0=0:=by simp[bl,bQ]
theorem MV:bl 1=1:=by simp[bl,hC (b:=2) (by decide) (n:=1) (by decide),bQ]
theorem adH {n:Nat} (h:n≠0):1≤bl n:=by
 have:=BW (m:=1) (n:=n) (by omega)
 rwa [MV] at this
theorem aaR (n:Nat):32*(aC 4294967296 n).length≤bl n+31:=by
 by_cases h:n=0
 ·subst h;rw[bQ];simp
 ·have h1:=Hy (b:=4294967296) (by decide) h
  have h2:=N9 n
  have e:(4294967296:Nat)=2^32:=by decide
  rw[e] at h1 ⊢
  rw[←Nat.pow_mul] at h1
  have h3:2^(32*((aC (2^32) n).length-1))<2^bl n:=by omega
  have h4:=(Nat.pow_lt_pow_iff_right (by decide)).1 h3
  omega
theorem abE (n:Nat):29*(aC 1000000000 n).length≤bl n+28:=by
 by_cases h:n=0
 ·subst h;rw[bQ];simp
 ·have h1:=Hy (b:=1000000000) (by decide) h
  have h2:=N9 n
  have h5:(2^29)^((aC 1000000000 n).length-1)≤1000000000^((aC 1000000000 n).length-1):=Nat.pow_le_pow_left (by decide) _
  rw[←Nat.pow_mul] at h5
  have h3:2^(29*((aC 1000000000 n).length-1))<2^bl n:=by omega
  have h4:=(Nat.pow_lt_pow_iff_right (by decide)).1 h3
  omega
def fK (q:Rat):Nat:=max (bl q.num.natAbs) (bl q.den)
theorem Ut {q:Rat}:bl q.num.natAbs≤fK q:=Nat.le_max_left _ _
theorem Uk {q:Rat}:bl q.den≤fK q:=Nat.le_max_right _ _
theorem X2 {q:Rat} {k:Nat} (h1:bl q.num.natAbs≤k) (h2:bl q.den≤k):fK q≤k:=Nat.max_le.2 ⟨h1,h2⟩
theorem N5 {n:Int} {d k:Nat} (h1:bl n.natAbs≤k) (h2:bl d≤k) (hk:1≤k):fK (mkRat n d)≤k:=by
 refine X2 ?_ ?_
 ·rw[Rat.num_mkRat]
  split
  ·rw[Int.natAbs_zero,Si];omega
  ·exact Nat.le_trans (BW (Int.natAbs_ediv_le_natAbs _ _)) h1
 ·rw[Rat.den_mkRat]
  split
  ·rw[MV];exact hk
  ·exact Nat.le_trans (BW (Nat.div_le_self _ _)) h2
theorem Dl:fK 0=1:=by simp[fK,Si,MV]
theorem Lp:fK 1=1:=by simp[fK,MV]
def F7 (neg:Bool) (t:Nat):Int:=if neg then -(t:Int) else t
theorem BX (neg:Bool) (t:Nat):(F7 neg t).natAbs=t:=by cases neg<;>simp[F7]
theorem Wb (neg:Bool):F7 neg 0=0:=by cases neg<;>rfl
theorem Zt {neg:Bool} {t g:Nat}:(F7 neg t) / (g:Int)=F7 neg (t / g)∨¬g ∣ t:=by
 by_cases h:g ∣ t
 ·left
  obtain⟨k,rfl⟩:=h
  by_cases hg:g=0
  ·subst hg;simp[Wb]
  ·rw[Nat.mul_div_cancel_left _ (by omega)]
   cases neg
   ·simp only[F7]
    simp only[Bool.false_eq_true,if_false]
    rw[Int.natCast_mul,Int.mul_ediv_cancel_left _ (by omega)]
   ·simp only[F7,if_true]
    rw[Int.natCast_mul,←Int.mul_neg,Int.mul_ediv_cancel_left _ (by omega)]
 ·exact .inr h
theorem afL {neg:Bool} {t b:Nat} (hb:b≠0):(mkRat (F7 neg t) b).num=F7 neg (t / Nat.gcd t b):=by
 rw[Rat.num_mkRat,if_neg hb,BX,Nat.gcd_comm]
 rcases Zt (neg:=neg) (t:=t) (g:=Nat.gcd t b) with h | h
 ·exact h
 ·exact absurd (Nat.gcd_dvd_left _ _) h
theorem afI {neg:Bool} {t b:Nat} (hb:b≠0):(mkRat (F7 neg t) b).den=b / Nat.gcd t b:=by
 rw[Rat.den_mkRat,if_neg hb,BX,Nat.gcd_comm]
end Go.PM
namespace Go.PM
def CF (q:Rat):Int:=if q.num=0 then 0 else if q.num<0 then -1 else 1
theorem RJ {m n:Nat}:kZ m n<0↔m<n:=by
 unfold kZ
 split
 ·omega
 ·split<;>omega
theorem K7 {m n:Nat}:kZ m n=0↔m=n:=by
 unfold kZ
 split
 ·omega
 ·split<;>omega
theorem Y1 {q:Rat} (h:q.num<0):CF q = -1:=by unfold CF;rw[if_neg (by omega),if_pos h]
theorem ZY {q:Rat} (h:q.num=0):CF q=0:=by unfold CF;rw[if_pos h]
theorem Zj {q:Rat} (h:0<q.num):CF q=1:=by unfold CF;rw[if_neg (by omega),if_neg (by omega)]
end Go.PM
namespace Go.PM
theorem K9 {ds:List Nat} {H:aA}:cM 1 (iY ds) H=some (ds.map tV):=by
 have:((ds.map tV).all fun x=>(aB x).length == 1&&(aB x).all bA)=true:=by
  rw[List.all_eq_true]
  intro x hx
  obtain⟨d,_,rfl⟩:=List.mem_map.1 hx
  rfl
 simp only[cM,iY,bK,this,if_true]
theorem BY (n:Nat) {H:aA}:cM 1 (cJ n) H=some ((aC 1000000000 n).map tV):=K9
theorem FR {a n:Nat} (hn:(aC 1000000000 a).length=n+1):∃d,(aC 1000000000 a)[n]? = some d∧d≠0∧d<1000000000:=by
 obtain⟨d,hd⟩:∃d,(aC 1000000000 a)[n]? = some d:=⟨_,List.getElem?_eq_getElem (by omega)⟩
 refine⟨d,hd,fun h0 => ?_,gF (by decide) a d (List.mem_of_getElem? hd)⟩
 have:=KD (b:=1000000000) (by decide) a
 rw[List.getLast?_eq_getElem?,hn,Nat.add_sub_cancel,hd,h0] at this
 exact this rfl
theorem UB {a d:Nat} (h:aC 1000000000 a=[d]):a=d∧0<d∧d<1000000000:=by
 have h1:=cL (b:=1000000000) (by decide) a
 rw[h,val_one] at h1
 obtain⟨e,h2,h3,h4⟩:=FR (a:=a) (n:=0) (by rw[h];rfl)
 rw[h] at h2
 cases h2
 exact⟨h1.symm,by omega,h4⟩
theorem acH {a:Nat} (h:(aC 1000000000 a).length≤2):a<1000000000000000000:=by
 have h1:=iE (b:=1000000000) (by decide) a
 have h2:1000000000^(aC 1000000000 a).length≤1000000000^2:=Nat.pow_le_pow_right (by decide) h
 omega
theorem Vo {H:aA} {u v:VV} (hu:aN u=true) (hv:aN v=true):fz depth H (.dQ [u,v])=some (.dQ [u,v]):=aI (by simp only[aN,aP,hu,hv,Bool.and_self])
theorem ahX {X N:Nat} (h:(aC 1000000000 X).length≤N):Ge 0 1 (.ref 0 0 0 N N) (cJ X) [.row 0 ((List.replicate N 0).map tV) 1 true]=some (VI ((aC 1000000000 X).length:Int),[.row 0 ((aC 1000000000 X++List.replicate (N-(aC 1000000000 X).length) 0).map tV) 1 true]):=by
 have e:((aC 1000000000 X).map tV).take N=(aC 1000000000 X).map tV:=List.take_of_length_le (by simpa using h)
 simp only[Ge,cJ,K9,aT,e,List.length_map,List.length_replicate,Nat.zero_add]
 rw[if_pos ⟨trivial,Nat.le_refl _,h⟩]
 simp only[cN,List.set_cons_zero,List.take_zero,List.nil_append,Nat.zero_add,List.length_map,List.map_append,List.map_replicate,List.drop_replicate]
theorem FX (a b:Nat) (hb:b≠0) (ha:(aC 1000000000 a).length<17592186044416) (vZ:(aC 1000000000 b).length<17592186044416):TC 214 [cJ a,cJ b] (.dQ [cJ (a / b),cJ (a % b)]):=by
 refine TC.walk ⟨true,false⟩ Fz rfl (Nat.le_of_ble_eq_true rfl) (by simp[aP,cS]) (by simp[fY,oJ,pY]) ?_
 have s1:=AD a (by omega)
 have s2:=AD b (by omega)
 have fin:∀ {H:aA},fz depth H (.dQ [cJ (a / b),cJ (a % b)])=some (.dQ [cJ (a / b),cJ (a % b)]):=Vo (cS _) (cS _)
 by_cases Pp:(aC 1000000000 a).length≤2∧(aC 1000000000 b).length≤2
 ·rw[if_pos Pp.1] at s1
  rw[if_pos Pp.2] at s2
  have la:=acH Pp.1
  have q1:=HC a b (by omega) (by omega)
  have q2:=IC a b (by omega)
  have hdl:a / b≤a:=Nat.div_le_self _ _
  have hml:a % b≤a:=Nat.mod_le _ _
  have n1:TC 161 [VI ((a / b:Nat):Int)] (cJ (a / b)):=nT ((a / b:Nat):Int) (Int.ofNat_le.2 (show a / b≤9223372036854775807 from Nat.le_trans hdl (by omega)))
  have n2:TC 161 [VI ((a % b:Nat):Int)] (cJ (a % b)):=nT ((a % b:Nat):Int) (Int.ofNat_le.2 (show a % b≤9223372036854775807 from Nat.le_trans hml (by omega)))
  simp only[eR,dF,s1,s2,q1,q2,n1,n2,VX,Nat.reduceEqDiff,Nat.reduceAdd]
  exact fin
 have c1:=CB a b (by omega) (by omega)
 obtain⟨x1,t1,J5⟩:∃(x:Int) (t:Bool),(if (aC 1000000000 a).length≤2 then VV.dQ [VI a,VB true] else .dQ [VI 0,VB false]) = .dQ [VI x,VB t]:=by split<;>exact⟨_,_,rfl⟩
 have hs2:∃(x:Int) (t:Bool),(if (aC 1000000000 b).length≤2 then VV.dQ [VI b,VB true] else .dQ [VI 0,VB false]) = .dQ [VI x,VB t]∧(t1=true→t=false):=by
  by_cases h:(aC 1000000000 b).length≤2
  ·rw[if_pos h]
   refine⟨_,_,rfl,fun ht => ?_⟩
   rw[if_neg (fun h'=>Pp ⟨h',h⟩)] at J5
   injection J5 with J5
   injection J5 with _ J5
   injection J5 with J5 _
   injection J5 with J5
   injection J5 with J5
   subst ht
   cases J5
  ·rw[if_neg h]
   exact⟨_,_,rfl,fun _=>rfl⟩
 obtain⟨x2,t2,hs2,ht⟩:=hs2
 rw[J5] at s1
 rw[hs2] at s2
 by_cases HN:kZ a b<0
 ·have aV:a<b:=RJ.1 HN
  have e0:∀lr,jM lr [.int .i64 0] 0 [] []=some (.ref 0 0 0 0 0,[.row 0 [] 1 true]):=fun lr=>iN (H:=[]) rfl
  have e1:∀lr,jM lr [.int .i64 0] 0 [] [.row 0 [] 1 true]=some (.ref 1 0 0 0 0,[.row 0 [] 1 true,.row 0 [] 1 true]):=fun lr=>iN (H:=[.row 0 [] 1 true]) rfl
  rw[Nat.div_eq_of_lt aV,Nat.mod_eq_of_lt aV]
  have hz:fz (6+1) [.row 0 [] 1 true,.row 0 [] 1 true] (.ref 0 0 0 0 0)=some (cJ 0):=by rw[FP];rfl
  by_cases ha0:a=0
  ·subst ha0
   have ap:eH 0 1 8 (.ref 1 0 0 0 0) ((aC 1000000000 0).map tV) [.row 0 [] 1 true,.row 0 [] 1 true]=some (.ref 1 0 0 0 0,[.row 0 [] 1 true,.row 0 [] 1 true]):=by
    rw[bQ];rfl
   have Fv:fz (6+1) [.row 0 [] 1 true,.row 0 [] 1 true] (.ref 1 0 0 0 0)=some (cJ 0):=by rw[FP];rfl
   cases t1 with
   |
    false =>
    simp only[eR,dF,s1,s2,c1,HN,e0,e1,ap,BY,VX,Nat.reduceEqDiff,Nat.reduceAdd]
    exact bJ (d:=6) hz Fv
   |
    true =>
    rw[ht rfl] at s2
    simp only[eR,dF,s1,s2,c1,HN,e0,e1,ap,BY,VX,Nat.reduceEqDiff,Nat.reduceAdd]
    exact bJ (d:=6) hz Fv
  ·have hln:(aC 1000000000 a).length≠0:=fun h=>ha0 ((kD (b:=1000000000) (by decide)).1 (List.length_eq_zero_iff.1 h))
   have ap:eH 0 1 8 (.ref 1 0 0 0 0) ((aC 1000000000 a).map tV) [.row 0 [] 1 true,.row 0 [] 1 true]=some (.ref 1 1 0 (aC 1000000000 a).length (aC 1000000000 a).length,[.row 0 [] 1 true,.row 1 ((aC 1000000000 a).map tV) 1 true]):=by
    have hr:aF [.row 0 [] 1 true,.row 0 [] 1 true] 1 0=some ([],1,true):=rfl
    simp only[eH,hr,List.length_map,Nat.zero_add,List.length_nil,Nat.add_zero]
    rw[if_pos ⟨by decide,by decide⟩,if_pos ⟨trivial,Nat.zero_le _,Nat.le_refl _⟩,if_neg (by omega),if_pos (by omega)]
    simp
   have DF:fz (6+1) [.row 0 [] 1 true,.row 1 ((aC 1000000000 a).map tV) 1 true] (.ref 0 0 0 0 0)=some (cJ 0):=by rw[FP];rfl
   have Fv:fz (6+1) [.row 0 [] 1 true,.row 1 ((aC 1000000000 a).map tV) 1 true] (.ref 1 1 0 (aC 1000000000 a).length (aC 1000000000 a).length)=some (cJ a):=by
    have:aN (.ref 1 1 0 (aC 1000000000 a).length (aC 1000000000 a).length)=false:=rfl
    have hr:aF [.row 0 [] 1 true,.row 1 ((aC 1000000000 a).map tV) 1 true] 1 1=some ((aC 1000000000 a).map tV,1,true):=rfl
    unfold fz
    simp only[this,hr,Bool.false_eq_true,if_false]
    rw[if_pos ⟨by simp,Nat.le_refl _⟩,List.drop_zero,List.take_of_length_le (by simp),mapM_pure (n:=5) (eX fun _=>rfl)]
    rfl
   cases t1 with
   |
    false =>
    simp only[eR,dF,s1,s2,c1,HN,e0,e1,ap,BY,VX,Nat.reduceEqDiff,Nat.reduceAdd]
    exact bJ (d:=6) DF Fv
   |
    true =>
    rw[ht rfl] at s2
    simp only[eR,dF,s1,s2,c1,HN,e0,e1,ap,BY,VX,Nat.reduceEqDiff,Nat.reduceAdd]
    exact bJ (d:=6) DF Fv
 have CC:b≤a:=by have := @RJ a b;omega
 have hbn:(aC 1000000000 b).length≠0:=fun h=>hb ((kD (b:=1000000000) (by decide)).1 (List.length_eq_zero_iff.1 h))
 by_cases h1:(((aC 1000000000 b).length:Nat):Int)=1
 ·obtain⟨d,hd⟩:∃d,aC 1000000000 b=[d]:=List.length_eq_one_iff.1 (by omega)
  obtain⟨YD,Bx,hdT⟩:=UB hd
  have e1:bI 1 (cJ b) (VI 0) []=some (.cY (tV d) 0):=by
   rw[cJ,hd]
   exact aK (f:=tV) (t := .op) (H:=[]) (size:=1) (k := .i64) (xs:=[d]) (i:=0) rfl rfl
  have c2:=uJ a d Bx hdT (by omega)
  rw[←YD] at c2
  have QV:a % b≤b:=Nat.le_of_lt (Nat.mod_lt _ (by omega))
  have n2:TC 161 [VI ((a % b:Nat):Int)] (cJ (a % b)):=nT ((a % b:Nat):Int) (Int.ofNat_le.2 (show a % b≤9223372036854775807 from Nat.le_trans QV (by omega)))
  have e2:tV d=tV b:=by rw[YD]
  rw[e2] at e1
  cases t1 with
  |
   false =>
   simp only[eR,dF,s1,s2,c1,HN,eQ,h1,e1,c2,n2,VX,Nat.reduceEqDiff,Nat.reduceAdd]
   exact fin
  |
   true =>
   rw[ht rfl] at s2
   simp only[eR,dF,s1,s2,c1,HN,eQ,h1,e1,c2,n2,VX,Nat.reduceEqDiff,Nat.reduceAdd]
   exact fin
 obtain⟨n,hn⟩:∃n,(aC 1000000000 b).length=n+2:=⟨(aC 1000000000 b).length-2,by omega⟩
 obtain⟨t,htd,ht0,htT⟩:=FR (a:=b) (n:=n+1) hn
 obtain⟨s,hs⟩:∃s,s=1000000000 / (t+1):=⟨_,rfl⟩
 have O3:1≤s:=by rw[hs];exact(Nat.le_div_iff_mul_le (by omega)).2 (by omega)
 have hsT:s<1000000000:=by rw[hs];exact Nat.div_lt_self (by decide) (by omega)
 have J0:(t+1)*s≤1000000000:=by rw[hs];exact Nat.mul_div_le _ _
 have hla:=fG (b:=1000000000) (by decide) CC
 have w0:IntKind.i64.wrap (((n+2:Nat):Int)-1)=((n+1:Nat):Int):=wrapN _ (by omega) (by omega)
 have w1:IntKind.i64.wrap ((t:Int)+1)=((t+1:Nat):Int):=wrapN _ (by omega) (by omega)
 have q0:dB .quo (.int .i64 1000000000) (.int .i64 ((t+1:Nat):Int))=some (.int .i64 (s:Int)):=by rw[hs];exact HC 1000000000 (t+1) (by decide) (by omega)
 have et:∀H,bI 1 (cJ b) (VI ((n+1:Nat):Int)) H=some (.cY (tV t) 0):=fun H=>aK (f:=tV) (t := .op) (size:=1) (k := .i64) htd rfl
 have UR:¬(((n+2:Nat):Int)=1):=by omega
 obtain⟨N,hN⟩:∃N,N=(aC 1000000000 a).length+1:=⟨_,rfl⟩
 have wN:IntKind.i64.wrap (((aC 1000000000 a).length:Int)+1)=(N:Int):=wrapN _ (by omega) (by omega)
 have mkN:=SS N (by omega)
 have c3:=vS a s O3 hsT ha
 have c4:=vS b s O3 hsT vZ
 have acA:b*s<1000000000^(n+2):=by
  have h2:=(wE (n:=n+1) (gF (b:=1000000000) (by decide) b) hn htd).2
  rw[cL (by decide)] at h2
  have h3:b*s<(t+1)*1000000000^(n+1)*s:=Nat.mul_lt_mul_of_pos_right h2 O3
  have h4:(t+1)*1000000000^(n+1)*s=(t+1)*s*1000000000^(n+1):=by grind
  have h9:(t+1)*s*1000000000^(n+1)≤1000000000*1000000000^(n+1):=Nat.mul_le_mul_right _ J0
  have h10:1000000000*1000000000^(n+1)=1000000000^(n+2):=by rw[Nat.pow_succ 1000000000 (n+1)];exact Nat.mul_comm _ _
  rw[h4] at h3
  rw[h10] at h9
  exact Nat.lt_of_lt_of_le h3 h9
 have hVl:(aC 1000000000 (b*s)).length=n+2:=by
  have h2:=mM (b:=1000000000) (by decide) acA
  have h3:b≤b*s:=Nat.le_mul_of_pos_right b O3
  have h4:=fG (b:=1000000000) (by decide) h3
  omega
 have hAl:(aC 1000000000 (a*s)).length≤N:=by
  have h2:=L7 (b:=1000000000) (by decide) a s
  have h3:(aC 1000000000 s).length≤1:=mM (by decide) (by rw[Nat.pow_one];exact hsT)
  omega
 have cp:=ahX hAl
 obtain⟨m,hm⟩:∃m,m+(n+2)=N:=⟨N-(n+2),by omega⟩
 have wm:IntKind.i64.wrap ((N:Int)-((n+2:Nat):Int))=(m:Int):=wrapN _ (by omega) (by omega)
 have wm1:IntKind.i64.wrap ((m:Int)-1)=(m:Int)-1:=wrap64 (by omega) (by omega)
 obtain⟨Cy,Zv⟩:∃Cy,Cy=aC 1000000000 (a*s)++List.replicate (N-(aC 1000000000 (a*s)).length) 0:=⟨_,rfl⟩
 rw[←Zv] at cp
 have mkm:yG [.int .i64 0] 8 (VI (m:Int)) (VI (m:Int)) [.row 0 (Cy.map tV) 1 true]=some (.ref 1 0 0 m m,[.row 0 (Cy.map tV) 1 true]++[.row 0 ((List.replicate m 0).map tV) 1 true]):=qY (f:=tV) (x:=0) (H:=[.row 0 (Cy.map tV) 1 true]) rfl (by omega) (by omega)
 have lN:∀K,aF K 0 0=some (Cy.map tV,1,true)→nP (.ref 0 0 0 N N) K=some (VI (N:Int)):=fun K h=>eZ h
 have l1:=lN [.row 0 (Cy.map tV) 1 true] rfl
 have l2:=lN (H2 Cy (List.replicate m 0)) rfl
 have abX:Cy.length=N:=by rw[Zv,List.length_append,List.length_replicate];omega
 have ahV:∀d∈Cy,d<1000000000:=fun d hd=>by
  rw[Zv] at hd
  rcases List.mem_append.1 hd with h | h
  ·exact gF (by decide) _ d h
  ·rw[List.eq_of_mem_replicate h];decide
 have afO:val 1000000000 Cy=a*s:=by rw[Zv,uZ,vE,Nat.mul_zero,Nat.add_zero,cL (by decide)]
 generalize M7:aC 1000000000 (b*s)=vs at *
 have D5:∀d∈vs,d<1000000000:=by rw[←M7];exact gF (by decide) _
 have QZ:val 1000000000 vs=b*s:=by rw[←M7];exact cL (by decide) _
 have lV:∀H,nP (cJ (b*s)) H=some (VI ((n+2:Nat):Int)):=fun H=>by rw[eQ,M7,hVl]
 obtain⟨v1,f1⟩:∃v1,vs[n+1]? = some v1:=⟨_,List.getElem?_eq_getElem (by omega)⟩
 obtain⟨v0,f0⟩:∃v0,vs[n]? = some v0:=⟨_,List.getElem?_eq_getElem (by omega)⟩
 have hv1:1≤v1:=by
  obtain⟨d,hd,Bx,_⟩:=FR (a:=b*s) (n:=n+1) (by rw[M7];exact hVl)
  rw[M7,f1] at hd
  cases hd
  omega
 have AK:val 1000000000 (Cy.drop m)<val 1000000000 vs:=by
  have h2:=nB (b:=1000000000) Cy m
  rw[List.length_take,abX,Nat.min_eq_left (by omega),afO] at h2
  have h3:a<b*1000000000^m:=by
   have y1:=iE (b:=1000000000) (by decide) a
   have y2:=Hy (b:=1000000000) (by decide) hb
   rw[hn] at y2
   have y3:1000000000^(n+2-1)*1000000000^m≤b*1000000000^m:=Nat.mul_le_mul_right _ y2
   rw[←Nat.pow_add,show n+2-1+m=(aC 1000000000 a).length by omega] at y3
   exact Nat.lt_of_lt_of_le y1 y3
  have h4:a*s<b*1000000000^m*s:=Nat.mul_lt_mul_of_pos_right h3 O3
  have h5:b*1000000000^m*s=1000000000^m*(b*s):=by grind
  rw[QZ]
  have h6:1000000000^m*val 1000000000 (Cy.drop m)<1000000000^m*(b*s):=by
   rw[←h5]
   exact Nat.lt_of_le_of_lt (by rw[h2];exact Nat.le_add_left _ _) h4
  exact Nat.lt_of_mul_lt_mul_left h6
 have body:VW ⟨true,false⟩ 0 (.loop gM)=VW ⟨true,false⟩ 0 (.loop gM):=rfl
 have tail:∀(us os:List Nat),us.length=N→(∀d∈us,d<1000000000)→os.length=m→(∀d∈os,d<1000000000)→val 1000000000 us+val 1000000000 vs*val 1000000000 os=a*s→val 1000000000 us<val 1000000000 vs →
   (∀lo K,cZ 211 [.ref 0 0 0 N N] lo (H2 us os) K=K (cJ (a % b*s)) (cR (H2 us os) [0])) ∧
   (∀lo K,cZ 211 [.ref 1 0 0 m m] lo (cR (H2 us os) [0]) K=K (cJ (a / b)) (cR (cR (H2 us os) [0]) [1]))∧TC 237 [cJ (a % b*s),VI (s:Int)] (.dQ [cJ (a % b),VI ((a % b*s % s:Nat):Int)]):=by
  intro us os M9 GQ iW mJ hv aV
  rw[QZ] at hv aV
  have hq:val 1000000000 os=a / b:=by
   rw[←Nat.mul_div_mul_right a b O3,←hv,Nat.add_mul_div_left _ _ (Nat.lt_of_le_of_lt (Nat.zero_le _) aV),Nat.div_eq_of_lt aV,Nat.zero_add]
  have hr:val 1000000000 us=a % b*s:=by
   rw[←Nat.mul_mod_mul_right,←hv,Nat.add_mul_mod_self_left,Nat.mod_eq_of_lt aV]
  refine⟨fun lo K => ?_,fun lo K => ?_,?_⟩
  ·have h:=pV us GQ (by omega)
   rw[hr] at h
   exact TC.ZZ (f:=tV) h Qs M9.symm (Nat.le_refl _) DL (fun _=>rfl) rfl rfl lo K
  ·have h:=pV os mJ (by omega)
   rw[hq] at h
   have lX:aF (cR (H2 us os) [0]) 1 0=some (os.map tV,1,true):=rfl
   exact TC.ZZ (f:=tV) h lX iW.symm (Nat.le_refl _) DL (fun _=>rfl) rfl rfl lo K
  ·have h:=uJ (a % b*s) s O3 hsT (by
    have h2:=fG (b:=1000000000) (by decide) (Nat.le_trans (Nat.le_of_lt aV) (show b*s≤b*s from Nat.le_refl _))
    rw[hr,M7] at h2
    omega)
   rwa [Nat.mul_div_cancel _ O3] at h
 clear body
 have nV:cJ (b*s)=iY vs:=by rw[cJ,M7]
 cases t1 with
 |
  false =>
  simp only[eR,dF,s1,s2,c1,HN,eQ,hn,UR,w0,w1,q0,et,wN,mkN,c3,c4,cp,lV,l1,l2,wm,wm1,mkm,List.cons_append,List.nil_append,VX,Nat.reduceEqDiff,Nat.reduceAdd]
  refine Lc (Cy:=Cy) (U8:=List.replicate m 0) (vs:=vs) (N:=N) (m:=m) (n:=n) (A:=a*s) (s:=s) abX hm (by omega) ahV hVl D5 f1 f0 hv1 afO AK (by simp) (Bq (by decide) _) (by rfl) (by rfl) (by simp only[VX,Nat.reduceEqDiff,Nat.reduceAdd];exact nV) (by rfl) (by rfl) (by rfl) ?_
  intro tM us os r12 Y8 r16 M9 GQ iW mJ hv aV
  obtain⟨x1,x2,x3⟩:=tail us os M9 GQ iW mJ hv aV
  simp only[r12,Y8,r16,x1,x2,x3,VX,Nat.reduceEqDiff,Nat.reduceAdd]
  exact fin
 |
  true =>
  rw[ht rfl] at s2
  simp only[eR,dF,s1,s2,c1,HN,eQ,hn,UR,w0,w1,q0,et,wN,mkN,c3,c4,cp,lV,l1,l2,wm,wm1,mkm,List.cons_append,List.nil_append,VX,Nat.reduceEqDiff,Nat.reduceAdd]
  refine Lc (Cy:=Cy) (U8:=List.replicate m 0) (vs:=vs) (N:=N) (m:=m) (n:=n) (A:=a*s) (s:=s) abX hm (by omega) ahV hVl D5 f1 f0 hv1 afO AK (by simp) (Bq (by decide) _) (by rfl) (by rfl) (by simp only[VX,Nat.reduceEqDiff,Nat.reduceAdd];exact nV) (by rfl) (by rfl) (by rfl) ?_
  intro tM us os r12 Y8 r16 M9 GQ iW mJ hv aV
  obtain⟨x1,x2,x3⟩:=tail us os M9 GQ iW mJ hv aV
  simp only[r12,Y8,r16,x1,x2,x3,VX,Nat.reduceEqDiff,Nat.reduceAdd]
  exact fin
end Go.PM